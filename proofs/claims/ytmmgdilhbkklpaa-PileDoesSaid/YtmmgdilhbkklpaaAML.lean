/- The abstract machine's operations are the program's: comparisons, stores, appends. -/
import Derived.Test.YtmmgdilhbkklpaaAMK
import Derived.Laws.StructEq
namespace Go.AM
open Go
set_option linter.unusedVariables false
set_option linter.unusedSimpArgs false
section
variable {W0 : World} {V0 : View} {Own : Fra} {P : Program} {o : Oper} {a : Act} {w : World} {V : View} {G : Ctx} {μ : Nat → Option Ob} {ρ : Arg → AV} {v : AV} {u : List (Nat × Ob)} {acc : Acc}
/-! Comparisons. -/
theorem eqC_split : ∀ {k1 k2 : List LK} {x y : List AV} {r : Bool}, eqC (k1 ++ k2) x y = some r →
    ∃ r1 r2, eqC k1 (x.take k1.length) (y.take k1.length) = some r1 ∧ eqC k2 (x.drop k1.length) (y.drop k1.length) = some r2 ∧ r = (r1 && r2)
  | [], k2, x, y, r, h => ⟨true, r, by simp [eqC], by simpa using h, by simp⟩
  | k :: k1, k2, [], y, r, h => by cases k <;> simp [eqC] at h
  | k :: k1, k2, c :: x, [], r, h => by cases k <;> cases c <;> simp [eqC] at h
  | k :: k1, k2, c :: x, c' :: y, r, h => by
    rw [List.cons_append] at h
    cases k <;> cases c <;> cases c' <;> simp only [eqC] at h <;> first
      | (cases h; done)
      | (obtain ⟨r0, h0, h1⟩ := Option.map_eq_some_iff.1 h
         obtain ⟨r1, r2, e1, e2, e3⟩ := eqC_split h0
         exact ⟨_, r2, by simp only [List.length_cons, List.take_succ_cons, eqC, e1, Option.map_some]; rfl, by simpa using e2, by rw [← h1, e3, Bool.and_assoc]⟩)
      | (split at h
         · rename_i hk
           obtain ⟨r0, h0, h1⟩ := Option.map_eq_some_iff.1 h
           obtain ⟨r1, r2, e1, e2, e3⟩ := eqC_split h0
           exact ⟨_, r2, by simp only [List.length_cons, List.take_succ_cons, eqC, if_pos hk, e1, Option.map_some]; rfl, by simpa using e2, by rw [← h1, e3, Bool.and_assoc]⟩
         · cases h)
theorem eqC_len : ∀ {ks : List LK} {x y : List AV} {r : Bool}, eqC ks x y = some r → x.length = ks.length ∧ y.length = ks.length
  | [], [], [], r, h => ⟨rfl, rfl⟩
  | [], _ :: _, y, r, h => by simp [eqC] at h
  | [], [], _ :: _, r, h => by simp [eqC] at h
  | k :: ks, [], y, r, h => by cases k <;> simp [eqC] at h
  | k :: ks, c :: x, [], r, h => by cases k <;> cases c <;> simp [eqC] at h
  | k :: ks, c :: x, c' :: y, r, h => by
    have key : ∃ r', eqC ks x y = some r' := by
      cases k <;> cases c <;> cases c' <;> simp only [eqC] at h <;> first
        | (cases h; done)
        | exact ⟨_, (Option.map_eq_some_iff.1 h).choose_spec.1⟩
        | (split at h
           · exact ⟨_, (Option.map_eq_some_iff.1 h).choose_spec.1⟩
           · cases h)
    obtain ⟨r', h'⟩ := key
    have := eqC_len h'
    simp [this.1, this.2]
/-- A field's part of a struct. -/
theorem run_part {t : TypeId} {n off : Nat} {us : List Value} (hn : P.cellsOf t = n) (hi : (P.info? t).isSome = true) (hu : (P.underlying t).isSome = true) (hl : off + n ≤ us.length) (h1 : isAggT P t = false → n = 1) :
    (part t us.toArray off).run P w = .ok (if isAggT P t then .agg ((us.drop off).take n).toArray else ((us.drop off).take n).getD 0 undef) w := by
  unfold part
  simp only [Sem.run_bind, run_isAgg hu, Result.andThen_ok]
  cases hag : isAggT P t with
  | true =>
    simp only [if_true, Sem.run_bind, run_size hi, hn, Result.andThen_ok, Sem.run_pure]
    congr 2
    rw [← Array.toList_inj]
    simp only [Array.toList_extract, List.extract_eq_take_drop]
    congr 1
    omega
  | false =>
    have h1 := h1 hag
    have hlt : off < us.length := by omega
    subst h1
    simp [hlt, List.getD]
theorem leafK_info {d : Nat} {t : TypeId} {ks : List LK} (h : leafK P d t = some ks) : (P.info? t).isSome = true ∧ (P.underlying t).isSome = true ∧ (isAggT P t = false → ks.length = 1) := by
  cases d with
  | zero => simp [leafK] at h
  | succ d =>
    have hu : (P.underlying t).isSome = true := by
      cases hx : P.underlying t with
      | none => simp [leafK, hx] at h
      | some _ => rfl
    refine ⟨?_, hu, ?_⟩
    · cases hi : P.info? t with
      | none => simp [Program.underlying, hi] at hu
      | some _ => rfl
    · intro hag
      simp only [leafK] at h
      split at h
      · cases h; rfl
      · cases h; rfl
      · cases h; rfl
      · rename_i fs hx
        simp [isAggT, hx] at hag
      · cases h
def mkV (P : Program) (t : TypeId) (us : List Value) : Value := if isAggT P t then .agg us.toArray else us.getD 0 undef
theorem run_eqFields {d e : Nat} (IH : ∀ {t : TypeId} {ks : List LK} {x y : List AV} {us vs : List Value} {r : Bool}, leafK P d t = some ks →
      eqC ks x y = some r → RepPL V x us → RepPL V y vs → (Op.equalIn e t (mkV P t us) (mkV P t vs)).run P w = .ok r w) :
    ∀ (fs : List Field) {acc : Nat} {ks : List LK} {x y : List AV} {us vs : List Value} {r : Bool}, leafGo P (leafK P d) acc fs = some ks →
      eqC ks (x.drop acc) (y.drop acc) = some r → RepPL V x us → RepPL V y vs → (Op.eqFields e us.toArray vs.toArray fs).run P w = .ok r w := by
  intro fs
  induction fs with
  | nil =>
    intro acc ks x y us vs r h hr hx hy
    simp only [leafGo] at h
    cases h
    have hr' : r = true := by
      revert hr
      generalize x.drop acc = p
      generalize y.drop acc = q
      intro hr
      cases p <;> cases q <;> simp [eqC] at hr
      exact hr
    subst hr'
    rfl
  | cons f fs ih =>
    intro acc ks x y us vs r h hr hx hy
    simp only [leafGo] at h
    split at h
    · rename_i hc
      simp only [Bool.and_eq_true, bne_iff_ne, ne_eq] at hc
      obtain ⟨hname, hoff⟩ := hc
      have hoff := Nat.eq_of_beq_eq_true hoff
      split at h
      · rename_i k1 hk1
        split at h
        · rename_i hlen
          simp only [Bool.and_eq_true, Bool.not_eq_true'] at hlen
          have hnz : k1.length ≠ 0 := fun e0 => by rw [e0] at hlen; exact absurd hlen.2 (by decide)
          have hlen := Nat.eq_of_beq_eq_true hlen.1
          obtain ⟨k2, hk2, rfl⟩ := Option.map_eq_some_iff.1 h
          obtain ⟨r1, r2, e1, e2, rfl⟩ := eqC_split hr
          obtain ⟨i1, i2, i3⟩ := leafK_info hk1
          obtain ⟨m1, m2⟩ := eqC_len e1
          have n1 := hx.length
          have n2 := hy.length
          simp only [List.length_take, List.length_drop] at m1 m2
          have hl1 : acc + P.cellsOf f.type ≤ us.length := by omega
          have hl2 : acc + P.cellsOf f.type ≤ vs.length := by omega
          have p1 := run_part (w := w) (off := acc) (us := us) rfl i1 i2 hl1 (fun hag => by rw [← hlen]; exact i3 hag)
          have p2 := run_part (w := w) (off := acc) (us := vs) rfl i1 i2 hl2 (fun hag => by rw [← hlen]; exact i3 hag)
          have h5 := IH (t := f.type) (us := (us.drop acc).take (P.cellsOf f.type)) (vs := (vs.drop acc).take (P.cellsOf f.type)) hk1 e1 (by rw [hlen]; exact (hx.drop acc).take _) (by rw [hlen]; exact (hy.drop acc).take _)
          simp only [Op.eqFields, hname, ne_eq, not_false_iff, if_true, hoff, Sem.run_bind, p1, p2, Result.andThen_ok]
          unfold mkV at h5
          rw [h5]
          simp only [Result.andThen_ok]
          have h6 := ih (acc := acc + P.cellsOf f.type) hk2 (by rw [List.drop_drop, hlen] at e2; rw [List.drop_drop] at e2; exact e2) hx hy
          cases r1 with
          | true => simp only [Bool.not_true, Bool.false_eq_true, if_false, h6, Bool.true_and]
          | false => simp
        · cases h
      · cases h
    · cases h
set_option maxHeartbeats 1000000 in
theorem run_eqIn : ∀ (d : Nat) {e : Nat} {t : TypeId} {ks : List LK} {x y : List AV} {us vs : List Value} {r : Bool}, leafK P d t = some ks → d ≤ e →
      eqC ks x y = some r → RepPL V x us → RepPL V y vs → (Op.equalIn e t (mkV P t us) (mkV P t vs)).run P w = .ok r w := by
  intro d
  induction d with
  | zero =>
    intro e t ks x y us vs r h
    simp [leafK] at h
  | succ d ih =>
    intro e t ks x y us vs r h hle hr hx hy
    obtain ⟨e, rfl⟩ : ∃ e', e = e' + 1 := ⟨e - 1, by omega⟩
    obtain ⟨l1, l2⟩ := eqC_len hr
    simp only [leafK] at h
    split at h
    · rename_i hu
      cases h
      cases x with
      | nil => simp [eqC] at hr
      | cons c x =>
      cases y with
      | nil => cases c <;> simp [eqC] at hr
      | cons c' y =>
      cases c <;> cases c' <;> simp only [eqC] at hr <;> try (cases hr; done)
      cases x with
      | cons _ _ => simp at l1
      | nil =>
      cases y with
      | cons _ _ => simp at l2
      | nil =>
      simp only [eqC, Option.map_some, Option.some.injEq, Bool.and_true] at hr
      simp only [RepPL, RepP] at hx hy
      obtain ⟨v1, r1, rfl, rfl, rfl⟩ := hx
      obtain ⟨v2, r2, rfl, rfl, rfl⟩ := hy
      simp only [mkV, isAggT, hu, Bool.false_eq_true, if_false, List.getD_cons_zero]
      rw [run_equalIn_bool' w e t _ _ hu, hr]
    · rename_i kk hu
      cases h
      cases x with
      | nil => simp [eqC] at hr
      | cons c x =>
      cases y with
      | nil => cases c <;> simp [eqC] at hr
      | cons c' y =>
      cases c <;> cases c' <;> simp only [eqC] at hr <;> try (cases hr; done)
      cases x with
      | cons _ _ => simp at l1
      | nil =>
      cases y with
      | cons _ _ => simp at l2
      | nil =>
      split at hr
      · rename_i hk
        subst hk
        simp only [eqC, Option.map_some, Option.some.injEq, Bool.and_true] at hr
        simp only [RepPL, RepP] at hx hy
        obtain ⟨v1, r1, rfl, rfl, rfl⟩ := hx
        obtain ⟨v2, r2, rfl, rfl, rfl⟩ := hy
        simp only [mkV, isAggT, hu, Bool.false_eq_true, if_false, List.getD_cons_zero]
        rw [run_equalIn_int w e t _ kk _ _ hu, hr]
      · cases hr
    · rename_i hu
      cases h
      cases x with
      | nil => simp [eqC] at hr
      | cons c x =>
      cases y with
      | nil => cases c <;> simp [eqC] at hr
      | cons c' y =>
      cases c <;> cases c' <;> simp only [eqC] at hr <;> try (cases hr; done)
      cases x with
      | cons _ _ => simp at l1
      | nil =>
      cases y with
      | cons _ _ => simp at l2
      | nil =>
      simp only [eqC, Option.map_some, Option.some.injEq, Bool.and_true] at hr
      simp only [RepPL, RepP] at hx hy
      obtain ⟨v1, r1, rfl, rfl, rfl⟩ := hx
      obtain ⟨v2, r2, rfl, rfl, rfl⟩ := hy
      simp only [mkV, isAggT, hu, Bool.false_eq_true, if_false, List.getD_cons_zero]
      rw [run_equalIn_string w e t _ _ hu, ← beq_bytes, hr]
    · rename_i fs hu
      split at h
      · cases h
      · rename_i hst
        have hag : isAggT P t = true := by simp [isAggT, hu]
        simp only [mkV, hag, if_true]
        have hf : P.fieldsOf t = fs := by simp [Program.fieldsOf, hu]
        rw [run_equalIn_struct w e t _ _ (by rw [hu, hf]) (by simpa using hst), hf]
        exact run_eqFields (d := d) (e := e) (fun {t ks x y us vs r} h hr hx hy => ih (e := e) h (by omega) hr hx hy) fs.toList h (by simpa using hr) hx hy
    · cases h
theorem run_neg {op : BinOp} {neg : Bool} {t : TypeId} {x y : Operand} {xv yv : Value} {r : Bool} (hop : op = bif neg then .neq else .eql) (hg : (eqGuard op t x y xv yv).run P w = .ok () w) (he : (Op.equal t xv yv).run P w = .ok r w)
    (h1 : ∀ k n, xv ≠ .int k n) (h2 : ∀ s, xv ≠ .string s) (h3 : ∀ k n, xv ≠ .float k n) (h4 : ∀ k a b, xv ≠ .complex k a b) :
    (do eqGuard op t x y xv yv; binOp op t xv yv : Sem Value).run P w = .ok (.bool (bif neg then !r else r)) w := by
  simp only [Sem.run_bind, hg, Result.andThen_ok]
  subst hop
  cases neg
  · simp only [cond_false]
    cases xv <;> first
      | exact absurd rfl (h1 _ _)
      | exact absurd rfl (h2 _)
      | exact absurd rfl (h3 _ _)
      | exact absurd rfl (h4 _ _ _)
      | simp [binOp, he]
  · simp only [cond_true]
    cases xv <;> first
      | exact absurd rfl (h1 _ _)
      | exact absurd rfl (h2 _)
      | exact absurd rfl (h3 _ _)
      | exact absurd rfl (h4 _ _ _)
      | simp [binOp, he]
theorem eqp1 {e t t' : Nat} {b : Addr} (hu : P.underlying t = some (.pointer t')) : (Op.equalIn (e + 1) t (.pointer (some b)) (.pointer none)).run P w = .ok false w := by simp [Op.equalIn, run_und hu]
theorem eqp2 {e t t' : Nat} {b : Addr} (hu : P.underlying t = some (.pointer t')) : (Op.equalIn (e + 1) t (.pointer none) (.pointer (some b))).run P w = .ok false w := by simp [Op.equalIn, run_und hu]
theorem eqp3 {e t t' : Nat} (hu : P.underlying t = some (.pointer t')) : (Op.equalIn (e + 1) t (.pointer none) (.pointer none)).run P w = .ok true w := by simp [Op.equalIn, run_und hu]
theorem eqf1 {e t : Nat} {a1 a2 a3 f g h} (hu : P.underlying t = some (.func a1 a2 a3)) : (Op.equalIn (e + 1) t (.func f g h) .nilFunc).run P w = .ok false w := by simp [Op.equalIn, run_und hu]
theorem eqf2 {e t : Nat} {a1 a2 a3 f g h} (hu : P.underlying t = some (.func a1 a2 a3)) : (Op.equalIn (e + 1) t .nilFunc (.func f g h)).run P w = .ok false w := by simp [Op.equalIn, run_und hu]
theorem eqf3 {e t : Nat} {a1 a2 a3} (hu : P.underlying t = some (.func a1 a2 a3)) : (Op.equalIn (e + 1) t .nilFunc .nilFunc).run P w = .ok true w := by simp [Op.equalIn, run_und hu]
theorem snd_eq {d : Nat} {neg : Bool} {ks : EqK} {x y : Arg} (hok : okOp' P o (.eq d neg ks x y) = true) (h : opR P (.eq d neg ks x y) ρ μ v u acc) (hA : ArgsOk V G ρ a (AOp.eq d neg ks x y).args) (hs : Sat W0 V0 Own V G w μ) :
    Done W0 V0 Own P o a w V G μ v u := by
  obtain ⟨⟨r, he, rfl⟩, rfl, rfl⟩ := h
  simp only [okOp'] at hok
  split at hok
  · rename_i op t px py yt ho
    simp only [Bool.and_eq_true, decide_eq_true_eq] at hok
    obtain ⟨⟨⟨hop, h1⟩, h2⟩, h3⟩ := hok
    have hx := hA x (by simp [AOp.args]) _ h1
    have hy := hA y (by simp [AOp.args]) _ h2
    refine done_pure hs (val := .bool (bif neg then !r else r)) ?_ rfl
    rw [execOp, ho]
    refine run_v ?_
    unfold evEq at he
    split at he
    · rename_i b1 b2 e1 e2
      cases he
      rw [e1] at hx
      rw [e2] at hy
      have hx := rep_bool hx
      have hy := rep_bool hy
      rw [hx, hy]
      simp only [okEq] at h3
      split at h3
      · rename_i hu
        refine run_neg hop ?_ ?_ (by simp) (by simp) (by simp) (by simp)
        · unfold eqGuard
          cases op <;> rfl
        · exact run_equalIn_bool' w _ t _ _ hu
      · cases h3
    · rename_i ks x1 y1 e1 e2
      rw [e1] at hx
      rw [e2] at hy
      simp only [Rep, RepP] at hx hy
      obtain ⟨us, vx, rx⟩ := hx
      obtain ⟨vs, vy, ry⟩ := hy
      simp only [okEq, Bool.and_eq_true, decide_eq_true_eq, Bool.not_eq_true'] at h3
      obtain ⟨⟨hk, hg⟩, hag⟩ := h3
      have h5 := run_eqIn (w := w) (V := V) 20 (e := 10000) hk (by decide) he rx ry
      simp only [mkV, hag, if_true] at h5
      rw [vx, vy]
      refine run_neg hop ?_ h5 (by simp) (by simp) (by simp) (by simp)
      unfold eqGuard
      cases op <;> simp [hg]
    · simp only [okEq] at h3
      split at h3
      · rename_i e hu
        revert he hx hy
        generalize ρ x = ax
        generalize ρ y = ay
        intro hx hy he
        unfold evNil at he
        split at he <;> (try (cases he; done)) <;> simp only [Rep, RepP] at hx hy
        · obtain ⟨b, _, vx⟩ := hx
          cases he
          rw [vx, hy]
          refine run_neg hop ?_ ?_ (by simp) (by simp) (by simp) (by simp)
          · unfold eqGuard; cases op <;> rfl
          · exact eqp1 (e := 9999) hu
        · obtain ⟨b, _, vy⟩ := hy
          cases he
          rw [vy, hx]
          refine run_neg hop ?_ ?_ (by simp) (by simp) (by simp) (by simp)
          · unfold eqGuard; cases op <;> rfl
          · exact eqp2 (e := 9999) hu
        · obtain ⟨b, _, vx, _⟩ := hx
          cases he
          rw [vx, hy]
          refine run_neg hop ?_ ?_ (by simp) (by simp) (by simp) (by simp)
          · unfold eqGuard; cases op <;> rfl
          · exact eqp1 (e := 9999) hu
        · obtain ⟨b, _, vy, _⟩ := hy
          cases he
          rw [vy, hx]
          refine run_neg hop ?_ ?_ (by simp) (by simp) (by simp) (by simp)
          · unfold eqGuard; cases op <;> rfl
          · exact eqp2 (e := 9999) hu
        · cases he
          rw [hx, hy]
          refine run_neg hop ?_ ?_ (by simp) (by simp) (by simp) (by simp)
          · unfold eqGuard; cases op <;> rfl
          · exact eqp3 (e := 9999) hu
      · cases h3
    · simp only [okEq] at h3
      split at h3
      · rename_i e1 e2 e3 hu
        revert he hx hy
        generalize ρ x = ax
        generalize ρ y = ay
        intro hx hy he
        unfold evNilF at he
        split at he <;> (try (cases he; done)) <;> simp only [Rep, RepP] at hx hy
        · obtain ⟨cv, vx, _⟩ := hx
          cases he
          rw [vx, hy]
          refine run_neg hop ?_ ?_ (by simp) (by simp) (by simp) (by simp)
          · unfold eqGuard; cases op <;> rfl
          · exact eqf1 (e := 9999) hu
        · obtain ⟨cv, vy, _⟩ := hy
          cases he
          rw [vy, hx]
          refine run_neg hop ?_ ?_ (by simp) (by simp) (by simp) (by simp)
          · unfold eqGuard; cases op <;> rfl
          · exact eqf2 (e := 9999) hu
        · cases he
          rw [hx, hy]
          refine run_neg hop ?_ ?_ (by simp) (by simp) (by simp) (by simp)
          · unfold eqGuard; cases op <;> rfl
          · exact eqf3 (e := 9999) hu
      · cases h3
    · cases he
  · cases hok
end
end Go.AM
