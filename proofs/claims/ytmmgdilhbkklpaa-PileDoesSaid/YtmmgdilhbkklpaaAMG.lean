/- The abstract machine's operations are the program's: those that read memory. -/
import Derived.Test.YtmmgdilhbkklpaaAMF
namespace Go.AM
open Go
set_option linter.unusedVariables false
set_option linter.unusedSimpArgs false
section
variable {W0 : World} {V0 : View} {Own : Fra} {P : Program} {o : Oper} {a : Act} {w : World} {V : View} {G : Ctx} {μ : Nat → Option Ob} {ρ : Arg → AV} {v : AV} {u : List (Nat × Ob)} {acc : Acc}
theorem okSl_spec {t : TypeId} {n : Nat} (h : okSl P t n = true) : ∃ e, P.underlying t = some (.slice e) ∧ P.cellsOf e = n ∧ (P.info? e).isSome = true := by
  unfold okSl at h
  split at h
  · rename_i e he
    simp only [Bool.and_eq_true] at h
    exact ⟨e, he, Nat.eq_of_beq_eq_true h.1, h.2⟩
  · cases h
theorem add_lit (b o n : Nat) : Addr.add ⟨b, o, none⟩ n = ⟨b, o + n, none⟩ := Addr.add_lit b o n
theorem getElem?_lt {α : Type} {l : List α} {i : Nat} {x : α} (h : l[i]? = some x) : i < l.length := (List.getElem?_eq_some_iff.1 h).1
/-- A slice's rows, read off its value. -/
theorem rep_sl {xs : List (List AV)} {x : Value} {z : AV} (he : z = .sl xs ∨ z = .fl xs) (h : Rep V G z x) :
    ∃ A cap, x = .slice A xs.length cap ∧ xs.length ≤ cap ∧ (xs = [] ∨ ∃ b o esz, A = some ⟨b, o, none⟩ ∧ RepR V (V b) esz o xs) := by
  rcases he with rfl | rfl
  · simp only [Rep, RepP] at h
    exact h
  · simp only [Rep, RepP] at h
    obtain ⟨A, e, q⟩ := h
    exact ⟨A, _, e, Nat.le_refl _, q⟩
theorem snd_idx {d n : Nat} {x y : Arg} (hok : okOp' P o (.idx d x y n) = true) (h : opR P (.idx d x y n) ρ μ v u acc) (hA : ArgsOk V G ρ a (AOp.idx d x y n).args) (hs : Sat W0 V0 Own V G w μ) :
    Done W0 V0 Own P o a w V G μ v u := by
  obtain ⟨rfl, ik, z, hz, h0, h⟩ := h
  simp only [okOp'] at hok
  split at hok
  · rename_i t px py ho
    simp only [Bool.and_eq_true] at hok
    obtain ⟨⟨h1, h2⟩, h3⟩ := hok
    obtain ⟨e, hu, hn, hi⟩ := okSl_spec h3
    have hx := hA _ (by simp [AOp.args]) _ h1
    have hy := hA _ (by simp [AOp.args]) _ h2
    rw [hz] at hy
    have hy := rep_int hy
    rcases h with ⟨xs, c, he, hc, hcn, rfl, rfl⟩ | ⟨k, ver, off, len, xs, he, hlt, hm, rfl, rfl⟩
    · obtain ⟨A, cap, hv, hcap, hr⟩ := rep_sl he hx
      have hl := getElem?_lt hc
      rcases hr with rfl | ⟨b, of, esz, rfl, hr⟩
      · simp at hc
      · obtain ⟨hce, hrc⟩ := hr.get hc
        have hesz : esz = n := by omega
        refine done_pure hs (val := .pointer (some ⟨b, of + z.toNat * n, none⟩)) ?_ ?_
        · rw [execOp, ho]
          refine run_v ?_
          have hb : 0 ≤ z ∧ z < (xs.length : Int) := ⟨h0, by omega⟩
          simp only [Instr.indexAt, asIntOf, hy, hv, Sem.run_bind, Sem.run_pure, run_und hu, Result.andThen_ok, if_pos hb, run_size hi, hn, add_lit]
        · simp only [Rep, RepP]
          exact ⟨b, _, rfl, by rw [← hesz]; exact hrc⟩
    · rw [he] at hx
      simp only [Rep] at hx
      obtain ⟨⟨A, cap, hv⟩, ver', esz, nn, loc, hg, hle, hq⟩ := hx
      obtain ⟨s, hgs, hob⟩ := hs.obs _ _ hm
      rw [hg] at hgs
      cases hgs
      obtain ⟨rfl, rfl, rfl, hnone, hloc⟩ := hob
      obtain ⟨A', cap', hv', hlc, hol, hnc, hq⟩ := hq rfl
      rw [hv] at hv'
      cases hv'
      cases loc with
      | none =>
        obtain ⟨rfl, rfl, hn0⟩ := hq
        omega
      | some loc =>
        obtain ⟨b, of, tot⟩ := loc
        obtain ⟨hA', htot⟩ := hq
        have hA2 : A = some ⟨b, of + off * esz, none⟩ := hA'.resolve_left (by omega)
        subst hA2
        refine done_pure hs (val := .pointer (some ⟨b, of + off * esz + z.toNat * esz, none⟩)) ?_ ?_
        · rw [execOp, ho]
          refine run_v ?_
          have hb : 0 ≤ z ∧ z < (len : Int) := ⟨h0, hlt⟩
          simp only [Instr.indexAt, asIntOf, hy, hv, Sem.run_bind, Sem.run_pure, run_und hu, Result.andThen_ok, if_pos hb, run_size hi, hn, add_lit]
        · simp only [Rep]
          refine ⟨⟨_, _, rfl⟩, _, _, _, _, hg, Nat.le_refl _, fun _ => ⟨b, of, tot, rfl, by omega, ?_⟩⟩
          rw [Nat.add_mul, Nat.add_zero, Nat.add_assoc]
  · cases hok
theorem snd_aix {d n m : Nat} {x y : Arg} (hok : okOp' P o (.aix d x y n m) = true) (h : opR P (.aix d x y n m) ρ μ v u acc) (hA : ArgsOk V G ρ a (AOp.aix d x y n m).args) (hs : Sat W0 V0 Own V G w μ) :
    Done W0 V0 Own P o a w V G μ v u := by
  obtain ⟨rfl, ik, z, hz, h0, hlt, rfl, h⟩ := h
  simp only [okOp'] at hok
  split at hok
  · rename_i t px py ho
    simp only [Bool.and_eq_true] at hok
    obtain ⟨⟨h1, h2⟩, h3⟩ := hok
    have hx := hA _ (by simp [AOp.args]) _ h1
    have hy := hA _ (by simp [AOp.args]) _ h2
    rw [hz] at hy
    have hy := rep_int hy
    split at h3
    · rename_i m' e hu
      simp only [Bool.and_eq_true] at h3
      obtain rfl := Nat.eq_of_beq_eq_true h3.1.1
      have hn := Nat.eq_of_beq_eq_true h3.1.2
      have hi := h3.2
      have hb : 0 ≤ z ∧ z < (m : Int) := ⟨h0, hlt⟩
      have key : ∀ (b of : Nat), a.eval px = .pointer (some ⟨b, of, none⟩) → (execOp a.eval o).run P w = .ok (.value (.pointer (some ⟨b, of + z.toNat * n, none⟩))) w := by
        intro b of hv
        rw [execOp, ho]
        refine run_v ?_
        simp only [Instr.indexAt, asIntOf, hy, hv, Instr.sureAddr, Sem.run_bind, Sem.run_pure, run_und hu, Result.andThen_ok, if_pos hb, run_size hi, hn, add_lit]
      rcases h with ⟨c, he, rfl⟩ | ⟨k, off, he, rfl⟩ | ⟨k, ver, j, off, he, rfl⟩
      · rw [he] at hx
        simp only [Rep, RepP] at hx
        obtain ⟨b, of, hv, hr⟩ := hx
        exact done_pure hs (key b of hv) (by simp only [Rep, RepP]; exact ⟨b, _, rfl, hr.drop _⟩)
      · rw [he] at hx
        simp only [Rep] at hx
        obtain ⟨b, hg, hv⟩ := hx
        exact done_pure hs (key b _ hv) (by simp only [Rep]; exact ⟨b, hg, rfl⟩)
      · rw [he] at hx
        simp only [Rep] at hx
        obtain ⟨⟨b, of, hv⟩, ver', esz, nn, loc, hg, hle, hq⟩ := hx
        refine done_pure hs (key b of hv) ?_
        simp only [Rep]
        refine ⟨⟨_, _, rfl⟩, _, _, _, _, hg, hle, fun e => ?_⟩
        obtain ⟨b', o', tot, hl, hj, hv'⟩ := hq e
        rw [hv] at hv'
        cases hv'
        exact ⟨b, o', tot, hl, hj, by rw [Nat.add_assoc (o' + j * esz)]⟩
    · cases h3
  · cases hok
theorem snd_fad {d off : Nat} {x : Arg} (hok : okOp' P o (.fad d x off) = true) (h : opR P (.fad d x off) ρ μ v u acc) (hA : ArgsOk V G ρ a (AOp.fad d x off).args) (hs : Sat W0 V0 Own V G w μ) :
    Done W0 V0 Own P o a w V G μ v u := by
  obtain ⟨rfl, rfl, h⟩ := h
  simp only [okOp'] at hok
  split at hok
  · rename_i s px f ho
    simp only [Bool.and_eq_true] at hok
    obtain ⟨h1, h3⟩ := hok
    have hx := hA _ (by simp [AOp.args]) _ h1
    split at h3
    · rename_i fs hu
      split at h3
      · rename_i fd hf
        simp only [Bool.and_eq_true, Bool.not_eq_true'] at h3
        obtain ⟨⟨hoff, hi⟩, hnz⟩ := h3
        have hoff := Nat.eq_of_beq_eq_true hoff
        have hnz : P.cellsOf fd.type ≠ 0 := fun e => by rw [e] at hnz; exact absurd hnz (by decide)
        have key : ∀ (b of : Nat), a.eval px = .pointer (some ⟨b, of, none⟩) → (execOp a.eval o).run P w = .ok (.value (.pointer (some ⟨b, of + off, none⟩))) w := by
          intro b of hv
          rw [execOp, ho]
          refine run_v ?_
          simp only [Instr.fieldAt, hv, Instr.sureAddr, Sem.run_bind, Sem.run_pure, run_und hu, Result.andThen_ok, hf, fieldPlace, run_size hi, hnz, if_false, add_lit, hoff]
        rcases h with ⟨c, he, rfl⟩ | ⟨k, of, he, rfl⟩ | ⟨k, ver, j, of, he, rfl⟩
        · rw [he] at hx
          simp only [Rep, RepP] at hx
          obtain ⟨b, of, hv, hr⟩ := hx
          exact done_pure hs (key b of hv) (by simp only [Rep, RepP]; exact ⟨b, _, rfl, hr.drop _⟩)
        · rw [he] at hx
          simp only [Rep] at hx
          obtain ⟨b, hg, hv⟩ := hx
          exact done_pure hs (key b _ hv) (by simp only [Rep]; exact ⟨b, hg, rfl⟩)
        · rw [he] at hx
          simp only [Rep] at hx
          obtain ⟨⟨b, of', hv⟩, ver', esz, nn, loc, hg, hle, hq⟩ := hx
          refine done_pure hs (key b of' hv) ?_
          simp only [Rep]
          refine ⟨⟨_, _, rfl⟩, _, _, _, _, hg, hle, fun e => ?_⟩
          obtain ⟨b', o', tot, hl, hj, hv'⟩ := hq e
          rw [hv] at hv'
          cases hv'
          exact ⟨b, o', tot, hl, hj, by rw [Nat.add_assoc (o' + j * esz)]⟩
      · cases h3
    · cases h3
  · cases hok
/-- A variable's value, out of cells that say what they hold. -/
theorem run_loadVar_p {t : TypeId} {n : Nat} {ag : Bool} {b of : Nat} {c : List AV} {us : List Value} (hn : P.cellsOf t = n) (hi : (P.info? t).isSome = true) (hag : isAggT P t = ag) (hu : (P.underlying t).isSome = true)
    (hr : RepPL V c us) (hc : ∀ j x, us[j]? = some x → w.cell? ⟨b, of + j, none⟩ = some x) (hl : loadV ag n c = some v) :
    ∃ val, (loadVar t ⟨b, of, none⟩).run P w = .ok val w ∧ RepP V v val := by
  unfold loadVar
  simp only [Sem.run_bind, run_isAgg hu, Result.andThen_ok, hag]
  cases ag with
  | true =>
    simp only [loadV] at hl
    split at hl
    · rename_i hle
      cases hl
      have hlen := hr.length
      have h1 : (loadCells ⟨b, of, none⟩ n).run P w = .ok (us.take n).toArray w := by
        have := run_loadCells_list (P := P) w ⟨b, of, none⟩ (us.take n) (fun j x hx => by
          rw [add_lit]
          rw [List.getElem?_take] at hx
          split at hx
          · exact hc j x hx
          · cases hx)
        rwa [List.length_take, Nat.min_eq_left (by omega)] at this
      refine ⟨.agg (us.take n).toArray, ?_, ?_⟩
      · simp only [if_true, Sem.run_bind, run_size hi, hn, Result.andThen_ok, h1, Sem.run_pure]
      · simp only [RepP]
        exact ⟨_, rfl, hr.take n⟩
    · cases hl
  | false =>
    simp only [loadV] at hl
    split at hl
    · rename_i x r
      cases hl
      simp only [RepPL] at hr
      obtain ⟨y, r', rfl, hy, _⟩ := hr
      refine ⟨y, ?_, hy⟩
      have := hc 0 y rfl
      simp only [Bool.false_eq_true, if_false, run_load]
      rw [Nat.add_zero] at this
      rw [this]
    · cases hl
theorem run_loadVar_m {t : TypeId} {n : Nat} {b of : Nat} {c : List AV} {us : List Value} (hag : isAggT P t = false) (hu : (P.underlying t).isSome = true)
    (hr : RepL V G c us) (hc : ∀ j x, us[j]? = some x → w.cell? ⟨b, of + j, none⟩ = some x) (hl : loadV false n c = some v) :
    ∃ val, (loadVar t ⟨b, of, none⟩).run P w = .ok val w ∧ Rep V G v val := by
  unfold loadVar
  simp only [Sem.run_bind, run_isAgg hu, Result.andThen_ok, hag]
  simp only [loadV] at hl
  split at hl
  · rename_i x r
    cases hl
    simp only [RepL] at hr
    obtain ⟨y, r', rfl, hy, _⟩ := hr
    refine ⟨y, ?_, hy⟩
    have := hc 0 y rfl
    simp only [Bool.false_eq_true, if_false, run_load]
    rw [Nat.add_zero] at this
    rw [this]
  · cases hl
theorem RepL.drop {x : List AV} {us : List Value} (n : Nat) (h : RepL V G x us) : RepL V G (x.drop n) (us.drop n) := by
  induction n generalizing x us with
  | zero => exact h
  | succ n ih =>
    cases x with
    | nil => simp only [RepL] at h; subst h; simp [RepL]
    | cons x xs =>
      simp only [RepL] at h
      obtain ⟨y, r, rfl, _, q⟩ := h
      exact ih q
theorem cell_of {b i : Nat} {us : List Value} {T : TypeId} {f : Nat × Nat} {x : Value} (h : w.heap[b]? = some (.cells us.toArray T f)) (hx : us[i]? = some x) : w.cell? ⟨b, i, none⟩ = some x := by
  simp [World.cell?, h, hx]
theorem snd_load {d n : Nat} {ag : Bool} {x : Arg} (hok : okOp' P o (.load d x n ag) = true) (h : opR P (.load d x n ag) ρ μ v u acc) (hA : ArgsOk V G ρ a (AOp.load d x n ag).args) (hs : Sat W0 V0 Own V G w μ) :
    Done W0 V0 Own P o a w V G μ v u := by
  obtain ⟨rfl, h⟩ := h
  simp only [okOp'] at hok
  split at hok
  · rename_i t px ho
    simp only [Bool.and_eq_true, beq_iff_eq] at hok
    obtain ⟨⟨⟨⟨h1, hn⟩, hi⟩, hag⟩, hu⟩ := hok
    have hn := Nat.eq_of_beq_eq_true hn
    have hx := hA _ (by simp [AOp.args]) _ h1
    have key : ∀ (b of : Nat) (val : Value), a.eval px = .pointer (some ⟨b, of, none⟩) → (loadVar t ⟨b, of, none⟩).run P w = .ok val w → (execOp a.eval o).run P w = .ok (.value val) w := by
      intro b of val hv hl
      rw [execOp, ho]
      refine run_v ?_
      simp only [Instr.loadAt, hv, Instr.sureAddr, Sem.run_bind, Sem.run_pure, Result.andThen_ok, hl]
    rcases h with ⟨c, he, hl, rfl⟩ | ⟨k, of, c, he, hm, hl, rfl⟩ | ⟨k, of, c, he, hm, rfl, hl, rfl⟩ | ⟨k, ver, i, of, esz, xs, c, he, hm, hc, hl, rfl⟩
    · rw [he] at hx
      simp only [Rep, RepP] at hx
      obtain ⟨b, of, hv, hr⟩ := hx
      obtain ⟨us, hp, hq⟩ := hr.vals
      obtain ⟨val, h1, h2⟩ := run_loadVar_p hn hi hag hu hp (fun j x hx => hs.view _ _ _ (hq j x hx).1) hl
      exact done_pure hs (key _ _ _ hv h1) (h2.rep G)
    · rw [he] at hx
      simp only [Rep] at hx
      obtain ⟨b, hg, hv⟩ := hx
      obtain ⟨s, hgs, hob⟩ := hs.obs _ _ hm
      rw [hg] at hgs
      cases hgs
      obtain ⟨us, T, hh, hp, _⟩ := hob
      obtain ⟨val, h1, h2⟩ := run_loadVar_p (b := b) (of := of) hn hi hag hu (hp.drop of) (fun j x hx => cell_of hh (by rw [List.getElem?_drop] at hx; exact hx)) hl
      exact done_pure hs (key _ _ _ hv h1) (h2.rep G)
    · rw [he] at hx
      simp only [Rep] at hx
      obtain ⟨b, hg, hv⟩ := hx
      obtain ⟨s, hgs, hob⟩ := hs.obs _ _ hm
      rw [hg] at hgs
      cases hgs
      obtain ⟨us, T, hh, hp, _⟩ := hob
      obtain ⟨val, h1, h2⟩ := run_loadVar_m (b := b) (of := of) hag hu (hp.drop of) (fun j x hx => cell_of hh (by rw [List.getElem?_drop] at hx; exact hx)) hl
      exact done_pure hs (key _ _ _ hv h1) h2
    · rw [he] at hx
      simp only [Rep] at hx
      obtain ⟨_, ver', esz', nn, loc, hg, hle, hq⟩ := hx
      obtain ⟨s, hgs, hob⟩ := hs.obs _ _ hm
      rw [hg] at hgs
      cases hgs
      obtain ⟨rfl, rfl, rfl, hnone, hloc⟩ := hob
      obtain ⟨b, o', tot, rfl, hin, hv⟩ := hq rfl
      obtain ⟨us, T, hh, ht, hle, hr⟩ := hloc b o' tot rfl
      obtain ⟨hce, hrc⟩ := hr.get hc
      obtain ⟨vs, hp, hq⟩ := (hrc.drop of).vals
      obtain ⟨val, h1, h2⟩ := run_loadVar_p (b := b) hn hi hag hu hp (fun j x hx => cell_of hh (hq j x hx).1) hl
      exact done_pure hs (key _ _ _ hv h1) (h2.rep G)
  · cases hok
end
end Go.AM
