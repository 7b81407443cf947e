/- The abstract machine's operations are the program's: stores, appends, calls. -/
import Derived.Test.YtmmgdilhbkklpaaAML
namespace Go.AM
open Go
set_option linter.unusedVariables false
set_option linter.unusedSimpArgs false
section
variable {W0 : World} {V0 : View} {Own : Fra} {P : Program} {o : Oper} {a : Act} {w : World} {V : View} {G : Ctx} {μ : Nat → Option Ob} {ρ : Arg → AV} {v : AV} {u : List (Nat × Ob)} {acc : Acc}
theorem done_skip {w' : World} {G' : Ctx} (hs : Sat W0 V0 Own V G' w' (updO μ u)) (hd : o.dst = none) (hr : (execOp a.eval o).run P w = .ok .skip w') (hG : G.le G') : Done W0 V0 Own P o a w V G μ .dead u := by
  intro next Q hn
  unfold Oper.wp
  rw [hr, Oper.upon_skip]
  exact hn undef w' V G' (by simp only [Rep]) (View.le_refl _) hG hs
/-- The world behind a write into a block. -/
theorem setRow_keep {b : Nat} {cs : Array Value} (h : Keep W0 Own w) (hb : Own.own b ∨ W0.heap.size ≤ b) : Keep W0 Own (w.setRow b cs) :=
  h.of_le rfl rfl rfl (by rw [setRow_size]; exact Nat.le_refl _) fun k h1 h2 => by
    refine setRow_other w b k cs fun e => ?_
    subst e
    rcases hb with hb | hb
    · exact h2 hb
    · omega
/-- A write into an object's block. -/
theorem Sat.write (h : Sat W0 V0 Own V G w μ) {k b : Nat} {s : Sh} {ob : Ob} {us vs : List Value} {T : TypeId} (hg : G k = some s) (hb : s.block = some b) (hh : w.heap[b]? = some (.cells us.toArray T (0, 0)))
    (hob : ObOk V (fun j => if j = k then some s else G j) (w.setRow b vs.toArray) s ob) :
    Sat W0 V0 Own V (fun j => if j = k then some s else G j) (w.setRow b vs.toArray) (fun j => if j = k then some ob else μ j) := by
  obtain ⟨p1, p2, p3⟩ := h.priv k s b hg hb
  refine h.upd (setRow_keep h.keep p2) ?_ (Ctx.le_upd hg s.le_refl) hob ?_ (fun b' hb' hlt => h.loc k s b' hg hb' hlt) (by rw [setRow_size]; exact Nat.le_refl _) ?_
  · intro b' o' x e
    have hne : b' ≠ b := fun e' => by subst e'; rw [p3 o'] at e; cases e
    have := h.view b' o' x e
    unfold World.cell? at this ⊢
    rw [show (w.setRow b vs.toArray).heap[b']? = w.heap[b']? from setRow_other w b b' _ hne]
    exact this
  · intro b' hb'
    rw [hb] at hb'
    cases hb'
    refine ⟨by rw [setRow_size]; exact p1, p2, p3, fun j s' hj hg' hb' => ?_⟩
    exact hj (h.inj j k s' s b hg' hg hb' hb)
  · intro j s' b' hj hg' hb'
    refine setRow_other w b b' _ fun e => ?_
    subst e
    exact hj (h.inj j k s' s b' hg' hg hb' hb)
theorem ctx_self {k : Nat} {s : Sh} (hg : G k = some s) : (fun j => if j = k then some s else G j) = G := by
  funext j
  by_cases h : j = k
  · subst h; rw [if_pos rfl, hg]
  · rw [if_neg h]
theorem run_storeVar {t : TypeId} {b of : Nat} {x : Value} {us : List Value} {T : TypeId} (hi : (P.info? t).isSome = true) (hn : x.cells.size = P.cellsOf t) (hh : w.heap[b]? = some (.cells us.toArray T (0, 0))) (hl : of + x.cells.size ≤ us.length) (h1 : ∀ y ∈ x.cells.toList, y.oneCell' = true) :
    (storeVar t ⟨b, of, none⟩ x).run P w = .ok () (w.setRow b (splice us of x.cells.toList).toArray) := by
  unfold storeVar
  simp only [Sem.run_bind, run_size hi, Result.andThen_ok, hn, ne_eq, not_true, if_false, Sem.run_ite]
  have := run_storeCells_at (P := P) b of T x.cells.toList 0 us.toArray w hh (by simp; omega) h1
  simp only [Nat.add_zero] at this
  simp only [splice]
  exact this
theorem oneAL_one {x : AV} (h : oneA x = true) : cellsOf x = [x] := by cases x <;> simp [cellsOf, oneA] at h ⊢
theorem splice_one {us : List Value} {of : Nat} {x : Value} (h : of < us.length) : splice us of [x] = us.set of x := by
  have := splice_set (l := us) (us := []) (o := of) (x := x) (by simp; omega)
  rw [← this, splice_nil]
theorem mem_splice {us vs : List Value} {of : Nat} {y : Value} (h : y ∈ splice us of vs) : y ∈ us ∨ y ∈ vs := by
  unfold splice at h
  simp only [List.mem_append] at h
  rcases h with (h | h) | h
  · exact .inl (List.mem_of_mem_take h)
  · exact .inr h
  · exact .inl (List.mem_of_mem_drop h)
theorem splice_get_in {us vs : List Value} {of j : Nat} (h : of + vs.length ≤ us.length) (hj : j < vs.length) : (splice us of vs)[of + j]? = vs[j]? := by
  unfold splice
  rw [List.append_assoc, List.getElem?_append_right (by simp; omega), List.getElem?_append_left (by simp; omega)]
  congr 1
  simp
  omega
theorem splice_get_out {us vs : List Value} {of i : Nat} (h : of + vs.length ≤ us.length) (hi : i < of ∨ of + vs.length ≤ i) : (splice us of vs)[i]? = us[i]? := by
  unfold splice
  rcases hi with hi | hi
  · rw [List.append_assoc, List.getElem?_append_left (by simp; omega), List.getElem?_take, if_pos hi]
  · rw [List.getElem?_append_right (by simp; omega), List.getElem?_drop]
    congr 1
    simp
    omega
/-- Rows, one of which is written to. -/
theorem RepR.write {xs : List (List AV)} {us vs : List Value} {cs c : List AV} {esz o i of : Nat} (h : RepR V (fun i => us[i]?) esz o xs) (hc : xs[i]? = some c) (hv : RepPL V cs vs) (h1 : ∀ y ∈ vs, y.oneCell' = true) (hl : of + cs.length ≤ c.length) (ht : o + xs.length * esz ≤ us.length) :
    RepR V (fun j => (splice us (o + i * esz + of) vs)[j]?) esz o (xs.set i (setAt c of cs)) := by
  obtain ⟨hce, hrc⟩ := h.get hc
  have hi := getElem?_lt hc
  have hvl := hv.length
  have hlt : (i + 1) * esz ≤ xs.length * esz := Nat.mul_le_mul_right _ hi
  rw [Nat.add_mul, Nat.one_mul] at hlt
  have hin : o + i * esz + of + vs.length ≤ us.length := by omega
  refine RepR.of_get fun j d hd => ?_
  rw [List.getElem?_set] at hd
  split at hd
  · rename_i hij
    subst hij
    · cases hd
      refine ⟨by simp [setAt]; omega, ?_⟩
      unfold setAt
      have hpre : RepC V (fun j => (splice us (o + i * esz + of) vs)[j]?) (o + i * esz) (c.take of) := by
        refine (hrc.take of).local fun j g1 g2 => ?_
        refine splice_get_out hin (.inl ?_)
        simp only [List.length_take] at g2
        omega
      have hmid : RepC V (fun j => (splice us (o + i * esz + of) vs)[j]?) (o + i * esz + (c.take of).length) cs := by
        refine RepC.of_vals hv fun j y hy => ?_
        have hj := getElem?_lt hy
        refine ⟨?_, h1 y (List.mem_of_getElem? hy)⟩
        show (splice us (o + i * esz + of) vs)[o + i * esz + (c.take of).length + j]? = some y
        rw [show (c.take of).length = of by simp; omega, splice_get_in hin hj]
        exact hy
      have hpost : RepC V (fun j => (splice us (o + i * esz + of) vs)[j]?) (o + i * esz + (c.take of ++ cs).length) (c.drop (of + cs.length)) := by
        have := hrc.drop (of + cs.length)
        rw [show (c.take of ++ cs).length = of + cs.length by simp; omega]
        refine this.local fun j g1 g2 => ?_
        exact splice_get_out hin (.inr (by omega))
      exact (hpre.append hmid).append hpost
  · rename_i hij
    obtain ⟨q1, q2⟩ := h.get hd
    refine ⟨q1, q2.local fun k g1 g2 => ?_⟩
    refine splice_get_out hin ?_
    rcases Nat.lt_or_ge j i with g | g
    · left
      have : (j + 1) * esz ≤ i * esz := Nat.mul_le_mul_right _ g
      rw [Nat.add_mul, Nat.one_mul] at this
      omega
    · right
      have : (i + 1) * esz ≤ j * esz := Nat.mul_le_mul_right _ (by omega)
      rw [Nat.add_mul, Nat.one_mul] at this
      omega
theorem snd_store {x y : Arg} {n : Nat} (hd : o.dst = none) (hok : okOp' P o (.store x y n) = true) (h : opR P (.store x y n) ρ μ v u acc) (hA : ArgsOk V G ρ a (AOp.store x y n).args) (hs : Sat W0 V0 Own V G w μ) :
    Done W0 V0 Own P o a w V G μ v u := by
  obtain ⟨rfl, hlen, h⟩ := h
  simp only [okOp'] at hok
  split at hok
  · rename_i t px py ho
    simp only [Bool.and_eq_true] at hok
    obtain ⟨⟨⟨h1, h2⟩, hi⟩, hsz⟩ := hok
    have hsz := Nat.eq_of_beq_eq_true hsz
    have hx := hA x (by simp [AOp.args]) _ h1
    have hy := hA y (by simp [AOp.args]) _ h2
    have key : ∀ (b of : Nat) (us : List Value) (T : TypeId), a.eval px = .pointer (some ⟨b, of, none⟩) → (a.eval py).cells.size = n → w.heap[b]? = some (.cells us.toArray T (0, 0)) → of + (a.eval py).cells.size ≤ us.length → (∀ z ∈ (a.eval py).cells.toList, z.oneCell' = true) →
        (execOp a.eval o).run P w = .ok .skip (w.setRow b (splice us of (a.eval py).cells.toList).toArray) := by
      intro b of us T hv hn hh hl h1
      rw [execOp, ho]
      simp only [Instr.storeAt, hv, Instr.sureAddr, Sem.run_bind, Sem.run_pure, Result.andThen_ok, run_storeVar hi (by rw [hn, hsz]) hh hl h1]
    rcases h with ⟨k, of, c, he, hm, hp, hone, hl, rfl, rfl⟩ | ⟨k, of, c, he, hm, hone, hl, rfl, rfl⟩ | ⟨k, ver, i, of, esz, xs, c, he, hm, hc, hp, hone, hl, rfl, rfl⟩
    · rw [he] at hx
      simp only [Rep] at hx
      obtain ⟨b, hg, hv⟩ := hx
      obtain ⟨s, hgs, hob⟩ := hs.obs _ _ hm
      rw [hg] at hgs
      cases hgs
      obtain ⟨us, T, hh, hr, h1⟩ := hob
      have hcy := (hy.pure hp).cells
      have h1y := oneAL_get hcy hone
      have hcl := hcy.length
      rw [Array.length_toList] at hcl
      have hul := hr.length
      have hw := hs.write (ob := .pbox (setAt c of (cellsOf (ρ y)))) (vs := splice us of (a.eval py).cells.toList) hg rfl hh (by
        simp only [ObOk]
        refine ⟨_, T, setRow_heap w b _ _ T _ hh, setAt_rep hr hcy, fun z hz => ?_⟩
        rcases mem_splice hz with hz | hz
        · exact h1 z hz
        · exact h1y z hz)
      exact done_skip (μ := μ) (u := [(k, .pbox (setAt c of (cellsOf (ρ y))))]) hw hd (key b of us T hv (by omega) hh (by omega) h1y) (Ctx.le_upd hg (Sh.le_refl _))
    · rw [he] at hx
      simp only [Rep] at hx
      obtain ⟨b, hg, hv⟩ := hx
      obtain ⟨s, hgs, hob⟩ := hs.obs _ _ hm
      rw [hg] at hgs
      cases hgs
      obtain ⟨us, T, hh, hr, h1⟩ := hob
      have h1y := hy.one hone
      have hcl : (a.eval py).cells = #[a.eval py] := by
        cases hv : a.eval py <;> simp [Value.cells, hv, Value.oneCell'] at h1y ⊢
      have hul := hr.length
      have hn1 : n = 1 := by rw [← hlen, oneAL_one hone]; rfl
      have hsp : splice us of (a.eval py).cells.toList = us.set of (a.eval py) := by rw [hcl]; exact splice_one (by omega)
      have hle := Ctx.le_upd (G := G) (s' := .box b) hg (Sh.le_refl _)
      have hw := hs.write (ob := .box (c.set of (ρ y))) (vs := splice us of (a.eval py).cells.toList) hg rfl hh (by
        simp only [ObOk]
        refine ⟨_, T, setRow_heap w b _ _ T _ hh, ?_, fun z hz => ?_⟩
        · rw [hsp]
          exact (hr.mono (View.le_refl _) hle).set of (hy.mono (View.le_refl _) hle)
        · rcases mem_splice hz with hz | hz
          · exact h1 z hz
          · rw [hcl] at hz
            simp at hz
            subst hz
            exact h1y)
      refine done_skip (μ := μ) (u := [(k, .box (c.set of (ρ y)))]) hw hd (key b of us T hv (by rw [hcl, hn1]; rfl) hh (by rw [hcl]; simp; omega) ?_) hle
      intro z hz
      rw [hcl] at hz
      simp at hz
      subst hz
      exact h1y
    · rw [he] at hx
      simp only [Rep] at hx
      obtain ⟨_, ver', esz', nn, loc, hg, hle', hq⟩ := hx
      obtain ⟨s, hgs, hob⟩ := hs.obs _ _ hm
      rw [hg] at hgs
      cases hgs
      obtain ⟨rfl, rfl, rfl, hnone, hloc⟩ := hob
      obtain ⟨b, o', tot, rfl, hin, hv⟩ := hq rfl
      obtain ⟨us, T, hh, ht, hle, hr⟩ := hloc b o' tot rfl
      have hcy := (hy.pure hp).cells
      have h1y := oneAL_get hcy hone
      have hcl := hcy.length
      rw [Array.length_toList] at hcl
      obtain ⟨hce, hrc⟩ := hr.get hc
      have hii := getElem?_lt hc
      have hlt : (i + 1) * esz' ≤ xs.length * esz' := Nat.mul_le_mul_right _ hii
      rw [Nat.add_mul, Nat.one_mul] at hlt
      have hw := hs.write (ob := .arr ver' esz' (xs.set i (setAt c of (cellsOf (ρ y))))) (vs := splice us (o' + i * esz' + of) (a.eval py).cells.toList) hg rfl hh (by
        simp only [ObOk]
        refine ⟨trivial, trivial, by simp, (fun h => by cases h), fun b2 o2 tot2 h => ?_⟩
        cases h
        refine ⟨_, T, setRow_heap w b _ _ T _ hh, ?_, hle, hr.write hc hcy h1y hl (by omega)⟩
        rw [splice_length (by rw [Array.length_toList]; omega)]
        exact ht)
      exact done_skip (μ := μ) (u := [(k, .arr ver' esz' (xs.set i (setAt c of (cellsOf (ρ y)))))]) hw hd (key b _ us T hv (by omega) hh (by omega) h1y) (Ctx.le_upd hg (Sh.le_refl _))
  · cases hok
end
end Go.AM
