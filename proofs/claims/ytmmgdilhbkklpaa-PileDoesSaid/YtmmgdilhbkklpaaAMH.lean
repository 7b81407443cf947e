/- How what is known of memory goes on: a new block, an object that is another one. -/
import Derived.Test.YtmmgdilhbkklpaaAMG
namespace Go.AM
open Go
set_option linter.unusedVariables false
set_option linter.unusedSimpArgs false
section
variable {W0 : World} {V0 : View} {Own : Fra} {P : Program} {w w' : World} {V V' : View} {G G' : Ctx} {μ μ' : Nat → Option Ob}
theorem ObOk.mono {s : Sh} {ob : Ob} (hV : V.le V') (hG : G.le G') (hb : ∀ b, s.block = some b → w'.heap[b]? = w.heap[b]?) (h : ObOk V G w s ob) : ObOk V' G' w' s ob := by
  cases s <;> cases ob <;> simp only [ObOk] at h ⊢
  · obtain ⟨us, T, e, r, q⟩ := h
    exact ⟨us, T, by rw [hb _ rfl]; exact e, r.mono hV hG, q⟩
  · obtain ⟨us, T, e, r, q⟩ := h
    exact ⟨us, T, by rw [hb _ rfl]; exact e, r.mono hV, q⟩
  · obtain ⟨h1, h2, h3, h4, h5⟩ := h
    refine ⟨h1, h2, h3, h4, fun b o tot hl => ?_⟩
    obtain ⟨us, T, e, t, l, r⟩ := h5 b o tot hl
    exact ⟨us, T, by rw [hb _ (by simp [Sh.block, hl])]; exact e, t, l, r.mono hV (fun _ _ h => h)⟩
theorem Keep.of_le (h : Keep W0 Own w) (os : w'.os = w.os) (tape : w'.tape = w.tape) (output : w'.output = w.output) (size : w.heap.size ≤ w'.heap.size)
    (hb : ∀ b, b < W0.heap.size → ¬ Own.own b → w'.heap[b]? = w.heap[b]?) : Keep W0 Own w' :=
  ⟨os.trans h.os, tape.trans h.tape, output.trans h.output, Nat.le_trans h.size size, fun b h1 h2 => (hb b h1 h2).trans (h.block b h1 h2)⟩
theorem Sat.drew (h : Sat W0 V0 Own V G w μ) : Sat W0 V0 Own V G w.drew μ where
  keep := h.keep.of_le rfl rfl rfl (Nat.le_refl _) (fun _ _ _ => rfl)
  view := h.view
  vle := h.vle
  vnew := h.vnew
  obs := fun k ob e => by
    obtain ⟨s, e', q⟩ := h.obs k ob e
    exact ⟨s, e', q.mono (View.le_refl _) (Ctx.le_refl _) (fun _ _ => rfl)⟩
  dom := h.dom
  priv := h.priv
  inj := h.inj
  loc := h.loc
theorem heap_alloc_old {b : Nat} {x : Obj} (h : b < w.heap.size) : (w.alloc x).heap[b]? = w.heap[b]? := by
  simp only [World.alloc, Array.getElem?_push]
  rw [if_neg (by omega)]
theorem heap_alloc_new {x : Obj} : (w.alloc x).heap[w.heap.size]? = some x := by
  show (w.heap.push x)[w.heap.size]? = some x
  rw [Array.getElem?_push, if_pos rfl]
theorem blk_lt {b : Nat} {x : Obj} (h : w.heap[b]? = some x) : b < w.heap.size := by
  rcases Nat.lt_or_ge b w.heap.size with h' | h'
  · exact h'
  · simp [Array.getElem?_eq_none h'] at h
/-- A new block that no one will write. -/
def viewNew (V : View) (b0 : Nat) (us : List Value) : View := fun b o => if b = b0 then us[o]? else V b o
theorem Sat.view_lt (h : Sat W0 V0 Own V G w μ) {b o : Nat} {x : Value} (e : V b o = some x) : b < w.heap.size := World.block_lt_of_cell? w _ (h.view b o x e)
theorem Sat.viewNew_le (h : Sat W0 V0 Own V G w μ) (us : List Value) : V.le (viewNew V w.heap.size us) := by
  intro b o v e
  unfold viewNew
  have := h.view_lt e
  rw [if_neg (by omega)]
  exact e
theorem Sat.frozen (h : Sat W0 V0 Own V G w μ) (us : List Value) (T : TypeId) : Sat W0 V0 Own (viewNew V w.heap.size us) G (w.alloc (.cells us.toArray T)) μ where
  keep := h.keep.of_le rfl rfl rfl (by simp) (fun b h1 _ => heap_alloc_old (Nat.lt_of_lt_of_le h1 h.keep.size))
  view := fun b o v e => by
    unfold viewNew at e
    split at e
    · rename_i hb
      subst hb
      rw [World.cell?_alloc_new]
      simpa using e
    · have := h.view_lt e
      rw [World.cell?_alloc_lt _ _ _ this]
      exact h.view b o v e
  vle := View.le_trans h.vle (h.viewNew_le us)
  vnew := fun b o hb => by
    unfold viewNew
    have := h.keep.size
    rw [if_neg (by omega)]
    exact h.vnew b o hb
  obs := fun k ob e => by
    obtain ⟨s, e', q⟩ := h.obs k ob e
    exact ⟨s, e', q.mono (h.viewNew_le us) (Ctx.le_refl _) (fun b hb => heap_alloc_old (h.priv k s b e' hb).1)⟩
  dom := h.dom
  priv := fun k s b e hb => by
    obtain ⟨p, q, r⟩ := h.priv k s b e hb
    refine ⟨by simp only [World.size_alloc]; omega, q, fun o => ?_⟩
    unfold viewNew
    rw [if_neg (by omega)]
    exact r o
  inj := h.inj
  loc := h.loc
theorem viewNew_rep {us : List Value} {cs : List AV} {b0 : Nat} (hr : RepPL V cs us) (hV : V.le (viewNew V b0 us)) (ho : ∀ u ∈ us, u.oneCell' = true) : RepC (viewNew V b0 us) (viewNew V b0 us b0) 0 cs := by
  refine RepC.of_vals (hr.mono hV) fun j u hu => ?_
  rw [Nat.zero_add]
  unfold viewNew
  rw [if_pos rfl]
  exact ⟨hu, ho u (List.mem_of_getElem? hu)⟩

/-- One object is another one (or a new one), all others are as they were. -/
theorem Sat.upd (h : Sat W0 V0 Own V G w μ) {k : Nat} {s : Sh} {ob : Ob} (hk : Keep W0 Own w')
    (hview : ∀ b o v, V b o = some v → w'.cell? ⟨b, o, none⟩ = some v)
    (hG : G.le (fun j => if j = k then some s else G j))
    (hob : ObOk V (fun j => if j = k then some s else G j) w' s ob)
    (hnew : ∀ b, s.block = some b → b < w'.heap.size ∧ (Own.own b ∨ W0.heap.size ≤ b) ∧ (∀ o, V b o = none) ∧ ∀ j s', j ≠ k → G j = some s' → s'.block ≠ some b)
    (hloc : ∀ b, s.block = some b → b < W0.heap.size → Own.key k b)
    (hsz : w.heap.size ≤ w'.heap.size)
    (hother : ∀ j s' b, j ≠ k → G j = some s' → s'.block = some b → w'.heap[b]? = w.heap[b]?) :
    Sat W0 V0 Own V (fun j => if j = k then some s else G j) w' (fun j => if j = k then some ob else μ j) where
  keep := hk
  view := hview
  vle := h.vle
  vnew := h.vnew
  obs := fun j ob' e => by
    by_cases hj : j = k
    · rw [if_pos hj] at e ⊢
      cases e
      exact ⟨s, rfl, hob⟩
    · rw [if_neg hj] at e ⊢
      obtain ⟨s', e', q⟩ := h.obs j ob' e
      exact ⟨s', e', q.mono (View.le_refl _) hG (fun b hb => hother j s' b hj e' hb)⟩
  dom := fun j s' e => by
    by_cases hj : j = k
    · rw [if_pos hj]; exact ⟨ob, rfl⟩
    · rw [if_neg hj] at e ⊢
      exact h.dom j s' e
  priv := fun j s' b e hb => by
    by_cases hj : j = k
    · rw [if_pos hj] at e
      cases e
      obtain ⟨p, q, r, _⟩ := hnew b hb
      exact ⟨p, q, r⟩
    · rw [if_neg hj] at e
      obtain ⟨p, q, r⟩ := h.priv j s' b e hb
      exact ⟨by omega, q, r⟩
  inj := fun j j' s1 s2 b e e' hb hb' => by
    by_cases h1 : j = k <;> by_cases h2 : j' = k
    · omega
    · rw [if_pos h1] at e
      rw [if_neg h2] at e'
      cases e
      exact absurd hb' ((hnew b hb).2.2.2 j' s2 h2 e')
    · rw [if_neg h1] at e
      rw [if_pos h2] at e'
      cases e'
      exact absurd hb ((hnew b hb').2.2.2 j s1 h1 e)
    · rw [if_neg h1] at e
      rw [if_neg h2] at e'
      exact h.inj j j' s1 s2 b e e' hb hb'
  loc := fun j s' b e hb hlt => by
    by_cases hj : j = k
    · rw [if_pos hj] at e
      cases e
      rw [hj]
      exact hloc b hb hlt
    · rw [if_neg hj] at e
      exact h.loc j s' b e hb hlt
theorem Sat.fresh (h : Sat W0 V0 Own V G w μ) {k : Nat} (hm : μ k = none) : G k = none := by
  cases hg : G k with
  | none => rfl
  | some s =>
    obtain ⟨ob, e⟩ := h.dom k s hg
    rw [hm] at e
    cases e
theorem Ctx.le_new {k : Nat} {s : Sh} (hk : G k = none) : G.le (fun j => if j = k then some s else G j) := by
  intro j s' e
  exact ⟨s', (if_neg (fun he => by subst he; rw [hk] at e; cases e)).trans e, s'.le_refl⟩
theorem Ctx.le_upd {k : Nat} {s s' : Sh} (hk : G k = some s) (hle : s.le s') : G.le (fun j => if j = k then some s' else G j) := by
  intro j s1 e
  by_cases hj : j = k
  · subst hj
    rw [hk] at e
    cases e
    exact ⟨s', by simp, hle⟩
  · exact ⟨s1, (if_neg hj).trans e, s1.le_refl⟩
/-- A new object in a new block. -/
theorem Sat.newOb (h : Sat W0 V0 Own V G w μ) {k : Nat} {s : Sh} {ob : Ob} (x : Obj) (hm : μ k = none) (hb : s.block = some w.heap.size)
    (hob : ObOk V (fun j => if j = k then some s else G j) (w.alloc x) s ob) :
    Sat W0 V0 Own V (fun j => if j = k then some s else G j) (w.alloc x) (fun j => if j = k then some ob else μ j) := by
  refine h.upd (h.keep.of_le rfl rfl rfl (by simp) (fun b h1 _ => heap_alloc_old (Nat.lt_of_lt_of_le h1 h.keep.size))) ?_ (Ctx.le_new (h.fresh hm)) hob ?_ (fun b hb' hlt => by rw [hb] at hb'; cases hb'; exact absurd hlt (Nat.not_lt.2 h.keep.size)) (by simp) ?_
  · intro b o v e
    rw [World.cell?_alloc_lt _ _ _ (h.view_lt e)]
    exact h.view b o v e
  · intro b hb'
    rw [hb] at hb'
    cases hb'
    refine ⟨by simp, .inr h.keep.size, fun o => ?_, fun j s' hj hg hbl => ?_⟩
    · cases e : V w.heap.size o with
      | none => rfl
      | some v => exact absurd (h.view_lt e) (Nat.lt_irrefl _)
    · exact absurd (h.priv j s' _ hg hbl).1 (Nat.lt_irrefl _)
  · intro j s' b hj hg hbl
    exact heap_alloc_old (h.priv j s' b hg hbl).1
/-- A new object that lies nowhere. -/
theorem Sat.newNone (h : Sat W0 V0 Own V G w μ) {k : Nat} {s : Sh} {ob : Ob} (hm : μ k = none) (hb : s.block = none)
    (hob : ObOk V (fun j => if j = k then some s else G j) w s ob) :
    Sat W0 V0 Own V (fun j => if j = k then some s else G j) w (fun j => if j = k then some ob else μ j) := by
  refine h.upd h.keep h.view (Ctx.le_new (h.fresh hm)) hob ?_ (fun b hb' => by rw [hb] at hb'; cases hb') (Nat.le_refl _) (fun _ _ _ _ _ _ => rfl)
  intro b hb'
  rw [hb] at hb'
  cases hb'
end
end Go.AM
