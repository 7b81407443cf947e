import Derived.Test.YtmmgdilhbkklpaaAND
namespace Go.Proofs.Ytmmgdilhbkklpaa.X
open Go Go.AM Go.Proofs
set_option linter.unusedVariables false
set_option linter.unusedSimpArgs false
/-! Plain heaps. -/
structure It where
  key : Int
  value : Int
  deriving DecidableEq
instance : Inhabited It := ⟨⟨0, 0⟩⟩
def bef (a b : It) : Bool := if a.key = b.key then decide (a.value < b.value) else decide (a.key > b.key)
theorem bef_iff (a b : It) : bef a b = true ↔ a.key > b.key ∨ (a.key = b.key ∧ a.value < b.value) := by
  unfold bef
  split
  · rename_i h; simp [h]
  · rename_i h; simp [h]
theorem bef_not (a b : It) : bef a b = false ↔ ¬ (a.key > b.key ∨ (a.key = b.key ∧ a.value < b.value)) := by
  rw [← bef_iff]; simp
theorem bef_irrefl (a : It) : bef a a = false := by rw [bef_not]; omega
theorem bef_asymm {a b : It} (h : bef a b = true) : bef b a = false := by rw [bef_iff] at h; rw [bef_not]; omega
theorem bef_ntrans {a b c : It} (h : bef a b = false) (k : bef b c = false) : bef a c = false := by rw [bef_not] at *; omega
theorem bef_eq {a b : It} (h : bef a b = false) (k : bef b a = false) : a = b := by
  rw [bef_not] at h k
  obtain ⟨x, y⟩ := a
  obtain ⟨z, w⟩ := b
  simp only [It.mk.injEq] at *
  omega
def swp (l : List It) (i j : Nat) : List It := (l.set i l[j]!).set j l[i]!
theorem swp_len (l : List It) (i j : Nat) : (swp l i j).length = l.length := by simp [swp]
theorem bang {l : List It} {i : Nat} (h : i < l.length) : l[i]? = some l[i]! := by simp [h]
theorem swp_get {l : List It} {i j k : Nat} (hi : i < l.length) (hj : j < l.length) (hk : k < l.length) : (swp l i j)[k]! = if k = j then l[i]! else if k = i then l[j]! else l[k]! := by
  have hk' : k < (swp l i j).length := by rw [swp_len]; exact hk
  have := bang hk'
  unfold swp at this ⊢
  rw [List.getElem?_set, List.getElem?_set] at this
  by_cases h1 : k = j
  · subst h1
    rw [if_pos rfl, if_pos (by simpa using hk)] at this
    rw [if_pos rfl]
    exact (Option.some.inj this).symm
  · rw [if_neg (Ne.symm h1)] at this
    rw [if_neg h1]
    by_cases h2 : k = i
    · subst h2
      rw [if_pos rfl, if_pos (by simpa using hk)] at this
      rw [if_pos rfl]
      exact (Option.some.inj this).symm
    · rw [if_neg (Ne.symm h2), bang hk] at this
      rw [if_neg h2]
      exact (Option.some.inj this).symm
theorem swp_perm {l : List It} {i j : Nat} (hi : i < l.length) (hj : j < l.length) : (swp l i j).Perm l := by
  rw [List.perm_iff_count]
  intro x
  unfold swp
  have e1 : l[i]! = l[i] := by simp [hi]
  have e2 : l[j]! = l[j] := by simp [hj]
  rw [e1, e2, List.count_set (by simpa using hj), List.count_set hi, List.getElem_set]
  have c1 : (if l[i] == x then 1 else 0) ≤ l.count x := by
    split
    · rename_i h
      have hm := List.getElem_mem hi
      rw [eq_of_beq h] at hm
      exact List.count_pos_iff.2 hm
    · exact Nat.zero_le _
  by_cases h : i = j
  · subst h
    rw [if_pos rfl]
    by_cases h1 : l[i] == x
    · simp only [h1, if_true] at *
      omega
    · simp only [h1] at *
      simp only [Bool.false_eq_true, if_false]
      omega
  · rw [if_neg h]
    by_cases h1 : l[i] == x <;> by_cases h2 : l[j] == x
    · simp only [h1, h2, if_true] at *
      omega
    · simp only [h1, h2, if_true] at *
      simp only [Bool.false_eq_true, if_false]
      omega
    · simp only [h1, h2, if_true] at *
      simp only [Bool.false_eq_true, if_false]
      omega
    · simp only [h1, h2] at *
      simp only [Bool.false_eq_true, if_false]
      omega
/-- The best child of i, of whom j1 is the first. -/
def kid (l : List It) (j1 n : Nat) : Nat := if j1 + 1 < n ∧ bef l[j1 + 1]! l[j1]! = true then j1 + 1 else j1
def downF : Nat → List It → Nat → Nat → List It
  | 0, l, _, _ => l
  | k + 1, l, i, n => if 2 * i + 1 < n then (if bef l[kid l (2 * i + 1) n]! l[i]! = true then downF k (swp l i (kid l (2 * i + 1) n)) (kid l (2 * i + 1) n) n else l) else l
def upF : Nat → List It → Nat → List It
  | 0, l, _ => l
  | k + 1, l, j => if j ≠ 0 ∧ bef l[j]! l[(j - 1) / 2]! = true then upF k (swp l ((j - 1) / 2) j) ((j - 1) / 2) else l
theorem kid_or (l : List It) (j1 n : Nat) : kid l j1 n = j1 ∨ (kid l j1 n = j1 + 1 ∧ j1 + 1 < n) := by
  unfold kid
  split
  · rename_i h; exact .inr ⟨rfl, h.1⟩
  · exact .inl rfl
theorem downF_len : ∀ (k : Nat) (l : List It) (i n : Nat), (downF k l i n).length = l.length
  | 0, l, i, n => rfl
  | k + 1, l, i, n => by
    simp only [downF]
    split
    · split
      · rw [downF_len, swp_len]
      · rfl
    · rfl
theorem upF_len : ∀ (k : Nat) (l : List It) (j : Nat), (upF k l j).length = l.length
  | 0, l, j => rfl
  | k + 1, l, j => by
    simp only [upF]
    split
    · rw [upF_len, swp_len]
    · rfl
theorem downF_perm : ∀ (k : Nat) (l : List It) (i n : Nat), n ≤ l.length → (downF k l i n).Perm l
  | 0, l, i, n, _ => List.Perm.refl _
  | k + 1, l, i, n, h => by
    simp only [downF]
    split
    · rename_i h1
      split
      · have := kid_or l (2 * i + 1) n
        exact (downF_perm k _ _ n (by rw [swp_len]; exact h)).trans (swp_perm (by omega) (by omega))
      · exact List.Perm.refl _
    · exact List.Perm.refl _
theorem upF_perm : ∀ (k : Nat) (l : List It) (j : Nat), j < l.length → (upF k l j).Perm l
  | 0, l, j, _ => List.Perm.refl _
  | k + 1, l, j, h => by
    simp only [upF]
    split
    · exact (upF_perm k _ _ (by rw [swp_len]; omega)).trans (swp_perm (by omega) h)
    · exact List.Perm.refl _
/-- What lies from n on stays. -/
theorem downF_rest : ∀ (k : Nat) (l : List It) (i n j : Nat), n ≤ l.length → n ≤ j → j < l.length → (downF k l i n)[j]! = l[j]!
  | 0, l, i, n, j, _, _, _ => rfl
  | k + 1, l, i, n, j, h, hj, hl => by
    simp only [downF]
    split
    · rename_i h1
      split
      · have := kid_or l (2 * i + 1) n
        rw [downF_rest k _ _ n j (by rw [swp_len]; exact h) hj (by rw [swp_len]; exact hl), swp_get (by omega) (by omega) hl, if_neg (by omega), if_neg (by omega)]
      · rfl
    · rfl
def HeapFrom (l : List It) (n s : Nat) : Prop := ∀ p c, s ≤ p → (c = 2 * p + 1 ∨ c = 2 * p + 2) → c < n → bef l[c]! l[p]! = false
theorem down_inv : ∀ (k : Nat) (l : List It) (j n s : Nat), n ≤ l.length → n ≤ k + j → s ≤ j →
    (∀ p c, s ≤ p → p ≠ j → (c = 2 * p + 1 ∨ c = 2 * p + 2) → c < n → bef l[c]! l[p]! = false) →
    (∀ p c, s ≤ p → (j = 2 * p + 1 ∨ j = 2 * p + 2) → (c = 2 * j + 1 ∨ c = 2 * j + 2) → c < n → bef l[c]! l[p]! = false) → HeapFrom (downF k l j n) n s
  | 0, l, j, n, s, hn, hk, hs, h1, h2 => by
    intro p c hp hc hcn
    by_cases e : p = j
    · omega
    · exact h1 p c hp e hc hcn
  | k + 1, l, j, n, s, hn, hk, hs, h1, h2 => by
    simp only [downF]
    split
    · rename_i hj1
      have hko := kid_or l (2 * j + 1) n
      have hbest : ∀ c, (c = 2 * j + 1 ∨ c = 2 * j + 2) → c < n → bef l[c]! l[kid l (2 * j + 1) n]! = false := by
        intro c hc hcn
        unfold kid
        split
        · rename_i hb
          rcases hc with rfl | rfl
          · exact bef_asymm hb.2
          · exact bef_irrefl _
        · rename_i hb
          rcases hc with rfl | rfl
          · exact bef_irrefl _
          · cases hx : bef l[2 * j + 2]! l[2 * j + 1]! with
            | false => rfl
            | true => exact absurd ⟨hcn, hx⟩ hb
      generalize hm : kid l (2 * j + 1) n = m at hko hbest
      have hmn : m < n := by omega
      have hmj : m ≠ j := by omega
      split
      · rename_i hb
        have hg : ∀ x, x < n → (swp l j m)[x]! = if x = m then l[j]! else if x = j then l[m]! else l[x]! := fun x hx => swp_get (by omega) (by omega) (by omega)
        refine down_inv k (swp l j m) m n s (by rw [swp_len]; exact hn) (by omega) (by omega) ?_ ?_
        · intro p c hp hpm hc hcn
          rw [hg c hcn, hg p (by omega), if_neg hpm]
          by_cases e : p = j
          · subst e
            rw [if_pos rfl]
            by_cases ec : c = m
            · rw [if_pos ec]
              exact bef_asymm hb
            · rw [if_neg ec, if_neg (by omega)]
              exact hbest c hc hcn
          · rw [if_neg e, if_neg (show ¬ c = m by omega)]
            by_cases ec : c = j
            · rw [if_pos ec]
              exact h2 p m hp (by omega) (by omega) hmn
            · rw [if_neg ec]
              exact h1 p c hp e hc hcn
        · intro p c hp hpm hc hcn
          have : p = j := by omega
          subst this
          rw [hg c hcn, hg p (by omega), if_neg (by omega), if_neg (by omega), if_neg (by omega), if_pos rfl]
          exact h1 m c (by omega) hmj hc hcn
      · rename_i hb
        have hb : bef l[m]! l[j]! = false := by simpa using hb
        intro p c hp hc hcn
        by_cases e : p = j
        · subst e
          exact bef_ntrans (hbest c hc hcn) hb
        · exact h1 p c hp e hc hcn
    · intro p c hp hc hcn
      by_cases e : p = j
      · omega
      · exact h1 p c hp e hc hcn
theorem down_heap {l : List It} {n s : Nat} (hn : n ≤ l.length) (h : HeapFrom l n (s + 1)) : HeapFrom (downF (n - s) l s n) n s :=
  down_inv (n - s) l s n s hn (by omega) (Nat.le_refl _) (fun p c hp hne hc hcn => h p c (by omega) hc hcn) (fun p c hp hj hc hcn => by omega)
def initF : Nat → List It → List It
  | 0, l => l
  | i + 1, l => initF i (downF (l.length - i) l i l.length)
theorem initF_len : ∀ (i : Nat) (l : List It), (initF i l).length = l.length
  | 0, l => rfl
  | i + 1, l => by rw [initF, initF_len, downF_len]
theorem initF_perm : ∀ (i : Nat) (l : List It), (initF i l).Perm l
  | 0, l => List.Perm.refl _
  | i + 1, l => by
    rw [initF]
    exact (initF_perm i _).trans (downF_perm _ l _ _ (Nat.le_refl _))
theorem initF_heap : ∀ (i : Nat) (l : List It), HeapFrom l l.length i → HeapFrom (initF i l) l.length 0
  | 0, l, h => h
  | i + 1, l, h => by
    rw [initF]
    have h1 := down_heap (Nat.le_refl _) h
    have e := downF_len (l.length - i) l i l.length
    rw [← e] at h1
    have := initF_heap i _ (by rw [e] at h1 ⊢; exact h1)
    rwa [e] at this
def heapify (l : List It) : List It := initF (l.length / 2) l
theorem heapify_heap (l : List It) : HeapFrom (heapify l) l.length 0 := initF_heap _ l fun p c hp hc hcn => by omega
theorem heapify_perm (l : List It) : (heapify l).Perm l := initF_perm _ l
theorem heapify_len (l : List It) : (heapify l).length = l.length := initF_len _ l
theorem heap_root {l : List It} {n : Nat} (h : HeapFrom l n 0) : ∀ i, i < n → bef l[i]! l[0]! = false := by
  intro i
  induction i using Nat.strongRecOn with
  | _ i ih =>
    intro hi
    by_cases h0 : i = 0
    · subst h0; exact bef_irrefl _
    · have h1 := h ((i - 1) / 2) i (Nat.zero_le _) (by omega) hi
      exact bef_ntrans h1 (ih ((i - 1) / 2) (by omega) (by omega))
theorem up_heap : ∀ (k : Nat) (l : List It) (j : Nat), j ≤ k → j < l.length →
    (∀ p c, c ≠ j → (c = 2 * p + 1 ∨ c = 2 * p + 2) → c < l.length → bef l[c]! l[p]! = false) →
    (∀ p c, (j = 2 * p + 1 ∨ j = 2 * p + 2) → (c = 2 * j + 1 ∨ c = 2 * j + 2) → c < l.length → bef l[c]! l[p]! = false) → HeapFrom (upF k l j) l.length 0
  | 0, l, j, hk, hj, h1, h2 => by
    intro p c _ hc hcn
    exact h1 p c (by omega) hc hcn
  | k + 1, l, j, hk, hj, h1, h2 => by
    simp only [upF]
    split
    · rename_i hb
      obtain ⟨hj0, hb⟩ := hb
      have hg : ∀ x, x < l.length → (swp l ((j - 1) / 2) j)[x]! = if x = j then l[(j - 1) / 2]! else if x = (j - 1) / 2 then l[j]! else l[x]! := fun x hx => swp_get (by omega) hj hx
      have hlen := swp_len l ((j - 1) / 2) j
      have hq : j = 2 * ((j - 1) / 2) + 1 ∨ j = 2 * ((j - 1) / 2) + 2 := by omega
      generalize (j - 1) / 2 = q at hb hg hlen hq
      have := up_heap k (swp l q j) q (by omega) (by omega) ?_ ?_
      · rwa [hlen] at this
      · intro p c hcq hc hcn
        rw [hlen] at hcn
        rw [hg c hcn, hg p (by omega)]
        by_cases e : c = j
        · have : p = q := by omega
          subst this
          rw [if_pos e, if_neg (by omega), if_pos rfl]
          exact bef_asymm hb
        · rw [if_neg e, if_neg hcq]
          by_cases ep : p = j
          · rw [if_pos ep]
            exact h2 q c hq (by omega) hcn
          · rw [if_neg ep]
            by_cases eq : p = q
            · rw [if_pos eq]
              subst eq
              exact bef_ntrans (h1 p c e hc hcn) (bef_asymm hb)
            · rw [if_neg eq]
              exact h1 p c e hc hcn
      · intro p c hpq hc hcn
        rw [hlen] at hcn
        rw [hg c hcn, hg p (by omega), if_neg (show ¬ p = j by omega), if_neg (show ¬ p = q by omega)]
        by_cases e : c = j
        · rw [if_pos e]
          exact h1 p q (by omega) hpq (by omega)
        · rw [if_neg e, if_neg (by omega)]
          exact bef_ntrans (h1 q c e hc hcn) (h1 p q (by omega) hpq (by omega))
    · rename_i hb
      intro p c _ hc hcn
      by_cases e : c = j
      · subst e
        have hpe : (c - 1) / 2 = p := by omega
        rw [hpe] at hb
        cases hx : bef l[c]! l[p]! with
        | false => rfl
        | true => exact absurd ⟨by omega, hx⟩ hb
      · exact h1 p c e hc hcn
def pushF (l : List It) (x : It) : List It := upF l.length (l ++ [x]) l.length
theorem app_get {l : List It} {x : It} {i : Nat} (h : i < l.length) : (l ++ [x])[i]! = l[i]! := by
  have h1 : (l ++ [x])[i]? = l[i]? := List.getElem?_append_left h
  rw [bang h, bang (by simp; omega)] at h1
  exact Option.some.inj h1
theorem pushF_perm (l : List It) (x : It) : (pushF l x).Perm (x :: l) := (upF_perm _ _ _ (by simp)).trans (List.perm_append_comm (l₁ := l) (l₂ := [x]))
theorem pushF_len (l : List It) (x : It) : (pushF l x).length = l.length + 1 := by rw [pushF, upF_len]; simp
theorem pushF_heap {l : List It} {x : It} (h : HeapFrom l l.length 0) : HeapFrom (pushF l x) (l.length + 1) 0 := by
  have := up_heap l.length (l ++ [x]) l.length (Nat.le_refl _) (by simp) (fun p c hc hcc hcn => by
    simp at hcn
    rw [app_get (by omega), app_get (by omega)]
    exact h p c (Nat.zero_le _) hcc (by omega)) (fun p c _ hc hcn => by simp at hcn; omega)
  simpa [pushF] using this
/-- The items that are left behind a pop: those ahead of the last one. -/
def popF (l : List It) : List It := downF (l.length - 1) (swp l 0 (l.length - 1)) 0 (l.length - 1)
theorem popF_len (l : List It) : (popF l).length = l.length := by rw [popF, downF_len, swp_len]
theorem popF_last {l : List It} (h : 0 < l.length) : (popF l)[l.length - 1]! = l[0]! := by
  rw [popF, downF_rest _ _ _ _ _ (by rw [swp_len]; omega) (Nat.le_refl _) (by rw [swp_len]; omega), swp_get h (by omega) (by omega), if_pos rfl]
theorem take_last {l : List It} (h : 0 < l.length) : l = l.take (l.length - 1) ++ [l[l.length - 1]!] := by
  have h1 : l.take (l.length - 1 + 1) = l.take (l.length - 1) ++ [l[l.length - 1]!] := by
    rw [List.take_add_one, bang (by omega)]
    rfl
  rw [show l.length - 1 + 1 = l.length by omega, List.take_length] at h1
  exact h1
theorem popF_perm {l : List It} (h : 0 < l.length) : l.Perm (l[0]! :: (popF l).take (l.length - 1)) := by
  have h1 : (popF l).Perm l := (downF_perm _ _ _ _ (by rw [swp_len]; omega)).trans (swp_perm h (by omega))
  have h2 := take_last (l := popF l) (by rw [popF_len]; exact h)
  rw [popF_len, popF_last h] at h2
  rw [h2] at h1
  exact h1.symm.trans (List.perm_append_comm (l₁ := (popF l).take (l.length - 1)) (l₂ := [l[0]!]))
theorem take_get {l : List It} {i n : Nat} (h : i < n) (hn : n ≤ l.length) : (l.take n)[i]! = l[i]! := by
  have h1 : (l.take n)[i]? = l[i]? := by rw [List.getElem?_take, if_pos h]
  rw [bang (l := l.take n) (by rw [List.length_take]; omega), bang (l := l) (by omega)] at h1
  exact Option.some.inj h1
theorem popF_heap {l : List It} (h : HeapFrom l l.length 0) (h0 : 0 < l.length) : HeapFrom ((popF l).take (l.length - 1)) (l.length - 1) 0 := by
  have hs : HeapFrom (swp l 0 (l.length - 1)) (l.length - 1) 1 := by
    intro p c hp hc hcn
    rw [swp_get h0 (by omega) (by omega), swp_get h0 (by omega) (by omega), if_neg (by omega), if_neg (by omega), if_neg (by omega), if_neg (by omega)]
    exact h p c (Nat.zero_le _) hc (by omega)
  have hd := down_heap (n := l.length - 1) (s := 0) (by rw [swp_len]; omega) hs
  intro p c hp hc hcn
  have hl := popF_len l
  rw [take_get hcn (by omega), take_get (by omega) (by omega)]
  exact hd p c hp hc hcn
end Go.Proofs.Ytmmgdilhbkklpaa.X
