/- Rows and cells: what a list of abstract values says of what lies in memory. -/
import Derived.Test.YtmmgdilhbkklpaaAMA
namespace Go.AM
open Go
set_option linter.unusedVariables false

theorem RepPL.length {V : View} : ∀ {x : List AV} {v : List Value}, RepPL V x v → v.length = x.length
  | [], v, h => by simp only [RepPL] at h; subst h; rfl
  | x :: xs, v, h => by
    simp only [RepPL] at h
    obtain ⟨u, r, e, p, q⟩ := h
    rw [e, List.length_cons, List.length_cons, RepPL.length q]
theorem RepPL.get {V : View} : ∀ {x : List AV} {v : List Value} {i : Nat} {y : AV}, RepPL V x v → x[i]? = some y → ∃ u, v[i]? = some u ∧ RepP V y u
  | [], v, i, y, h, hi => by simp at hi
  | x :: xs, v, i, y, h, hi => by
    simp only [RepPL] at h
    obtain ⟨u, r, rfl, p, q⟩ := h
    cases i with
    | zero => simp at hi; subst hi; exact ⟨u, rfl, p⟩
    | succ i => exact RepPL.get (i := i) q (by simpa using hi)
theorem RepPL.append {V : View} : ∀ {x y : List AV} {v u : List Value}, RepPL V x v → RepPL V y u → RepPL V (x ++ y) (v ++ u)
  | [], y, v, u, h, h' => by simp only [RepPL] at h; subst h; exact h'
  | x :: xs, y, v, u, h, h' => by
    simp only [RepPL, List.cons_append] at h ⊢
    obtain ⟨w, r, rfl, p, q⟩ := h
    exact ⟨w, r ++ u, rfl, p, RepPL.append q h'⟩
theorem RepPL.drop {V : View} : ∀ {x : List AV} {v : List Value} (n : Nat), RepPL V x v → RepPL V (x.drop n) (v.drop n)
  | [], v, n, h => by simp only [RepPL] at h; subst h; simp [RepPL]
  | x :: xs, v, 0, h => h
  | x :: xs, v, n + 1, h => by
    simp only [RepPL] at h
    obtain ⟨u, r, rfl, p, q⟩ := h
    exact RepPL.drop n q
theorem RepPL.take {V : View} : ∀ {x : List AV} {v : List Value} (n : Nat), RepPL V x v → RepPL V (x.take n) (v.take n)
  | [], v, n, h => by simp only [RepPL] at h; subst h; simp [RepPL]
  | x :: xs, v, 0, h => by simp [RepPL]
  | x :: xs, v, n + 1, h => by
    simp only [RepPL] at h
    obtain ⟨u, r, rfl, p, q⟩ := h
    simp only [List.take_succ_cons, RepPL]
    exact ⟨u, _, rfl, p, RepPL.take n q⟩
theorem RepL.length {V : View} {G : Ctx} : ∀ {x : List AV} {v : List Value}, RepL V G x v → v.length = x.length
  | [], v, h => by simp only [RepL] at h; subst h; rfl
  | x :: xs, v, h => by
    simp only [RepL] at h
    obtain ⟨u, r, e, p, q⟩ := h
    rw [e, List.length_cons, List.length_cons, RepL.length q]
theorem RepL.get {V : View} {G : Ctx} : ∀ {x : List AV} {v : List Value} {i : Nat} {y : AV}, RepL V G x v → x[i]? = some y → ∃ u, v[i]? = some u ∧ Rep V G y u
  | [], v, i, y, h, hi => by simp at hi
  | x :: xs, v, i, y, h, hi => by
    simp only [RepL] at h
    obtain ⟨u, r, rfl, p, q⟩ := h
    cases i with
    | zero => simp at hi; subst hi; exact ⟨u, rfl, p⟩
    | succ i => exact RepL.get (i := i) q (by simpa using hi)
theorem RepL.append {V : View} {G : Ctx} : ∀ {x y : List AV} {v u : List Value}, RepL V G x v → RepL V G y u → RepL V G (x ++ y) (v ++ u)
  | [], y, v, u, h, h' => by simp only [RepL] at h; subst h; exact h'
  | x :: xs, y, v, u, h, h' => by
    simp only [RepL, List.cons_append] at h ⊢
    obtain ⟨w, r, rfl, p, q⟩ := h
    exact ⟨w, r ++ u, rfl, p, RepL.append q h'⟩
theorem RepL.set {V : View} {G : Ctx} : ∀ {x : List AV} {v : List Value} (i : Nat) {y : AV} {u : Value}, RepL V G x v → Rep V G y u → RepL V G (x.set i y) (v.set i u)
  | [], v, i, y, u, h, h' => by simp only [RepL] at h; subst h; simp [RepL]
  | x :: xs, v, 0, y, u, h, h' => by
    simp only [RepL] at h
    obtain ⟨w, r, rfl, p, q⟩ := h
    simp only [List.set_cons_zero, RepL]
    exact ⟨u, r, rfl, h', q⟩
  | x :: xs, v, i + 1, y, u, h, h' => by
    simp only [RepL] at h
    obtain ⟨w, r, rfl, p, q⟩ := h
    simp only [List.set_cons_succ, RepL]
    exact ⟨w, _, rfl, p, RepL.set i q h'⟩

theorem RepC.get {V : View} {L : Nat → Option Value} : ∀ {x : List AV} {o j : Nat} {y : AV}, RepC V L o x → x[j]? = some y → ∃ v, L (o + j) = some v ∧ RepP V y v ∧ v.oneCell' = true
  | [], o, j, y, h, hj => by simp at hj
  | x :: xs, o, j, y, h, hj => by
    simp only [RepC] at h
    cases j with
    | zero => simp at hj; subst hj; exact h.1
    | succ j =>
      have := RepC.get (j := j) h.2 (by simpa using hj)
      rwa [show o + 1 + j = o + (j + 1) by omega] at this
theorem RepC.drop {V : View} {L : Nat → Option Value} : ∀ {x : List AV} {o : Nat} (n : Nat), RepC V L o x → RepC V L (o + n) (x.drop n)
  | [], o, n, h => by simp [RepC]
  | x :: xs, o, 0, h => h
  | x :: xs, o, n + 1, h => by
    simp only [RepC] at h
    have := RepC.drop n h.2
    rwa [show o + 1 + n = o + (n + 1) by omega] at this
theorem RepC.take {V : View} {L : Nat → Option Value} : ∀ {x : List AV} {o : Nat} (n : Nat), RepC V L o x → RepC V L o (x.take n)
  | [], o, n, h => by simp [RepC]
  | x :: xs, o, 0, h => by simp [RepC]
  | x :: xs, o, n + 1, h => by
    simp only [List.take_succ_cons, RepC] at h ⊢
    exact ⟨h.1, RepC.take n h.2⟩
theorem RepC.append {V : View} {L : Nat → Option Value} : ∀ {x y : List AV} {o : Nat}, RepC V L o x → RepC V L (o + x.length) y → RepC V L o (x ++ y)
  | [], y, o, h, h' => by simpa using h'
  | x :: xs, y, o, h, h' => by
    simp only [List.cons_append, RepC] at h ⊢
    refine ⟨h.1, RepC.append h.2 ?_⟩
    rwa [show o + 1 + xs.length = o + (x :: xs).length by simp; omega]
/-- The values themselves. -/
theorem RepC.vals {V : View} {L : Nat → Option Value} : ∀ {x : List AV} {o : Nat}, RepC V L o x → ∃ us : List Value, RepPL V x us ∧ (∀ j u, us[j]? = some u → L (o + j) = some u ∧ u.oneCell' = true)
  | [], o, h => ⟨[], by simp [RepPL], fun j u hu => by simp at hu⟩
  | x :: xs, o, h => by
    simp only [RepC] at h
    obtain ⟨⟨v, e, p, l⟩, q⟩ := h
    obtain ⟨us, hp, hu⟩ := RepC.vals q
    refine ⟨v :: us, by simp only [RepPL]; exact ⟨v, us, rfl, p, hp⟩, fun j u hj => ?_⟩
    cases j with
    | zero => simp at hj; subst hj; exact ⟨e, l⟩
    | succ j =>
      have := hu j u (by simpa using hj)
      rwa [show o + 1 + j = o + (j + 1) by omega] at this
theorem RepC.of_vals {V : View} {L : Nat → Option Value} : ∀ {x : List AV} {us : List Value} {o : Nat}, RepPL V x us → (∀ j u, us[j]? = some u → L (o + j) = some u ∧ u.oneCell' = true) → RepC V L o x
  | [], us, o, h, hl => by simp [RepC]
  | x :: xs, us, o, h, hl => by
    simp only [RepPL] at h
    obtain ⟨u, r, rfl, p, q⟩ := h
    simp only [RepC]
    refine ⟨⟨u, (hl 0 u rfl).1, p, (hl 0 u rfl).2⟩, RepC.of_vals q fun j v hv => ?_⟩
    have := hl (j + 1) v (by simpa using hv)
    rwa [show o + (j + 1) = o + 1 + j by omega] at this
theorem RepC.local {V : View} {L L' : Nat → Option Value} : ∀ {x : List AV} {o : Nat}, RepC V L o x → (∀ j, o ≤ j → j < o + x.length → L' j = L j) → RepC V L' o x
  | [], o, h, hl => by simp [RepC]
  | x :: xs, o, h, hl => by
    simp only [RepC] at h ⊢
    obtain ⟨⟨v, e, p, l⟩, q⟩ := h
    refine ⟨⟨v, by rw [hl o (Nat.le_refl _) (by simp)]; exact e, p, l⟩, RepC.local q fun j h1 h2 => hl j (by omega) (by simp only [List.length_cons]; omega)⟩

theorem RepR.get {V : View} {L : Nat → Option Value} : ∀ {xs : List (List AV)} {esz o i : Nat} {c : List AV}, RepR V L esz o xs → xs[i]? = some c → c.length = esz ∧ RepC V L (o + i * esz) c
  | [], esz, o, i, c, h, hi => by simp at hi
  | x :: xs, esz, o, i, c, h, hi => by
    simp only [RepR] at h
    cases i with
    | zero => simp at hi; subst hi; simpa using ⟨h.1, h.2.1⟩
    | succ i =>
      have := RepR.get (i := i) h.2.2 (by simpa using hi)
      rwa [show o + esz + i * esz = o + (i + 1) * esz by rw [Nat.add_mul]; omega] at this
theorem RepR.of_get {V : View} {L : Nat → Option Value} : ∀ {xs : List (List AV)} {esz o : Nat}, (∀ i c, xs[i]? = some c → c.length = esz ∧ RepC V L (o + i * esz) c) → RepR V L esz o xs
  | [], esz, o, h => by simp [RepR]
  | x :: xs, esz, o, h => by
    simp only [RepR]
    have h0 := h 0 x rfl
    refine ⟨h0.1, by simpa using h0.2, RepR.of_get fun i c hi => ?_⟩
    have := h (i + 1) c (by simpa using hi)
    rwa [show o + (i + 1) * esz = o + esz + i * esz by rw [Nat.add_mul]; omega] at this
theorem RepR.drop {V : View} {L : Nat → Option Value} {xs : List (List AV)} {esz o : Nat} (n : Nat) (h : RepR V L esz o xs) : RepR V L esz (o + n * esz) (xs.drop n) := by
  refine RepR.of_get fun i c hi => ?_
  rw [List.getElem?_drop] at hi
  have := h.get hi
  rwa [show o + n * esz + i * esz = o + (n + i) * esz by rw [Nat.add_mul]; omega]
theorem RepR.take {V : View} {L : Nat → Option Value} {xs : List (List AV)} {esz o : Nat} (n : Nat) (h : RepR V L esz o xs) : RepR V L esz o (xs.take n) := by
  refine RepR.of_get fun i c hi => ?_
  rw [List.getElem?_take] at hi
  split at hi
  · exact h.get hi
  · cases hi
theorem RepR.append {V : View} {L : Nat → Option Value} {xs ys : List (List AV)} {esz o : Nat} (h : RepR V L esz o xs) (k : RepR V L esz (o + xs.length * esz) ys) : RepR V L esz o (xs ++ ys) := by
  refine RepR.of_get fun i c hi => ?_
  rcases Nat.lt_or_ge i xs.length with hl | hl
  · rw [List.getElem?_append_left hl] at hi
    exact h.get hi
  · rw [List.getElem?_append_right hl] at hi
    have := k.get hi
    rwa [show o + xs.length * esz + (i - xs.length) * esz = o + i * esz by rw [Nat.add_assoc, ← Nat.add_mul]; congr 2; omega] at this
theorem mul_lt_of {i n esz j : Nat} (hi : i < n) (hj : j < esz) : i * esz + j < n * esz := by
  have : (i + 1) * esz ≤ n * esz := Nat.mul_le_mul_right _ hi
  rw [Nat.add_mul] at this
  omega
theorem RepR.local {V : View} {L L' : Nat → Option Value} {xs : List (List AV)} {esz o : Nat} (h : RepR V L esz o xs) (hl : ∀ j, o ≤ j → j < o + xs.length * esz → L' j = L j) : RepR V L' esz o xs := by
  refine RepR.of_get fun i c hi => ?_
  obtain ⟨h1, h2⟩ := h.get hi
  have hlt : i < xs.length := (List.getElem?_eq_some_iff.1 hi).1
  refine ⟨h1, h2.local fun j h3 h4 => hl j (by omega) ?_⟩
  have : (i + 1) * esz ≤ xs.length * esz := Nat.mul_le_mul_right _ hlt
  rw [Nat.add_mul] at this
  omega

/-- The cells of a value. -/
def cellsOf : AV → List AV
  | .agg cs => cs
  | x => [x]
theorem RepPL.single {V : View} {x : AV} {v : Value} (h : RepP V x v) : RepPL V [x] [v] := by
  simp only [RepPL]
  exact ⟨v, [], rfl, h, rfl⟩
theorem RepP.cells {V : View} {x : AV} {v : Value} (h : RepP V x v) : RepPL V (cellsOf x) v.cells.toList := by
  have h0 := RepPL.single h
  cases x <;> simp only [RepP] at h
  case agg cs =>
    obtain ⟨us, rfl, p⟩ := h
    simpa [cellsOf, Value.cells] using p
  all_goals first
    | exact h.elim
    | (subst h; exact h0)
    | skip
  case sl xs => obtain ⟨a, cap, rfl, q⟩ := h; exact h0
  case fl xs => obtain ⟨a, rfl, q⟩ := h; exact h0
  case rp xs => obtain ⟨a, cap, rfl, q⟩ := h; exact h0
  case fn f xs => obtain ⟨cv, rfl, q⟩ := h; exact h0
  case ifc t x => obtain ⟨cv, rfl, q⟩ := h; exact h0
  case tup x => obtain ⟨cv, rfl, q⟩ := h; exact h0
  case anyb => obtain ⟨b, rfl⟩ := h; exact h0
/-- May a value lie in one cell? -/
def oneA : AV → Bool
  | .agg _ | .tup _ | .mag _ | .dead => false
  | _ => true
def oneAL : List AV → Bool
  | [] => true
  | x :: xs => oneA x && oneAL xs
theorem RepP.one {V : View} {x : AV} {v : Value} (h : RepP V x v) (ho : oneA x = true) : v.oneCell' = true := by
  cases x <;> simp only [RepP] at h <;> first
    | (simp [oneA] at ho; done)
    | (subst h; rfl)
    | exact h.elim
    | skip
  case sl xs => obtain ⟨a, cap, rfl, q⟩ := h; rfl
  case fl xs => obtain ⟨a, rfl, q⟩ := h; rfl
  case rp xs => obtain ⟨a, cap, rfl, q⟩ := h; rfl
  case fn f xs => obtain ⟨cv, rfl, q⟩ := h; rfl
  case ifc t x => obtain ⟨cv, rfl, q⟩ := h; rfl
  case anyb => obtain ⟨b, rfl⟩ := h; rfl
theorem Rep.one {V : View} {G : Ctx} {x : AV} {v : Value} (h : Rep V G x v) (ho : oneA x = true) : v.oneCell' = true := by
  cases x <;> simp only [Rep] at h <;> first
    | exact RepP.one h ho
    | (simp [oneA] at ho; done)
    | skip
  case ref k off => obtain ⟨b, _, rfl⟩ := h; rfl
  case fn f caps => obtain ⟨cv, rfl, q⟩ := h; rfl
  case hs k v o l => obtain ⟨⟨a, cap, rfl⟩, q⟩ := h; rfl
  case er k v o l => obtain ⟨⟨a, b, rfl⟩, q⟩ := h; rfl
  case mif t x => obtain ⟨u, rfl, q⟩ := h; rfl
theorem RepL.of_single {V : View} {G : Ctx} {x : AV} {v : Value} (h : Rep V G x v) : RepL V G [x] [v] := by
  simp only [RepL]
  exact ⟨v, [], rfl, h, rfl⟩
theorem RepPL.repL {V : View} (G : Ctx) : ∀ {x : List AV} {v : List Value}, RepPL V x v → RepL V G x v := fun h => RepPL.rep G h
/-- The cells of a value, some of which may be the function's own. -/
def cellsM : AV → List AV
  | .agg cs => cs
  | .mag cs => cs
  | x => [x]
def cellM : AV → Bool
  | .agg _ | .mag _ => true
  | x => oneA x
theorem Rep.cellsM {V : View} {G : Ctx} {x : AV} {v : Value} (h : Rep V G x v) (ho : cellM x = true) : RepL V G (Go.AM.cellsM x) v.cells.toList := by
  have h0 := RepL.of_single h
  have key : oneA x = true → v.cells.toList = [v] := by
    intro h1
    have h1c := h.one h1
    cases v <;> simp [Value.cells, Value.oneCell'] at h1c ⊢
  cases x
  case agg cs =>
    simp only [Rep, RepP] at h
    obtain ⟨us, rfl, p⟩ := h
    simpa [Go.AM.cellsM, Value.cells] using RepPL.rep G p
  case mag cs =>
    simp only [Rep] at h
    obtain ⟨us, rfl, p⟩ := h
    simpa [Go.AM.cellsM, Value.cells] using p
  all_goals first
    | (rw [key (by simpa only [cellM] using ho)]; exact h0)
    | (simp [cellM, oneA] at ho; done)
theorem RepL.oneAll {V : View} {G : Ctx} {cs : List AV} {us : List Value} (h : RepL V G cs us) (ho : oneAL cs = true) : ∀ x ∈ us, x.oneCell' = true := by
  induction cs generalizing us with
  | nil => simp only [RepL] at h; subst h; intro x hx; cases hx
  | cons c cs ih =>
    simp only [RepL] at h
    obtain ⟨y, r, rfl, p, q⟩ := h
    simp only [oneAL, Bool.and_eq_true] at ho
    intro x hx
    rcases List.mem_cons.1 hx with rfl | hx
    · exact p.one ho.1
    · exact ih q ho.2 x hx
theorem RepL.take {V : View} {G : Ctx} : ∀ {x : List AV} {v : List Value} (n : Nat), RepL V G x v → RepL V G (x.take n) (v.take n)
  | [], v, n, h => by simp only [RepL] at h; subst h; simp [RepL]
  | x :: xs, v, 0, h => by simp [RepL]
  | x :: xs, v, n + 1, h => by
    simp only [RepL] at h
    obtain ⟨u, r, rfl, p, q⟩ := h
    simp only [List.take_succ_cons, RepL]
    exact ⟨u, _, rfl, p, RepL.take n q⟩
end Go.AM
