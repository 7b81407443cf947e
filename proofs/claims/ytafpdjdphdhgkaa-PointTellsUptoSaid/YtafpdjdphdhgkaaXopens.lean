/- An argument that reads as data is what the printed words call a value of its kind: numbers, bools, texts, slices, structs; how much of it there is is at most the bulk of what was read. -/
import Derived.Test.YtafpdjdphdhgkaaRows
import Derived.Test.YtafpdjdphdhgkaaWWords
import Derived.WalkKit
import Derived.ProofKit
import Derived.OpenShut
namespace Go.Proofs.Ytafpdjdphdhgkaa.X
open Go.RowKit Go.Proofs.YtafpdjdphdhgkaaW.PrintWords
set_option linter.unusedVariables false

/-- What lies at a type reads as a value of kind d; m: how much of it there is; I: what is known of it. -/
structure Opens (P : Program) (t : TypeId) {α : Type} (d : Kd α) (m : α → Nat) (I : α → Prop) : Prop where
  size : P.cellsOf t = d.sz
  opn : ∀ {H : Type} (enc : TypeId × Value → H) (w : World) (base fuel : Nat) (cs : List Value) (D : DataW H) (ps : List MemPlace), DataW.trod enc P w base (fun _ => true) true fuel t cs = some (D, ps) → ∃ x, d.K w x cs ∧ m x ≤ Rows.uptoBulk D ∧ I x
theorem opens_int {P : Program} {t : TypeId} {k : IntKind} (ht : P.underlying t = some (.int k)) (hc : P.cellsOf t = 1) : Opens P t (Kd.int k) (fun _ => 1) (fun n => (Lit.int k n).wf = true) := by
  refine ⟨hc, ?_⟩
  intro H enc w base fuel cs D ps h
  obtain ⟨n, rfl, hx, hw⟩ := DataW.trod_int ht h
  cases hx
  exact ⟨n, rfl, by simp [Rows.uptoBulk], hw⟩
theorem opens_bool {P : Program} {t : TypeId} (ht : P.underlying t = some .bool) (hc : P.cellsOf t = 1) : Opens P t Kd.bool (fun _ => 1) (fun _ => True) := by
  refine ⟨hc, ?_⟩
  intro H enc w base fuel cs D ps h
  obtain ⟨b, rfl, hx⟩ := DataW.trod_bool ht h
  cases hx
  exact ⟨b, rfl, by simp [Rows.uptoBulk], trivial⟩
theorem opens_string {P : Program} {t : TypeId} (ht : P.underlying t = some .string) (hc : P.cellsOf t = 1) : Opens P t Kd.string (fun s => s.size + 1) (fun _ => True) := by
  refine ⟨hc, ?_⟩
  intro H enc w base fuel cs D ps h
  obtain ⟨s, rfl, hx, _⟩ := DataW.trod_string ht h
  cases hx
  refine ⟨s, rfl, ?_, trivial⟩
  simp only [Rows.uptoBulk, data_length]
  exact Nat.le_refl _
def sumM {α : Type} (m : α → Nat) : List α → Nat
  | [] => 0
  | x :: r => m x + sumM m r
theorem bulkAll_append {H : Type} (a b : List (DataW H)) : Rows.uptoBulkAll (a ++ b) = Rows.uptoBulkAll a + Rows.uptoBulkAll b := by
  induction a with
  | nil => simp [Rows.uptoBulkAll]
  | cons x r ih => simp [Rows.uptoBulkAll, ih]; omega
theorem mapM_get {α β : Type} {f : α → Option β} : ∀ {l : List α} {r : List β}, l.mapM f = some r → r.length = l.length ∧ ∀ (i : Nat) (x : α) (y : β), l[i]? = some x → r[i]? = some y → f x = some y := by
  intro l
  induction l with
  | nil =>
    intro r h
    simp at h
    subst h
    exact ⟨rfl, fun i x y hx => by simp at hx⟩
  | cons a l ih =>
    intro r h
    rw [List.mapM_cons] at h
    simp only [Option.bind_eq_bind, Option.bind_eq_some_iff, Option.pure_def, Option.some.injEq] at h
    obtain ⟨y, hy, ys, hys, rfl⟩ := h
    obtain ⟨h1, h2⟩ := ih hys
    refine ⟨by simp [h1], fun i x z hx hz => ?_⟩
    cases i with
    | zero => simp at hx hz; subst hx; subst hz; exact hy
    | succ i => exact h2 i x z (by simpa using hx) (by simpa using hz)
theorem cells_some {w : World} {base : Nat} {a : Addr} {n : Nat} {cs : List Value} (h : w.cells? base a n = some cs) : cs.length = n ∧ ∀ i u, cs[i]? = some u → w.cell? (a.add i) = some u := by
  unfold World.cells? at h
  split at h
  · obtain ⟨h1, h2⟩ := mapM_get h
    rw [List.length_range] at h1
    refine ⟨h1, fun i u hi => ?_⟩
    have hi' : i < cs.length := (List.getElem?_eq_some_iff.1 hi).1
    exact h2 i i u (by rw [List.getElem?_range (by omega)]) hi
  · cases h
theorem addr_add_add (a : Addr) (i j : Nat) : (a.add i).add j = a.add (i + j) := by
  unfold Addr.add
  by_cases h1 : i = 0 <;> by_cases h2 : j = 0 <;> simp [h1, h2, Nat.add_assoc]
theorem list_of {α : Type} (n : Nat) (Q : Nat → α → Prop) (h : ∀ i, i < n → ∃ x, Q i x) : ∃ l : List α, l.length = n ∧ ∀ i x, l[i]? = some x → Q i x := by
  induction n with
  | zero => exact ⟨[], rfl, fun i x hx => by simp at hx⟩
  | succ n ih =>
    obtain ⟨l, hl, hq⟩ := ih (fun i hi => h i (by omega))
    obtain ⟨x, hx⟩ := h n (by omega)
    refine ⟨l ++ [x], by simp [hl], fun i y hy => ?_⟩
    rcases Nat.lt_or_ge i n with h1 | h1
    · rw [List.getElem?_append_left (by omega)] at hy
      exact hq i y hy
    · have hi : i < (l ++ [x]).length := (List.getElem?_eq_some_iff.1 hy).1
      have : i = n := by simp [hl] at hi; omega
      subst this
      rw [List.getElem?_append_right (by omega), hl] at hy
      simp at hy
      subst hy
      exact hx
theorem sum_le {α H : Type} (m : α → Nat) : ∀ (l : List α) (ds : List (DataW H)), l.length = ds.length → (∀ (i : Nat) (x : α) (d : DataW H), l[i]? = some x → ds[i]? = some d → m x ≤ Rows.uptoBulk d) → sumM m l ≤ Rows.uptoBulkAll ds
  | [], [], _, _ => Nat.le_refl _
  | x :: l, d :: ds, hl, h => by
    have h0 := h 0 x d rfl rfl
    have h1 := sum_le m l ds (by simpa using hl) (fun i y e hy he => h (i + 1) y e (by simpa using hy) (by simpa using he))
    simp only [sumM, Rows.uptoBulkAll]
    omega
  | [], _ :: _, hl, _ => by simp at hl
  | _ :: _, [], hl, _ => by simp at hl
theorem opens_slice {P : Program} {t e : TypeId} {α : Type} {d : Kd α} {m : α → Nat} {I : α → Prop} (h : Opens P e d m I) (ht : P.underlying t = some (.slice e)) (hc : P.cellsOf t = 1) : Opens P t (Kd.slice e d) (fun l => sumM m l + 1) (fun l => ∀ x ∈ l, I x) := by
  refine ⟨hc, ?_⟩
  intro H enc w base fuel cs D ps hh
  rcases DataW.trod_slice ht hh with ⟨rfl, hx⟩ | ⟨a, len, cap, elems, rest, n, _, rfl, hx, hb, hl, hm, hlen, hel, _, _⟩
  · cases hx
    refine ⟨[], ⟨none, 0, rfl, by simp, ⟨rfl, by simp, fun hp => by simp at hp⟩⟩, by simp [sumM, Rows.uptoBulk], fun x hx => by simp at hx⟩
  · cases hx
    have each : ∀ i, i < len → ∃ x, ∃ c, c.length = d.sz ∧ d.K w x c ∧ (∀ j u, c[j]? = some u → w.cell? (a.add (i * d.sz + j)) = some u) ∧ (∀ y, elems[i]? = some y → m x ≤ Rows.uptoBulk y.1) ∧ I x := by
      intro i hi
      have hq := hel i hi
      have hi' : i < elems.length := by omega
      rw [List.getElem?_eq_getElem hi'] at hq
      obtain ⟨c, hcs, hd⟩ := Option.bind_eq_some_iff.mp hq
      obtain ⟨h1, h2⟩ := cells_some hcs
      obtain ⟨x, hK, hM, hI⟩ := h.opn enc w base n c _ _ hd
      refine ⟨x, c, by rw [h1, h.size], hK, fun j u hj => ?_, fun y hy => ?_, hI⟩
      · have := h2 j u hj
        rw [addr_add_add, h.size] at this
        exact this
      · rw [List.getElem?_eq_getElem hi'] at hy
        cases hy
        exact hM
    obtain ⟨l, hll, hq⟩ := list_of len _ each
    refine ⟨l, ⟨some a, cap, by rw [hll], by omega, ⟨rfl, ?_, fun _ => ⟨a, rfl, fun j p hj => ?_⟩⟩⟩, ?_, ?_⟩
    · simp only [maxLen] at hm
      omega
    · obtain ⟨c, h1, h2, h3, _⟩ := hq j p hj
      exact ⟨c, h1, h2, h3⟩
    · have := sum_le m l (elems.map (·.1)) (by simp [hll, hlen]) (fun i x d' hx hd' => by
        obtain ⟨c, h1, h2, h3, h4, _⟩ := hq i x hx
        rw [List.getElem?_map] at hd'
        obtain ⟨y, hy, rfl⟩ := Option.map_eq_some_iff.mp hd'
        exact h4 y hy)
      simp only [Rows.uptoBulk]
      omega
    · intro x hx
      obtain ⟨i, hi, rfl⟩ := List.mem_iff_getElem.mp hx
      obtain ⟨c, h1, h2, h3, h4, h5⟩ := hq i _ (List.getElem?_eq_getElem hi)
      exact h5
/-- The fields of a struct from a place on. -/
structure OpensAt (P : Program) (fs : List Field) (o : Nat) {α : Type} (d : Kd α) (m : α → Nat) (I : α → Prop) : Prop where
  opn : ∀ {H : Type} (enc : TypeId × Value → H) (w : World) (base fuel : Nat) (cs : List Value) (xs : List (DataW H × List MemPlace)), cs.length = o + d.sz → xs.length = fs.length →
    (∀ (i : Nat) (f : Field), fs[i]? = some f → DataW.trod enc P w base (fun _ => true) true fuel f.type ((cs.drop f.offset).take (P.cellsOf f.type)) = xs[i]?) →
    ∃ x, d.K w x (cs.drop o) ∧ m x ≤ Rows.uptoBulkAll (xs.map (·.1)) ∧ I x
theorem opensAt_one {P : Program} {f : Field} {o : Nat} {α : Type} {d : Kd α} {m : α → Nat} {I : α → Prop} (h : Opens P f.type d m I) (ho : f.offset = o) : OpensAt P [f] o d m I := by
  refine ⟨?_⟩
  intro H enc w base fuel cs xs hl hx hf
  obtain ⟨y, rfl⟩ : ∃ y, xs = [y] := by
    match xs, hx with
    | [y], _ => exact ⟨y, rfl⟩
  have h0 := hf 0 f rfl
  have e : (cs.drop f.offset).take (P.cellsOf f.type) = cs.drop o := by
    rw [ho, h.size]
    exact List.take_of_length_le (by rw [List.length_drop]; omega)
  rw [e] at h0
  obtain ⟨x, h1, h2, h3⟩ := h.opn enc w base fuel _ y.1 y.2 (by simpa using h0)
  exact ⟨x, h1, by simpa [Rows.uptoBulkAll] using h2, h3⟩
theorem opensAt_cons {P : Program} {f : Field} {fs : List Field} {o o' : Nat} {α β : Type} {d : Kd α} {d' : Kd β} {m : α → Nat} {m' : β → Nat} {I : α → Prop} {I' : β → Prop} (h : Opens P f.type d m I) (ho : f.offset = o) (ho' : o' = o + d.sz) (h' : OpensAt P fs o' d' m' I') : OpensAt P (f :: fs) o (Kd.pair d d') (fun x => m x.1 + m' x.2) (fun x => I x.1 ∧ I' x.2) := by
  subst ho'
  refine ⟨?_⟩
  intro H enc w base fuel cs xs hl hx hf
  match xs, hx with
  | y :: ys, hx =>
    have hl' : cs.length = o + (d.sz + d'.sz) := hl
    have h0 := hf 0 f rfl
    obtain ⟨x, h1, h2, h3⟩ := h.opn enc w base fuel _ y.1 y.2 (by simpa using h0)
    obtain ⟨x', h1', h2', h3'⟩ := h'.opn enc w base fuel cs ys (by omega) (by simpa using hx) (fun i g hg => by simpa using hf (i + 1) g (by simpa using hg))
    refine ⟨(x, x'), ⟨(cs.drop o).take d.sz, cs.drop (o + d.sz), ?_, ?_, h1'⟩, ?_, h3, h3'⟩
    · rw [← List.drop_drop, List.take_append_drop]
    · rw [ho, h.size] at h1
      exact h1
    · simp only [List.map_cons, Rows.uptoBulkAll]
      omega
theorem opens_struct {P : Program} {t : TypeId} {fs : Array Field} {α β : Type} {d : Kd α} {m : α → Nat} {I : α → Prop} (f : β → α) (g : α → β) (hfg : ∀ x, f (g x) = x) (h : OpensAt P fs.toList 0 d m I) (ht : P.underlying t = some (.struct fs)) (hc : P.cellsOf t = d.sz) : Opens P t (Kd.iso d f) (fun x => m (f x) + 1) (fun x => I (f x)) := by
  refine ⟨hc, ?_⟩
  intro H enc w base fuel cs D ps hh
  obtain ⟨xs, n, _, hx, hl, hlen, hf⟩ := DataW.trod_struct ht hh
  cases hx
  obtain ⟨x, h1, h2, h3⟩ := h.opn enc w base n cs xs (by omega) (by simpa using hlen) (fun i q hq => hf i q (by simpa using hq))
  refine ⟨g x, ?_, ?_, ?_⟩
  · show d.K w (f (g x)) cs
    rw [hfg]
    exact h1
  · simp only [hfg, Rows.uptoBulk]
    omega
  · rw [hfg]
    exact h3
end Go.Proofs.Ytafpdjdphdhgkaa.X
