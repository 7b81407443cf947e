/- The abstract machine's operations are the program's: append, clear, make, calls. -/
import Derived.Test.YtmmgdilhbkklpaaAMM
namespace Go.AM
open Go
set_option linter.unusedVariables false
set_option linter.unusedSimpArgs false
section
variable {W0 : World} {V0 : View} {Own : Fra} {P : Program} {o : Oper} {a : Act} {w : World} {V : View} {G : Ctx} {μ : Nat → Option Ob} {ρ : Arg → AV} {v : AV} {u : List (Nat × Ob)} {acc : Acc}
/-- What is appended: values, and where they lie. -/
structure Src (w : World) (esz m : Nat) (A : Option Addr) (news : List Value) : Prop where
  len : news.length = m * esz
  one : ∀ y ∈ news, y.oneCell' = true
  at_ : m = 0 ∨ ∃ b o, A = some ⟨b, o, none⟩ ∧ ∀ j y, news[j]? = some y → w.cell? ⟨b, o + j, none⟩ = some y
theorem Src.first {esz m c : Nat} {A : Option Addr} {news : List Value} (h : Src w esz m A news) : (Builtin.firstCells esz m (.slice A m c)).run P w = .ok news.toArray w := by
  rcases h.at_ with h0 | ⟨b, of, rfl, hc⟩
  · subst h0
    have hn : news = [] := List.eq_nil_of_length_eq_zero (by rw [h.len]; simp)
    subst hn
    cases A with
    | none => exact run_firstCells_none w esz 0 0 c
    | some A => exact run_firstCells_some w esz 0 A 0 c [] (by simp) (fun j v hv => by simp at hv)
  · exact run_firstCells_some w esz m _ m c news h.len (fun j y hy => by rw [add_lit]; exact hc j y hy)
/-- All values of rows. -/
theorem RepR.vals {L : Nat → Option Value} : ∀ {xs : List (List AV)} {esz o : Nat}, RepR V L esz o xs → ∃ us : List Value, RepPL V xs.flatten us ∧ us.length = xs.length * esz ∧ ∀ j u, us[j]? = some u → L (o + j) = some u ∧ u.oneCell' = true
  | [], esz, o, h => ⟨[], by simp [RepPL], by simp, fun j u hu => by simp at hu⟩
  | c :: r, esz, o, h => by
    simp only [RepR] at h
    obtain ⟨h1, h2, h3⟩ := h
    obtain ⟨us, p1, p2⟩ := h2.vals
    obtain ⟨vs, q1, q2, q3⟩ := RepR.vals h3
    have hul := p1.length
    refine ⟨us ++ vs, by rw [List.flatten_cons]; exact p1.append q1, by rw [List.length_append, List.length_cons, q2, hul, h1, Nat.add_mul]; omega, fun j u hu => ?_⟩
    rcases Nat.lt_or_ge j us.length with hj | hj
    · rw [List.getElem?_append_left hj] at hu
      exact p2 j u hu
    · rw [List.getElem?_append_right hj] at hu
      have := q3 _ _ hu
      rwa [show o + esz + (j - us.length) = o + j by omega] at this
theorem run_append_in {t ty e : TypeId} {i : TypeInfo} {esz len cap m c : Nat} {A A2 : Option Addr} {news : List Value} (ht : P.underlying t = some (.slice e)) (hi : P.info? e = some i) (hsz : i.size = esz) (hs : Src w esz m A2 news) (hroom : len + m ≤ cap)
    {b of : Nat} {us : List Value} {T : TypeId} (hA : m = 0 ∨ (A = some ⟨b, of, none⟩ ∧ w.heap[b]? = some (.cells us.toArray T (0, 0)) ∧ of + (len + m) * esz ≤ us.length)) :
    (Builtin.append_ #[t, t] ty #[.slice A len cap, .slice A2 m c]).run P w = .ok (.slice A (len + m) cap) (if m = 0 then w else w.setRow b (splice us (of + len * esz) news).toArray) := by
  have hf := hs.first (P := P) (c := c)
  subst hsz
  rcases hA with h0 | ⟨rfl, hh, hl⟩
  · subst h0
    have hn : news = [] := List.eq_nil_of_length_eq_zero (by rw [hs.len]; simp)
    subst hn
    cases A with
    | none => simp [Builtin.append_, run_underlying ht, sizeOf, typeInfo, hi, Builtin.lenOf, hf, show len ≤ cap by omega]
    | some A => simp [Builtin.append_, run_underlying ht, sizeOf, typeInfo, hi, Builtin.lenOf, hf, show len ≤ cap by omega, storeCells]
  · by_cases h0 : m = 0
    · subst h0
      have hn : news = [] := List.eq_nil_of_length_eq_zero (by rw [hs.len]; simp)
      subst hn
      simp [Builtin.append_, run_underlying ht, sizeOf, typeInfo, hi, Builtin.lenOf, hf, show len ≤ cap by omega, storeCells]
    · have hst := run_storeCells_at (P := P) b (of + len * i.size) T news 0 us.toArray w hh (by rw [hs.len]; simp; rw [Nat.add_mul] at hl; omega) hs.one
      simp only [Nat.add_zero] at hst
      simp only [if_neg h0, splice]
      simp [Builtin.append_, run_underlying ht, sizeOf, typeInfo, hi, Builtin.lenOf, hf, hroom, add_lit, hst]
theorem size_zeroCells' (z : Array Value) (n : Nat) : (Builtin.zeroCells z n).size = n * z.size := by simp [Builtin.zeroCells]
theorem run_append_out {t ty e : TypeId} {i : TypeInfo} {z : Value} {esz bytes len cap m c : Nat} {A A2 : Option Addr} {olds news : List Value} (ht : P.underlying t = some (.slice e)) (hi : P.info? e = some i) (hz : i.zero = some z) (hsz : i.size = esz) (hzs : z.cells.size = i.size) (hby : i.bytes = bytes) (hs : Src w esz m A2 news) (hgrow : cap < len + m)
    (hlc : len ≤ cap) (hb : (len + m) * bytes ≤ 140737488355328) (h63 : len + m ≤ 9223372036854775807)
    (holds : olds.length = len * esz) (hA : (A = none ∧ cap = 0) ∨ ∃ b : Addr, A = some b ∧ ∀ j y, olds[j]? = some y → w.cell? (b.add j) = some y) :
    ∃ (cap' : Nat) (us : List Value) (T : TypeId), len + m ≤ cap' ∧ us.length = cap' * esz ∧ (∃ r, us = olds ++ news ++ r) ∧
      (Builtin.append_ #[t, t] ty #[.slice A len cap, .slice A2 m c]).run P w = .ok (.slice (some ⟨w.heap.size, 0, none⟩) (len + m) cap') (w.drew.alloc (.cells us.toArray T)) := by
  have hm : m ≠ 0 := by omega
  obtain ⟨b2, o2, rfl, hc⟩ := hs.at_.resolve_left hm
  subst hsz
  subst hby
  have hge := grownCap_ge w (len + m) cap e
  have hlen : ∀ (k : Nat), len + m ≤ k → (olds ++ news ++ (Builtin.zeroCells z.cells (k - (len + m))).toList).length = k * i.size := by
    intro k hk
    rw [List.length_append, List.length_append, holds, hs.len, Array.length_toList, size_zeroCells', hzs, ← Nat.add_mul, ← Nat.add_mul]
    congr 1
    omega
  have hnews : ∀ j y, news[j]? = some y → w.cell? (Addr.add ⟨b2, o2, none⟩ j) = some y := fun j y hy => by rw [add_lit]; exact hc j y hy
  rcases hA with ⟨rfl, rfl⟩ | ⟨b, rfl, hcs⟩
  · obtain rfl : len = 0 := by omega
    have ho : olds = [] := List.eq_nil_of_length_eq_zero (by rw [holds]; simp)
    subst ho
    have hr := run_append_nil (P := P) w t ty e i z ht hi hz ⟨b2, o2, none⟩ m c news hs.len hnews (by omega) (by omega) (by rw [Nat.zero_add] at hb; omega)
    rw [Nat.zero_add] at hge ⊢
    refine ⟨grownCap w m 0 e, _, e, hge, by have := hlen (grownCap w m 0 e) (by omega); rw [Nat.zero_add] at this; exact this, ⟨_, rfl⟩, ?_⟩
    rw [hr]
    congr 3
    rw [← Array.toList_inj]
    simp
  · have hr := run_append_grow (P := P) w t ty e i z ht hi hz b len cap olds holds hcs ⟨b2, o2, none⟩ m c news hs.len hnews hgrow (by omega) (growslice_fits hgrow hb)
    refine ⟨grownCap w (len + m) cap e, _, e, hge, hlen _ hge, ⟨_, rfl⟩, ?_⟩
    rw [hr]
    congr 3
    rw [← Array.toList_inj]
    simp
theorem flatten_len {xs : List (List AV)} {n : Nat} (h : ∀ c ∈ xs, c.length = n) : xs.flatten.length = xs.length * n := by
  induction xs with
  | nil => simp
  | cons c xs ih =>
    simp only [List.flatten_cons, List.length_append, List.length_cons, Nat.add_mul, Nat.one_mul]
    rw [h _ List.mem_cons_self, ih (fun c hc => h c (List.mem_cons_of_mem _ hc))]
    omega
/-- Rows that come to stand over others, or behind them. -/
theorem RepR.over {xs ys : List (List AV)} {us vs : List Value} {esz o i : Nat} (h : RepR V (fun i => us[i]?) esz o xs) (hv : RepPL V ys.flatten vs) (hy : ∀ c ∈ ys, c.length = esz) (h1 : ∀ y ∈ vs, y.oneCell' = true) (hi : i ≤ xs.length) (ht : o + (i + ys.length) * esz ≤ us.length) :
    RepR V (fun j => (splice us (o + i * esz) vs)[j]?) esz o (xs.take i ++ ys ++ xs.drop (i + ys.length)) := by
  have hvl : vs.length = ys.length * esz := by rw [hv.length, flatten_len hy]
  rw [Nat.add_mul] at ht
  have hin : o + i * esz + vs.length ≤ us.length := by omega
  have hpre : RepR V (fun j => (splice us (o + i * esz) vs)[j]?) esz o (xs.take i) := by
    refine (h.take i).local fun j g1 g2 => splice_get_out hin (.inl ?_)
    rw [List.length_take, Nat.min_eq_left hi] at g2
    exact g2
  have hmid : RepR V (fun j => (splice us (o + i * esz) vs)[j]?) esz (o + (xs.take i).length * esz) ys := by
    rw [List.length_take, Nat.min_eq_left hi]
    refine RepR.of_flat hv hy fun j y hj => ⟨?_, h1 y (List.mem_of_getElem? hj)⟩
    show (splice us (o + i * esz) vs)[o + i * esz + j]? = some y
    rw [splice_get_in hin (getElem?_lt hj)]
    exact hj
  have hpost : RepR V (fun j => (splice us (o + i * esz) vs)[j]?) esz (o + (xs.take i ++ ys).length * esz) (xs.drop (i + ys.length)) := by
    rw [List.length_append, List.length_take, Nat.min_eq_left hi]
    refine (h.drop (i + ys.length)).local fun j g1 g2 => splice_get_out hin (.inr ?_)
    rw [Nat.add_mul] at g1
    omega
  exact (hpre.append hmid).append hpost
end
end Go.AM
