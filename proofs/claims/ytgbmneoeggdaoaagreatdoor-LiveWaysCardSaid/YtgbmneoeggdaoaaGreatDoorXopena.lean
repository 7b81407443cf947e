/- An argument that reads as data stands for an abstract value; its lengths are those that a row lets in. -/
import Derived.Test.YtgbmneoeggdaoaaGreatDoorRows
import Derived.WalkKit
import Derived.ProofKit
import Derived.OpenShut
import Derived.Test.YtgbmneoeggdaoaaGreatDoorXam4
namespace Go.Proofs.YtgbmneoeggdaoaaGreatDoor.X
open Go.RowKit Go.AM
set_option linter.unusedVariables false
/-- All that lies in memory. -/
def mv (w : World) : View := fun b o => w.cell? ⟨b, o, none⟩
structure OpA (P : Program) (t : TypeId) {α : Type} (n : Nat) (en : α → List AV) (m : α → Nat) (I : α → Prop) : Prop where
  size : P.cellsOf t = n
  one : ∀ x, oneAL (en x) = true ∧ (en x).length = n
  opn : ∀ {H : Type} (enc : TypeId × Value → H) (w : World) (base fuel : Nat) (cs : List Value) (D : DataW H) (ps : List MemPlace), DataW.trod enc P w base (fun _ => true) true fuel t cs = some (D, ps) → (∀ q ∈ D.weights P t, q ≤ reachBytes) → ∃ x, RepPL (mv w) (en x) cs ∧ m x ≤ Rows.uptoBulk D ∧ I x
theorem opa_int {P : Program} {t : TypeId} {k : IntKind} (ht : P.underlying t = some (.int k)) (hc : P.cellsOf t = 1) : OpA P t 1 (fun n : Int => [.int k n]) (fun _ => 1) (fun n => (Lit.int k n).wf = true) := by
  refine ⟨hc, fun _ => ⟨rfl, rfl⟩, ?_⟩
  intro H enc w base fuel cs D ps h hwt
  obtain ⟨n, rfl, hx, hw⟩ := DataW.trod_int ht h
  cases hx
  exact ⟨n, ⟨_, _, rfl, rfl, rfl⟩, by simp [Rows.uptoBulk], hw⟩
theorem opa_bool {P : Program} {t : TypeId} (ht : P.underlying t = some .bool) (hc : P.cellsOf t = 1) : OpA P t 1 (fun b : Bool => [.bool b]) (fun _ => 1) (fun _ => True) := by
  refine ⟨hc, fun _ => ⟨rfl, rfl⟩, ?_⟩
  intro H enc w base fuel cs D ps h hwt
  obtain ⟨b, rfl, hx⟩ := DataW.trod_bool ht h
  cases hx
  exact ⟨b, ⟨_, _, rfl, rfl, rfl⟩, by simp [Rows.uptoBulk], trivial⟩
theorem opa_string {P : Program} {t : TypeId} (ht : P.underlying t = some .string) (hc : P.cellsOf t = 1) : OpA P t 1 (fun s : ByteArray => [.str s]) (fun s => s.size + 1) (fun _ => True) := by
  refine ⟨hc, fun _ => ⟨rfl, rfl⟩, ?_⟩
  intro H enc w base fuel cs D ps h hwt
  obtain ⟨s, rfl, hx, _⟩ := DataW.trod_string ht h
  cases hx
  refine ⟨s, ⟨_, _, rfl, rfl, rfl⟩, ?_, trivial⟩
  simp only [Rows.uptoBulk]
  have : s.data.toList.length = s.size := by rw [Array.length_toList]; rfl
  omega
def sumA {α : Type} (m : α → Nat) : List α → Nat
  | [] => 0
  | x :: r => m x + sumA m r
theorem repC_of {V : View} {L : Nat → Option Value} : ∀ {xs : List AV} {c : List Value} {o : Nat}, RepPL V xs c → oneAL xs = true → (∀ j u, c[j]? = some u → L (o + j) = some u) → RepC V L o xs
  | [], c, o, _, _, _ => trivial
  | x :: xs, c, o, h, h1, h2 => by
    simp only [RepPL] at h
    obtain ⟨v, r, rfl, hx, hr⟩ := h
    simp only [oneAL, Bool.and_eq_true] at h1
    refine ⟨⟨v, by simpa using h2 0 v rfl, hx, hx.one h1.1⟩, repC_of hr h1.2 fun j u hj => ?_⟩
    have := h2 (j + 1) u (by simpa using hj)
    rwa [show o + (j + 1) = o + 1 + j by omega] at this
theorem repR_of {V : View} {L : Nat → Option Value} {α : Type} {en : α → List AV} {n : Nat} (h1 : ∀ x, oneAL (en x) = true ∧ (en x).length = n) : ∀ {l : List α} {o : Nat},
    (∀ i x, l[i]? = some x → ∃ c, RepPL V (en x) c ∧ ∀ j u, c[j]? = some u → L (o + i * n + j) = some u) → RepR V L n o (l.map en)
  | [], o, _ => trivial
  | x :: l, o, h => by
    simp only [List.map_cons, RepR]
    refine ⟨(h1 x).2, ?_, repR_of h1 fun i y hy => ?_⟩
    · obtain ⟨c, g1, g2⟩ := h 0 x rfl
      exact repC_of g1 (h1 x).1 fun j u hj => by simpa using g2 j u hj
    · obtain ⟨c, g1, g2⟩ := h (i + 1) y (by simpa using hy)
      refine ⟨c, g1, fun j u hj => ?_⟩
      have := g2 j u hj
      rwa [show o + (i + 1) * n + j = o + n + i * n + j by rw [Nat.add_mul]; omega] at this
theorem mapM_getA {α β : Type} {f : α → Option β} : ∀ {l : List α} {r : List β}, l.mapM f = some r → r.length = l.length ∧ ∀ (i : Nat) (x : α) (y : β), l[i]? = some x → r[i]? = some y → f x = some y := by
  intro l
  induction l with
  | nil =>
    intro r h
    simp at h
    subst h
    exact ⟨rfl, fun i x y hx => by simp at hx⟩
  | cons a l ih =>
    intro r h
    rw [List.mapM_cons] at h
    simp only [Option.bind_eq_bind, Option.bind_eq_some_iff, Option.pure_def, Option.some.injEq] at h
    obtain ⟨y, hy, ys, hys, rfl⟩ := h
    obtain ⟨h1, h2⟩ := ih hys
    refine ⟨by simp [h1], fun i x z hx hz => ?_⟩
    cases i with
    | zero => simp at hx hz; subst hx; subst hz; exact hy
    | succ i => exact h2 i x z (by simpa using hx) (by simpa using hz)
theorem cells_someA {w : World} {base : Nat} {a : Addr} {n : Nat} {cs : List Value} (h : w.cells? base a n = some cs) : cs.length = n ∧ ∀ i u, cs[i]? = some u → w.cell? (a.add i) = some u := by
  unfold World.cells? at h
  split at h
  · obtain ⟨h1, h2⟩ := mapM_getA h
    rw [List.length_range] at h1
    refine ⟨h1, fun i u hi => ?_⟩
    have hi' : i < cs.length := (List.getElem?_eq_some_iff.1 hi).1
    exact h2 i i u (by rw [List.getElem?_range (by omega)]) hi
  · cases h
theorem list_ofA {α : Type} (n : Nat) (Q : Nat → α → Prop) (h : ∀ i, i < n → ∃ x, Q i x) : ∃ l : List α, l.length = n ∧ ∀ i x, l[i]? = some x → Q i x := by
  induction n with
  | zero => exact ⟨[], rfl, fun i x hx => by simp at hx⟩
  | succ n ih =>
    obtain ⟨l, hl, hq⟩ := ih (fun i hi => h i (by omega))
    obtain ⟨x, hx⟩ := h n (by omega)
    refine ⟨l ++ [x], by simp [hl], fun i y hy => ?_⟩
    rcases Nat.lt_or_ge i n with h1 | h1
    · rw [List.getElem?_append_left (by omega)] at hy
      exact hq i y hy
    · have hi : i < (l ++ [x]).length := (List.getElem?_eq_some_iff.1 hy).1
      have : i = n := by simp [hl] at hi; omega
      subst this
      rw [List.getElem?_append_right (by omega), hl] at hy
      simp at hy
      subst hy
      exact hx
theorem sum_leA {α H : Type} (m : α → Nat) : ∀ (l : List α) (ds : List (DataW H)), l.length = ds.length → (∀ (i : Nat) (x : α) (d : DataW H), l[i]? = some x → ds[i]? = some d → m x ≤ Rows.uptoBulk d) → sumA m l ≤ Rows.uptoBulkAll ds
  | [], [], _, _ => Nat.le_refl _
  | x :: l, d :: ds, hl, h => by
    have h0 := h 0 x d rfl rfl
    have h1 := sum_leA m l ds (by simpa using hl) (fun i y e hy he => h (i + 1) y e (by simpa using hy) (by simpa using he))
    simp only [sumA, Rows.uptoBulkAll]
    omega
  | [], _ :: _, hl, _ => by simp at hl
  | _ :: _, [], hl, _ => by simp at hl
theorem spot_none {w : World} {a : Addr} {u : Value} (h : w.cell? a = some u) : a.spot = none := by
  unfold World.cell? at h
  split at h
  · split at h
    · cases h
    · rename_i hn
      cases hs : a.spot with
      | none => rfl
      | some x => rw [hs] at hn; simp at hn
  · cases h
theorem add_mv {w : World} {b o i : Nat} {u : Value} (h : w.cell? ((⟨b, o, none⟩ : Addr).add i) = some u) : mv w b (o + i) = some u := by
  unfold Addr.add at h
  split at h
  · rename_i hi
    have : i = 0 := by simpa using hi
    subst this
    exact h
  · exact h
theorem add_addA (a : Addr) (i j : Nat) : (a.add i).add j = a.add (i + j) := by
  unfold Addr.add
  by_cases h1 : i = 0 <;> by_cases h2 : j = 0 <;> simp [h1, h2, Nat.add_assoc]
theorem spot_add {a : Addr} {i : Nat} (h : (a.add i).spot = none) : a.spot = none ∨ i ≠ 0 := by
  by_cases hi : i = 0
  · left
    subst hi
    simpa [Addr.add] using h
  · exact .inr hi
theorem weights_mem {H : Type} {P : Program} {e : TypeId} {d : DataW H} : ∀ {l : List (DataW H)}, d ∈ l → ∀ {q : Nat}, q ∈ d.weights P e → q ∈ DataW.weightsAll P e l
  | x :: l, h, q, hq => by
    simp only [DataW.weightsAll]
    rcases List.mem_cons.1 h with rfl | h
    · exact List.mem_append_left _ hq
    · exact List.mem_append_right _ (weights_mem h hq)
theorem opa_slice {P : Program} {t e : TypeId} {α : Type} {n : Nat} {en : α → List AV} {m : α → Nat} {I : α → Prop} (h : OpA P e n en m I) (hn : 0 < n) (ht : P.underlying t = some (.slice e)) (hc : P.cellsOf t = 1) (hby : 0 < P.bytesOf e) : OpA P t 1 (fun l : List α => [.sl (l.map en)]) (fun l => sumA m l + 1) (fun l => (∀ x ∈ l, I x) ∧ l.length ≤ reachBytes) := by
  refine ⟨hc, fun _ => ⟨rfl, rfl⟩, ?_⟩
  intro H enc w base fuel cs D ps hh hwt
  rcases DataW.trod_slice ht hh with ⟨rfl, hx⟩ | ⟨a, len, cap, elems, rest, nf, _, rfl, hx, hb, hl, hm, hlen, hel, _, _⟩
  · cases hx
    exact ⟨[], ⟨_, _, rfl, ⟨none, 0, rfl, by simp, .inl rfl⟩, rfl⟩, by simp [sumA, Rows.uptoBulk], fun x hx => by simp at hx, by simp⟩
  · cases hx
    have hws : ((elems.map (·.1)).length + (rest.map (·.1)).length) * P.bytesOf e ≤ reachBytes ∧ ∀ q ∈ DataW.weightsAll P e (elems.map (·.1)), q ≤ reachBytes := by
      have e0 : DataW.weights P t (.slice (elems.map (·.1)) (rest.map (·.1))) = ((elems.map (·.1)).length + (rest.map (·.1)).length) * P.bytesOf e :: (DataW.weightsAll P e (elems.map (·.1)) ++ DataW.weightsAll P e (rest.map (·.1))) := by
        simp only [DataW.weights, ht]
      rw [e0] at hwt
      exact ⟨hwt _ List.mem_cons_self, fun q hq => hwt q (List.mem_cons_of_mem _ (List.mem_append_left _ hq))⟩
    have hwl : elems.length ≤ reachBytes := by
      have h1 := hws.1
      rw [List.length_map, List.length_map] at h1
      have h2 : elems.length * 1 ≤ (elems.length + rest.length) * P.bytesOf e := Nat.mul_le_mul (Nat.le_add_right _ _) hby
      omega
    have each : ∀ i, i < len → ∃ x, ∃ c, c.length = n ∧ RepPL (mv w) (en x) c ∧ (∀ j u, c[j]? = some u → w.cell? (a.add (i * n + j)) = some u) ∧ (∀ y, elems[i]? = some y → m x ≤ Rows.uptoBulk y.1) ∧ I x := by
      intro i hi
      have hq := hel i hi
      have hi' : i < elems.length := by omega
      rw [List.getElem?_eq_getElem hi'] at hq
      obtain ⟨c, hcs, hd⟩ := Option.bind_eq_some_iff.mp hq
      obtain ⟨h1, h2⟩ := cells_someA hcs
      obtain ⟨x, hK, hM, hI⟩ := h.opn enc w base nf c _ _ hd fun q hq => hws.2 q (weights_mem (List.mem_map.2 ⟨elems[i], List.getElem_mem hi', rfl⟩) hq)
      refine ⟨x, c, by rw [h1, h.size], hK, fun j u hj => ?_, fun y hy => ?_, hI⟩
      · have := h2 j u hj
        rw [add_addA, h.size] at this
        exact this
      · rw [List.getElem?_eq_getElem hi'] at hy
        cases hy
        exact hM
    obtain ⟨l, hll, hq⟩ := list_ofA len _ each
    refine ⟨l, ⟨_, _, rfl, ⟨some a, cap, by rw [List.length_map, hll], by rw [List.length_map]; omega, ?_⟩, rfl⟩, ?_, fun x hx => ?_, by omega⟩
    · by_cases hz : l = []
      · left; simp [hz]
      · right
        obtain ⟨b, o, sp⟩ := a
        have hsp : sp = none := by
          have hpos : 0 < l.length := List.length_pos_iff.2 hz
          obtain ⟨c, g1, g2, g3, _⟩ := hq 0 _ (List.getElem?_eq_getElem hpos)
          have hc0 : c[0]? = some c[0] := List.getElem?_eq_getElem (by omega)
          have := spot_none (g3 0 _ hc0)
          simpa [Addr.add] using this
        subst hsp
        refine ⟨b, o, n, rfl, repR_of h.one fun i x hx => ?_⟩
        obtain ⟨c, g1, g2, g3, _⟩ := hq i x hx
        refine ⟨c, g2, fun j u hj => ?_⟩
        have := add_mv (g3 j u hj)
        rwa [← Nat.add_assoc] at this
    · have := sum_leA m l (elems.map (·.1)) (by simp [hll, hlen]) (fun i x d' hx hd' => by
        obtain ⟨c, h1, h2, h3, h4, _⟩ := hq i x hx
        rw [List.getElem?_map] at hd'
        obtain ⟨y, hy, rfl⟩ := Option.map_eq_some_iff.mp hd'
        exact h4 y hy)
      simp only [Rows.uptoBulk]
      omega
    · obtain ⟨i, hi, rfl⟩ := List.mem_iff_getElem.mp hx
      obtain ⟨c, h1, h2, h3, h4, h5⟩ := hq i _ (List.getElem?_eq_getElem hi)
      exact h5
/-- The fields of a struct from a place on. -/
structure OpAt (P : Program) (fs : List Field) (o : Nat) {α : Type} (n : Nat) (en : α → List AV) (m : α → Nat) (I : α → Prop) : Prop where
  one : ∀ x, oneAL (en x) = true ∧ (en x).length = n
  opn : ∀ {H : Type} (enc : TypeId × Value → H) (w : World) (base fuel : Nat) (cs : List Value) (xs : List (DataW H × List MemPlace)), cs.length = o + n → xs.length = fs.length →
    (∀ (i : Nat) (f : Field), fs[i]? = some f → DataW.trod enc P w base (fun _ => true) true fuel f.type ((cs.drop f.offset).take (P.cellsOf f.type)) = xs[i]?) →
    (∀ q ∈ DataW.weightsEach P (fs.map (·.type)) (xs.map (·.1)), q ≤ reachBytes) → ∃ x, RepPL (mv w) (en x) (cs.drop o) ∧ m x ≤ Rows.uptoBulkAll (xs.map (·.1)) ∧ I x
theorem opAt_one {P : Program} {f : Field} {o : Nat} {α : Type} {n : Nat} {en : α → List AV} {m : α → Nat} {I : α → Prop} (h : OpA P f.type n en m I) (ho : f.offset = o) : OpAt P [f] o n en m I := by
  refine ⟨h.one, ?_⟩
  intro H enc w base fuel cs xs hl hx hf hwt
  obtain ⟨y, rfl⟩ : ∃ y, xs = [y] := by
    match xs, hx with
    | [y], _ => exact ⟨y, rfl⟩
  have h0 := hf 0 f rfl
  have e : (cs.drop f.offset).take (P.cellsOf f.type) = cs.drop o := by
    rw [ho, h.size]
    exact List.take_of_length_le (by rw [List.length_drop]; omega)
  rw [e] at h0
  obtain ⟨x, h1, h2, h3⟩ := h.opn enc w base fuel _ y.1 y.2 (by simpa using h0) fun q hq => hwt q (by simpa [DataW.weightsEach] using hq)
  exact ⟨x, h1, by simpa [Rows.uptoBulkAll] using h2, h3⟩
theorem repPL_app {V : View} : ∀ {xs ys : List AV} {a b : List Value}, RepPL V xs a → RepPL V ys b → RepPL V (xs ++ ys) (a ++ b)
  | [], ys, a, b, h, k => by
    simp only [RepPL] at h
    subst h
    exact k
  | x :: xs, ys, a, b, h, k => by
    simp only [RepPL] at h
    obtain ⟨v, r, rfl, hx, hr⟩ := h
    exact ⟨v, r ++ b, rfl, hx, repPL_app hr k⟩
theorem oneAL_app : ∀ {xs ys : List AV}, oneAL xs = true → oneAL ys = true → oneAL (xs ++ ys) = true
  | [], ys, _, h => h
  | x :: xs, ys, h, k => by
    simp only [oneAL, Bool.and_eq_true, List.cons_append] at h ⊢
    exact ⟨h.1, oneAL_app h.2 k⟩
theorem opAt_cons {P : Program} {f : Field} {fs : List Field} {o o' : Nat} {α β : Type} {n n' : Nat} {en : α → List AV} {en' : β → List AV} {m : α → Nat} {m' : β → Nat} {I : α → Prop} {I' : β → Prop} (h : OpA P f.type n en m I) (ho : f.offset = o) (ho' : o' = o + n) (h' : OpAt P fs o' n' en' m' I') :
    OpAt P (f :: fs) o (n + n') (fun x : α × β => en x.1 ++ en' x.2) (fun x => m x.1 + m' x.2) (fun x => I x.1 ∧ I' x.2) := by
  subst ho'
  refine ⟨fun x => ⟨oneAL_app (h.one _).1 (h'.one _).1, by rw [List.length_append, (h.one _).2, (h'.one _).2]⟩, ?_⟩
  intro H enc w base fuel cs xs hl hx hf hwt
  match xs, hx with
  | y :: ys, hx =>
    have h0 := hf 0 f rfl
    have hwc : ∀ q, q ∈ y.1.weights P f.type ∨ q ∈ DataW.weightsEach P (fs.map (·.type)) (ys.map (·.1)) → q ≤ reachBytes := fun q hq => hwt q (by
      simp only [List.map_cons, DataW.weightsEach]
      exact List.mem_append.2 hq)
    obtain ⟨x, h1, h2, h3⟩ := h.opn enc w base fuel _ y.1 y.2 (by simpa using h0) fun q hq => hwc q (.inl hq)
    obtain ⟨x', h1', h2', h3'⟩ := h'.opn enc w base fuel cs ys (by omega) (by simpa using hx) (fun i g hg => by simpa using hf (i + 1) g (by simpa using hg)) fun q hq => hwc q (.inr hq)
    refine ⟨(x, x'), ?_, ?_, h3, h3'⟩
    · have e : cs.drop o = (cs.drop o).take n ++ cs.drop (o + n) := by rw [← List.drop_drop, List.take_append_drop]
      rw [e]
      rw [ho, h.size] at h1
      exact repPL_app h1 h1'
    · simp only [List.map_cons, Rows.uptoBulkAll]
      omega
theorem opa_struct {P : Program} {t : TypeId} {fs : Array Field} {α β : Type} {n : Nat} {en : α → List AV} {en' : β → List AV} {m : α → Nat} {I : α → Prop} (g : α → β) (f : β → α) (hfg : ∀ x, f (g x) = x) (he : ∀ y, en' y = en (f y)) (h : OpAt P fs.toList 0 n en m I) (ht : P.underlying t = some (.struct fs)) (hc : P.cellsOf t = n) : OpA P t n en' (fun x => m (f x) + 1) (fun x => I (f x)) := by
  refine ⟨hc, fun y => by rw [he]; exact h.one _, ?_⟩
  intro H enc w base fuel cs D ps hh hwt
  obtain ⟨xs, nf, _, hx, hl, hlen, hf⟩ := DataW.trod_struct ht hh
  cases hx
  have hws : ∀ q ∈ DataW.weightsEach P (fs.toList.map (·.type)) (xs.map (·.1)), q ≤ reachBytes := by
    have e0 : DataW.weights P t (.agg (xs.map (·.1))) = DataW.weightsEach P (fs.toList.map (·.type)) (xs.map (·.1)) := by simp only [DataW.weights, ht]
    rw [e0] at hwt
    exact hwt
  obtain ⟨x, h1, h2, h3⟩ := h.opn enc w base nf cs xs (by omega) (by simpa using hlen) (fun i q hq => hf i q (by simpa using hq)) hws
  refine ⟨g x, ?_, ?_, ?_⟩
  · rw [he, hfg]
    exact h1
  · simp only [hfg, Rows.uptoBulk]
    omega
  · rw [hfg]
    exact h3
/-- What a row says of its arguments' sizes, one by one. -/
theorem weights_cons {H : Type} {P : Program} {t : TypeId} {ts : List TypeId} {d : DataW H} {ds : List (DataW H)} (h : (DataW.weightsEach P (t :: ts) (d :: ds)).all (· ≤ reachBytes) = true) : (∀ q ∈ d.weights P t, q ≤ reachBytes) ∧ (DataW.weightsEach P ts ds).all (· ≤ reachBytes) = true := by
  simp only [DataW.weightsEach, List.all_append, Bool.and_eq_true] at h
  exact ⟨fun q hq => of_decide_eq_true (List.all_eq_true.1 h.1 q hq), h.2⟩
end Go.Proofs.YtgbmneoeggdaoaaGreatDoor.X
