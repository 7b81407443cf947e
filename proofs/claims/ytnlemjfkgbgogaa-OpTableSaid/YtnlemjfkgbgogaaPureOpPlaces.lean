/- Package op against its reference: what any place of any operation may have is the same; there is no condition. -/
import Derived.Test.YtnlemjfkgbgogaaPx3
namespace Go.Proofs.Ytnlemjfkgbgogaa.Pure
open Go.RowKit Go.Proofs.Ytnlemjfkgbgogaa.P Go.Proofs.YtnlemjfkgbgogaaW.PrintWords Go.Proofs.YtnlemjfkgbgogaaW.PrintLast
set_option linter.unusedVariables false

def has (p m : Int) : Bool := Go.bits .and .i64 p m != 0
def agrees (s : ByteArray) (p : Int) : Bool :=
  dyehouseref11_has.f 64 s 103 == some (has p 1) && dyehouseref11_has.f 64 s 120 == some (has p 2) && dyehouseref11_has.f 64 s 105 == some (has p 4) && dyehouseref11_has.f 64 s 115 == some (has p 8) && dyehouseref11_has.f 64 s 110 == some (has p 16)
    && (s.toList.isEmpty == (p == 0)) && (has p 3 == (has p 1 || has p 2))
def chk (n i : Int) : Bool := match dyehouseref11_Place.f 64 n i with | none => false | some s => agrees s (X.placeOf n i)
def chkRow (n : Int) : Bool := match dyehouseref11_Find.f 64 n with | none => false | some x => decide (x.2.2.1.length ≤ 8) && (x.2.2.2.2.1 == (X.rowOf n).mc) && x.2.2.2.2.2
theorem chk_all : ((List.range 27).all fun n => (List.range 9).all fun i => chk ((n : Int) + 1) ((i : Int) - 1)) = true := by kernel_rfl
theorem row_all : ((List.range 27).all fun n => chkRow ((n : Int) + 1)) = true := by kernel_rfl
theorem agrees_none : agrees ⟨#[]⟩ 0 = true := by kernel_rfl
theorem works_ok : dyehouselaw11_works.f 64 = some true := by kernel_rfl
theorem all_27 : (dyehouseref11_All.f 64).map List.length = some 27 := by kernel_rfl

theorem chk_in (n i : Int) (h1 : 1 ≤ n) (h2 : n ≤ 27) (h3 : -1 ≤ i) (h4 : i ≤ 7) : chk n i = true := by
  have h := List.all_eq_true.mp (List.all_eq_true.mp chk_all (n - 1).toNat (List.mem_range.mpr (by omega))) (i + 1).toNat (List.mem_range.mpr (by omega))
  rwa [show (((n - 1).toNat : Int) + 1) = n by omega, show (((i + 1).toNat : Int) - 1) = i by omega] at h
theorem row_in (n : Int) (h1 : 1 ≤ n) (h2 : n ≤ 27) : chkRow n = true := by
  have h := List.all_eq_true.mp row_all (n - 1).toNat (List.mem_range.mpr (by omega))
  rwa [show (((n - 1).toNat : Int) + 1) = n by omega] at h
theorem find_out (n : Int) (h : n < 1 ∨ 27 < n) : dyehouseref11_Find.f 64 n = some ((⟨#[]⟩ : ByteArray), (⟨#[]⟩ : ByteArray), ([] : List ByteArray), 0, false, false) := by
  obtain ⟨t, ht, hl⟩ := Option.map_eq_some_iff.mp all_27
  unfold dyehouseref11_Find.f
  rw [ht, Option.bind_some]
  by_cases h1 : n < 1
  · rw [if_pos h1]
  · rw [if_neg h1, if_pos (by omega)]
theorem row_out (n : Int) (h : n < 1 ∨ 27 < n) : X.rowOf n = ⟨⟨#[]⟩, 0, 0, 0, 0, false⟩ := X.rowN_none _ (by omega)

/-- What is known of a place: its text, and what that has. -/
structure Pl (n i : Int) (s : ByteArray) : Prop where
  place : dyehouseref11_Place.f 64 n i = some s
  ok : agrees s (X.placeOf n i) = true
theorem pl (n i : Int) : ∃ s, Pl n i s := by
  by_cases hn : n < 1 ∨ 27 < n
  · refine ⟨⟨#[]⟩, ?_, ?_⟩
    · unfold dyehouseref11_Place.f
      rw [find_out n hn, Option.bind_some]
      by_cases h1 : i = -1
      · rw [if_pos h1]
      · rw [if_neg h1]
        by_cases h2 : i ≥ 0
        · rw [if_pos h2, if_neg (by simp; omega)]
        · rw [if_neg h2]
    · have : X.placeOf n i = 0 := by
        unfold X.placeOf
        rw [row_out n hn]
        split <;> simp
      rw [this]
      exact agrees_none
  · by_cases hi : -1 ≤ i ∧ i ≤ 7
    · have h := chk_in n i (by omega) (by omega) hi.1 hi.2
      unfold chk at h
      split at h
      · cases h
      · exact ⟨_, by assumption, h⟩
    · refine ⟨⟨#[]⟩, ?_, ?_⟩
      · have h := row_in n (by omega) (by omega)
        unfold chkRow at h
        split at h
        · cases h
        · rename_i x hx
          simp only [Bool.and_eq_true, decide_eq_true_eq] at h
          unfold dyehouseref11_Place.f
          rw [hx, Option.bind_some, if_neg (by omega)]
          by_cases h2 : i ≥ 0
          · rw [if_pos h2, if_neg (by omega)]
          · rw [if_neg h2]
      · have : X.placeOf n i = 0 := by
          unfold X.placeOf
          rw [if_neg (by omega), if_neg (by omega), if_neg (by omega), if_neg (by omega)]
        rw [this]
        exact agrees_none
theorem place_at {n i : Int} {s : ByteArray} (h : Pl n i s) {k : Nat} (hk : 64 ≤ k) : dyehouseref11_Place.f k n i = some s := at_rounds (g := fun k => dyehouseref11_Place.f k n i) (fun k => dyehouseref11_Place.mono n i k) hk h.place
theorem has_at {s : ByteArray} {c : Int} {b : Bool} (h : dyehouseref11_has.f 64 s c = some b) {k : Nat} (hk : 64 ≤ k) : dyehouseref11_has.f k s c = some b := at_rounds (g := fun k => dyehouseref11_has.f k s c) (fun k => dyehouseref11_has.mono s c k) hk h
theorem agrees_parts {s : ByteArray} {p : Int} (h : agrees s p = true) : dyehouseref11_has.f 64 s 103 = some (has p 1) ∧ dyehouseref11_has.f 64 s 120 = some (has p 2) ∧ dyehouseref11_has.f 64 s 105 = some (has p 4) ∧ dyehouseref11_has.f 64 s 115 = some (has p 8) ∧ dyehouseref11_has.f 64 s 110 = some (has p 16) ∧ s.toList.isEmpty = (p == 0) ∧ has p 3 = (has p 1 || has p 2) := by
  unfold agrees at h
  simp only [Bool.and_eq_true, beq_iff_eq] at h
  obtain ⟨⟨⟨⟨⟨⟨h1, h2⟩, h3⟩, h4⟩, h5⟩, h6⟩, h7⟩ := h
  exact ⟨h1, h2, h3, h4, h5, h6, h7⟩

def fitsB (p c : Int) : Bool := (c == 0 && has p 1) || (c == 1 && has p 2)
theorem ref_fits (n i c : Int) {s : ByteArray} (h : Pl n i s) {k : Nat} (hk : 64 ≤ k) : dyehouseref11_Fits.f k n i c = some (fitsB (X.placeOf n i) c) := by
  obtain ⟨h1, h2, _⟩ := agrees_parts h.ok
  unfold dyehouseref11_Fits.f fitsB
  rw [place_at h hk, Option.bind_some, Option.bind_some, has_at h1 hk, has_at h2 hk, Option.bind_some, Option.bind_some]
  by_cases c0 : c = 0
  · subst c0
    rw [if_pos rfl]
    cases has (X.placeOf n i) 1 <;> simp
  · rw [if_neg c0]
    by_cases c1 : c = 1
    · subst c1
      rw [if_pos rfl]
      simp
    · rw [if_neg c1]
      simp [c0, c1]
def clist (p : Int) : List Int := (if Go.bits .and .i64 p 1 = 0 then [] else [0]) ++ (if Go.bits .and .i64 p 2 = 0 then [] else [1])
theorem classes_eq (n i : Int) : op_Classes.f n i = some (clist (X.placeOf n i)) := rfl
theorem index_two (c : Int) (k : Nat) (hk : 4 ≤ k) (b1 b2 : Bool) (l : List Int) (hl : l = (if b1 then [0] else []) ++ (if b2 then [1] else [])) :
    slices_Contains_int_int.f k l c = some ((c == 0 && b1) || (c == 1 && b2)) := by
  obtain ⟨k, rfl⟩ : ∃ m, k = m + 4 := ⟨k - 4, by omega⟩
  subst hl
  unfold slices_Contains_int_int.f slices_Index_int_int.f
  cases b1 <;> cases b2 <;> by_cases c0 : c = 0 <;> by_cases c1 : c = 1 <;> simp [slices_Index_int_int.l0, rd, c0, c1, wrap64] <;> omega
theorem clist_b (p : Int) : clist p = (if has p 1 then [0] else []) ++ (if has p 2 then [1] else []) := by
  unfold clist has
  by_cases h1 : Go.bits .and .i64 p 1 = 0 <;> by_cases h2 : Go.bits .and .i64 p 2 = 0 <;> simp [h1, h2]
theorem op_fits (n i c : Int) {k : Nat} (hk : 4 ≤ k) : op_Fits.f k n i c = some (fitsB (X.placeOf n i) c) := by
  unfold op_Fits.f
  rw [classes_eq, Option.bind_some, index_two c k hk _ _ _ (clist_b _), Option.bind_some]
  rfl
theorem ref_mc (n : Int) {k : Nat} (hk : 64 ≤ k) : ∃ x, dyehouseref11_Find.f k n = some x ∧ x.2.2.2.2.1 = (X.rowOf n).mc := by
  have up : ∀ x, dyehouseref11_Find.f 64 n = some x → dyehouseref11_Find.f k n = some x := fun x h => at_rounds (g := fun k => dyehouseref11_Find.f k n) (fun k => dyehouseref11_Find.mono n k) hk h
  by_cases hn : n < 1 ∨ 27 < n
  · exact ⟨_, up _ (find_out n hn), by rw [row_out n hn]⟩
  · have h := row_in n (by omega) (by omega)
    unfold chkRow at h
    split at h
    · cases h
    · rename_i x hx
      simp only [Bool.and_eq_true, decide_eq_true_eq, beq_iff_eq] at h
      exact ⟨x, up _ hx, h.1.2⟩
theorem takes_same (n i kd : Int) (m : Bool) {s : ByteArray} (h : Pl n i s) {k : Nat} (hk : 65 ≤ k) : ∃ b, op_Takes.f n i kd m = some b ∧ dyehouseref11_Takes.f k n i kd m = some b := by
  obtain ⟨k, rfl⟩ : ∃ j, k = j + 1 := ⟨k - 1, by omega⟩
  obtain ⟨h1, h2, h3, h4, h5, h6, h7⟩ := agrees_parts h.ok
  obtain ⟨x, hx, hmc⟩ := ref_mc n (k := k + 1) (by omega)
  have e : dyehouseref11_Takes.f (k + 1) n i kd m = dyehouseref11_Takes.j0 (k + 1) i kd m s (has (X.placeOf n i) 1 || has (X.placeOf n i) 2) x.1 x.2.1 x.2.2.1 x.2.2.2.1 x.2.2.2.2.1 := by
    unfold dyehouseref11_Takes.f
    rw [place_at h (by omega), Option.bind_some, hx, Option.bind_some, has_at h1 (by omega), Option.bind_some, has_at h2 (by omega), Option.bind_some]
    cases has (X.placeOf n i) 1 <;> simp
  rw [e, ← h7]
  simp only [dyehouseref11_Takes.j0]
  rw [has_at h5 (by omega), has_at h4 (by omega), has_at h3 (by omega), hmc]
  unfold op_Takes.f op_place.f op_Machine.f
  simp only [Option.bind_some]
  have h6' : (s.toList = []) ↔ X.placeOf n i = 0 := by
    rw [← List.isEmpty_iff, h6]
    simp
  revert h6'
  unfold has
  generalize X.placeOf n i = p
  intro h6'
  by_cases k0 : kd = 0
  · rw [if_pos k0, if_pos k0]
    by_cases hi : i = -1
    · rw [if_pos hi, if_pos hi]
      by_cases hp : p = 0
      · rw [if_pos hp, if_pos (h6'.mpr hp)]
        exact ⟨_, rfl, rfl⟩
      · rw [if_neg hp, if_neg (fun q => hp (h6'.mp q))]
        exact ⟨_, rfl, rfl⟩
    · rw [if_neg hi, if_neg hi]
      exact ⟨_, rfl, rfl⟩
  · rw [if_neg k0, if_neg k0]
    have same : ∀ E : Option Bool, E.isSome = true → ∃ b, E = some b ∧ E = some b := fun E hE => by
      obtain ⟨b, hb⟩ := Option.isSome_iff_exists.mp hE
      exact ⟨b, hb, hb⟩
    refine same _ ?_
    by_cases k1 : kd = 1
    · rw [if_pos k1]
      cases m
      · cases (X.rowOf n).mc <;> simp
      · simp
    · rw [if_neg k1]
      by_cases k2 : kd = 2
      · rw [if_pos k2]
        cases m <;> simp
      · rw [if_neg k2]
        by_cases k3 : kd = 3
        · rw [if_pos k3]
          cases m <;> simp
        · rw [if_neg k3]
          by_cases k4 : kd = 4
          · rw [if_pos k4]
            simp
          · rw [if_neg k4]
            simp
theorem works_at {k : Nat} (hk : 64 ≤ k) : dyehouselaw11_works.f k = some true := at_rounds (g := dyehouselaw11_works.f) dyehouselaw11_works.mono hk works_ok

theorem OpPlaces : dyehouselaw11_OpPlaces.Pure := by
  intro n i kd c _ _ _ _
  obtain ⟨s, h⟩ := pl n i
  obtain ⟨x1, t1, t2⟩ := takes_same n i kd false h (k := 67) (by omega)
  obtain ⟨x2, t3, t4⟩ := takes_same n i kd true h (k := 67) (by omega)
  have w := works_at (k := 67) (by omega)
  have f0 : ∀ c, dyehouseref11_Fits.f 69 n i c = some (fitsB (X.placeOf n i) c) := fun c => ref_fits n i c h (by omega)
  have f1 : ∀ c, dyehouseref11_Fits.f 68 n i c = some (fitsB (X.placeOf n i) c) := fun c => ref_fits n i c h (by omega)
  have f2 : ∀ c, dyehouseref11_Fits.f 67 n i c = some (fitsB (X.placeOf n i) c) := fun c => ref_fits n i c h (by omega)
  have g2 : ∀ c, op_Fits.f 67 n i c = some (fitsB (X.placeOf n i) c) := fun c => op_fits n i c (by omega)
  refine ⟨70, ?_⟩
  unfold dyehouselaw11_OpPlaces.f
  rw [classes_eq, Option.bind_some, clist_b]
  have b0 : fitsB (X.placeOf n i) 0 = has (X.placeOf n i) 1 := by simp [fitsB]
  have b1 : fitsB (X.placeOf n i) 1 = has (X.placeOf n i) 2 := by simp [fitsB]
  have z1 : wrap64 (0 + 1) = 1 := by unfold wrap64; omega
  have z2 : wrap64 (1 + 1) = 2 := by unfold wrap64; omega
  have fin : ∀ (l : List Int) (m : Int), m = (l.length : Int) → dyehouselaw11_OpPlaces.l0 68 n i kd c l m 2 = some true := by
    intro l m hm
    rw [dyehouselaw11_OpPlaces.l0, if_neg (by decide), if_pos hm, g2, Option.bind_some, f2, Option.bind_some, if_pos (by simp), t1, Option.bind_some, t2, Option.bind_some, if_pos (by simp), t3, Option.bind_some, t4, Option.bind_some, if_pos (by simp), w]
    rfl
  rw [dyehouselaw11_OpPlaces.l0, if_pos (by decide), f0, Option.bind_some, b0, z1]
  revert b1
  generalize has (X.placeOf n i) 1 = p1
  generalize has (X.placeOf n i) 2 = p2
  intro b1
  cases p1
  · rw [if_neg (by decide), dyehouselaw11_OpPlaces.l0, if_pos (by decide), f1, Option.bind_some, b1, z2]
    cases p2
    · rw [if_neg (by decide)]
      exact fin _ _ rfl
    · rw [if_pos rfl, if_neg (by decide), if_pos (by decide), if_pos (by decide), if_pos (by decide), z1]
      exact fin _ _ rfl
  · rw [if_pos rfl, if_neg (by cases p2 <;> decide), if_pos (by decide), if_pos (by cases p2 <;> decide), if_pos (by cases p2 <;> decide), dyehouselaw11_OpPlaces.l0, if_pos (by decide), f1, Option.bind_some, b1, z2]
    cases p2
    · rw [if_neg (by decide)]
      exact fin _ _ rfl
    · rw [if_pos rfl, if_neg (by decide), if_pos (by decide), if_pos (by decide), if_pos (by decide)]
      exact fin _ _ rfl
end Go.Proofs.Ytnlemjfkgbgogaa.Pure
