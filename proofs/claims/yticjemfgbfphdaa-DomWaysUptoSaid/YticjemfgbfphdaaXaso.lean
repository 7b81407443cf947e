/- The library's sort of numbers, as a contract of the abstract machine. -/
import Derived.Test.YticjemfgbfphdaaXam5
import Derived.Shelf.Sort.Plain
namespace Go.AM
open Go Go.Sort
set_option linter.unusedVariables false
theorem ifB {b : Bool} {X Y : Prop} (h : b = true → X) (k : b = false → Y) : @IfL b ⟨X⟩ ⟨Y⟩ := ⟨h, k⟩
def encN (z : Int) : List AV := [.int .i64 z]
def leI (x y : Int) : Bool := decide (x ≤ y)
theorem ctr_sort1 {P : Program} {f : Nat} (hf : okFn P f = true)
    (H : ∀ (blk off cap : Nat) (zs : List Int) (w : World), Holds (Value.int .i64) w blk off zs.toArray → blk < w.heap.size → zs.length < 4611686018427387904 →
      Calls P f #[.slice (some ⟨blk, off, none⟩) zs.length cap] w fun e w' => e = .returned (.tuple #[]) ∧ ∃ n os, w' = grow (putRow (Value.int .i64) (Sort.ahead w n) blk off (zs.mergeSort fun x y => decide (x ≤ y)).toArray) os)
    (v : Nat) (zs : List Int) (hne : zs ≠ []) (hl : zs.length < 1000000) :
    Ctr P f [.hs 0 v 0 zs.length] [.arr v 1 (zs.map encN)] (retO [] [.arr v 1 ((zs.mergeSort leI).map encN)]) := by
  refine ⟨hf, fun V G w vs hs hrep => ?_⟩
  have hpos : 0 < zs.length := List.length_pos_iff.2 hne
  simp only [RepL] at hrep
  obtain ⟨val, r, rfl, hv, rfl⟩ := hrep
  simp only [Rep] at hv
  obtain ⟨_, ver', esz, n, loc, hG, _, hok⟩ := hv
  obtain ⟨s, hG', hob⟩ := hs.obs 0 _ rfl
  rw [hG] at hG'
  cases hG'
  simp only [ObOk] at hob
  obtain ⟨ev, rfl, hn, hnone, hsome⟩ := hob
  subst ev
  rw [List.length_map] at hn
  subst hn
  obtain ⟨a, cap, rfl, h1, h2, h3, hloc⟩ := hok rfl
  cases loc with
  | none => exact absurd (List.map_eq_nil_iff.1 (hnone rfl)) hne
  | some l =>
    obtain ⟨b, o, tot⟩ := l
    simp only at hloc
    obtain ⟨ha, htot⟩ := hloc
    have ha : a = some ⟨b, o, none⟩ := by
      rcases ha with ha | ha
      · omega
      · simpa using ha
    subst ha
    obtain ⟨us, T, hh, hul, hle, hrr⟩ := hsome b o tot rfl
    obtain ⟨p1, p2, p3⟩ := hs.priv 0 _ b hG rfl
    have hget : ∀ j (hj : j < zs.length), us[o + j]? = some (.int .i64 zs[j]) := by
      intro j hj
      obtain ⟨_, hc⟩ := hrr.get (i := j) (c := encN zs[j]) (by rw [List.getElem?_map, List.getElem?_eq_getElem hj]; rfl)
      simp only [encN, RepC, Nat.mul_one] at hc
      obtain ⟨⟨x, hx, hxr, _⟩, _⟩ := hc
      simp only [RepP] at hxr
      rw [hx, hxr]
    have hH : Holds (Value.int .i64) w b o zs.toArray := by
      intro j hj
      have hj' : j < zs.length := by simpa using hj
      refine ⟨?_, ?_⟩
      · unfold World.cell?
        rw [hh]
        simp only [List.getElem?_toArray]
        rw [hget j hj']
        simp [hj']
      · unfold World.frozen?
        rw [hh]
        rfl
    refine (H b o cap zs w hH p1 (by omega)).mono fun e w' h => ?_
    obtain ⟨rfl, nd, os, rfl⟩ := h
    have hzl : (zs.mergeSort fun x y => decide (x ≤ y)).length = zs.length := List.length_mergeSort _
    have hz : (zs.mergeSort leI) = zs.mergeSort fun x y => decide (x ≤ y) := rfl
    rw [hz]
    generalize zs.mergeSort (fun x y => decide (x ≤ y)) = zs' at hzl
    have hother : ∀ k, k < w.heap.size → k ≠ b → (grow (putRow (Value.int .i64) (Sort.ahead w nd) b o zs'.toArray) os).heap[k]? = w.heap[k]? := by
      intro k hk hkb
      rw [heap_grow_old _ _ (by simpa [putRow, mapBlock, Sort.ahead] using hk)]
      simp only [putRow, mapBlock, Sort.ahead, Array.getElem?_modify]
      rw [if_neg (Ne.symm hkb)]
    have hself : (grow (putRow (Value.int .i64) (Sort.ahead w nd) b o zs'.toArray) os).heap[b]? = some (.cells (putCells (Value.int .i64) o zs'.toArray us.toArray) T (0, 0)) := by
      rw [heap_grow_old _ _ (by simpa [putRow, mapBlock, Sort.ahead] using p1)]
      simp only [putRow, mapBlock, Sort.ahead, Array.getElem?_modify, if_true, hh, Option.map_some, onCells]
    have hsz : w.heap.size ≤ (grow (putRow (Value.int .i64) (Sort.ahead w nd) b o zs'.toArray) os).heap.size := by
      simp [putRow, mapBlock, Sort.ahead]
    have hself' : (fun j => if j = 0 then some (Sh.arr ver' 1 zs.length (some (b, o, tot))) else G j) = G := by
      funext j
      by_cases hj : j = 0
      · subst hj; rw [if_pos rfl, hG]
      · rw [if_neg hj]
    have hobs : (fun k => [Ob.arr ver' 1 (zs'.map encN)][k]?) = fun j => if j = 0 then some (Ob.arr ver' 1 (zs'.map encN)) else [Ob.arr ver' 1 (zs.map encN)][j]? := by
      funext j
      cases j with
      | zero => rfl
      | succ j => simp
    refine ⟨V, G, .tuple #[], [], _, ⟨rfl, rfl⟩, rfl, ⟨[], rfl, by simp [RepL]⟩, Ctx.le_refl _, ?_⟩
    rw [hobs]
    have := hs.upd (k := 0) (s := .arr ver' 1 zs.length (some (b, o, tot))) (ob := .arr ver' 1 (zs'.map encN)) (w' := grow (putRow (Value.int .i64) (Sort.ahead w nd) b o zs'.toArray) os) ?_ ?_ ?_ ?_ ?_ ?_ hsz ?_
    · rw [hself'] at this
      exact this
    · exact ⟨rfl, rfl, rfl, hsz, fun k hk hown => hother k hk fun e => hown ⟨0, _, hG, by rw [e]; rfl⟩⟩
    · intro b' o' x e
      have hne' : b' ≠ b := fun e' => by subst e'; rw [p3 o'] at e; cases e
      have hlt := hs.view_lt e
      have := hs.view b' o' x e
      unfold World.cell? at this ⊢
      rw [hother b' hlt hne']
      exact this
    · rw [hself']; exact Ctx.le_refl _
    · refine ⟨rfl, rfl, by rw [List.length_map, hzl], (fun e => by cases e), fun b2 o2 tot2 e => ?_⟩
      cases e
      refine ⟨(putCells (Value.int .i64) o zs'.toArray us.toArray).toList, T, by rw [Array.toArray_toList]; exact hself, by simpa [putCells] using hul, hle, RepR.of_get fun i c hi => ?_⟩
      rw [List.getElem?_map] at hi
      obtain ⟨z, hz1, rfl⟩ := Option.map_eq_some_iff.1 hi
      have hil : i < zs'.length := getElem?_lt hz1
      refine ⟨rfl, ?_⟩
      simp only [encN, RepC, and_true, Nat.mul_one]
      refine ⟨.int .i64 z, ?_, by simp [RepP], rfl⟩
      simp only [Array.getElem?_toList, putCells, Array.getElem?_mapIdx, List.getElem?_toArray]
      rw [hget i (by omega), Option.map_some, if_pos ⟨by omega, by simp; omega⟩]
      have : o + i - o = i := by omega
      rw [this]
      simp [hz1]
    · intro b' hb'
      cases hb'
      exact ⟨Nat.lt_of_lt_of_le p1 hsz, p2, p3, fun j s' hj hg hb' => hj (hs.inj j 0 s' _ b hg hG hb' rfl)⟩
    · intro b' hb' hlt
      cases hb'
      exact ⟨_, hG, rfl⟩
    · intro j s' b' hj hg hb'
      refine hother b' (hs.priv j s' b' hg hb').1 fun e => ?_
      subst e
      exact hj (hs.inj j 0 s' _ b' hg hG hb' rfl)
end Go.AM
