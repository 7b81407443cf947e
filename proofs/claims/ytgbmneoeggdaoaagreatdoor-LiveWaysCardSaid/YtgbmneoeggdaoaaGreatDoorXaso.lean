/- The library's sort of numbers, as a contract of the abstract machine. -/
import Derived.Test.YtgbmneoeggdaoaaGreatDoorXam5
import Derived.Shelf.Sort.Plain
namespace Go.AM
open Go Go.Sort
set_option linter.unusedVariables false
theorem ifB {b : Bool} {X Y : Prop} (h : b = true → X) (k : b = false → Y) : @IfL b ⟨X⟩ ⟨Y⟩ := ⟨h, k⟩
def encN (z : Int) : List AV := [.int .i64 z]
def leI (x y : Int) : Bool := decide (x ≤ y)
theorem ctr_sort1 {P : Program} {f : Nat} (hf : okFn P f = true)
  (H : ∀ (blk off cap : Nat) (zs : List Int) (w : World), Holds (Value.int .i64) w blk off zs.toArray → blk < w.heap.size → zs.length < 4611686018427387904 →
   Calls P f #[.slice (some ⟨blk, off, none⟩) zs.length cap] w fun e w' => e = .returned (.tuple #[]) ∧ ∃ n os, w' = grow (putRow (Value.int .i64) (Sort.ahead w n) blk off (zs.mergeSort fun x y => decide (x ≤ y)).toArray) os)
  (v : Nat) (zs : List Int) (hne : zs ≠ []) (hl : zs.length < 1000000) :
  Ctr P f [.hs 0 v 0 zs.length] [.arr v 1 (zs.map encN)] (retO [] [.arr v 1 ((zs.mergeSort leI).map encN)]) := by
 refine ⟨hf, fun V G w vs hs hrep => ?_⟩
 have hpos : 0 < zs.length := List.length_pos_iff.2 hne
 simp only [RepL] at hrep
 obtain ⟨val, r, rfl, hv, rfl⟩ := hrep
 simp only [Rep] at hv
 obtain ⟨_, ver', esz, n, loc, hG, _, hok⟩ := hv
 obtain ⟨s, hG', hob⟩ := hs.obs 0 _ rfl
 rw [hG] at hG'
 cases hG'
 simp only [ObOk] at hob
 obtain ⟨ev, rfl, hn, hnone, hsome⟩ := hob
 subst ev
 rw [List.length_map] at hn
 subst hn
 obtain ⟨a, cap, rfl, h1, h2, h3, hloc⟩ := hok rfl
 cases loc with
 | none => exact absurd (List.map_eq_nil_iff.1 (hnone rfl)) hne
 | some l =>
  obtain ⟨b, o, tot⟩ := l
  simp only at hloc
  obtain ⟨ha, htot⟩ := hloc
  have ha : a = some ⟨b, o, none⟩ := by
   rcases ha with ha | ha
   ·omega
   ·simpa using ha
  subst ha
  obtain ⟨us, T, hh, hul, hle, hrr⟩ := hsome b o tot rfl
  obtain ⟨p1, p2, p3⟩ := hs.priv 0 _ b hG rfl
  have hget : ∀ j (hj : j < zs.length), us[o + j]? = some (.int .i64 zs[j]) := by
   intro j hj
   obtain ⟨_, hc⟩ := hrr.get (i := j) (c := encN zs[j]) (by rw [List.getElem?_map, List.getElem?_eq_getElem hj]; rfl)
   simp only [encN, RepC, Nat.mul_one] at hc
   obtain ⟨⟨x, hx, hxr, _⟩, _⟩ := hc
   simp only [RepP] at hxr
   rw [hx, hxr]
  have hH : Holds (Value.int .i64) w b o zs.toArray := by
   intro j hj
   have hj' : j < zs.length := by simpa using hj
   refine ⟨?_, ?_⟩
   ·unfold World.cell?
    rw [hh]
    simp only [List.getElem?_toArray]
    rw [hget j hj']
    simp [hj']
   ·unfold World.frozen?
    rw [hh]
    rfl
  refine (H b o cap zs w hH p1 (by omega)).mono fun e w' h => ?_
  obtain ⟨rfl, nd, os, rfl⟩ := h
  have hzl : (zs.mergeSort fun x y => decide (x ≤ y)).length = zs.length := List.length_mergeSort _
  have hz : (zs.mergeSort leI) = zs.mergeSort fun x y => decide (x ≤ y) := rfl
  rw [hz]
  generalize zs.mergeSort (fun x y => decide (x ≤ y)) = zs' at hzl
  have hother : ∀ k, k < w.heap.size → k ≠ b → (grow (putRow (Value.int .i64) (Sort.ahead w nd) b o zs'.toArray) os).heap[k]? = w.heap[k]? := by
   intro k hk hkb
   rw [heap_grow_old _ _ (by simpa [putRow, mapBlock, Sort.ahead] using hk)]
   simp only [putRow, mapBlock, Sort.ahead, Array.getElem?_modify]
   rw [if_neg (Ne.symm hkb)]
  have hself : (grow (putRow (Value.int .i64) (Sort.ahead w nd) b o zs'.toArray) os).heap[b]? = some (.cells (putCells (Value.int .i64) o zs'.toArray us.toArray) T (0, 0)) := by
   rw [heap_grow_old _ _ (by simpa [putRow, mapBlock, Sort.ahead] using p1)]
   simp only [putRow, mapBlock, Sort.ahead, Array.getElem?_modify, if_true, hh, Option.map_some, onCells]
  have hsz : w.heap.size ≤ (grow (putRow (Value.int .i64) (Sort.ahead w nd) b o zs'.toArray) os).heap.size := by
   simp [putRow, mapBlock, Sort.ahead]
  have hself' : (fun j => if j = 0 then some (Sh.arr ver' 1 zs.length (some (b, o, tot))) else G j) = G := by
   funext j
   by_cases hj : j = 0
   ·subst hj; rw [if_pos rfl, hG]
   ·rw [if_neg hj]
  have hobs : (fun k => [Ob.arr ver' 1 (zs'.map encN)][k]?) = fun j => if j = 0 then some (Ob.arr ver' 1 (zs'.map encN)) else [Ob.arr ver' 1 (zs.map encN)][j]? := by
   funext j
   cases j with
   | zero => rfl
   | succ j => simp
  refine ⟨V, G, .tuple #[], [], _, ⟨rfl, rfl⟩, rfl, ⟨[], rfl, by simp [RepL]⟩, Ctx.le_refl _, ?_⟩
  rw [hobs]
  have := hs.upd (k := 0) (s := .arr ver' 1 zs.length (some (b, o, tot))) (ob := .arr ver' 1 (zs'.map encN)) (w' := grow (putRow (Value.int .i64) (Sort.ahead w nd) b o zs'.toArray) os) ?_ ?_ ?_ ?_ ?_ ?_ hsz ?_
  ·rw [hself'] at this
   exact this
  ·exact ⟨rfl, rfl, rfl, hsz, fun k hk hown => hother k hk fun e => hown ⟨0, _, hG, by rw [e]; rfl⟩⟩
  ·intro b' o' x e
   have hne' : b' ≠ b := fun e' => by subst e'; rw [p3 o'] at e; cases e
   have hlt := hs.view_lt e
   have := hs.view b' o' x e
   unfold World.cell? at this ⊢
   rw [hother b' hlt hne']
   exact this
  ·rw [hself']; exact Ctx.le_refl _
  ·refine ⟨rfl, rfl, by rw [List.length_map, hzl], (fun e => by cases e), fun b2 o2 tot2 e => ?_⟩
   cases e
   refine ⟨(putCells (Value.int .i64) o zs'.toArray us.toArray).toList, T, by rw [Array.toArray_toList]; exact hself, by simpa [putCells] using hul, hle, RepR.of_get fun i c hi => ?_⟩
   rw [List.getElem?_map] at hi
   obtain ⟨z, hz1, rfl⟩ := Option.map_eq_some_iff.1 hi
   have hil : i < zs'.length := getElem?_lt hz1
   refine ⟨rfl, ?_⟩
   simp only [encN, RepC, and_true, Nat.mul_one]
   refine ⟨.int .i64 z, ?_, by simp [RepP], rfl⟩
   simp only [Array.getElem?_toList, putCells, Array.getElem?_mapIdx, List.getElem?_toArray]
   rw [hget i (by omega), Option.map_some, if_pos ⟨by omega, by simp; omega⟩]
   have : o + i - o = i := by omega
   rw [this]
   simp [hz1]
  ·intro b' hb'
   cases hb'
   exact ⟨Nat.lt_of_lt_of_le p1 hsz, p2, p3, fun j s' hj hg hb' => hj (hs.inj j 0 s' _ b hg hG hb' rfl)⟩
  ·intro b' hb' hlt
   cases hb'
   exact ⟨_, hG, rfl⟩
  ·intro j s' b' hj hg hb'
   refine hother b' (hs.priv j s' b' hg hb').1 fun e => ?_
   subst e
   exact hj (hs.inj j 0 s' _ b' hg hG hb' rfl)
/- A function as data; where its blocks may go on: plain. -/
open Go
structure Opd where
 kind : Int
 cls : Int
 n : Int
 tag : Int
structure Ins where
 op : Int
 dst : Opd
 args : List Opd
 name : ByteArray
 off : Int
 labels : List ByteArray
 cases : List Int
structure Blk where
 label : ByteArray
 edge : Bool
 ins : List Opd
 code : List Ins
structure Rg where
 id : Int
 cls : Int
structure Fnc where
 machine : Bool
 name : ByteArray
 regs : List Rg
 params : List Opd
 blocks : List Blk
def encO (o : Opd) : List AV := [.int .i64 o.kind, .int .i64 o.cls, .int .i64 o.n, .int .i64 o.tag]
def encRg (r : Rg) : List AV := [.int .i64 r.id, .int .i64 r.cls]
def encSt (s : ByteArray) : List AV := [.str s]
def encCs (n : Int) : List AV := [.int .i64 n]
def encIn (i : Ins) : List AV := [.int .i64 i.op, .int .i64 i.dst.kind, .int .i64 i.dst.cls, .int .i64 i.dst.n, .int .i64 i.dst.tag, .sl (i.args.map encO), .str i.name, .int .i64 i.off, .sl (i.labels.map encSt), .sl (i.cases.map encCs)]
def encBk (b : Blk) : List AV := [.str b.label, .bool b.edge, .sl (b.ins.map encO), .sl (b.code.map encIn)]
def encFn (f : Fnc) : List AV := [.bool f.machine, .str f.name, .sl (f.regs.map encRg), .sl (f.params.map encO), .sl (f.blocks.map encBk)]
/-- Numbers of blocks. -/
def encK (n : Nat) : List AV := [.int .i64 (n : Int)]
def encRow (r : List Nat) : List AV := [.sl (r.map encK)]
def encRows (s : List (List Nat)) : List (List AV) := s.map encRow
/-- The first block of a label. -/
def findN (bs : List Blk) (l : ByteArray) : Option Nat := bs.findIdx? fun b => decide (b.label = l)
def optZ (o : Option Nat) : Int := match o with | some i => i | none => -1
def findI (bs : List Blk) (l : ByteArray) : Int := optZ (findN bs l)
theorem findN_some {bs : List Blk} {l : ByteArray} {i : Nat} (h : findN bs l = some i) : i < bs.length := by
 unfold findN at h
 rw [List.findIdx?_eq_some_iff_getElem] at h
 exact h.1
theorem findN_of {bs : List Blk} {l : ByteArray} {s : Nat} {b : Blk} (hb : bs[s]? = some b) (he : b.label = l) (h : ∀ j, j < s → ∀ c, bs[j]? = some c → c.label ≠ l) : findN bs l = some s := by
 unfold findN
 rw [List.findIdx?_eq_some_iff_getElem]
 obtain ⟨hs, rfl⟩ := List.getElem?_eq_some_iff.1 hb
 refine ⟨hs, by simp [he], fun j hj => ?_⟩
 have := h j hj bs[j] (List.getElem?_eq_getElem (by omega))
 simp [this]
theorem findN_none {bs : List Blk} {l : ByteArray} (h : ∀ j, j < bs.length → ∀ c, bs[j]? = some c → c.label ≠ l) : findN bs l = none := by
 unfold findN
 rw [List.findIdx?_eq_none_iff]
 intro b hb
 obtain ⟨j, hj, rfl⟩ := List.getElem_of_mem hb
 simpa using h j hj _ (List.getElem?_eq_getElem hj)
/-- One label more. -/
def stepL (bs : List Blk) (l : List Nat) (lb : ByteArray) : List Nat := match findN bs lb with | some t => if t ∈ l then l else l ++ [t] | none => l
def lastOp (b : Blk) : Option Ins := match b.code.getLast? with | some i => if 20 ≤ i.op ∧ i.op ≤ 23 then some i else none | none => none
def labelsOf (b : Blk) : List ByteArray := match lastOp b with | some i => i.labels | none => []
def succB (bs : List Blk) (b : Blk) : List Nat := (labelsOf b).foldl (stepL bs) []
def succF (bs : List Blk) : List (List Nat) := bs.map (succB bs)
theorem stepL_lt {bs : List Blk} {l : List Nat} {lb : ByteArray} (h : ∀ x ∈ l, x < bs.length) : ∀ x ∈ stepL bs l lb, x < bs.length := by
 unfold stepL
 intro x hx
 split at hx
 ·rename_i t ht
  split at hx
  ·exact h x hx
  ·rcases List.mem_append.1 hx with hx | hx
   ·exact h x hx
   ·rw [List.mem_singleton.1 hx]
    exact findN_some ht
 ·exact h x hx
theorem stepL_nodup {bs : List Blk} {l : List Nat} {lb : ByteArray} (h : l.Nodup) : (stepL bs l lb).Nodup := by
 unfold stepL
 split
 ·split
  ·exact h
  ·rename_i t _ ht
   rw [List.nodup_append]
   exact ⟨h, by simp, fun a ha b hb => by simp at hb; subst hb; exact fun e => ht (e ▸ ha)⟩
 ·exact h
theorem foldl_inv {α β : Type} {P : β → Prop} {f : β → α → β} (h : ∀ b a, P b → P (f b a)) : ∀ (l : List α) (b : β), P b → P (l.foldl f b)
 | [], b, hb => hb
 | a :: l, b, hb => foldl_inv h l _ (h b a hb)
theorem succB_lt (bs : List Blk) (b : Blk) : ∀ x ∈ succB bs b, x < bs.length := foldl_inv (P := fun l => ∀ x ∈ l, x < bs.length) (fun _ _ h => stepL_lt h) _ _ (fun x hx => by cases hx)
theorem succB_nodup (bs : List Blk) (b : Blk) : (succB bs b).Nodup := foldl_inv (P := List.Nodup) (fun _ _ h => stepL_nodup h) _ _ List.nodup_nil
theorem nodup_le {n : Nat} {l : List Nat} (h : l.Nodup) (hl : ∀ x ∈ l, x < n) : l.length ≤ n := by
 have := List.Nodup.length_le_of_subset h (l₂ := List.range n) (fun x hx => List.mem_range.2 (hl x hx))
 simpa using this
theorem succB_len (bs : List Blk) (b : Blk) : (succB bs b).length ≤ bs.length := nodup_le (succB_nodup bs b) (succB_lt bs b)
/-- Which blocks may go on with one. -/
def predR (s : List (List Nat)) (t : Nat) : List Nat := (List.range s.length).filter fun i => decide (t ∈ s.getD i [])
def predF (s : List (List Nat)) : List (List Nat) := (List.range s.length).map (predR s)
theorem snoc_take {α : Type} {l : List α} {i : Nat} {x : α} (h : l[i]? = some x) : l.take (i + 1) = l.take i ++ [x] := by
 rw [List.take_add_one, h]; rfl
/- Rows that are arrays of one's own: lookups, and what they are when they are written no more. -/
set_option linter.unusedSimpArgs false
def hsR (base i : Nat) (r : List Nat) : AV := .hs (base + 2 * i) r.length 0 r.length
def obR (r : List Nat) : Ob := .arr r.length 1 (r.map encK)
def cellsR (base : Nat) : Nat → List (List Nat) → List AV
 | _, [] => []
 | i, r :: rs => hsR base i r :: cellsR base (i + 1) rs
def objsR (base : Nat) : Nat → List (List Nat) → List (Nat × Ob)
 | _, [] => []
 | i, r :: rs => (base + 2 * i, obR r) :: objsR base (i + 1) rs
theorem cellsR_len {base : Nat} : ∀ {rs : List (List Nat)} {i : Nat}, (cellsR base i rs).length = rs.length
 | [], i => rfl
 | r :: rs, i => by simp [cellsR, cellsR_len (rs := rs)]
theorem cellsR_get {base : Nat} : ∀ {rs : List (List Nat)} {i j : Nat}, (cellsR base i rs)[j]? = (rs[j]?).map (hsR base (i + j))
 | [], i, j => by simp [cellsR]
 | r :: rs, i, 0 => by simp [cellsR]
 | r :: rs, i, j + 1 => by
  simp only [cellsR, List.getElem?_cons_succ]
  rw [cellsR_get (rs := rs), show i + 1 + j = i + (j + 1) by omega]
theorem drop_get {α : Type} {l : List α} {j : Nat} {x : α} (h : l[j]? = some x) : l.drop j = x :: l.drop (j + 1) := by
 obtain ⟨hj, rfl⟩ := List.getElem?_eq_some_iff.1 h
 exact (List.getElem_cons_drop hj).symm
theorem cellsR_drop {base : Nat} {rs : List (List Nat)} {j : Nat} {r : List Nat} (h : rs[j]? = some r) : (cellsR base 0 rs).drop j = hsR base j r :: (cellsR base 0 rs).drop (j + 1) :=
 drop_get (by rw [cellsR_get, h]; simp)
theorem cellsR_set {base : Nat} : ∀ {rs : List (List Nat)} {i j : Nat} {r : List Nat}, j < rs.length → setAt (cellsR base i rs) j [hsR base (i + j) r] = cellsR base i (rs.set j r)
 | [], i, j, r, h => by simp at h
 | x :: rs, i, 0, r, h => by simp [cellsR, setAt]
 | x :: rs, i, j + 1, r, h => by
  have := cellsR_set (base := base) (rs := rs) (i := i + 1) (j := j) (r := r) (by simpa using h)
  simp only [setAt, cellsR, List.set_cons_succ, List.take_succ_cons, List.cons_append, List.length_cons, List.length_nil, List.drop_succ_cons] at this ⊢
  rw [show i + (j + 1) = i + 1 + j by omega]
  rw [← this]
theorem optA_objsR {base : Nat} : ∀ {rs : List (List Nat)} {i k : Nat}, optA (objsR base i rs) k = if base + 2 * i ≤ k ∧ (k - base) % 2 = 0 then (rs[(k - base) / 2 - i]?).map obR else none
 | [], i, k => by simp [objsR, optA]
 | r :: rs, i, k => by
  simp only [objsR, optA]
  cases hb : Nat.beq (base + 2 * i) k with
  | true =>
   have := Nat.eq_of_beq_eq_true hb
   subst this
   simp only [cond_true]
   rw [if_pos (by omega), show (base + 2 * i - base) / 2 - i = 0 by omega]
   rfl
  | false =>
   have hne : base + 2 * i ≠ k := fun e => by rw [e, Nat.beq_refl] at hb; cases hb
   simp only [cond_false]
   rw [optA_objsR (rs := rs)]
   by_cases h : base + 2 * i ≤ k ∧ (k - base) % 2 = 0
   ·rw [if_pos h, if_pos (by omega), show (k - base) / 2 - i = ((k - base) / 2 - (i + 1)) + 1 by omega]
    rfl
   ·rw [if_neg h, if_neg (by omega)]
theorem optA_app {α : Type} : ∀ {a b : List (Nat × α)} {k : Nat}, optA (a ++ b) k = (optA a k).or (optA b k)
 | [], b, k => rfl
 | (j, x) :: a, b, k => by
  simp only [List.cons_append, optA]
  cases Nat.beq j k
  ·exact optA_app
  ·rfl
theorem optA_del {α : Type} : ∀ {r : List (Nat × α)} {i j : Nat}, optA (delA r i) j = if j = i then none else optA r j
 | r, i, j => by
  by_cases h : j = i
  ·subst h
   rw [if_pos rfl]
   induction r with
   | nil => rfl
   | cons p r ih =>
    obtain ⟨k, v⟩ := p
    simp only [delA]
    cases hb : Nat.beq k j with
    | true => simpa only [cond_true] using ih
    | false => simpa only [cond_false, optA, hb] using ih
  ·rw [if_neg h]; exact optA_delA r i j h
/-- The two boxes' rows. -/
def tailR (S P : List (List Nat)) : List (Nat × Ob) := objsR 1000 0 S ++ objsR 1001 0 P
theorem tail_S {S P : List (List Nat)} {j : Nat} {r : List Nat} (h : S[j]? = some r) : optA (tailR S P) (1000 + 2 * j) = some (obR r) := by
 unfold tailR
 rw [optA_app, optA_objsR, if_pos (by omega), show (1000 + 2 * j - 1000) / 2 - 0 = j by omega, h]
 rfl
theorem tail_P {S P : List (List Nat)} {j : Nat} {r : List Nat} (h : P[j]? = some r) : optA (tailR S P) (1001 + 2 * j) = some (obR r) := by
 unfold tailR
 rw [optA_app, optA_objsR, if_neg (by omega), optA_objsR, if_pos (by omega), show (1001 + 2 * j - 1001) / 2 - 0 = j by omega, h]
 rfl
theorem tail_low {S P : List (List Nat)} {k : Nat} (h : k < 1000) : optA (tailR S P) k = none := by
 unfold tailR
 rw [optA_app, optA_objsR, if_neg (by omega), optA_objsR, if_neg (by omega)]
 rfl
theorem del_objsR {base k : Nat} (h : k < base) : ∀ {rs : List (List Nat)} {i : Nat}, delA (objsR base i rs) k = objsR base i rs
 | [], i => rfl
 | r :: rs, i => by
  simp only [objsR, delA]
  rw [beq_ne (by omega), del_objsR h]
  rfl
theorem del_app {α : Type} : ∀ {a b : List (Nat × α)} {k : Nat}, delA (a ++ b) k = delA a k ++ delA b k
 | [], b, k => rfl
 | (j, x) :: a, b, k => by
  simp only [List.cons_append, delA]
  cases Nat.beq j k
  ·simp only [cond_false, List.cons_append, del_app (a := a)]
  ·simp only [cond_true, del_app (a := a)]
theorem tail_del {S P : List (List Nat)} {k : Nat} (h : k < 1000) : delA (tailR S P) k = tailR S P := by
 unfold tailR
 rw [del_app, del_objsR h, del_objsR (by omega)]
theorem fz_objsR {base k : Nat} {ob : Ob} : ∀ {rs : List (List Nat)} {i : Nat}, (∀ j, i ≤ j → base + 2 * j ≠ k) → fzO k ob (objsR base i rs) = objsR base i rs
 | [], i, h => rfl
 | r :: rs, i, h => by
  simp only [objsR, fzO]
  rw [beq_ne (h i (Nat.le_refl _)), fz_objsR fun j hj => h j (by omega)]
  rfl
theorem fz_app {k : Nat} {ob : Ob} : ∀ {a b : List (Nat × Ob)}, fzO k ob (a ++ b) = fzO k ob a ++ fzO k ob b
 | [], b => rfl
 | (j, x) :: a, b => by
  simp only [List.cons_append, fzO]
  cases Nat.beq j k
  ·simp only [cond_false, List.cons_append, fz_app (a := a)]
  ·simp only [cond_true, fz_app (a := a)]
theorem tail_fz {S P : List (List Nat)} {k : Nat} {ob : Ob} (h : k < 1000) : fzO k ob (tailR S P) = tailR S P := by
 unfold tailR
 rw [fz_app, fz_objsR (fun j _ => by omega), fz_objsR (fun j _ => by omega)]
theorem fz_cellsR {base k : Nat} {ob : Ob} : ∀ {rs : List (List Nat)} {i : Nat}, (∀ j, i ≤ j → base + 2 * j ≠ k) → fzL k ob (cellsR base i rs) = cellsR base i rs
 | [], i, h => rfl
 | r :: rs, i, h => by
  simp only [cellsR, fzL, hsR, fz]
  rw [beq_ne (h i (Nat.le_refl _)), fz_cellsR fun j hj => h j (by omega)]
  rfl
theorem cells_fz {base k : Nat} {ob : Ob} {rs : List (List Nat)} (h : k < base) : fzL k ob (cellsR base 0 rs) = cellsR base 0 rs := fz_cellsR fun j _ => by omega
/-- Rows that are written no more. -/
def slR (r : List Nat) : AV := .sl (r.map encK)
theorem fz_slR {k : Nat} {ob : Ob} : ∀ {rs : List (List Nat)} {l : List AV}, fzL k ob (rs.map slR ++ l) = rs.map slR ++ fzL k ob l
 | [], l => rfl
 | r :: rs, l => by
  simp only [List.map_cons, List.cons_append, fzL, slR, fz]
  rw [← fz_slR (rs := rs)]
theorem slR_pure : ∀ {rs : List (List Nat)}, isPL (rs.map slR) = true
 | [] => rfl
 | r :: rs => by simp only [List.map_cons, isPL, slR, isP, Bool.true_and]; exact slR_pure
/-- The graph while it is made: what is done of the rows is frozen already. -/
def stG (n : Nat) (dS S dP P : List (List Nat)) : St :=
 ⟨[(2, .ref 20 0)], (20, .box [.bs 14 0 n, .bs 18 0 n]) :: (14, .box (dS.map slR ++ cellsR 1000 dS.length S)) :: (18, .box (dP.map slR ++ cellsR 1001 dP.length P)) :: (objsR 1000 dS.length S ++ objsR 1001 dP.length P)⟩
theorem frz_S {n : Nat} {dP P : List (List Nat)} : ∀ {S dS : List (List Nat)}, Stp [] (stG n dS S dP P) (stG n (dS ++ S) [] dP P)
 | [], dS => by rw [List.append_nil]; exact .refl
 | r :: S, dS => by
  have h1 : (stG n dS (r :: S) dP P).ob (1000 + 2 * dS.length) = some (obR r) := by
   simp only [stG, St.ob, optA, objsR, List.cons_append]
   rw [beq_ne (by omega), beq_ne (by omega), beq_ne (by omega), Nat.beq_refl]
   rfl
  have h2 := Stp.frz (ks := []) (1000 + 2 * dS.length) (.refl (a := stG n dS (r :: S) dP P)) h1 rfl (by simp)
  have h3 : (stG n dS (r :: S) dP P).frz (1000 + 2 * dS.length) (obR r) = stG n (dS ++ [r]) S dP P := by
   simp only [stG, St.frz, fzR, fzO, fz, objsR, cellsR, List.cons_append, fzOb, fzL, fz_slR, hsR]
   rw [beq_ne (i := 20) (by omega), beq_ne (i := 14) (by omega), beq_ne (i := 18) (by omega), Nat.beq_refl]
   simp only [cond_true, cond_false, fz_app, obR, if_true, List.drop_zero]
   rw [fz_cellsR (fun j hj => by omega), fz_cellsR (fun j hj => by omega), fz_objsR (fun j hj => by omega), fz_objsR (fun j hj => by omega)]
   have h4 : (r.map encK).take r.length = r.map encK := List.take_of_length_le (by simp)
   rw [h4]
   simp [slR]
  rw [h3] at h2
  have := h2.trans (frz_S (S := S) (dS := dS ++ [r]))
  rwa [List.append_assoc] at this
theorem frz_P {n : Nat} {dS : List (List Nat)} : ∀ {P dP : List (List Nat)}, Stp [] (stG n dS [] dP P) (stG n dS [] (dP ++ P) [])
 | [], dP => by rw [List.append_nil]; exact .refl
 | r :: P, dP => by
  have h1 : (stG n dS [] dP (r :: P)).ob (1001 + 2 * dP.length) = some (obR r) := by
   simp only [stG, St.ob, optA, objsR, List.nil_append]
   rw [beq_ne (by omega), beq_ne (by omega), beq_ne (by omega), Nat.beq_refl]
   rfl
  have h2 := Stp.frz (ks := []) (1001 + 2 * dP.length) (.refl (a := stG n dS [] dP (r :: P))) h1 rfl (by simp)
  have h3 : (stG n dS [] dP (r :: P)).frz (1001 + 2 * dP.length) (obR r) = stG n dS [] (dP ++ [r]) P := by
   simp only [stG, St.frz, fzR, fzO, fz, objsR, cellsR, List.nil_append, List.append_nil, fzOb, fzL, fz_slR, hsR]
   rw [beq_ne (i := 20) (by omega), beq_ne (i := 14) (by omega), beq_ne (i := 18) (by omega), Nat.beq_refl]
   simp only [cond_true, cond_false, obR, if_true, List.drop_zero]
   rw [fz_cellsR (fun j hj => by omega), fz_objsR (fun j hj => by omega)]
   have h4 : (r.map encK).take r.length = r.map encK := List.take_of_length_le (by simp)
   have h5 : fzL (1001 + 2 * dP.length) (.arr r.length 1 (r.map encK)) (dS.map slR) = dS.map slR := by
    have := fz_slR (k := 1001 + 2 * dP.length) (ob := .arr r.length 1 (r.map encK)) (rs := dS) (l := [])
    simpa only [List.append_nil, fzL] using this
   rw [h4, h5]
   simp [slR]
  rw [h3] at h2
  have := h2.trans (frz_P (P := P) (dP := dP ++ [r]))
  rwa [List.append_assoc] at this
/-- A graph that no one writes. -/
def grP (S P : List (List Nat)) : AV := .rp [.sl (encRows S), .sl (encRows P)]
theorem frz_G {n : Nat} {S P : List (List Nat)} (hS : S.length = n) (hP : P.length = n) : Stp [] (stG n [] S [] P) ⟨[(2, grP S P)], []⟩ := by
 have h1 := (frz_S (n := n) (dP := []) (P := P) (S := S) (dS := [])).trans (frz_P (n := n) (dS := [] ++ S) (P := P) (dP := []))
 simp only [List.nil_append] at h1
 refine h1.trans ?_
 have e0 : stG n S [] P [] = ⟨[(2, .ref 20 0)], [(20, .box [.bs 14 0 n, .bs 18 0 n]), (14, .box (S.map slR)), (18, .box (P.map slR))]⟩ := by
  simp [stG, cellsR, objsR]
 have hz : ∀ {k : Nat} {ob : Ob} {rs : List (List Nat)}, fzL k ob (rs.map slR) = rs.map slR := by
  intro k ob rs
  have := fz_slR (k := k) (ob := ob) (rs := rs) (l := [])
  simpa only [List.append_nil, fzL] using this
 have hb : ∀ {rs : List (List Nat)}, rs.length = n → fzB (rs.map slR) 0 n = .sl (encRows rs) := by
  intro rs h
  unfold fzB
  rw [show Nat.ble (0 + n) (rs.map slR).length = true from Nat.ble_eq_true_of_le (by simp; omega)]
  simp only [cond_true, List.drop_zero]
  rw [List.take_of_length_le (by simp; omega), List.map_map]
  rfl
 rw [e0]
 have s1 := Stp.frz (ks := []) 14 (.refl (a := (⟨[(2, .ref 20 0)], [(20, .box [.bs 14 0 n, .bs 18 0 n]), (14, .box (S.map slR)), (18, .box (P.map slR))]⟩ : St))) (ob := .box (S.map slR)) rfl slR_pure (by simp)
 have e1 : (⟨[(2, .ref 20 0)], [(20, .box [.bs 14 0 n, .bs 18 0 n]), (14, .box (S.map slR)), (18, .box (P.map slR))]⟩ : St).frz 14 (.box (S.map slR)) = ⟨[(2, .ref 20 0)], [(20, .box [.sl (encRows S), .bs 18 0 n]), (18, .box (P.map slR))]⟩ := by
  simp [St.frz, fzR, fzO, fz, fzOb, fzL, hz, hb hS, show Nat.beq 20 14 = false from rfl, show Nat.beq 18 14 = false from rfl]
 rw [e1] at s1
 have s2 := Stp.frz (ks := []) 18 s1 (ob := .box (P.map slR)) rfl slR_pure (by simp)
 have e2 : (⟨[(2, .ref 20 0)], [(20, .box [.sl (encRows S), .bs 18 0 n]), (18, .box (P.map slR))]⟩ : St).frz 18 (.box (P.map slR)) = ⟨[(2, .ref 20 0)], [(20, .box [.sl (encRows S), .sl (encRows P)])]⟩ := by
  simp [St.frz, fzR, fzO, fz, fzOb, fzL, hb hP, show Nat.beq 20 18 = false from rfl]
 rw [e2] at s2
 have s3 := Stp.frz (ks := []) 20 s2 (ob := .box [.sl (encRows S), .sl (encRows P)]) rfl rfl (by simp)
 have e3 : (⟨[(2, .ref 20 0)], [(20, .box [.sl (encRows S), .sl (encRows P)])]⟩ : St).frz 20 (.box [.sl (encRows S), .sl (encRows P)]) = ⟨[(2, grP S P)], []⟩ := by
  simp [St.frz, fzR, fzO, fz, grP]
 rw [e3] at s3
 exact s3
def putsO : List (Nat × Ob) → List (Nat × Ob) → List (Nat × Ob)
 | os, [] => os
 | os, (k, o) :: u => putsO ((k, o) :: delA os k) u
theorem puts_eq {r : List (Nat × AV)} : ∀ {u os : List (Nat × Ob)}, St.puts ⟨r, os⟩ u = ⟨r, putsO os u⟩
 | [], os => rfl
 | (k, o) :: u, os => by simp only [St.puts, St.put, putsO]; exact puts_eq
theorem putsO_app {k : Nat} {o : Ob} : ∀ {u os : List (Nat × Ob)}, putsO os (u ++ [(k, o)]) = (k, o) :: delA (putsO os u) k
 | [], os => rfl
 | (j, x) :: u, os => by simp only [List.cons_append, putsO]; exact putsO_app
theorem puts_mk {r : List (Nat × AV)} {os : List (Nat × Ob)} {b k n : Nat} {o : Ob} : St.puts ⟨r, os⟩ (mkbO (some (b, 2, 1)) n ++ [(k, o)]) = ⟨r, (k, o) :: delA (putsO os (rowOs b 2 1 0 n)) k⟩ := by
 rw [puts_eq, putsO_app]; rfl
theorem rowOs_eq {base : Nat} : ∀ {n i : Nat}, rowOs base 2 1 i n = objsR base i (List.replicate n [])
 | 0, i => rfl
 | n + 1, i => by simp only [rowOs, List.replicate_succ, objsR, rowOs_eq (n := n)]; rfl
theorem rowCs_eq {base : Nat} : ∀ {n i : Nat}, rowCs base 2 i n = cellsR base i (List.replicate n [])
 | 0, i => rfl
 | n + 1, i => by simp only [rowCs, List.replicate_succ, cellsR, rowCs_eq (n := n)]; rfl
theorem optA_putsO {base k : Nat} : ∀ {rs : List (List Nat)} {i : Nat} {os : List (Nat × Ob)}, optA (putsO os (objsR base i rs)) k = (optA (objsR base i rs) k).or (optA os k)
 | [], i, os => rfl
 | r :: rs, i, os => by
  simp only [objsR, putsO]
  rw [optA_putsO (rs := rs)]
  simp only [optA]
  cases hb : Nat.beq (base + 2 * i) k with
  | true =>
   have := Nat.eq_of_beq_eq_true hb
   subst this
   rw [optA_objsR, if_neg (by omega)]
   rfl
  | false =>
   have hne : k ≠ base + 2 * i := fun e => by rw [e, Nat.beq_refl] at hb; cases hb
   simp only [cond_false]
   rw [optA_delA _ _ _ hne]
theorem meets_no {a b : List Nat} (h : ∀ x ∈ a, ∀ y ∈ b, x ≠ y) : meets a b = false := by
 unfold meets
 rw [List.any_eq_false]
 intro x hx
 rw [Bool.not_eq_true, List.any_eq_false]
 intro y hy
 rw [Bool.not_eq_true]
 exact beq_ne (h x hx y hy)
theorem rowKs_form {base : Nat} : ∀ {n i : Nat}, ∀ x ∈ rowKs base 2 i n, ∃ j, x = base + 2 * j
 | 0, i, x, h => by cases h
 | n + 1, i, x, h => by
  simp only [rowKs, List.mem_cons] at h
  rcases h with rfl | h
  ·exact ⟨i, rfl⟩
  ·exact rowKs_form x h
theorem acc_two {n : Nat} : accClash (([], 14 :: mkbK (some (1000, 2, 1)) n) : Acc) (([], 18 :: mkbK (some (1001, 2, 1)) n) : Acc) = false := by
 unfold accClash
 rw [meets_no, meets_no]
 ·rfl
 ·intro x hx; cases hx
 ·intro x hx y hy
  simp only [List.nil_append] at hy
  rcases List.mem_cons.1 hx with rfl | hx <;> rcases List.mem_cons.1 hy with rfl | hy
  ·omega
  ·obtain ⟨j, rfl⟩ := rowKs_form y hy; omega
  ·obtain ⟨j, rfl⟩ := rowKs_form x hx; omega
  ·obtain ⟨j, rfl⟩ := rowKs_form y hy
   obtain ⟨i, rfl⟩ := rowKs_form x hx
   omega
theorem acc_n0 {a : Acc} : accClash n0 a = false := by
 unfold accClash n0
 rw [meets_no (fun x hx => by cases hx), meets_no (fun x hx => by cases hx)]; rfl
theorem acc_0n {a : Acc} : accClash a n0 = false := by
 unfold accClash n0
 rw [meets_no (fun x _ y hy => by cases hy), meets_no (fun x _ y hy => by cases hy)]; rfl
theorem optA_ne {α : Type} {j k : Nat} {x : α} {r : List (Nat × α)} (h : k ≠ j) : optA ((j, x) :: r) k = optA r k := by
 simp only [optA]
 rw [beq_ne (Ne.symm h)]
 rfl
theorem optA_hit {α : Type} {k : Nat} {x : α} {r : List (Nat × α)} : optA ((k, x) :: r) k = some x := by
 simp only [optA, Nat.beq_refl, cond_true]
theorem start_ob {n k : Nat} {A : Ob} : optA ((20, A) :: (14, .box (cellsR 1000 0 (List.replicate n []))) :: (18, .box (cellsR 1001 0 (List.replicate n []))) :: tailR (List.replicate n []) (List.replicate n [])) k =
  optA ((20, A) :: (18, .box (mkbC (some (1001, 2, 1)) .dead n)) :: delA (delA (putsO ((14, .box (mkbC (some (1000, 2, 1)) .dead n)) :: delA (putsO [] (rowOs 1000 2 1 0 n)) 14) (rowOs 1001 2 1 0 n)) 18) 20) k := by
 simp only [mkbC, rowCs_eq, rowOs_eq, tailR]
 by_cases h20 : k = 20
 ·subst h20; rw [optA_hit, optA_hit]
 ·rw [optA_ne h20, optA_ne h20]
  by_cases h18 : k = 18
  ·subst h18; rw [optA_ne (by omega), optA_hit, optA_hit]
  ·rw [optA_ne h18, optA_del, if_neg h20, optA_del, if_neg h18, optA_putsO]
   by_cases h14 : k = 14
   ·subst h14
    rw [optA_hit, optA_hit, optA_objsR, if_neg (by omega)]
    rfl
   ·rw [optA_ne h14, optA_ne h18, optA_ne h14, optA_del, if_neg h14, optA_app, optA_putsO]
    generalize h1 : optA (objsR 1000 0 (List.replicate n [])) k = a
    generalize h2 : optA (objsR 1001 0 (List.replicate n [])) k = b
    rw [optA_objsR] at h1 h2
    by_cases hp : 1000 + 2 * 0 ≤ k ∧ (k - 1000) % 2 = 0
    ·rw [if_neg (by omega)] at h2
     subst h2
     simp [optA]
    ·rw [if_neg hp] at h1
     subst h1
     simp [optA]
theorem objs_set_ne {base k s : Nat} {rs : List (List Nat)} {x : List Nat} (h : k ≠ base + 2 * s) : optA (objsR base 0 (rs.set s x)) k = optA (objsR base 0 rs) k := by
 rw [optA_objsR, optA_objsR]
 by_cases hp : base + 2 * 0 ≤ k ∧ (k - base) % 2 = 0
 ·rw [if_pos hp, if_pos hp, List.getElem?_set_ne (by omega)]
 ·rw [if_neg hp, if_neg hp]
theorem upd_ob {n s t k K K2 : Nat} {S P : List (List Nat)} {cur pr cur' pr' : List Nat} {A : Ob} {X Y : List AV} (hK : 1000 + 2 * s = K) (hK2 : 1001 + 2 * t = K2) (hS : S[s]? = some cur) (hP : P[t]? = some pr)
  (hX : X = cellsR 1001 0 (P.set t pr')) (hY : Y = cellsR 1000 0 (S.set s cur')) :
  optA ((20, A) :: (14, .box (cellsR 1000 0 (S.set s cur'))) :: (18, .box (cellsR 1001 0 (P.set t pr'))) :: tailR (S.set s cur') (P.set t pr')) k =
  optA ((18, .box X) :: (K2, obR pr') :: (14, .box Y) :: (K, obR cur') :: (20, A) :: delA (delA (delA (delA (tailR S P) K) 14) K2) 18) k := by
 subst hK hK2 hX hY
 have hs : s < S.length := (List.getElem?_eq_some_iff.1 hS).1
 have ht : t < P.length := (List.getElem?_eq_some_iff.1 hP).1
 by_cases h20 : k = 20
 ·subst h20; rw [optA_hit, optA_ne (by omega), optA_ne (by omega), optA_ne (by omega), optA_ne (by omega), optA_hit]
 ·rw [optA_ne h20]
  by_cases h14 : k = 14
  ·subst h14; rw [optA_hit, optA_ne (by omega), optA_ne (by omega), optA_hit]
  ·rw [optA_ne h14]
   by_cases h18 : k = 18
   ·subst h18; rw [optA_hit, optA_hit]
   ·rw [optA_ne h18, optA_ne h18]
    by_cases h1 : k = 1001 + 2 * t
    ·subst h1
     rw [optA_hit, tail_P (r := pr')]
     rw [List.getElem?_set_self ht]
    ·rw [optA_ne h1, optA_ne h14]
     by_cases h2 : k = 1000 + 2 * s
     ·subst h2
      rw [optA_hit, tail_S (r := cur')]
      rw [List.getElem?_set_self hs]
     ·rw [optA_ne h2, optA_ne h20, optA_del, if_neg h18, optA_del, if_neg h1, optA_del, if_neg h14, optA_del, if_neg h2]
      unfold tailR
      rw [optA_app, optA_app, objs_set_ne h2, objs_set_ne h1]
/-- Registers that are left out. -/
theorem reg_sub {b : St} {l : List (Nat × AV)} {os : List (Nat × Ob)} (h : ∀ p ∈ l, b.reg p.1 = p.2) : ∀ i, (⟨l, os⟩ : St).reg i = b.reg i ∨ (⟨l, os⟩ : St).reg i = .dead := by
 intro i
 show getA .dead l i = b.reg i ∨ getA .dead l i = .dead
 induction l with
 | nil => exact .inr rfl
 | cons p l ih =>
  obtain ⟨j, x⟩ := p
  simp only [getA]
  cases hb : Nat.beq j i with
  | true =>
   have := Nat.eq_of_beq_eq_true hb
   subst this
   simp only [cond_true]
   exact .inl (h (j, x) List.mem_cons_self).symm
  | false => exact ih fun q hq => h q (List.mem_cons_of_mem _ hq)
/- What a draft is made into: plain. -/
theorem getDq {l : List Nat} {k : Nat} (h : k < l.length) : l[k]? = some (l.getD k 0) := by simp [List.getD_eq_getElem?_getD, h]
theorem tmod_nat {k : Int} {m : Nat} (h : 0 ≤ k) : Int.tmod k (m : Int) = ((k.toNat % m : Nat) : Int) := by
 obtain ⟨n, rfl⟩ := Int.eq_ofNat_of_zero_le h
 rfl
structure DIn where
 op : Int
 d : Int
 a : Int
 b : Int
 n : Int
structure DBk where
 code : List DIn
 term : Int
 a : Int
 b : Int
 v : Int
structure Drf where
 g : Int
 x : Int
 p : Int
 blocks : List DBk
def encDI (i : DIn) : List AV := [.int .u8 i.op, .int .u8 i.d, .int .u8 i.a, .int .u8 i.b, .int .i16 i.n]
def encDB (b : DBk) : List AV := [.sl (b.code.map encDI), .int .u8 b.term, .int .u8 b.a, .int .u8 b.b, .int .u8 b.v]
def encDr (d : Drf) : List AV := [.int .u8 d.g, .int .u8 d.x, .int .u8 d.p, .sl (d.blocks.map encDB)]
def By (n : Int) : Prop := 0 ≤ n ∧ n < 256
structure DIn.Ok (i : DIn) : Prop where
 hop : By i.op
 hd : By i.d
 ha : By i.a
 hb : By i.b
 hn : -32768 ≤ i.n ∧ i.n < 32768
structure DBk.Ok (b : DBk) : Prop where
 hcode : ∀ i ∈ b.code, i.Ok
 hterm : By b.term
 ha : By b.a
 hb : By b.b
 hv : By b.v
structure Drf.Ok (d : Drf) : Prop where
 hg : By d.g
 hx : By d.x
 hp : By d.p
 hblocks : ∀ b ∈ d.blocks, b.Ok
def vregP (v : Nat) : Opd := ⟨1, 0, v, 0⟩
def immP (n : Int) : Opd := ⟨4, 0, n, 0⟩
def noOpd : Opd := ⟨0, 0, 0, 0⟩
/-- Registers, by classes. -/
structure Ids where
 g : List Nat
 x : List Nat
def Ids.of (i : Ids) (c : Int) : List Nat := if c = 0 then i.g else i.x
structure Ids.Ok (i : Ids) : Prop where
 g0 : 0 < i.g.length
 x0 : 0 < i.x.length
 g1 : i.g.length ≤ 6
 x1 : i.x.length ≤ 3
def pickP (ids : List Nat) (k : Int) : Nat := ids.getD (k.toNat % ids.length) 0
def useV (ids has : List Nat) (k : Int) : Nat := if pickP ids k ∈ has then pickP ids k else ids.getD 0 0
def giveH (ids has : List Nat) (k : Int) : List Nat := if pickP ids k ∈ has then has else has ++ [pickP ids k]
theorem giveH_len {ids has : List Nat} {k : Int} : (giveH ids has k).length ≤ has.length + 1 := by
 unfold giveH
 split
 ·omega
 ·simp
def callName (a : Int) : ByteArray := if a % 3 = 0 then ⟨#[102]⟩ else if a % 3 = 1 then ⟨#[103]⟩ else ⟨#[112, 117, 116, 10]⟩
/-- A call's operand. -/
def callArg (ids : List Nat) (has : List Nat) (d : DIn) (i : Nat) : Opd := if Int.tmod (d.n + i) 3 = 0 then immP d.n else vregP (useV ids has ((d.a + (i : Int) * d.b) % 256))
def opOf (d : DIn) : Int := 1 + d.op % 19
def instrP (ids : Ids) (has : List Nat) (d : DIn) : List Nat × Ins :=
 let op := opOf d
 if op = 16 then (giveH (ids.of (d.d % 2)) has (d.d / 2), ⟨op, vregP (pickP (ids.of (d.d % 2)) (d.d / 2)), [if 0 < d.b % 3 then vregP (useV (ids.of (d.b % 3 - 1)) has d.a) else immP d.n], .empty, 0, [], []⟩)
 else if op = 17 then (giveH ids.g has d.d, ⟨op, vregP (pickP ids.g d.d), [vregP (useV ids.x has d.a)], .empty, Int.tmod d.n 8, [], []⟩)
 else if op = 18 then (has, ⟨op, noOpd, [vregP (useV ids.g has d.b), vregP (useV ids.x has d.a)], .empty, Int.tmod d.n 8, [], []⟩)
 else if op = 19 then (if 0 < d.d % 3 then giveH ids.g has d.d else has, ⟨op, if 0 < d.d % 3 then vregP (pickP ids.g d.d) else noOpd, (List.range (d.b % 4).toNat).map (callArg ids.g has d), callName d.a, 0, [], []⟩)
 else (giveH ids.g has d.d, ⟨op, vregP (pickP ids.g d.d), [vregP (useV ids.g has d.a), if 0 < d.b % 3 then vregP (useV ids.g has d.b) else immP d.n], .empty, 0, [], []⟩)
def labelP (i : Nat) : ByteArray := if i = 0 then ⟨#[101, 110, 116, 114, 121]⟩ else ⟨#[98, (48 + i).toUInt8]⟩
def goalP (k : Int) (n : Nat) : ByteArray := labelP (1 + k.toNat % (n - 1))
def lastV (ids : Ids) (has : List Nat) (d : DBk) : Opd := vregP (useV ids.g has d.v)
def lastP2 (ids : Ids) (has : List Nat) (d : DBk) (i n : Nat) : Ins :=
 let v := lastV ids has d
 if n = 1 ∨ (i + 1 = n ∧ d.term % 3 = 0) then ⟨23, noOpd, [if d.v % 7 = 6 then immP d.v else v], .empty, 0, [], []⟩
 else
  let next := if i + 1 < n then labelP (i + 1) else goalP d.a n
  if d.term % 4 = 0 ∨ d.term % 4 = 1 then
   if d.term % 8 < 4 then ⟨21, noOpd, [v], .empty, 0, [next, goalP d.b n], []⟩ else ⟨21, noOpd, [v], .empty, 0, [goalP d.b n, next], []⟩
  else if d.term % 4 = 2 then
   if d.v % 2 = 0 then ⟨22, noOpd, [v], .empty, 0, [goalP d.b n, next], [d.a % 3]⟩ else ⟨22, noOpd, [v], .empty, 0, [goalP d.a n, goalP d.b n, next], [d.a % 3, 5]⟩
  else ⟨20, noOpd, [], .empty, 0, [next], []⟩
def idsP (n c : Nat) : List Nat := (List.range n).map fun i => 2 * i + c
def drIds (d : Drf) : Ids := ⟨idsP (1 + (d.g % 6).toNat) 0, idsP (1 + (d.x % 3).toNat) 1⟩
def cntP (d : Drf) (c : Nat) : Nat := if c = 0 then 1 + (d.g % 6).toNat else 1 + (d.x % 3).toNat
/-- The registers: their numbers, each with its class. -/
def regP (d : Drf) (n : Nat) : List Nat := (List.range n).filter fun i => decide (i / 2 < cntP d (i % 2))
def parP (d : Drf) : Nat := d.p.toNat % ((regP d 12).length + 1)
/-- Has the register that stands there a value at the beginning? -/
def hasAt (d : Drf) (i : Nat) : Bool := decide (i < parP d) || (decide (i < 2) || decide (i + 2 < (regP d 12).length))
def hasTo (d : Drf) (n : Nat) : List Nat := ((List.range n).filter fun i => hasAt d i).map fun i => (regP d 12).getD i 0
def parTo (d : Drf) (n : Nat) : List Nat := ((List.range n).filter fun i => decide (i < parP d)).map fun i => (regP d 12).getD i 0
def startI (v : Nat) : Ins := ⟨16, vregP v, [immP (3 * v)], .empty, 0, [], []⟩
def startTo (d : Drf) (n : Nat) : List Ins := ((List.range n).filter fun i => hasAt d i && !decide (i < parP d)).map fun i => startI ((regP d 12).getD i 0)
def allP (d : Drf) : List Nat := hasTo d (regP d 12).length
/-- A block's instructions. -/
def codeP (ids : Ids) : List Nat → List DIn → List Nat × List Ins
 | has, [] => (has, [])
 | has, i :: r => ((codeP ids (instrP ids has i).1 r).1, (instrP ids has i).2 :: (codeP ids (instrP ids has i).1 r).2)
def nBlk (d : Drf) : Nat := if d.blocks.length = 0 then 1 else d.blocks.length
def noDB : DBk := ⟨[], 0, 0, 0, 0⟩
def blkP (d : Drf) (i : Nat) : Blk :=
 let b := d.blocks.getD i noDB
 let r := codeP (drIds d) (allP d) b.code
 ⟨labelP i, false, [], (if i = 0 then startTo d (regP d 12).length else []) ++ r.2 ++ [lastP2 (drIds d) r.1 b i (nBlk d)]⟩
def makeP (d : Drf) : Fnc := ⟨false, ⟨#[102]⟩, (regP d 12).map fun v : Nat => ⟨(v : Int), ((v % 2 : Nat) : Int)⟩, (parTo d (regP d 12).length).map vregP, (List.range (nBlk d)).map (blkP d)⟩
end Go.AM
