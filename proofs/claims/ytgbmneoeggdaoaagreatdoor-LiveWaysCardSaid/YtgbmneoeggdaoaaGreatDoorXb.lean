/- Sets of numbers in words of 64 bits: plain laws. -/
import Init
import Derived.Test.YtgbmneoeggdaoaaGreatDoorXam5
namespace Go.Bits
set_option linter.unusedVariables false
set_option linter.unusedSimpArgs false
/-- A word out of its bits, the lowest first. -/
def packN : List Bool → Nat
 | [] => 0
 | b :: r => b.toNat + 2 * packN r
theorem packN_lt : ∀ (l : List Bool), packN l < 2 ^ l.length
 | [] => by simp [packN]
 | b :: r => by
  have := packN_lt r
  simp only [packN, List.length_cons, Nat.pow_succ]
  cases b <;> simp <;> omega
theorem packN_bit : ∀ (l : List Bool) (j : Nat), (packN l).testBit j = l.getD j false
 | [], j => by simp [packN]
 | b :: r, 0 => by
  simp only [packN, Nat.testBit_zero, List.getD_cons_zero]
  cases b <;> simp <;> omega
 | b :: r, j + 1 => by
  rw [Nat.testBit_add_one]
  have : packN (b :: r) / 2 = packN r := by
   simp only [packN]
   cases b <;> simp <;> omega
  rw [this, packN_bit r j, List.getD_cons_succ]
def chunk (bs : List Bool) (k : Nat) : List Bool := (bs.drop (64 * k)).take 64
def nw (n : Nat) : Nat := (n + 63) / 64
/-- The words of a set, of which each number below the bound is told. -/
def wordsOf (bs : List Bool) : List Nat := (List.range (nw bs.length)).map fun k => packN (chunk bs k)
theorem wordsOf_len (bs : List Bool) : (wordsOf bs).length = nw bs.length := by simp [wordsOf]
theorem wordsOf_get (bs : List Bool) {k : Nat} (h : k < nw bs.length) : (wordsOf bs)[k]? = some (packN (chunk bs k)) := by
 simp [wordsOf, h]
theorem chunk_bit (bs : List Bool) (k j : Nat) : (packN (chunk bs k)).testBit j = (decide (j < 64) && bs.getD (64 * k + j) false) := by
 rw [packN_bit]
 unfold chunk
 simp only [List.getD_eq_getElem?_getD, List.getElem?_take, List.getElem?_drop]
 by_cases h : j < 64 <;> simp [h]
theorem chunk_lt (bs : List Bool) (k : Nat) : packN (chunk bs k) < 2 ^ 64 := by
 refine Nat.lt_of_lt_of_le (packN_lt _) (Nat.pow_le_pow_right (by omega) ?_)
 simp [chunk]
 omega
/-- Two words are one where their bits are. -/
theorem word_ext {a b : Nat} (ha : a < 2 ^ 64) (hb : b < 2 ^ 64) (h : ∀ j, j < 64 → a.testBit j = b.testBit j) : a = b := by
 apply Nat.eq_of_testBit_eq
 intro j
 by_cases hj : j < 64
 ·exact h j hj
 ·rw [Nat.testBit_lt_two_pow (Nat.lt_of_lt_of_le ha (Nat.pow_le_pow_right (by omega) (by omega))), Nat.testBit_lt_two_pow (Nat.lt_of_lt_of_le hb (Nat.pow_le_pow_right (by omega) (by omega)))]
theorem getD_set (bs : List Bool) (i j : Nat) (b : Bool) (hi : i < bs.length) : (bs.set i b).getD j false = if j = i then b else bs.getD j false := by
 simp only [List.getD_eq_getElem?_getD, List.getElem?_set]
 by_cases h : i = j
 ·subst h; simp [hi]
 ·have h' : ¬ j = i := fun e => h e.symm
  simp [h, h']
theorem list_ext (a b : List Nat) (n : Nat) (ha : a.length = n) (hb : b.length = n) (h : ∀ k, k < n → a[k]? = b[k]?) : a = b := by
 apply List.ext_getElem?
 intro k
 by_cases hk : k < n
 ·exact h k hk
 ·rw [List.getElem?_eq_none (by omega), List.getElem?_eq_none (by omega)]
theorem nw_div {n i : Nat} (h : i < n) : i / 64 < nw n := by unfold nw; omega
theorem wordsOf_set (bs : List Bool) (i : Nat) (hi : i < bs.length) (b : Bool) (w : Nat) (hw : w < 2 ^ 64) (h : ∀ j, j < 64 → w.testBit j = if j = i % 64 then b else (packN (chunk bs (i / 64))).testBit j) :
  (wordsOf bs).set (i / 64) w = wordsOf (bs.set i b) := by
 have hl : (bs.set i b).length = bs.length := by simp
 apply list_ext _ _ (nw bs.length) (by simp [wordsOf_len]) (by rw [wordsOf_len, hl])
 intro k hk
 rw [wordsOf_get _ (by rw [hl]; exact hk), List.getElem?_set]
 by_cases e : i / 64 = k
 ·subst e
  rw [if_pos rfl, if_pos (by rw [wordsOf_len]; exact hk)]
  congr 1
  apply word_ext hw (chunk_lt _ _)
  intro j hj
  rw [h j hj, chunk_bit, chunk_bit, getD_set bs i _ b hi]
  have : (64 * (i / 64) + j = i) ↔ (j = i % 64) := by omega
  by_cases hj2 : j = i % 64
  ·rw [if_pos hj2, if_pos (this.2 hj2)]; simp [hj]
  ·rw [if_neg hj2, if_neg (fun e => hj2 (this.1 e))]
 ·rw [if_neg e, wordsOf_get _ hk]
  congr 1
  apply word_ext (chunk_lt _ _) (chunk_lt _ _)
  intro j hj
  rw [chunk_bit, chunk_bit, getD_set bs i _ b hi, if_neg (by omega)]
/-- Has. -/
theorem has_word (bs : List Bool) (i : Nat) (hi : i < bs.length) : (packN (chunk bs (i / 64)) >>> (i % 64)) &&& 1 = (bs.getD i false).toNat := by
 have h := chunk_bit bs (i / 64) (i % 64)
 rw [show 64 * (i / 64) + i % 64 = i by omega] at h
 rw [show (decide (i % 64 < 64)) = true by simp; omega, Bool.true_and] at h
 rw [← h, Nat.testBit_eq_decide_div_mod_eq, Nat.and_one_is_mod, Nat.shiftRight_eq_div_pow]
 have := Nat.mod_two_eq_zero_or_one (packN (chunk bs (i / 64)) / 2 ^ (i % 64))
 rcases this with e | e <;> simp [e]
theorem add_word (bs : List Bool) (i : Nat) (hi : i < bs.length) : (wordsOf bs).set (i / 64) (packN (chunk bs (i / 64)) ||| 2 ^ (i % 64)) = wordsOf (bs.set i true) := by
 apply wordsOf_set bs i hi
 ·exact Nat.or_lt_two_pow (chunk_lt _ _) (Nat.pow_lt_pow_right (by omega) (by omega))
 ·intro j hj
  rw [Nat.testBit_or, Nat.testBit_two_pow]
  by_cases h : i % 64 = j
  ·subst h; simp
  ·rw [if_neg (fun e => h e.symm)]; simp [h]
theorem drop_word (bs : List Bool) (i : Nat) (hi : i < bs.length) : (wordsOf bs).set (i / 64) (packN (chunk bs (i / 64)) &&& (2 ^ 64 - 1 - 2 ^ (i % 64))) = wordsOf (bs.set i false) := by
 apply wordsOf_set bs i hi
 ·have := Nat.two_pow_pos (i % 64)
  exact Nat.and_lt_two_pow _ (by generalize 2 ^ (i % 64) = q at *; omega)
 ·intro j hj
  rw [Nat.testBit_and]
  have hp : 2 ^ (i % 64) < 2 ^ 64 := Nat.pow_lt_pow_right (by omega) (by omega)
  rw [show 2 ^ 64 - 1 - 2 ^ (i % 64) = 2 ^ 64 - (2 ^ (i % 64) + 1) by omega, Nat.testBit_two_pow_sub_succ hp, Nat.testBit_two_pow]
  by_cases h : i % 64 = j
  ·subst h; simp
  ·rw [if_neg (fun e => h e.symm)]; simp [h, hj]
/-- Two sets put together, number by number. -/
def two (f : Bool → Bool → Bool) (bs os : List Bool) : List Bool := bs.mapIdx fun i x => f x (os.getD i false)
theorem two_len (f : Bool → Bool → Bool) (bs os : List Bool) : (two f bs os).length = bs.length := by simp [two]
theorem two_get (f : Bool → Bool → Bool) (bs os : List Bool) (i : Nat) : (two f bs os).getD i false = (decide (i < bs.length) && f (bs.getD i false) (os.getD i false)) := by
 simp only [two, List.getD_eq_getElem?_getD, List.getElem?_mapIdx]
 by_cases h : i < bs.length
 ·simp [h]
 ·simp [h, List.getElem?_eq_none (Nat.le_of_not_lt h)]
/-- The bits of a word that may be in a set. -/
def maskW (n k : Nat) : Nat := if n < 64 * k + 64 then 2 ^ (n - 64 * k) - 1 else 2 ^ 64 - 1
theorem maskW_lt (n k : Nat) : maskW n k < 2 ^ 64 := by
 unfold maskW
 split
 ·have : 2 ^ (n - 64 * k) ≤ 2 ^ 64 := Nat.pow_le_pow_right (by omega) (by omega)
  have : 0 < 2 ^ (n - 64 * k) := Nat.two_pow_pos _
  omega
 ·omega
theorem maskW_bit (n k j : Nat) (hj : j < 64) : (maskW n k).testBit j = decide (64 * k + j < n) := by
 unfold maskW
 split
 ·rw [Nat.testBit_two_pow_sub_one]
  congr 1
  apply propext
  omega
 ·rw [Nat.testBit_two_pow_sub_one]
  have : 64 * k + j < n := by omega
  simp [hj, this]
def wordAt (os : List Bool) (k : Nat) : Nat := packN (chunk os k)
theorem wordAt_none (os : List Bool) (k : Nat) (h : nw os.length ≤ k) : wordAt os k = 0 := by
 apply word_ext (chunk_lt _ _) (by omega)
 intro j hj
 rw [chunk_bit, List.getD_eq_getElem?_getD, List.getElem?_eq_none (by unfold nw at h; omega)]
 simp
theorem two_word (f : Bool → Bool → Bool) (g : Nat → Nat → Nat) (hg : ∀ a b j, a < 2 ^ 64 → b < 2 ^ 64 → j < 64 → (g a b).testBit j = f (a.testBit j) (b.testBit j)) (bs os : List Bool) (k : Nat) :
  g (wordAt bs k) (wordAt os k) &&& maskW bs.length k = wordAt (two f bs os) k := by
 apply word_ext (Nat.and_lt_two_pow _ (maskW_lt _ _)) (chunk_lt _ _)
 intro j hj
 unfold wordAt
 rw [Nat.testBit_and, hg _ _ j (chunk_lt _ _) (chunk_lt _ _) hj, maskW_bit _ _ _ hj, chunk_bit, chunk_bit, chunk_bit, two_get]
 simp [hj, Bool.and_comm]
/-- Sets are one where their words are. -/
theorem wordsOf_inj {a b : List Bool} (hl : a.length = b.length) (h : ∀ k, k < nw a.length → wordAt a k = wordAt b k) : a = b := by
 apply List.ext_getElem?
 intro i
 by_cases hi : i < a.length
 ·have := congrArg (fun w => w.testBit (i % 64)) (h (i / 64) (nw_div hi))
  simp only [wordAt, chunk_bit, show 64 * (i / 64) + i % 64 = i by omega, show (decide (i % 64 < 64)) = true by simp; omega, Bool.true_and] at this
  have hb : i < b.length := by omega
  rw [List.getD_eq_getElem?_getD, List.getD_eq_getElem?_getD, List.getElem?_eq_getElem hi, List.getElem?_eq_getElem hb] at this
  rw [List.getElem?_eq_getElem hi, List.getElem?_eq_getElem hb]
  simpa using this
 ·rw [List.getElem?_eq_none (by omega), List.getElem?_eq_none (by omega)]
/- How many bits a word has, and its lowest one: plain laws. -/
/-- The place of the lowest bit. -/
def tzN : Nat → Nat → Nat
 | 0, _ => 0
 | n + 1, x => if x % 2 = 1 then 0 else 1 + tzN n (x / 2)
theorem tz_spec : ∀ (n x : Nat), x ≠ 0 → x < 2 ^ n → tzN n x < n ∧ x.testBit (tzN n x) = true ∧ (∀ j, j < tzN n x → x.testBit j = false) ∧ ∀ j, (x - 1).testBit j = if j < tzN n x then true else if j = tzN n x then false else x.testBit j
 | 0, x, h0, h => by omega
 | n + 1, x, h0, h => by
  unfold tzN
  by_cases hx : x % 2 = 1
  ·rw [if_pos hx]
   refine ⟨by omega, by simp [Nat.testBit_zero, hx], fun j hj => by omega, fun j => ?_⟩
   cases j with
   | zero => simp [Nat.testBit_zero]; omega
   | succ j =>
    rw [if_neg (by omega), if_neg (by omega), Nat.testBit_add_one, Nat.testBit_add_one]
    congr 1
    omega
  ·rw [if_neg hx]
   obtain ⟨g1, g2, g3, g4⟩ := tz_spec n (x / 2) (by omega) (by rw [Nat.pow_succ] at h; omega)
   refine ⟨by omega, ?_, fun j hj => ?_, fun j => ?_⟩
   ·rw [Nat.add_comm, Nat.testBit_add_one]; exact g2
   ·cases j with
    | zero => simp [Nat.testBit_zero]; omega
    | succ j => rw [Nat.testBit_add_one]; exact g3 j (by omega)
   ·cases j with
    | zero =>
     rw [if_pos (by omega), Nat.testBit_zero]
     simp; omega
    | succ j =>
     rw [Nat.testBit_add_one, Nat.testBit_add_one, show (x - 1) / 2 = x / 2 - 1 by omega, g4 j]
     generalize tzN n (x / 2) = t
     by_cases h1 : j < t
     ·simp [h1, show j + 1 < 1 + t by omega]
     ·by_cases h2 : j = t
      ·simp [h2, show t + 1 = 1 + t by omega]
      ·simp [h1, h2, show ¬ j + 1 < 1 + t by omega, show ¬ j + 1 = 1 + t by omega]
def tz (x : Nat) : Nat := tzN 64 x
theorem low_bit (x : Nat) (h0 : x ≠ 0) (h : x < 2 ^ 64) : x &&& (2 ^ 64 - x) = 2 ^ tz x := by
 obtain ⟨g1, g2, g3, g4⟩ := tz_spec 64 x h0 h
 have ht : 2 ^ tz x < 2 ^ 64 := Nat.pow_lt_pow_right (by omega) g1
 apply word_ext (Nat.and_lt_two_pow _ (by omega)) ht
 intro j hj
 rw [Nat.testBit_and, show 2 ^ 64 - x = 2 ^ 64 - ((x - 1) + 1) by omega, Nat.testBit_two_pow_sub_succ (by omega), g4 j, Nat.testBit_two_pow]
 unfold tz
 by_cases h1 : j < tzN 64 x
 ·rw [if_pos h1, g3 j h1]; simp; omega
 ·rw [if_neg h1]
  by_cases h2 : j = tzN 64 x
  ·rw [if_pos h2, h2, g2]; simp [g1]
  ·rw [if_neg h2]
   have : ¬ tzN 64 x = j := fun e => h2 e.symm
   cases x.testBit j <;> simp [this]
/-- The numbers of a word's bits, rising. -/
def onesW (w : Nat) : List Nat := (List.range 64).filter fun j => w.testBit j
theorem onesW_zero : onesW 0 = [] := by simp [onesW]
theorem onesW_cons (w : Nat) (h0 : w ≠ 0) (h : w < 2 ^ 64) : onesW w = tz w :: onesW (w &&& (w - 1)) := by
 obtain ⟨g1, g2, g3, g4⟩ := tz_spec 64 w h0 h
 have e : List.range 64 = List.range (tzN 64 w) ++ (tzN 64 w :: List.range' (tzN 64 w + 1) (63 - tzN 64 w)) := by
  have h := List.range'_append_1 (s := 0) (m := tzN 64 w) (n := 63 - tzN 64 w + 1)
  rw [Nat.zero_add] at h
  rw [List.range_eq_range', List.range_eq_range', ← List.range'_succ, h]
  congr 1
  omega
 have low : (List.range (tzN 64 w)).filter (fun j => w.testBit j) = [] := by
  rw [List.filter_eq_nil_iff]
  intro j hj
  rw [g3 j (List.mem_range.1 hj)]
  simp
 have low2 : (List.range (tzN 64 w)).filter (fun j => (w &&& (w - 1)).testBit j) = [] := by
  rw [List.filter_eq_nil_iff]
  intro j hj
  rw [Nat.testBit_and, g3 j (List.mem_range.1 hj)]
  simp
 unfold onesW tz
 rw [e, List.filter_append, List.filter_append, low, low2, List.nil_append, List.nil_append, List.filter_cons, List.filter_cons, if_pos g2, if_neg]
 ·congr 1
  apply List.filter_congr
  intro j hj
  have hj := List.mem_range'_1.1 hj
  rw [Nat.testBit_and, g4 j, if_neg (by omega), if_neg (by omega), Bool.and_self]
 ·rw [Nat.testBit_and, g4, if_neg (by omega), if_pos rfl]
  simp
theorem andlt (w : Nat) (h0 : w ≠ 0) : w &&& (w - 1) < w := by
 have : w &&& (w - 1) ≤ w - 1 := Nat.and_le_right
 omega
/-- The numbers of a set, rising. -/
def ones (bs : List Bool) : List Nat := (List.range bs.length).filter fun i => bs.getD i false
theorem range_filter (p : Nat → Bool) : ∀ m : Nat, (List.range (64 * m)).filter p = (List.range m).flatMap fun k => ((List.range 64).filter fun j => p (64 * k + j)).map (64 * k + ·)
 | 0 => rfl
 | m + 1 => by
  rw [List.range_succ (n := m), List.flatMap_append, ← range_filter p m, Nat.mul_succ, List.range_add, List.filter_append]
  congr 1
  simp only [List.flatMap_cons, List.flatMap_nil, List.append_nil, List.filter_map]
  rfl
theorem ones_words (bs : List Bool) : ones bs = (List.range (nw bs.length)).flatMap fun k => (onesW (wordAt bs k)).map (64 * k + ·) := by
 have h1 : ones bs = (List.range (64 * nw bs.length)).filter fun i => bs.getD i false := by
  have e : 64 * nw bs.length = bs.length + (64 * nw bs.length - bs.length) := by unfold nw; omega
  unfold ones
  rw [e, List.range_add, List.filter_append]
  have : (List.map (fun x => bs.length + x) (List.range (64 * nw bs.length - bs.length))).filter (fun i => bs.getD i false) = [] := by
   rw [List.filter_eq_nil_iff]
   intro j hj
   obtain ⟨x, _, rfl⟩ := List.mem_map.1 hj
   simp [List.getD_eq_getElem?_getD]
  rw [this, List.append_nil]
 rw [h1, range_filter]
 congr 1
 funext k
 congr 1
 unfold onesW
 apply List.filter_congr
 intro j hj
 unfold wordAt
 rw [chunk_bit]
 have := List.mem_range.1 hj
 simp [this]
/- The machine's operations on words of 64 bits, as plain numbers. -/
open Go Go.AM
theorem wrapU {n : Int} (h1 : 0 ≤ n) (h2 : n < 18446744073709551616) : IntKind.u64.wrap n = n := by
 simp only [IntKind.wrap, IntKind.bits, IntKind.signed]
 simp
 omega
theorem wrapN {n : Nat} (h : n < 2 ^ 64) : IntKind.u64.wrap (n : Int) = n := wrapU (by omega) (by omega)
theorem ofInt_nat {a : Nat} (h : a < 2 ^ 64) : (BitVec.ofInt 64 (a : Int)).toNat = a := by
 rw [BitVec.ofInt_natCast, BitVec.toNat_ofNat, Nat.mod_eq_of_lt h]
theorem bAnd_nat {a b : Nat} (ha : a < 2 ^ 64) (hb : b < 2 ^ 64) : bAnd .u64 (a : Int) (b : Int) = ((a &&& b : Nat) : Int) := by
 show IntKind.u64.wrap ((BitVec.ofInt 64 (a : Int) &&& BitVec.ofInt 64 (b : Int)).toNat : Int) = _
 rw [BitVec.toNat_and, ofInt_nat ha, ofInt_nat hb, wrapN (Nat.and_lt_two_pow _ hb)]
theorem bOr_nat {a b : Nat} (ha : a < 2 ^ 64) (hb : b < 2 ^ 64) : bOr .u64 (a : Int) (b : Int) = ((a ||| b : Nat) : Int) := by
 show IntKind.u64.wrap ((BitVec.ofInt 64 (a : Int) ||| BitVec.ofInt 64 (b : Int)).toNat : Int) = _
 rw [BitVec.toNat_or, ofInt_nat ha, ofInt_nat hb, wrapN (Nat.or_lt_two_pow ha hb)]
theorem bAndNot_nat {a b : Nat} (ha : a < 2 ^ 64) (hb : b < 2 ^ 64) : bAndNot .u64 (a : Int) (b : Int) = ((a &&& (2 ^ 64 - 1 - b) : Nat) : Int) := by
 show IntKind.u64.wrap ((BitVec.ofInt 64 (a : Int) &&& ~~~BitVec.ofInt 64 (b : Int)).toNat : Int) = _
 rw [BitVec.toNat_and, BitVec.toNat_not, ofInt_nat ha, ofInt_nat hb, wrapN (Nat.and_lt_two_pow _ (by omega))]
theorem shl_nat {j : Nat} (h : j < 64) : IntKind.u64.wrap ((1 : Int) * 2 ^ min j 64) = ((2 ^ j : Nat) : Int) := by
 rw [Nat.min_eq_left (by omega), Int.one_mul]
 have : (2 : Nat) ^ j < 2 ^ 64 := Nat.pow_lt_pow_right (by omega) h
 rw [← wrapN this]
 norm_cast
theorem shr_nat {a j : Nat} (h : j < 64) : Int.fdiv (a : Int) (2 ^ min j 64) = ((a / 2 ^ j : Nat) : Int) := by
 rw [Nat.min_eq_left (by omega)]
 rw [Int.fdiv_eq_ediv_of_nonneg _ (by have : (0 : Int) < 2 ^ j := Int.pow_pos (by omega); omega)]
 norm_cast
/-- A set's words, as they lie in memory. -/
def encW (w : Nat) : List AV := [.int .u64 (w : Int)]
def encWs (bs : List Bool) : List (List AV) := (wordsOf bs).map encW
theorem encWs_len (bs : List Bool) : (encWs bs).length = nw bs.length := by simp [encWs, wordsOf_len]
theorem encWs_get (bs : List Bool) {k : Nat} (h : k < nw bs.length) : (encWs bs)[k]? = some [.int .u64 (wordAt bs k : Int)] := by
 simp [encWs, wordsOf_get bs h, encW, wordAt]
theorem encWs_set (bs bs' : List Bool) (k w : Nat) (h : (wordsOf bs).set k w = wordsOf bs') : (encWs bs).set k [.int .u64 (w : Int)] = encWs bs' := by
 unfold encWs
 rw [← h, List.map_set]
 rfl
def setObs (bs : List Bool) : List Ob := [.box [.int .i64 (bs.length : Int), .hs 1 0 0 (nw bs.length)], .arr 0 1 (encWs bs)]
/-- A set that no one writes. -/
def setP (bs : List Bool) : AV := .rp [.int .i64 (bs.length : Int), .sl (encWs bs)]
end Go.Bits
