/- Sets of numbers in words of 64 bits: plain laws. -/
import Init
import Derived.Test.YticjemfgbfphdaaXam5
import Derived.Test.YticjemfgbfphdaaXa
namespace Go.Bits
set_option linter.unusedVariables false
set_option linter.unusedSimpArgs false
/-- A word out of its bits, the lowest first. -/
def packN : List Bool → Nat
  | [] => 0
  | b :: r => b.toNat + 2 * packN r
theorem packN_lt : ∀ (l : List Bool), packN l < 2 ^ l.length
  | [] => by simp [packN]
  | b :: r => by
    have := packN_lt r
    simp only [packN, List.length_cons, Nat.pow_succ]
    cases b <;> simp <;> omega
theorem packN_bit : ∀ (l : List Bool) (j : Nat), (packN l).testBit j = l.getD j false
  | [], j => by simp [packN]
  | b :: r, 0 => by
    simp only [packN, Nat.testBit_zero, List.getD_cons_zero]
    cases b <;> simp <;> omega
  | b :: r, j + 1 => by
    rw [Nat.testBit_add_one]
    have : packN (b :: r) / 2 = packN r := by
      simp only [packN]
      cases b <;> simp <;> omega
    rw [this, packN_bit r j, List.getD_cons_succ]
def chunk (bs : List Bool) (k : Nat) : List Bool := (bs.drop (64 * k)).take 64
def nw (n : Nat) : Nat := (n + 63) / 64
/-- The words of a set, of which each number below the bound is told. -/
def wordsOf (bs : List Bool) : List Nat := (List.range (nw bs.length)).map fun k => packN (chunk bs k)
theorem wordsOf_len (bs : List Bool) : (wordsOf bs).length = nw bs.length := by simp [wordsOf]
theorem wordsOf_get (bs : List Bool) {k : Nat} (h : k < nw bs.length) : (wordsOf bs)[k]? = some (packN (chunk bs k)) := by
  simp [wordsOf, h]
theorem chunk_bit (bs : List Bool) (k j : Nat) : (packN (chunk bs k)).testBit j = (decide (j < 64) && bs.getD (64 * k + j) false) := by
  rw [packN_bit]
  unfold chunk
  simp only [List.getD_eq_getElem?_getD, List.getElem?_take, List.getElem?_drop]
  by_cases h : j < 64 <;> simp [h]
theorem chunk_lt (bs : List Bool) (k : Nat) : packN (chunk bs k) < 2 ^ 64 := by
  refine Nat.lt_of_lt_of_le (packN_lt _) (Nat.pow_le_pow_right (by omega) ?_)
  simp [chunk]
  omega
/-- Two words are one where their bits are. -/
theorem word_ext {a b : Nat} (ha : a < 2 ^ 64) (hb : b < 2 ^ 64) (h : ∀ j, j < 64 → a.testBit j = b.testBit j) : a = b := by
  apply Nat.eq_of_testBit_eq
  intro j
  by_cases hj : j < 64
  · exact h j hj
  · rw [Nat.testBit_lt_two_pow (Nat.lt_of_lt_of_le ha (Nat.pow_le_pow_right (by omega) (by omega))), Nat.testBit_lt_two_pow (Nat.lt_of_lt_of_le hb (Nat.pow_le_pow_right (by omega) (by omega)))]
theorem getD_set (bs : List Bool) (i j : Nat) (b : Bool) (hi : i < bs.length) : (bs.set i b).getD j false = if j = i then b else bs.getD j false := by
  simp only [List.getD_eq_getElem?_getD, List.getElem?_set]
  by_cases h : i = j
  · subst h; simp [hi]
  · have h' : ¬ j = i := fun e => h e.symm
    simp [h, h']
theorem list_ext (a b : List Nat) (n : Nat) (ha : a.length = n) (hb : b.length = n) (h : ∀ k, k < n → a[k]? = b[k]?) : a = b := by
  apply List.ext_getElem?
  intro k
  by_cases hk : k < n
  · exact h k hk
  · rw [List.getElem?_eq_none (by omega), List.getElem?_eq_none (by omega)]
theorem nw_div {n i : Nat} (h : i < n) : i / 64 < nw n := by unfold nw; omega
theorem wordsOf_set (bs : List Bool) (i : Nat) (hi : i < bs.length) (b : Bool) (w : Nat) (hw : w < 2 ^ 64) (h : ∀ j, j < 64 → w.testBit j = if j = i % 64 then b else (packN (chunk bs (i / 64))).testBit j) :
    (wordsOf bs).set (i / 64) w = wordsOf (bs.set i b) := by
  have hl : (bs.set i b).length = bs.length := by simp
  apply list_ext _ _ (nw bs.length) (by simp [wordsOf_len]) (by rw [wordsOf_len, hl])
  intro k hk
  rw [wordsOf_get _ (by rw [hl]; exact hk), List.getElem?_set]
  by_cases e : i / 64 = k
  · subst e
    rw [if_pos rfl, if_pos (by rw [wordsOf_len]; exact hk)]
    congr 1
    apply word_ext hw (chunk_lt _ _)
    intro j hj
    rw [h j hj, chunk_bit, chunk_bit, getD_set bs i _ b hi]
    have : (64 * (i / 64) + j = i) ↔ (j = i % 64) := by omega
    by_cases hj2 : j = i % 64
    · rw [if_pos hj2, if_pos (this.2 hj2)]; simp [hj]
    · rw [if_neg hj2, if_neg (fun e => hj2 (this.1 e))]
  · rw [if_neg e, wordsOf_get _ hk]
    congr 1
    apply word_ext (chunk_lt _ _) (chunk_lt _ _)
    intro j hj
    rw [chunk_bit, chunk_bit, getD_set bs i _ b hi, if_neg (by omega)]
/-- Has. -/
theorem has_word (bs : List Bool) (i : Nat) (hi : i < bs.length) : (packN (chunk bs (i / 64)) >>> (i % 64)) &&& 1 = (bs.getD i false).toNat := by
  have h := chunk_bit bs (i / 64) (i % 64)
  rw [show 64 * (i / 64) + i % 64 = i by omega] at h
  rw [show (decide (i % 64 < 64)) = true by simp; omega, Bool.true_and] at h
  rw [← h, Nat.testBit_eq_decide_div_mod_eq, Nat.and_one_is_mod, Nat.shiftRight_eq_div_pow]
  have := Nat.mod_two_eq_zero_or_one (packN (chunk bs (i / 64)) / 2 ^ (i % 64))
  rcases this with e | e <;> simp [e]
theorem add_word (bs : List Bool) (i : Nat) (hi : i < bs.length) : (wordsOf bs).set (i / 64) (packN (chunk bs (i / 64)) ||| 2 ^ (i % 64)) = wordsOf (bs.set i true) := by
  apply wordsOf_set bs i hi
  · exact Nat.or_lt_two_pow (chunk_lt _ _) (Nat.pow_lt_pow_right (by omega) (by omega))
  · intro j hj
    rw [Nat.testBit_or, Nat.testBit_two_pow]
    by_cases h : i % 64 = j
    · subst h; simp
    · rw [if_neg (fun e => h e.symm)]; simp [h]
theorem drop_word (bs : List Bool) (i : Nat) (hi : i < bs.length) : (wordsOf bs).set (i / 64) (packN (chunk bs (i / 64)) &&& (2 ^ 64 - 1 - 2 ^ (i % 64))) = wordsOf (bs.set i false) := by
  apply wordsOf_set bs i hi
  · have := Nat.two_pow_pos (i % 64)
    exact Nat.and_lt_two_pow _ (by generalize 2 ^ (i % 64) = q at *; omega)
  · intro j hj
    rw [Nat.testBit_and]
    have hp : 2 ^ (i % 64) < 2 ^ 64 := Nat.pow_lt_pow_right (by omega) (by omega)
    rw [show 2 ^ 64 - 1 - 2 ^ (i % 64) = 2 ^ 64 - (2 ^ (i % 64) + 1) by omega, Nat.testBit_two_pow_sub_succ hp, Nat.testBit_two_pow]
    by_cases h : i % 64 = j
    · subst h; simp
    · rw [if_neg (fun e => h e.symm)]; simp [h, hj]
/-- Two sets put together, number by number. -/
def two (f : Bool → Bool → Bool) (bs os : List Bool) : List Bool := bs.mapIdx fun i x => f x (os.getD i false)
theorem two_len (f : Bool → Bool → Bool) (bs os : List Bool) : (two f bs os).length = bs.length := by simp [two]
theorem two_get (f : Bool → Bool → Bool) (bs os : List Bool) (i : Nat) : (two f bs os).getD i false = (decide (i < bs.length) && f (bs.getD i false) (os.getD i false)) := by
  simp only [two, List.getD_eq_getElem?_getD, List.getElem?_mapIdx]
  by_cases h : i < bs.length
  · simp [h]
  · simp [h, List.getElem?_eq_none (Nat.le_of_not_lt h)]
/-- The bits of a word that may be in a set. -/
def maskW (n k : Nat) : Nat := if n < 64 * k + 64 then 2 ^ (n - 64 * k) - 1 else 2 ^ 64 - 1
theorem maskW_lt (n k : Nat) : maskW n k < 2 ^ 64 := by
  unfold maskW
  split
  · have : 2 ^ (n - 64 * k) ≤ 2 ^ 64 := Nat.pow_le_pow_right (by omega) (by omega)
    have : 0 < 2 ^ (n - 64 * k) := Nat.two_pow_pos _
    omega
  · omega
theorem maskW_bit (n k j : Nat) (hj : j < 64) : (maskW n k).testBit j = decide (64 * k + j < n) := by
  unfold maskW
  split
  · rw [Nat.testBit_two_pow_sub_one]
    congr 1
    apply propext
    omega
  · rw [Nat.testBit_two_pow_sub_one]
    have : 64 * k + j < n := by omega
    simp [hj, this]
def wordAt (os : List Bool) (k : Nat) : Nat := packN (chunk os k)
theorem wordAt_none (os : List Bool) (k : Nat) (h : nw os.length ≤ k) : wordAt os k = 0 := by
  apply word_ext (chunk_lt _ _) (by omega)
  intro j hj
  rw [chunk_bit, List.getD_eq_getElem?_getD, List.getElem?_eq_none (by unfold nw at h; omega)]
  simp
theorem two_word (f : Bool → Bool → Bool) (g : Nat → Nat → Nat) (hg : ∀ a b j, a < 2 ^ 64 → b < 2 ^ 64 → j < 64 → (g a b).testBit j = f (a.testBit j) (b.testBit j)) (bs os : List Bool) (k : Nat) :
    g (wordAt bs k) (wordAt os k) &&& maskW bs.length k = wordAt (two f bs os) k := by
  apply word_ext (Nat.and_lt_two_pow _ (maskW_lt _ _)) (chunk_lt _ _)
  intro j hj
  unfold wordAt
  rw [Nat.testBit_and, hg _ _ j (chunk_lt _ _) (chunk_lt _ _) hj, maskW_bit _ _ _ hj, chunk_bit, chunk_bit, chunk_bit, two_get]
  simp [hj, Bool.and_comm]
/-- Sets are one where their words are. -/
theorem wordsOf_inj {a b : List Bool} (hl : a.length = b.length) (h : ∀ k, k < nw a.length → wordAt a k = wordAt b k) : a = b := by
  apply List.ext_getElem?
  intro i
  by_cases hi : i < a.length
  · have := congrArg (fun w => w.testBit (i % 64)) (h (i / 64) (nw_div hi))
    simp only [wordAt, chunk_bit, show 64 * (i / 64) + i % 64 = i by omega, show (decide (i % 64 < 64)) = true by simp; omega, Bool.true_and] at this
    have hb : i < b.length := by omega
    rw [List.getD_eq_getElem?_getD, List.getD_eq_getElem?_getD, List.getElem?_eq_getElem hi, List.getElem?_eq_getElem hb] at this
    rw [List.getElem?_eq_getElem hi, List.getElem?_eq_getElem hb]
    simpa using this
  · rw [List.getElem?_eq_none (by omega), List.getElem?_eq_none (by omega)]
end Go.Bits
/- How many bits a word has, and its lowest one: plain laws. -/
namespace Go.Bits
set_option linter.unusedVariables false
set_option linter.unusedSimpArgs false
theorem and_parts {t a b c d : Nat} (ha : a < 2 ^ t) (hc : c < 2 ^ t) : (a + 2 ^ t * b) &&& (c + 2 ^ t * d) = (a &&& c) + 2 ^ t * (b &&& d) := by
  apply Nat.eq_of_testBit_eq
  intro j
  have hac : a &&& c < 2 ^ t := Nat.and_lt_two_pow _ hc
  rw [Nat.testBit_and, Nat.add_comm a, Nat.add_comm c, Nat.add_comm (a &&& c), Nat.testBit_two_pow_mul_add _ ha, Nat.testBit_two_pow_mul_add _ hc, Nat.testBit_two_pow_mul_add _ hac]
  by_cases h : j < t <;> simp [h, Nat.testBit_and]
/-- A number out of its digits, each of s bits. -/
def pk (s : Nat) : List Nat → Nat
  | [] => 0
  | d :: r => d + 2 ^ s * pk s r
def sum2 : List Nat → List Nat
  | a :: b :: r => (a + b) :: sum2 r
  | l => l
def maskR (s : Nat) : Nat → Nat
  | 0 => 0
  | n + 1 => (2 ^ s - 1) + 2 ^ (2 * s) * maskR s n
theorem mod_add_mul {s d q : Nat} (h : d < 2 ^ s) : (d + 2 ^ s * q) % 2 ^ s = d := by
  rw [Nat.add_mul_mod_self_left, Nat.mod_eq_of_lt h]
theorem div_add_mul {s d q : Nat} (h : d < 2 ^ s) : (d + 2 ^ s * q) / 2 ^ s = q := by
  rw [Nat.add_mul_div_left _ _ (Nat.two_pow_pos s), Nat.div_eq_of_lt h, Nat.zero_add]
theorem low_mask {s x y m : Nat} : (x % 2 ^ (2 * s) + 2 ^ (2 * s) * y) &&& ((2 ^ s - 1) + 2 ^ (2 * s) * m) = x % 2 ^ s + 2 ^ (2 * s) * (y &&& m) := by
  have hp := Nat.two_pow_pos (2 * s)
  have h1 : 2 ^ s ≤ 2 ^ (2 * s) := Nat.pow_le_pow_right (by omega) (by omega)
  have hs := Nat.two_pow_pos s
  rw [and_parts (Nat.mod_lt _ hp) (by omega), Nat.and_two_pow_sub_one_eq_mod]
  congr 1
  exact Nat.mod_mod_of_dvd _ (Nat.pow_dvd_pow 2 (by omega))
/-- Digits put together by pairs, as the program does it. -/
theorem pairs_sum {s : Nat} : ∀ (n : Nat) (l : List Nat), l.length = 2 * n → (∀ d ∈ l, d < 2 ^ s) →
    ((pk s l / 2 ^ s) &&& maskR s n) + (pk s l &&& maskR s n) = pk (2 * s) (sum2 l)
  | 0, l, hl, h => by
    have : l = [] := List.eq_nil_of_length_eq_zero (by omega)
    subst this
    simp [pk, maskR, sum2]
  | n + 1, [], hl, h => by simp at hl
  | n + 1, [_], hl, h => by exfalso; simp at hl; omega
  | n + 1, a :: b :: r, hl, h => by
    have ha := h a (by simp)
    have hb := h b (by simp)
    have ih := pairs_sum n r (by simp at hl; omega) (fun d hd => h d (by simp [hd]))
    have e2 : (2 : Nat) ^ (2 * s) = 2 ^ s * 2 ^ s := by rw [Nat.two_mul, Nat.pow_add]
    simp only [pk, sum2, maskR]
    have x1 : a + 2 ^ s * (b + 2 ^ s * pk s r) = (a + 2 ^ s * b) % 2 ^ (2 * s) + 2 ^ (2 * s) * pk s r := by
      rw [Nat.mod_eq_of_lt]
      · rw [e2, Nat.mul_add, Nat.mul_assoc]; omega
      · rw [e2]
        have : 2 ^ s * b ≤ 2 ^ s * (2 ^ s - 1) := Nat.mul_le_mul_left _ (by omega)
        have e3 : 2 ^ s * (2 ^ s - 1) + 2 ^ s = 2 ^ s * 2 ^ s := by rw [← Nat.mul_succ]; congr 1; omega
        omega
    have x2 : (a + 2 ^ s * (b + 2 ^ s * pk s r)) / 2 ^ s = (b + 2 ^ s * (pk s r % 2 ^ s)) % 2 ^ (2 * s) + 2 ^ (2 * s) * (pk s r / 2 ^ s) := by
      rw [div_add_mul ha, Nat.mod_eq_of_lt]
      · have := Nat.mod_add_div (pk s r) (2 ^ s)
        rw [e2, Nat.mul_assoc, Nat.add_assoc, ← Nat.mul_add, this]
      · rw [e2]
        have hm := Nat.mod_lt (pk s r) (Nat.two_pow_pos s)
        have : 2 ^ s * (pk s r % 2 ^ s) ≤ 2 ^ s * (2 ^ s - 1) := Nat.mul_le_mul_left _ (by omega)
        have e3 : 2 ^ s * (2 ^ s - 1) + 2 ^ s = 2 ^ s * 2 ^ s := by rw [← Nat.mul_succ]; congr 1; omega
        omega
    rw [x2, x1, low_mask, low_mask, mod_add_mul ha, mod_add_mul hb, ← ih]
    rw [Nat.mul_add]
    omega
theorem sum2_sum : ∀ (l : List Nat), (sum2 l).sum = l.sum
  | [] => rfl
  | [_] => rfl
  | a :: b :: r => by simp only [sum2, List.sum_cons, sum2_sum r]; omega
theorem sum2_len : ∀ (n : Nat) (l : List Nat), l.length = 2 * n → (sum2 l).length = n
  | 0, l, h => by rw [List.eq_nil_of_length_eq_zero (l := l) (by omega)]; rfl
  | n + 1, [], h => by simp at h
  | n + 1, [_], h => by exfalso; simp at h; omega
  | n + 1, a :: b :: r, h => by simp only [sum2, List.length_cons, sum2_len n r (by simp at h; omega)]
theorem sum2_le {m : Nat} : ∀ (l : List Nat), (∀ d ∈ l, d ≤ m) → ∀ d ∈ sum2 l, d ≤ 2 * m
  | [], h, d, hd => by simp [sum2] at hd
  | [x], h, d, hd => by
    have := h x (by simp)
    simp [sum2] at hd
    omega
  | a :: b :: r, h, d, hd => by
    simp only [sum2, List.mem_cons] at hd
    rcases hd with rfl | hd
    · have := h a (by simp)
      have := h b (by simp)
      omega
    · exact sum2_le r (fun d hd => h d (by simp [hd])) d hd
theorem pk_lt {s : Nat} : ∀ (l : List Nat), (∀ d ∈ l, d < 2 ^ s) → pk s l < 2 ^ (s * l.length)
  | [], h => by simp [pk]
  | d :: r, h => by
    have h1 := h d (by simp)
    have h2 := pk_lt r (fun x hx => h x (by simp [hx]))
    simp only [pk, List.length_cons, Nat.mul_succ, Nat.pow_add]
    have : 2 ^ s * pk s r ≤ 2 ^ s * (2 ^ (s * r.length) - 1) := Nat.mul_le_mul_left _ (by omega)
    have e3 : 2 ^ s * (2 ^ (s * r.length) - 1) + 2 ^ s = 2 ^ s * 2 ^ (s * r.length) := by
      have := Nat.two_pow_pos (s * r.length)
      rw [← Nat.mul_succ]; congr 1; omega
    rw [Nat.mul_comm (2 ^ (s * r.length))]
    omega
/-- The third step: sums first, masked behind that. -/
theorem pairs_sum4 : ∀ (n : Nat) (l : List Nat), l.length = 2 * n → (∀ d ∈ l, d ≤ 4) →
    ((pk 4 l / 2 ^ 4) + pk 4 l) &&& maskR 4 n = pk 8 (sum2 l)
  | 0, l, hl, h => by
    rw [List.eq_nil_of_length_eq_zero (l := l) (by omega)]
    simp [pk, maskR, sum2]
  | n + 1, [], hl, h => by simp at hl
  | n + 1, [_], hl, h => by exfalso; simp at hl; omega
  | n + 1, a :: b :: r, hl, h => by
    have ha := h a (by simp)
    have hb := h b (by simp)
    have ih := pairs_sum4 n r (by simp at hl; omega) (fun d hd => h d (by simp [hd]))
    have hr0 : pk 4 r % 16 ≤ 4 := by
      cases r with
      | nil => simp [pk]
      | cons c r =>
        have := h c (by simp)
        simp only [pk]
        omega
    simp only [pk, sum2, maskR]
    generalize hR : pk 4 r = R at *
    have x1 : (a + 2 ^ 4 * (b + 2 ^ 4 * R)) / 2 ^ 4 + (a + 2 ^ 4 * (b + 2 ^ 4 * R)) = ((a + b) + 16 * (b + R % 16)) % 2 ^ (2 * 4) + 2 ^ (2 * 4) * (R / 2 ^ 4 + R) := by omega
    rw [x1, low_mask, ih]
    congr 1
    omega
theorem list8 {α : Type} (l : List α) (h : l.length = 8) : ∃ a b c d e f g i, l = [a, b, c, d, e, f, g, i] := by
  match l, h with
  | [a, b, c, d, e, f, g, i], _ => exact ⟨a, b, c, d, e, f, g, i, rfl⟩
theorem last_nums {a b c d e f g i : Nat} (h : a ≤ 8 ∧ b ≤ 8 ∧ c ≤ 8 ∧ d ≤ 8 ∧ e ≤ 8 ∧ f ≤ 8 ∧ g ≤ 8 ∧ i ≤ 8) {x : Nat}
    (hx : x = a + 256 * b + 65536 * c + 16777216 * d + 4294967296 * e + 1099511627776 * f + 281474976710656 * g + 72057594037927936 * i) :
    x < 2 ^ 60 ∧ x + x / 256 < 2 ^ 61 ∧ (x + x / 256) + (x + x / 256) / 65536 < 2 ^ 62 ∧ ((x + x / 256) + (x + x / 256) / 65536) + ((x + x / 256) + (x + x / 256) / 65536) / 4294967296 < 2 ^ 63 ∧
    (((x + x / 256) + (x + x / 256) / 65536) + ((x + x / 256) + (x + x / 256) / 65536) / 4294967296) % 128 = a + b + c + d + e + f + g + i := by
  obtain ⟨h1, h2, h3, h4, h5, h6, h7, h8⟩ := h
  have y1 : x / 256 = b + 256 * c + 65536 * d + 16777216 * e + 4294967296 * f + 1099511627776 * g + 281474976710656 * i := by omega
  obtain ⟨y, hy⟩ : ∃ y, y = x + x / 256 := ⟨_, rfl⟩
  rw [← hy]
  have y2 : y = (a + b) + 256 * (b + c) + 65536 * (c + d) + 16777216 * (d + e) + 4294967296 * (e + f) + 1099511627776 * (f + g) + 281474976710656 * (g + i) + 72057594037927936 * i := by rw [hy, y1, hx]; omega
  have x1 : x < 2 ^ 60 := by omega
  clear hy y1 hx
  have z1 : y / 65536 = (c + d) + 256 * (d + e) + 65536 * (e + f) + 16777216 * (f + g) + 4294967296 * (g + i) + 1099511627776 * i := by omega
  obtain ⟨z, hz⟩ : ∃ z, z = y + y / 65536 := ⟨_, rfl⟩
  rw [← hz]
  have z2 : z = (a + b + c + d) + 256 * (b + c + d + e) + 65536 * (c + d + e + f) + 16777216 * (d + e + f + g) + 4294967296 * (e + f + g + i) + 1099511627776 * (f + g + i) + 281474976710656 * (g + i) + 72057594037927936 * i := by rw [hz, z1, y2]; omega
  have yb : y < 2 ^ 61 := by omega
  clear hz z1 y2
  have w1 : z / 4294967296 = (e + f + g + i) + 256 * (f + g + i) + 65536 * (g + i) + 16777216 * i := by omega
  have zb : z < 2 ^ 62 := by omega
  refine ⟨x1, yb, zb, by omega, ?_⟩
  rw [w1, z2]
  clear w1 z2 zb yb x1
  omega
theorem last_steps (l : List Nat) (hl : l.length = 8) (h : ∀ d ∈ l, d ≤ 8) :
    pk 8 l < 2 ^ 60 ∧ pk 8 l + pk 8 l / 2 ^ 8 < 2 ^ 61 ∧ (pk 8 l + pk 8 l / 2 ^ 8) + (pk 8 l + pk 8 l / 2 ^ 8) / 2 ^ 16 < 2 ^ 62 ∧
    ((pk 8 l + pk 8 l / 2 ^ 8) + (pk 8 l + pk 8 l / 2 ^ 8) / 2 ^ 16) + ((pk 8 l + pk 8 l / 2 ^ 8) + (pk 8 l + pk 8 l / 2 ^ 8) / 2 ^ 16) / 2 ^ 32 < 2 ^ 63 ∧
    (((pk 8 l + pk 8 l / 2 ^ 8) + (pk 8 l + pk 8 l / 2 ^ 8) / 2 ^ 16) + ((pk 8 l + pk 8 l / 2 ^ 8) + (pk 8 l + pk 8 l / 2 ^ 8) / 2 ^ 16) / 2 ^ 32) % 128 = l.sum := by
  obtain ⟨a, b, c, d, e, f, g, i, rfl⟩ := list8 l hl
  simp only [List.mem_cons, List.not_mem_nil, or_false, forall_eq_or_imp, forall_eq] at h
  have := last_nums h (x := pk 8 [a, b, c, d, e, f, g, i]) (by simp only [pk, Nat.reducePow]; omega)
  simp only [Nat.reducePow, List.sum_cons, List.sum_nil] at this ⊢
  refine ⟨this.1, this.2.1, this.2.2.1, this.2.2.2.1, ?_⟩
  rw [this.2.2.2.2]
  omega
/-- How many bits of a word are set. -/
def popN (x : Nat) : Nat := ((List.range 64).map fun j => (x.testBit j).toNat).sum
def bitsL (x n : Nat) : List Nat := (List.range n).map fun j => (x.testBit j).toNat
theorem pk_bits (x : Nat) : ∀ (n : Nat), pk 1 (bitsL x n) = x % 2 ^ n := by
  intro n
  induction n generalizing x with
  | zero => simp [bitsL, pk, Nat.mod_one]
  | succ n ih =>
    have e : bitsL x (n + 1) = (x.testBit 0).toNat :: bitsL (x / 2) n := by
      simp only [bitsL, List.range_succ_eq_map, List.map_cons, List.map_map]
      congr 1
      apply List.map_congr_left
      intro j _
      simp [Nat.testBit_add_one]
    rw [e, pk, ih, Nat.testBit_zero]
    have h2 := Nat.mod_two_eq_zero_or_one x
    have h3 : x % 2 ^ (n + 1) = x % 2 + 2 * (x / 2 % 2 ^ n) := by rw [Nat.pow_succ, Nat.mul_comm (2 ^ n), Nat.mod_mul]
    rw [h3]
    rcases h2 with h2 | h2 <;> simp [h2]
theorem bitsL_le (x n : Nat) : ∀ d ∈ bitsL x n, d ≤ 1 := by
  intro d hd
  obtain ⟨j, _, rfl⟩ := List.mem_map.1 hd
  cases x.testBit j <;> simp
theorem mask1 : maskR 1 32 = 0x5555555555555555 := by decide
theorem mask2 : maskR 2 16 = 0x3333333333333333 := by decide
theorem mask4 : maskR 4 8 = 0x0f0f0f0f0f0f0f0f := by decide
/-- The program's count of bits. -/
theorem pop_steps (x : Nat) (hx : x < 2 ^ 64) : ∃ x1 x2 x3 : Nat, x1 = (x / 2 &&& 0x5555555555555555) + (x &&& 0x5555555555555555) ∧ x1 < 2 ^ 64 ∧
    x2 = (x1 / 4 &&& 0x3333333333333333) + (x1 &&& 0x3333333333333333) ∧ x2 < 2 ^ 63 ∧ x3 = (x2 / 16 + x2) &&& 0x0f0f0f0f0f0f0f0f ∧ x3 < 2 ^ 60 ∧
    x3 + x3 / 2 ^ 8 < 2 ^ 61 ∧ (x3 + x3 / 2 ^ 8) + (x3 + x3 / 2 ^ 8) / 2 ^ 16 < 2 ^ 62 ∧
    ((x3 + x3 / 2 ^ 8) + (x3 + x3 / 2 ^ 8) / 2 ^ 16) + ((x3 + x3 / 2 ^ 8) + (x3 + x3 / 2 ^ 8) / 2 ^ 16) / 2 ^ 32 < 2 ^ 63 ∧
    (((x3 + x3 / 2 ^ 8) + (x3 + x3 / 2 ^ 8) / 2 ^ 16) + ((x3 + x3 / 2 ^ 8) + (x3 + x3 / 2 ^ 8) / 2 ^ 16) / 2 ^ 32) % 128 = popN x := by
  have l0 : (bitsL x 64).length = 64 := by simp [bitsL]
  have b0 := bitsL_le x 64
  have e0 : pk 1 (bitsL x 64) = x := by rw [pk_bits, Nat.mod_eq_of_lt hx]
  have s1 := pairs_sum (s := 1) 32 (bitsL x 64) l0 (fun d hd => by have := b0 d hd; omega)
  have l1 := sum2_len 32 _ l0
  have b1 := sum2_le _ b0
  have s2 := pairs_sum (s := 2) 16 (sum2 (bitsL x 64)) l1 (fun d hd => by have := b1 d hd; omega)
  have l2 := sum2_len 16 _ l1
  have b2 := sum2_le _ b1
  have s3 := pairs_sum4 8 (sum2 (sum2 (bitsL x 64))) l2 (fun d hd => by have := b2 d hd; omega)
  have l3 := sum2_len 8 _ l2
  have b3 := sum2_le _ b2
  obtain ⟨t1, t2, t3, t4, t5⟩ := last_steps (sum2 (sum2 (sum2 (bitsL x 64)))) l3 (fun d hd => by have := b3 d hd; omega)
  rw [mask1, e0] at s1
  rw [mask2] at s2
  rw [mask4] at s3
  have u1 : pk 2 (sum2 (bitsL x 64)) < 2 ^ 64 := by have := pk_lt (s := 2) _ (fun d hd => by have := b1 d hd; omega : ∀ d ∈ sum2 (bitsL x 64), d < 2 ^ 2); rw [l1] at this; exact this
  have u2 : pk 4 (sum2 (sum2 (bitsL x 64))) < 2 ^ 63 := by
    have h8 : ∀ (n : Nat) (l : List Nat), l.length = n → (∀ d ∈ l, d ≤ 4) → pk 4 l * 15 ≤ 4 * (16 ^ n - 1) := by
      intro n
      induction n with
      | zero => intro l hl _; rw [List.eq_nil_of_length_eq_zero hl]; simp [pk]
      | succ n ih =>
        intro l hl hd
        match l, hl with
        | d :: r, hl =>
          have h1 := hd d (by simp)
          have h2 := ih r (by simpa using hl) (fun y hy => hd y (by simp [hy]))
          have hp : 0 < 16 ^ n := Nat.pow_pos (by omega)
          simp only [pk, Nat.pow_succ]
          omega
    have := h8 16 _ l2 (fun d hd => by have := b2 d hd; omega)
    omega
  refine ⟨pk 2 (sum2 (bitsL x 64)), pk 4 (sum2 (sum2 (bitsL x 64))), pk 8 (sum2 (sum2 (sum2 (bitsL x 64)))), ?_, u1, ?_, u2, ?_, t1, t2, t3, t4, ?_⟩
  · simpa using s1.symm
  · simpa using s2.symm
  · simpa using s3.symm
  · rw [t5, sum2_sum, sum2_sum, sum2_sum]; rfl
/-- The place of the lowest bit. -/
def tzN : Nat → Nat → Nat
  | 0, _ => 0
  | n + 1, x => if x % 2 = 1 then 0 else 1 + tzN n (x / 2)
theorem tz_spec : ∀ (n x : Nat), x ≠ 0 → x < 2 ^ n → tzN n x < n ∧ x.testBit (tzN n x) = true ∧ (∀ j, j < tzN n x → x.testBit j = false) ∧ ∀ j, (x - 1).testBit j = if j < tzN n x then true else if j = tzN n x then false else x.testBit j
  | 0, x, h0, h => by omega
  | n + 1, x, h0, h => by
    unfold tzN
    by_cases hx : x % 2 = 1
    · rw [if_pos hx]
      refine ⟨by omega, by simp [Nat.testBit_zero, hx], fun j hj => by omega, fun j => ?_⟩
      cases j with
      | zero => simp [Nat.testBit_zero]; omega
      | succ j =>
        rw [if_neg (by omega), if_neg (by omega), Nat.testBit_add_one, Nat.testBit_add_one]
        congr 1
        omega
    · rw [if_neg hx]
      obtain ⟨g1, g2, g3, g4⟩ := tz_spec n (x / 2) (by omega) (by rw [Nat.pow_succ] at h; omega)
      refine ⟨by omega, ?_, fun j hj => ?_, fun j => ?_⟩
      · rw [Nat.add_comm, Nat.testBit_add_one]; exact g2
      · cases j with
        | zero => simp [Nat.testBit_zero]; omega
        | succ j => rw [Nat.testBit_add_one]; exact g3 j (by omega)
      · cases j with
        | zero =>
          rw [if_pos (by omega), Nat.testBit_zero]
          simp; omega
        | succ j =>
          rw [Nat.testBit_add_one, Nat.testBit_add_one, show (x - 1) / 2 = x / 2 - 1 by omega, g4 j]
          generalize tzN n (x / 2) = t
          by_cases h1 : j < t
          · simp [h1, show j + 1 < 1 + t by omega]
          · by_cases h2 : j = t
            · simp [h2, show t + 1 = 1 + t by omega]
            · simp [h1, h2, show ¬ j + 1 < 1 + t by omega, show ¬ j + 1 = 1 + t by omega]
def tz (x : Nat) : Nat := tzN 64 x
theorem low_bit (x : Nat) (h0 : x ≠ 0) (h : x < 2 ^ 64) : x &&& (2 ^ 64 - x) = 2 ^ tz x := by
  obtain ⟨g1, g2, g3, g4⟩ := tz_spec 64 x h0 h
  have ht : 2 ^ tz x < 2 ^ 64 := Nat.pow_lt_pow_right (by omega) g1
  apply word_ext (Nat.and_lt_two_pow _ (by omega)) ht
  intro j hj
  rw [Nat.testBit_and, show 2 ^ 64 - x = 2 ^ 64 - ((x - 1) + 1) by omega, Nat.testBit_two_pow_sub_succ (by omega), g4 j, Nat.testBit_two_pow]
  unfold tz
  by_cases h1 : j < tzN 64 x
  · rw [if_pos h1, g3 j h1]; simp; omega
  · rw [if_neg h1]
    by_cases h2 : j = tzN 64 x
    · rw [if_pos h2, h2, g2]; simp [g1]
    · rw [if_neg h2]
      have : ¬ tzN 64 x = j := fun e => h2 e.symm
      cases x.testBit j <;> simp [this]
/-- The numbers of a word's bits, rising. -/
def onesW (w : Nat) : List Nat := (List.range 64).filter fun j => w.testBit j
theorem onesW_zero : onesW 0 = [] := by simp [onesW]
theorem onesW_cons (w : Nat) (h0 : w ≠ 0) (h : w < 2 ^ 64) : onesW w = tz w :: onesW (w &&& (w - 1)) := by
  obtain ⟨g1, g2, g3, g4⟩ := tz_spec 64 w h0 h
  have e : List.range 64 = List.range (tzN 64 w) ++ (tzN 64 w :: List.range' (tzN 64 w + 1) (63 - tzN 64 w)) := by
    have h := List.range'_append_1 (s := 0) (m := tzN 64 w) (n := 63 - tzN 64 w + 1)
    rw [Nat.zero_add] at h
    rw [List.range_eq_range', List.range_eq_range', ← List.range'_succ, h]
    congr 1
    omega
  have low : (List.range (tzN 64 w)).filter (fun j => w.testBit j) = [] := by
    rw [List.filter_eq_nil_iff]
    intro j hj
    rw [g3 j (List.mem_range.1 hj)]
    simp
  have low2 : (List.range (tzN 64 w)).filter (fun j => (w &&& (w - 1)).testBit j) = [] := by
    rw [List.filter_eq_nil_iff]
    intro j hj
    rw [Nat.testBit_and, g3 j (List.mem_range.1 hj)]
    simp
  unfold onesW tz
  rw [e, List.filter_append, List.filter_append, low, low2, List.nil_append, List.nil_append, List.filter_cons, List.filter_cons, if_pos g2, if_neg]
  · congr 1
    apply List.filter_congr
    intro j hj
    have hj := List.mem_range'_1.1 hj
    rw [Nat.testBit_and, g4 j, if_neg (by omega), if_neg (by omega), Bool.and_self]
  · rw [Nat.testBit_and, g4, if_neg (by omega), if_pos rfl]
    simp
theorem onesW_len (w : Nat) : (onesW w).length = popN w := by
  unfold onesW popN
  rw [← List.countP_eq_length_filter]
  induction List.range 64 with
  | nil => rfl
  | cons j l ih =>
    rw [List.countP_cons, List.map_cons, List.sum_cons, ih]
    cases w.testBit j <;> simp <;> omega
theorem andlt (w : Nat) (h0 : w ≠ 0) : w &&& (w - 1) < w := by
  have : w &&& (w - 1) ≤ w - 1 := Nat.and_le_right
  omega
/-- The numbers of a set, rising. -/
def ones (bs : List Bool) : List Nat := (List.range bs.length).filter fun i => bs.getD i false
theorem range_filter (p : Nat → Bool) : ∀ m : Nat, (List.range (64 * m)).filter p = (List.range m).flatMap fun k => ((List.range 64).filter fun j => p (64 * k + j)).map (64 * k + ·)
  | 0 => rfl
  | m + 1 => by
    rw [List.range_succ (n := m), List.flatMap_append, ← range_filter p m, Nat.mul_succ, List.range_add, List.filter_append]
    congr 1
    simp only [List.flatMap_cons, List.flatMap_nil, List.append_nil, List.filter_map]
    rfl
theorem ones_words (bs : List Bool) : ones bs = (List.range (nw bs.length)).flatMap fun k => (onesW (wordAt bs k)).map (64 * k + ·) := by
  have h1 : ones bs = (List.range (64 * nw bs.length)).filter fun i => bs.getD i false := by
    have e : 64 * nw bs.length = bs.length + (64 * nw bs.length - bs.length) := by unfold nw; omega
    unfold ones
    rw [e, List.range_add, List.filter_append]
    have : (List.map (fun x => bs.length + x) (List.range (64 * nw bs.length - bs.length))).filter (fun i => bs.getD i false) = [] := by
      rw [List.filter_eq_nil_iff]
      intro j hj
      obtain ⟨x, _, rfl⟩ := List.mem_map.1 hj
      simp [List.getD_eq_getElem?_getD]
    rw [this, List.append_nil]
  rw [h1, range_filter]
  congr 1
  funext k
  congr 1
  unfold onesW
  apply List.filter_congr
  intro j hj
  unfold wordAt
  rw [chunk_bit]
  have := List.mem_range.1 hj
  simp [this]
theorem ones_count (bs : List Bool) : (ones bs).length = ((List.range (nw bs.length)).map fun k => popN (wordAt bs k)).sum := by
  rw [ones_words, List.length_flatMap]
  refine congrArg List.sum (List.map_congr_left fun k _ => ?_)
  show (List.map _ _).length = _
  rw [List.length_map, onesW_len]
end Go.Bits
/- The machine's operations on words of 64 bits, as plain numbers. -/
namespace Go.Bits
open Go Go.AM
set_option linter.unusedVariables false
set_option linter.unusedSimpArgs false
theorem wrapU {n : Int} (h1 : 0 ≤ n) (h2 : n < 18446744073709551616) : IntKind.u64.wrap n = n := by
  simp only [IntKind.wrap, IntKind.bits, IntKind.signed]
  simp
  omega
theorem wrapN {n : Nat} (h : n < 2 ^ 64) : IntKind.u64.wrap (n : Int) = n := wrapU (by omega) (by omega)
theorem ofInt_nat {a : Nat} (h : a < 2 ^ 64) : (BitVec.ofInt 64 (a : Int)).toNat = a := by
  rw [BitVec.ofInt_natCast, BitVec.toNat_ofNat, Nat.mod_eq_of_lt h]
theorem bAnd_nat {a b : Nat} (ha : a < 2 ^ 64) (hb : b < 2 ^ 64) : bAnd .u64 (a : Int) (b : Int) = ((a &&& b : Nat) : Int) := by
  show IntKind.u64.wrap ((BitVec.ofInt 64 (a : Int) &&& BitVec.ofInt 64 (b : Int)).toNat : Int) = _
  rw [BitVec.toNat_and, ofInt_nat ha, ofInt_nat hb, wrapN (Nat.and_lt_two_pow _ hb)]
theorem bOr_nat {a b : Nat} (ha : a < 2 ^ 64) (hb : b < 2 ^ 64) : bOr .u64 (a : Int) (b : Int) = ((a ||| b : Nat) : Int) := by
  show IntKind.u64.wrap ((BitVec.ofInt 64 (a : Int) ||| BitVec.ofInt 64 (b : Int)).toNat : Int) = _
  rw [BitVec.toNat_or, ofInt_nat ha, ofInt_nat hb, wrapN (Nat.or_lt_two_pow ha hb)]
theorem bAndNot_nat {a b : Nat} (ha : a < 2 ^ 64) (hb : b < 2 ^ 64) : bAndNot .u64 (a : Int) (b : Int) = ((a &&& (2 ^ 64 - 1 - b) : Nat) : Int) := by
  show IntKind.u64.wrap ((BitVec.ofInt 64 (a : Int) &&& ~~~BitVec.ofInt 64 (b : Int)).toNat : Int) = _
  rw [BitVec.toNat_and, BitVec.toNat_not, ofInt_nat ha, ofInt_nat hb, wrapN (Nat.and_lt_two_pow _ (by omega))]
theorem bAnd_nat63 {a b : Nat} (ha : a < 2 ^ 63) (hb : b < 2 ^ 63) : bAnd .i64 (a : Int) (b : Int) = ((a &&& b : Nat) : Int) := by
  show IntKind.i64.wrap ((BitVec.ofInt 64 (a : Int) &&& BitVec.ofInt 64 (b : Int)).toNat : Int) = _
  rw [BitVec.toNat_and, ofInt_nat (by omega), ofInt_nat (by omega), wrap64 (by omega) (by have := Nat.and_lt_two_pow (n := 63) a hb; omega)]
theorem shl_nat {j : Nat} (h : j < 64) : IntKind.u64.wrap ((1 : Int) * 2 ^ min j 64) = ((2 ^ j : Nat) : Int) := by
  rw [Nat.min_eq_left (by omega), Int.one_mul]
  have : (2 : Nat) ^ j < 2 ^ 64 := Nat.pow_lt_pow_right (by omega) h
  rw [← wrapN this]
  norm_cast
theorem shr_nat {a j : Nat} (h : j < 64) : Int.fdiv (a : Int) (2 ^ min j 64) = ((a / 2 ^ j : Nat) : Int) := by
  rw [Nat.min_eq_left (by omega)]
  rw [Int.fdiv_eq_ediv_of_nonneg _ (by have : (0 : Int) < 2 ^ j := Int.pow_pos (by omega); omega)]
  norm_cast
/-- A set's words, as they lie in memory. -/
def encW (w : Nat) : List AV := [.int .u64 (w : Int)]
def encWs (bs : List Bool) : List (List AV) := (wordsOf bs).map encW
theorem encWs_len (bs : List Bool) : (encWs bs).length = nw bs.length := by simp [encWs, wordsOf_len]
theorem encWs_get (bs : List Bool) {k : Nat} (h : k < nw bs.length) : (encWs bs)[k]? = some [.int .u64 (wordAt bs k : Int)] := by
  simp [encWs, wordsOf_get bs h, encW, wordAt]
theorem encWs_set (bs bs' : List Bool) (k w : Nat) (h : (wordsOf bs).set k w = wordsOf bs') : (encWs bs).set k [.int .u64 (w : Int)] = encWs bs' := by
  unfold encWs
  rw [← h, List.map_set]
  rfl
/-- A set of the caller's own. -/
def setBox (n m : Nat) : Ob := .box [.int .i64 (n : Int), .hs 1 0 0 m]
def setObs (bs : List Bool) : List Ob := [.box [.int .i64 (bs.length : Int), .hs 1 0 0 (nw bs.length)], .arr 0 1 (encWs bs)]
/-- A set that no one writes. -/
def setP (bs : List Bool) : AV := .rp [.int .i64 (bs.length : Int), .sl (encWs bs)]
end Go.Bits
namespace Go.Proofs.Yticjemfgbfphdaa.X
section
open Go Go.AM Go.Proofs
attribute [local go_sem ↓] w_skip w_lbl w_ops w_draw w_pre w_post w_alt w_seq w_cond w_block w_join w_loop w_exit w_ret w_scope w_rfunc l_nil l_cons th_n th_e th_r bk_n bk_r bk_e t_nil t_it t_call i_nil i_one i_grp s_nil s_cons c_call e_mv e_nil e_dyn e_nilb e_frz o_mov o_bin o_eq o_un o_conv o_len o_slen o_idx o_aix o_fad o_load o_store o_boxp o_boxo o_boxm o_alloc o_allocm o_alloca o_nilarr o_build o_bslp o_bslo o_slc o_sslc o_slc3 o_sidx o_mkfn o_mkmv o_vidx o_ext o_pick o_callf o_callb o_appd o_clear o_mxn o_field o_nilc o_make o_makeb o_buildm o_boxg o_mkif o_tass o_eqs o_callo o_callx k_int k_str k_bool k_grb k_grt k_some k_none k_arr k_lens k_lenf k_lenh k_lenb k_idxb k_idxs k_idxf k_idxh k_ld k_loadp k_loadr k_loade k_storer k_storee k_oin k_ois k_slcs k_slcf k_slch k_slc3s k_slc3f k_slc3h k_app2 k_apps k_appf k_apph k_cals k_cald k_cali k_cnb k_cna k_esn k_esc k_efn k_efc k_esh b_add b_sub b_mul b_quo b_rem b_and b_or b_xor b_andNot b_eql b_neq b_lss b_leq b_gtr b_geq b_shl b_shr b_seq b_sne b_slt b_sad q_bool q_str q_nil q_nilf u_not u_neg u_xor f_ret f_nor v_r v_c v_g v_reg v_ob v_set v_put v_so v_sn v_pn v_pc g_nil d_nil p_nil m_mv m_fr z_nil z_cons z_an z_ac g_cons d_cons p_cons y_mov y_bin y_eq y_un y_conv y_len y_slen y_idx y_aix y_fad y_load y_store y_boxp y_boxo y_boxm y_alloc y_alloca y_allocm y_nilarr y_build y_bslp y_bslo y_slc y_sslc y_slc3 y_sidx y_mkfn y_ext y_pick y_callf y_callb y_appd y_clear y_mxn y_field y_nilc y_make y_makeb y_buildm y_boxg y_mkif y_tass y_eqs y_callo y_mkmv y_callx y_vidx nb_if
attribute [local go_sem] nbd VL_mk VL2_mk If_t If_f If_not If_and If_or If_dt If_df If_et If_ef If_ne Ck_t Ck_h Opt_s ld_a ld_c lm_a lm_c renL ren keepR renA idxM invL getObs mapOb renOb allNone putAll fzR fzO fz fzL fzOb fzB frzOk upFrom mapR resOne resA cellsOf oneA oneAL isP isPL okSt kRows kParts fillA setAt bor bor0 bor1 bor2 borC borI key0 key1 key2 keysA fillM cellsM cellM unif ptrA ifOk kPartsM getObsM allNoneM zipU scal0 scalar eqC evNil evNilF memK keyX hideM xbor scal1 scalX scalOb bndA mkMag showM lendV hideV hideR hideOb hideL hideO showL backO noneO mapA List.map_cons List.map_nil List.cons_append List.nil_append List.append_nil List.drop_zero List.drop_succ_cons List.drop_nil List.take_succ_cons List.take_zero List.take_nil List.length_cons List.length_nil List.length_map List.getElem?_map Option.map_some Option.map_none Int.toNat_natCast Int.toNat_zero Int.toNat_one Int.natCast_nonneg List.flatMap_cons List.flatMap_nil List.all_cons List.all_nil List.any_cons List.any_nil Bool.or_false Bool.false_or Bool.or_true Bool.true_or Bool.and_true Bool.true_and Bool.and_false Bool.false_and Bool.not_true Bool.not_false beq_self_eq_true nb_self all_nil List.forall_mem_cons tk_map tk_app bs_self bs_dec bq_t bq_f Bool.not_not decide_true decide_false Bool.not_not and_self and_true true_and eq_self List.reverse_cons List.reverse_nil List.getElem?_cons_zero List.getElem?_cons_succ cond_true cond_false List.set_cons_zero List.set_cons_succ Nat.zero_add Nat.add_zero if_true if_false ite_true ite_false implies_true wrap64 wrap8
open Go.Bits
set_option linter.unusedVariables false
set_option linter.unusedSimpArgs false
set_option maxRecDepth 10000
theorem andN {a m : Nat} (ha : a < 2 ^ 64) (hm : m < 2 ^ 64) {M : Int} (e : M = (m : Int)) : bAnd .u64 (a : Int) M = ((a &&& m : Nat) : Int) := by rw [e]; exact bAnd_nat ha hm
theorem addN {a b : Nat} (h : a + b < 2 ^ 64) : IntKind.u64.wrap ((a : Int) + (b : Int)) = ((a + b : Nat) : Int) := by
  rw [← wrapN h]
  norm_cast
theorem C45 (x : Nat) (h : x < 2 ^ 64) : Ctr Try.prog 45 [.int .u64 (x : Int)] [] (ret [.int .i64 (popN x : Int)]) := by
  obtain ⟨x1, x2, x3, e1, b1, e2, b2, e3, b3, b4, b5, b6, e6⟩ := pop_steps x h
  obtain ⟨y, hy⟩ : ∃ y, y = x3 + x3 / 2 ^ 8 := ⟨_, rfl⟩
  rw [← hy] at b4 b5 b6 e6
  obtain ⟨z, hz⟩ : ∃ z, z = y + y / 2 ^ 16 := ⟨_, rfl⟩
  rw [← hz] at b5 b6 e6
  obtain ⟨u, hu⟩ : ∃ u, u = z + z / 2 ^ 32 := ⟨_, rfl⟩
  rw [← hu] at b6 e6
  have s1 := shr_nat (a := x) (j := 1) (by omega)
  have a1 := andN (a := x / 2 ^ 1) (m := 6148914691236517205) (M := 6148914691236517205) (by omega) (by omega) rfl
  have a2 := andN (a := x) (m := 6148914691236517205) (M := 6148914691236517205) h (by omega) rfl
  have w1 := addN (a := x / 2 ^ 1 &&& 6148914691236517205) (b := x &&& 6148914691236517205) (by rw [show x / 2 ^ 1 = x / 2 from rfl, ← e1]; exact b1)
  rw [show (x / 2 ^ 1 &&& 6148914691236517205) + (x &&& 6148914691236517205) = x1 from e1.symm] at w1
  have s2 := shr_nat (a := x1) (j := 2) (by omega)
  have a3 := andN (a := x1 / 2 ^ 2) (m := 3689348814741910323) (M := 3689348814741910323) (by omega) (by omega) rfl
  have a4 := andN (a := x1) (m := 3689348814741910323) (M := 3689348814741910323) b1 (by omega) rfl
  have w2 := addN (a := x1 / 2 ^ 2 &&& 3689348814741910323) (b := x1 &&& 3689348814741910323) (by rw [show x1 / 2 ^ 2 = x1 / 4 from rfl, ← e2]; omega)
  rw [show (x1 / 2 ^ 2 &&& 3689348814741910323) + (x1 &&& 3689348814741910323) = x2 from e2.symm] at w2
  have s3 := shr_nat (a := x2) (j := 4) (by omega)
  have w3 := addN (a := x2 / 2 ^ 4) (b := x2) (by omega)
  have a5 := andN (a := x2 / 2 ^ 4 + x2) (m := 1085102592571150095) (M := 1085102592571150095) (by omega) (by omega) rfl
  rw [show (x2 / 2 ^ 4 + x2) &&& 1085102592571150095 = x3 from e3.symm] at a5
  have s4 := shr_nat (a := x3) (j := 8) (by omega)
  have w4 := addN (a := x3) (b := x3 / 2 ^ 8) (by omega)
  rw [← hy] at w4
  have s5 := shr_nat (a := y) (j := 16) (by omega)
  have w5 := addN (a := y) (b := y / 2 ^ 16) (by omega)
  rw [← hz] at w5
  have s6 := shr_nat (a := z) (j := 32) (by omega)
  have w6 := addN (a := z) (b := z / 2 ^ 32) (by omega)
  rw [← hu] at w6
  have w7 : IntKind.i64.wrap (u : Int) = (u : Int) := wrap64 (by omega) (by omega)
  have a7 : bAnd .i64 (u : Int) 127 = (popN x : Int) := by
    have := bAnd_nat63 (a := u) (b := 127) b6 (by omega)
    rw [show ((127 : Nat) : Int) = 127 from rfl] at this
    rw [this, show (127 : Nat) = 2 ^ 7 - 1 from rfl, Nat.and_two_pow_sub_one_eq_mod, ← e6]
  clear hu hz hy e1 e2 e3 e6
  apply ctr_b A45_ok rfl (Nat.le_of_ble_eq_true rfl)
  unfold A45
  simp only [initL, Nat.reduceAdd]
  simp (config := {maxSteps := 2000000, implicitDefEqProofs := false}) (disch := omega) only [↓reduceIte, go_sem, Int.reduceToNat, Nat.reduceAdd, Nat.reduceLeDiff, Nat.reduceEqDiff, Nat.reduceSub, Nat.reduceMul, reduceCtorEq, s1, a1, a2, w1, s2, a3, a4, w2, s3, w3, a5, s4, w4, s5, w5, s6, w6, w7, a7]
  exact ⟨rfl, rfl⟩
end
end Go.Proofs.Yticjemfgbfphdaa.X
namespace Go.Proofs.Yticjemfgbfphdaa.X
section
open Go Go.AM Go.Proofs
attribute [local go_sem ↓] w_skip w_lbl w_ops w_draw w_pre w_post w_alt w_seq w_cond w_block w_join w_loop w_exit w_ret w_scope w_rfunc l_nil l_cons th_n th_e th_r bk_n bk_r bk_e t_nil t_it t_call i_nil i_one i_grp s_nil s_cons c_call e_mv e_nil e_dyn e_nilb e_frz o_mov o_bin o_eq o_un o_conv o_len o_slen o_idx o_aix o_fad o_load o_store o_boxp o_boxo o_boxm o_alloc o_allocm o_alloca o_nilarr o_build o_bslp o_bslo o_slc o_sslc o_slc3 o_sidx o_mkfn o_mkmv o_vidx o_ext o_pick o_callf o_callb o_appd o_clear o_mxn o_field o_nilc o_make o_makeb o_buildm o_boxg o_mkif o_tass o_eqs o_callo o_callx k_int k_str k_bool k_grb k_grt k_some k_none k_arr k_lens k_lenf k_lenh k_lenb k_idxb k_idxs k_idxf k_idxh k_ld k_loadp k_loadr k_loade k_storer k_storee k_oin k_ois k_slcs k_slcf k_slch k_slc3s k_slc3f k_slc3h k_app2 k_apps k_appf k_apph k_cals k_cald k_cali k_cnb k_cna k_esn k_esc k_efn k_efc k_esh b_add b_sub b_mul b_quo b_rem b_and b_or b_xor b_andNot b_eql b_neq b_lss b_leq b_gtr b_geq b_shl b_shr b_seq b_sne b_slt b_sad q_bool q_str q_nil q_nilf u_not u_neg u_xor f_ret f_nor v_r v_c v_g v_reg v_ob v_set v_put v_so v_sn v_pn v_pc g_nil d_nil p_nil m_mv m_fr z_nil z_cons z_an z_ac g_cons d_cons p_cons y_mov y_bin y_eq y_un y_conv y_len y_slen y_idx y_aix y_fad y_load y_store y_boxp y_boxo y_boxm y_alloc y_alloca y_allocm y_nilarr y_build y_bslp y_bslo y_slc y_sslc y_slc3 y_sidx y_mkfn y_ext y_pick y_callf y_callb y_appd y_clear y_mxn y_field y_nilc y_make y_makeb y_buildm y_boxg y_mkif y_tass y_eqs y_callo y_mkmv y_callx y_vidx nb_if
attribute [local go_sem] nbd VL_mk VL2_mk If_t If_f If_not If_and If_or If_dt If_df If_et If_ef If_ne Ck_t Ck_h Opt_s ld_a ld_c lm_a lm_c renL ren keepR renA idxM invL getObs mapOb renOb allNone putAll fzR fzO fz fzL fzOb fzB frzOk upFrom mapR resOne resA cellsOf oneA oneAL isP isPL okSt kRows kParts fillA setAt bor bor0 bor1 bor2 borC borI key0 key1 key2 keysA fillM cellsM cellM unif ptrA ifOk kPartsM getObsM allNoneM zipU scal0 scalar eqC evNil evNilF memK keyX hideM xbor scal1 scalX scalOb bndA mkMag showM lendV hideV hideR hideOb hideL hideO showL backO noneO mapA List.map_cons List.map_nil List.cons_append List.nil_append List.append_nil List.drop_zero List.drop_succ_cons List.drop_nil List.take_succ_cons List.take_zero List.take_nil List.length_cons List.length_nil List.length_map List.getElem?_map Option.map_some Option.map_none Int.toNat_natCast Int.toNat_zero Int.toNat_one Int.natCast_nonneg List.flatMap_cons List.flatMap_nil List.all_cons List.all_nil List.any_cons List.any_nil Bool.or_false Bool.false_or Bool.or_true Bool.true_or Bool.and_true Bool.true_and Bool.and_false Bool.false_and Bool.not_true Bool.not_false beq_self_eq_true nb_self all_nil List.forall_mem_cons tk_map tk_app bs_self bs_dec bq_t bq_f Bool.not_not decide_true decide_false Bool.not_not and_self and_true true_and eq_self List.reverse_cons List.reverse_nil List.getElem?_cons_zero List.getElem?_cons_succ cond_true cond_false List.set_cons_zero List.set_cons_succ Nat.zero_add Nat.add_zero if_true if_false ite_true ite_false implies_true wrap64 wrap8
open Go.Bits
set_option linter.unusedVariables false
set_option linter.unusedSimpArgs false
set_option maxRecDepth 10000
set_option maxHeartbeats 1000000
def inB (bs : List Bool) (i : Int) : Bool := decide (0 ≤ i ∧ i < bs.length)
def hasB (bs : List Bool) (i : Int) : Bool := decide (0 ≤ i) && bs.getD i.toNat false
theorem quo64 {m : Nat} : (m : Int).tdiv 64 = ((m / 64 : Nat) : Int) := rfl
theorem rem64 {m : Nat} : (m : Int).tmod 64 = ((m % 64 : Nat) : Int) := rfl
theorem wrapI {m : Nat} (h : m < 2 ^ 63) : IntKind.i64.wrap (m : Int) = (m : Int) := wrap64 (by omega) (by omega)
theorem C39 (bs : List Bool) (i : Int) : Ctr Try.prog 39 [.rp [.int .i64 (bs.length : Int), .sl (encWs bs)], .int .i64 i] [] (ret [.bool (inB bs i)]) := by
  apply ctr_b A39_ok rfl (Nat.le_of_ble_eq_true rfl)
  unfold A39
  simp only [initL, Nat.reduceAdd]
  simp (config := {maxSteps := 2000000, implicitDefEqProofs := false}) (disch := omega) only [↓reduceIte, go_sem, Int.reduceToNat, Nat.reduceAdd, Nat.reduceLeDiff, Nat.reduceEqDiff, Nat.reduceSub, Nat.reduceMul, reduceCtorEq]
  refine ifD (fun h => ?_) (fun h => ?_)
  · simp (config := {maxSteps := 2000000, implicitDefEqProofs := false}) (disch := omega) only [↓reduceIte, go_sem, Int.reduceToNat, Nat.reduceAdd, Nat.reduceLeDiff, Nat.reduceEqDiff, Nat.reduceSub, Nat.reduceMul, reduceCtorEq]
    have : inB bs i = decide (i < bs.length) := by unfold inB; simp [h]
    rw [this]
    exact ⟨rfl, rfl⟩
  · simp (config := {maxSteps := 2000000, implicitDefEqProofs := false}) (disch := omega) only [↓reduceIte, go_sem, Int.reduceToNat, Nat.reduceAdd, Nat.reduceLeDiff, Nat.reduceEqDiff, Nat.reduceSub, Nat.reduceMul, reduceCtorEq]
    have : inB bs i = false := by unfold inB; simp; omega
    rw [this]
    exact ⟨rfl, rfl⟩
theorem C39_nil (i : Int) : Ctr Try.prog 39 [.nilp, .int .i64 i] [] (ret [.bool false]) := by
  apply ctr_b A39_ok rfl (Nat.le_of_ble_eq_true rfl)
  unfold A39
  simp only [initL, Nat.reduceAdd]
  simp (config := {maxSteps := 2000000, implicitDefEqProofs := false}) (disch := omega) only [↓reduceIte, go_sem, Int.reduceToNat, Nat.reduceAdd, Nat.reduceLeDiff, Nat.reduceEqDiff, Nat.reduceSub, Nat.reduceMul, reduceCtorEq]
  exact ⟨rfl, rfl⟩
theorem C19 (bs : List Bool) (i : Int) (hl : bs.length < 2 ^ 62) : Ctr Try.prog 19 [.rp [.int .i64 (bs.length : Int), .sl (encWs bs)], .int .i64 i] [] (ret [.bool (hasB bs i)]) := by
  apply ctr_b A19_ok rfl (Nat.le_of_ble_eq_true rfl)
  unfold A19
  simp only [initL, Nat.reduceAdd]
  simp (config := {maxSteps := 2000000, implicitDefEqProofs := false}) (disch := omega) only [↓reduceIte, go_sem, Int.reduceToNat, Nat.reduceAdd, Nat.reduceLeDiff, Nat.reduceEqDiff, Nat.reduceSub, Nat.reduceMul, reduceCtorEq]
  refine callL (C39 bs i) ?_
  simp (config := {maxSteps := 2000000, implicitDefEqProofs := false}) (disch := omega) only [↓reduceIte, go_sem, Int.reduceToNat, Nat.reduceAdd, Nat.reduceLeDiff, Nat.reduceEqDiff, Nat.reduceSub, Nat.reduceMul, reduceCtorEq]
  refine ifL (fun h => ?_) (fun h => ?_)
  · unfold inB at h
    have h := of_decide_eq_true h
    obtain ⟨m, rfl⟩ := Int.eq_ofNat_of_zero_le h.1
    have hm : m < bs.length := by omega
    have hk := nw_div hm
    have e1 := wrapI (m := m / 64) (by omega)
    have e2 := shr_nat (a := wordAt bs (m / 64)) (j := m % 64) (by omega)
    have hw : wordAt bs (m / 64) / 2 ^ (m % 64) < 2 ^ 64 := Nat.lt_of_le_of_lt (Nat.div_le_self _ _) (chunk_lt bs (m / 64))
    have e3 := andN (a := wordAt bs (m / 64) / 2 ^ (m % 64)) (m := 1) (M := 1) hw (by omega) rfl
    have e4 := has_word bs m hm
    rw [Nat.shiftRight_eq_div_pow] at e4
    have e4 : wordAt bs (m / 64) / 2 ^ (m % 64) &&& 1 = (bs.getD m false).toNat := e4
    rw [e4] at e3
    simp (config := {maxSteps := 2000000, implicitDefEqProofs := false}) (disch := omega) only [↓reduceIte, go_sem, Int.reduceToNat, Nat.reduceAdd, Nat.reduceLeDiff, Nat.reduceEqDiff, Nat.reduceSub, Nat.reduceMul, reduceCtorEq, quo64, rem64, e1, encWs_get bs hk]
    simp (config := {maxSteps := 2000000, implicitDefEqProofs := false}) (disch := omega) only [↓reduceIte, go_sem, Int.reduceToNat, Nat.reduceAdd, Nat.reduceLeDiff, Nat.reduceEqDiff, Nat.reduceSub, Nat.reduceMul, reduceCtorEq, e2, e3]
    have e5 : hasB bs (m : Int) = bs.getD m false := by simp [hasB]
    rw [e5]
    cases bs.getD m false <;> exact ⟨rfl, rfl⟩
  · simp (config := {maxSteps := 2000000, implicitDefEqProofs := false}) (disch := omega) only [↓reduceIte, go_sem, Int.reduceToNat, Nat.reduceAdd, Nat.reduceLeDiff, Nat.reduceEqDiff, Nat.reduceSub, Nat.reduceMul, reduceCtorEq]
    have : hasB bs i = false := by
      unfold inB at h
      have h := of_decide_eq_false h
      unfold hasB
      by_cases h0 : 0 ≤ i
      · have : bs.length ≤ i.toNat := by omega
        simp [List.getD_eq_getElem?_getD, List.getElem?_eq_none this]
      · simp [h0]
    rw [this]
    exact ⟨rfl, rfl⟩
theorem C19_nil (i : Int) : Ctr Try.prog 19 [.nilp, .int .i64 i] [] (ret [.bool false]) := by
  apply ctr_b A19_ok rfl (Nat.le_of_ble_eq_true rfl)
  unfold A19
  simp only [initL, Nat.reduceAdd]
  simp (config := {maxSteps := 2000000, implicitDefEqProofs := false}) (disch := omega) only [↓reduceIte, go_sem, Int.reduceToNat, Nat.reduceAdd, Nat.reduceLeDiff, Nat.reduceEqDiff, Nat.reduceSub, Nat.reduceMul, reduceCtorEq]
  refine callL (C39_nil i) ?_
  simp (config := {maxSteps := 2000000, implicitDefEqProofs := false}) (disch := omega) only [↓reduceIte, go_sem, Int.reduceToNat, Nat.reduceAdd, Nat.reduceLeDiff, Nat.reduceEqDiff, Nat.reduceSub, Nat.reduceMul, reduceCtorEq]
  exact ⟨rfl, rfl⟩
end
end Go.Proofs.Yticjemfgbfphdaa.X
namespace Go.Proofs.Yticjemfgbfphdaa.X
section
open Go Go.AM Go.Proofs
attribute [local go_sem ↓] w_skip w_lbl w_ops w_draw w_pre w_post w_alt w_seq w_cond w_block w_join w_loop w_exit w_ret w_scope w_rfunc l_nil l_cons th_n th_e th_r bk_n bk_r bk_e t_nil t_it t_call i_nil i_one i_grp s_nil s_cons c_call e_mv e_nil e_dyn e_nilb e_frz o_mov o_bin o_eq o_un o_conv o_len o_slen o_idx o_aix o_fad o_load o_store o_boxp o_boxo o_boxm o_alloc o_allocm o_alloca o_nilarr o_build o_bslp o_bslo o_slc o_sslc o_slc3 o_sidx o_mkfn o_mkmv o_vidx o_ext o_pick o_callf o_callb o_appd o_clear o_mxn o_field o_nilc o_make o_makeb o_buildm o_boxg o_mkif o_tass o_eqs o_callo o_callx k_int k_str k_bool k_grb k_grt k_some k_none k_arr k_lens k_lenf k_lenh k_lenb k_idxb k_idxs k_idxf k_idxh k_ld k_loadp k_loadr k_loade k_storer k_storee k_oin k_ois k_slcs k_slcf k_slch k_slc3s k_slc3f k_slc3h k_app2 k_apps k_appf k_apph k_cals k_cald k_cali k_cnb k_cna k_esn k_esc k_efn k_efc k_esh b_add b_sub b_mul b_quo b_rem b_and b_or b_xor b_andNot b_eql b_neq b_lss b_leq b_gtr b_geq b_shl b_shr b_seq b_sne b_slt b_sad q_bool q_str q_nil q_nilf u_not u_neg u_xor f_ret f_nor v_r v_c v_g v_reg v_ob v_set v_put v_so v_sn v_pn v_pc g_nil d_nil p_nil m_mv m_fr z_nil z_cons z_an z_ac g_cons d_cons p_cons y_mov y_bin y_eq y_un y_conv y_len y_slen y_idx y_aix y_fad y_load y_store y_boxp y_boxo y_boxm y_alloc y_alloca y_allocm y_nilarr y_build y_bslp y_bslo y_slc y_sslc y_slc3 y_sidx y_mkfn y_ext y_pick y_callf y_callb y_appd y_clear y_mxn y_field y_nilc y_make y_makeb y_buildm y_boxg y_mkif y_tass y_eqs y_callo y_mkmv y_callx y_vidx nb_if
attribute [local go_sem] nbd VL_mk VL2_mk If_t If_f If_not If_and If_or If_dt If_df If_et If_ef If_ne Ck_t Ck_h Opt_s ld_a ld_c lm_a lm_c renL ren keepR renA idxM invL getObs mapOb renOb allNone putAll fzR fzO fz fzL fzOb fzB frzOk upFrom mapR resOne resA cellsOf oneA oneAL isP isPL okSt kRows kParts fillA setAt bor bor0 bor1 bor2 borC borI key0 key1 key2 keysA fillM cellsM cellM unif ptrA ifOk kPartsM getObsM allNoneM zipU scal0 scalar eqC evNil evNilF memK keyX hideM xbor scal1 scalX scalOb bndA mkMag showM lendV hideV hideR hideOb hideL hideO showL backO noneO mapA List.map_cons List.map_nil List.cons_append List.nil_append List.append_nil List.drop_zero List.drop_succ_cons List.drop_nil List.take_succ_cons List.take_zero List.take_nil List.length_cons List.length_nil List.length_map List.getElem?_map Option.map_some Option.map_none Int.toNat_natCast Int.toNat_zero Int.toNat_one Int.natCast_nonneg List.flatMap_cons List.flatMap_nil List.all_cons List.all_nil List.any_cons List.any_nil Bool.or_false Bool.false_or Bool.or_true Bool.true_or Bool.and_true Bool.true_and Bool.and_false Bool.false_and Bool.not_true Bool.not_false beq_self_eq_true nb_self all_nil List.forall_mem_cons tk_map tk_app bs_self bs_dec bq_t bq_f Bool.not_not decide_true decide_false Bool.not_not and_self and_true true_and eq_self List.reverse_cons List.reverse_nil List.getElem?_cons_zero List.getElem?_cons_succ cond_true cond_false List.set_cons_zero List.set_cons_succ Nat.zero_add Nat.add_zero if_true if_false ite_true ite_false implies_true wrap64 wrap8
open Go.Bits
set_option linter.unusedVariables false
set_option linter.unusedSimpArgs false
set_option maxRecDepth 10000
set_option maxHeartbeats 1000000
def noneB (n : Nat) : List Bool := List.replicate n false
theorem noneB_len {n : Nat} : (noneB n).length = n := by simp [noneB]
theorem noneB_get {n i : Nat} : (noneB n).getD i false = false := by
  simp only [noneB, List.getD_eq_getElem?_getD, List.getElem?_replicate]
  split <;> rfl
theorem noneB_words {n : Nat} : encWs (noneB n) = List.replicate (nw n) [.int .u64 0] := by
  apply List.ext_getElem?
  intro k
  by_cases hk : k < nw n
  · rw [encWs_get _ (by rw [noneB_len]; exact hk), List.getElem?_replicate, if_pos hk]
    have : wordAt (noneB n) k = 0 := by
      apply word_ext (chunk_lt _ _) (by omega)
      intro j hj
      rw [chunk_bit, noneB_get]
      simp
    rw [this]
    rfl
  · rw [List.getElem?_eq_none (by rw [encWs_len, noneB_len]; omega), List.getElem?_eq_none (by simp; omega)]
theorem C36 (n : Int) (hn : n < 1000000000) : Ctr Try.prog 36 [.int .i64 n] [] (retO [.ref 0 0] (setObs (noneB n.toNat))) := by
  apply ctr_b A36_ok rfl (Nat.le_of_ble_eq_true rfl)
  unfold A36
  simp only [initL, Nat.reduceAdd]
  have e0 : (if (0 : Int) > n then (0 : Int) else n) = (n.toNat : Int) := by split <;> omega
  have e1 : IntKind.i64.wrap ((n.toNat : Int) + 64) = ((n.toNat + 64 : Nat) : Int) := by rw [← wrapI (m := n.toNat + 64) (by omega)]; congr 1
  have e2 : IntKind.i64.wrap (((n.toNat + 64 : Nat) : Int) - 1) = ((n.toNat + 63 : Nat) : Int) := by rw [← wrapI (m := n.toNat + 63) (by omega)]; congr 1; omega
  have e3 : IntKind.i64.wrap (((n.toNat + 63) / 64 : Nat) : Int) = ((nw n.toNat : Nat) : Int) := wrapI (m := nw n.toNat) (by unfold nw; omega)
  have hsz : ((nw n.toNat : Nat) : Int) * 8 ≤ 140737488355328 := by unfold nw; omega
  simp (config := {maxSteps := 2000000, implicitDefEqProofs := false}) (disch := omega) only [↓reduceIte, go_sem, Int.reduceToNat, Nat.reduceAdd, Nat.reduceLeDiff, Nat.reduceEqDiff, Nat.reduceSub, Nat.reduceMul, reduceCtorEq, e0, e1, e2, quo64, e3]
  refine ⟨rfl, ?_⟩
  unfold setObs
  rw [noneB_words, noneB_len]
def addS (bs : List Bool) (i : Int) : List Bool := if inB bs i = true then bs.set i.toNat true else bs
def addR (bs : List Bool) (i : Int) : Bool := inB bs i && !hasB bs i
def dropS (bs : List Bool) (i : Int) : List Bool := if inB bs i = true then bs.set i.toNat false else bs
theorem addS_len (bs : List Bool) (i : Int) : (addS bs i).length = bs.length := by unfold addS; split <;> simp
theorem dropS_len (bs : List Bool) (i : Int) : (dropS bs i).length = bs.length := by unfold dropS; split <;> simp
theorem set_same (bs : List Bool) (i : Nat) (b : Bool) (h : bs.getD i false = b) : bs.set i b = bs := by
  apply List.ext_getElem?
  intro j
  rw [List.getElem?_set]
  by_cases e : i = j
  · subst e
    by_cases hi : i < bs.length
    · simp only [List.getD_eq_getElem?_getD, List.getElem?_eq_getElem hi, Option.getD_some] at h
      simp [hi, h]
    · simp [hi]
  · rw [if_neg e]
theorem hasB_in {bs : List Bool} {i : Int} (h : hasB bs i = true) : inB bs i = true := by
  unfold hasB at h
  simp only [Bool.and_eq_true, decide_eq_true_eq] at h
  unfold inB
  simp only [decide_eq_true_eq]
  refine ⟨h.1, ?_⟩
  by_cases hi : i.toNat < bs.length
  · omega
  · rw [List.getD_eq_getElem?_getD, List.getElem?_eq_none (by omega)] at h
    simp at h
theorem addS_has {bs : List Bool} {i : Int} (h : hasB bs i = true) : addS bs i = bs := by
  unfold addS
  rw [if_pos (hasB_in h)]
  apply set_same
  unfold hasB at h
  simp only [Bool.and_eq_true] at h
  exact h.2
theorem dropS_has {bs : List Bool} {i : Int} (h : hasB bs i = false) : dropS bs i = bs := by
  unfold dropS
  split
  · rename_i h1
    apply set_same
    unfold hasB at h
    unfold inB at h1
    simp only [decide_eq_true_eq] at h1
    simpa [h1.1] using h
  · rfl
theorem encWs_take (bs : List Bool) : (encWs bs).take (nw bs.length) = encWs bs := List.take_of_length_le (by rw [encWs_len]; omega)
theorem C38 (bs : List Bool) (i : Int) (hl : bs.length < 2 ^ 62) : Ctr Try.prog 38 [.ref 0 0, .int .i64 i] (setObs bs) (retO [.bool (addR bs i)] (setObs (addS bs i))) := by
  unfold setObs
  rw [addS_len]
  apply ctr_b A38_ok rfl (Nat.le_of_ble_eq_true rfl)
  unfold A38
  simp only [initL, Nat.reduceAdd]
  simp (config := {maxSteps := 2000000, implicitDefEqProofs := false}) (disch := omega) only [↓reduceIte, go_sem, Int.reduceToNat, Nat.reduceAdd, Nat.reduceLeDiff, Nat.reduceEqDiff, Nat.reduceSub, Nat.reduceMul, reduceCtorEq, encWs_take]
  refine callL (C39 bs i) ?_
  simp (config := {maxSteps := 2000000, implicitDefEqProofs := false}) (disch := omega) only [↓reduceIte, go_sem, Int.reduceToNat, Nat.reduceAdd, Nat.reduceLeDiff, Nat.reduceEqDiff, Nat.reduceSub, Nat.reduceMul, reduceCtorEq, encWs_take]
  cases h : inB bs i with
  | false =>
    simp (config := {maxSteps := 2000000, implicitDefEqProofs := false}) (disch := omega) only [↓reduceIte, go_sem, Int.reduceToNat, Nat.reduceAdd, Nat.reduceLeDiff, Nat.reduceEqDiff, Nat.reduceSub, Nat.reduceMul, reduceCtorEq]
    have e1 : addR bs i = false := by simp [addR, h]
    have e2 : addS bs i = bs := by simp [addS, h]
    rw [e1, e2]
    exact ⟨rfl, rfl⟩
  | true =>
    simp (config := {maxSteps := 2000000, implicitDefEqProofs := false}) (disch := omega) only [↓reduceIte, go_sem, Int.reduceToNat, Nat.reduceAdd, Nat.reduceLeDiff, Nat.reduceEqDiff, Nat.reduceSub, Nat.reduceMul, reduceCtorEq, encWs_take]
    refine callL (C19 bs i hl) ?_
    simp (config := {maxSteps := 2000000, implicitDefEqProofs := false}) (disch := omega) only [↓reduceIte, go_sem, Int.reduceToNat, Nat.reduceAdd, Nat.reduceLeDiff, Nat.reduceEqDiff, Nat.reduceSub, Nat.reduceMul, reduceCtorEq]
    cases h2 : hasB bs i with
    | true =>
      simp (config := {maxSteps := 2000000, implicitDefEqProofs := false}) (disch := omega) only [↓reduceIte, go_sem, Int.reduceToNat, Nat.reduceAdd, Nat.reduceLeDiff, Nat.reduceEqDiff, Nat.reduceSub, Nat.reduceMul, reduceCtorEq]
      have e1 : addR bs i = false := by simp [addR, h2]
      rw [e1, addS_has h2]
      exact ⟨rfl, rfl⟩
    | false =>
      have hb := h
      unfold inB at hb
      have hb := of_decide_eq_true hb
      obtain ⟨m, rfl⟩ := Int.eq_ofNat_of_zero_le hb.1
      have hm : m < bs.length := by omega
      have hk := nw_div hm
      have q1 := wrapI (m := m / 64) (by omega)
      have q2 := shl_nat (j := m % 64) (by omega)
      have q3 := bOr_nat (a := wordAt bs (m / 64)) (b := 2 ^ (m % 64)) (chunk_lt bs (m / 64)) (Nat.pow_lt_pow_right (by omega) (by omega))
      have q4 := encWs_set bs (bs.set m true) (m / 64) _ (add_word bs m hm)
      simp (config := {maxSteps := 2000000, implicitDefEqProofs := false}) (disch := omega) only [↓reduceIte, go_sem, Int.reduceToNat, Nat.reduceAdd, Nat.reduceLeDiff, Nat.reduceEqDiff, Nat.reduceSub, Nat.reduceMul, reduceCtorEq, quo64, rem64, q1, q2, encWs_get bs hk, q3]
      refine accL (by kernel_rfl) ?_
      simp (config := {maxSteps := 2000000, implicitDefEqProofs := false}) (disch := omega) only [↓reduceIte, go_sem, Int.reduceToNat, Nat.reduceAdd, Nat.reduceLeDiff, Nat.reduceEqDiff, Nat.reduceSub, Nat.reduceMul, reduceCtorEq]
      have e1 : addR bs (m : Int) = true := by simp [addR, h, h2]
      have e2 : addS bs (m : Int) = bs.set m true := by simp [addS, h]
      rw [e1, e2]
      refine ⟨rfl, ?_⟩
      rw [← q4]
      rfl
end
end Go.Proofs.Yticjemfgbfphdaa.X
namespace Go.Proofs.Yticjemfgbfphdaa.X
section
open Go Go.AM Go.Proofs
open Go.Bits
set_option linter.unusedVariables false
set_option linter.unusedSimpArgs false
set_option maxRecDepth 10000
set_option maxHeartbeats 2000000
/-- A word's function that goes bit by bit. -/
structure WordF (fn : Nat) (g : Nat → Nat → Nat) (f : Bool → Bool → Bool) : Prop where
  bit : ∀ a b j, a < 2 ^ 64 → b < 2 ^ 64 → j < 64 → (g a b).testBit j = f (a.testBit j) (b.testBit j)
  lt : ∀ a b, a < 2 ^ 64 → b < 2 ^ 64 → g a b < 2 ^ 64
  ctr : ∀ a b : Nat, a < 2 ^ 64 → b < 2 ^ 64 → Ctr Try.prog fn [.int .u64 (a : Int), .int .u64 (b : Int)] [] (ret [.int .u64 (g a b : Int)])
def partW (T bs : List Bool) (s : Nat) : List (List AV) := (encWs T).take s ++ (encWs bs).drop s
theorem partW_len {T bs : List Bool} {s : Nat} (h : T.length = bs.length) (hs : s ≤ nw bs.length) : (partW T bs s).length = nw bs.length := by
  simp only [partW, List.length_append, List.length_take, List.length_drop, encWs_len, h]
  omega
theorem partW_get {T bs : List Bool} {s : Nat} (h : T.length = bs.length) (hs : s < nw bs.length) : (partW T bs s)[s]? = some [.int .u64 (wordAt bs s : Int)] := by
  unfold partW
  rw [List.getElem?_append_right (by rw [List.length_take, encWs_len]; omega), List.length_take, encWs_len, h, Nat.min_eq_left (by omega), Nat.sub_self, List.getElem?_drop, Nat.add_zero, encWs_get bs hs]
theorem partW_set {T bs : List Bool} {s : Nat} (h : T.length = bs.length) (hs : s < nw bs.length) : (partW T bs s).set s [.int .u64 (wordAt T s : Int)] = partW T bs (s + 1) := by
  unfold partW
  have h1 : ((encWs T).take s).length = s := by rw [List.length_take, encWs_len, h]; omega
  rw [List.set_append_right _ _ (by omega), h1, Nat.sub_self]
  have h2 : (encWs bs).drop s = [.int .u64 (wordAt bs s : Int)] :: (encWs bs).drop (s + 1) := by
    have := encWs_get bs hs
    rw [List.getElem?_eq_some_iff] at this
    obtain ⟨h3, h4⟩ := this
    rw [← List.getElem_cons_drop h3, h4]
  have h5 : (encWs T).take (s + 1) = (encWs T).take s ++ [[.int .u64 (wordAt T s : Int)]] := by
    rw [List.take_add_one, encWs_get T (by rw [h]; exact hs)]
    rfl
  rw [h2, List.set_cons_zero, h5, List.append_assoc]
  rfl
theorem partW_zero {T bs : List Bool} : partW T bs 0 = encWs bs := by simp [partW]
theorem partW_all {T bs : List Bool} (h : T.length = bs.length) : partW T bs (nw bs.length) = encWs T := by
  unfold partW
  rw [List.take_of_length_le (by rw [encWs_len, h]; omega), List.drop_of_length_le (by rw [encWs_len]; omega), List.append_nil]
def chg (T bs : List Bool) (s : Nat) : Bool := (List.range s).any fun k => wordAt T k != wordAt bs k
theorem chg_succ {T bs : List Bool} {s : Nat} : chg T bs (s + 1) = (chg T bs s || (wordAt T s != wordAt bs s)) := by
  simp [chg, List.range_succ, List.any_append]
theorem chg_all {T bs : List Bool} (h : T.length = bs.length) : chg T bs (nw bs.length) = (T != bs) := by
  cases hc : chg T bs (nw bs.length) with
  | false =>
    have : T = bs := by
      apply wordsOf_inj h
      intro k hk
      unfold chg at hc
      rw [List.any_eq_false] at hc
      have := hc k (List.mem_range.2 (by rw [h] at hk; exact hk))
      simpa using this
    rw [this]
    simp
  | true =>
    unfold chg at hc
    rw [List.any_eq_true] at hc
    obtain ⟨k, _, hk⟩ := hc
    have hne : T ≠ bs := fun e => by subst e; simp at hk
    simp [hne]
end
end Go.Proofs.Yticjemfgbfphdaa.X
namespace Go.Proofs.Yticjemfgbfphdaa.X
section
open Go Go.AM Go.Proofs
attribute [local go_sem ↓] w_skip w_lbl w_ops w_draw w_pre w_post w_alt w_seq w_cond w_block w_join w_loop w_exit w_ret w_scope w_rfunc l_nil l_cons th_n th_e th_r bk_n bk_r bk_e t_nil t_it t_call i_nil i_one i_grp s_nil s_cons c_call e_mv e_nil e_dyn e_nilb e_frz o_mov o_bin o_eq o_un o_conv o_len o_slen o_idx o_aix o_fad o_load o_store o_boxp o_boxo o_boxm o_alloc o_allocm o_alloca o_nilarr o_build o_bslp o_bslo o_slc o_sslc o_slc3 o_sidx o_mkfn o_mkmv o_vidx o_ext o_pick o_callf o_callb o_appd o_clear o_mxn o_field o_nilc o_make o_makeb o_buildm o_boxg o_mkif o_tass o_eqs o_callo o_callx k_int k_str k_bool k_grb k_grt k_some k_none k_arr k_lens k_lenf k_lenh k_lenb k_idxb k_idxs k_idxf k_idxh k_ld k_loadp k_loadr k_loade k_storer k_storee k_oin k_ois k_slcs k_slcf k_slch k_slc3s k_slc3f k_slc3h k_app2 k_apps k_appf k_apph k_cals k_cald k_cali k_cnb k_cna k_esn k_esc k_efn k_efc k_esh b_add b_sub b_mul b_quo b_rem b_and b_or b_xor b_andNot b_eql b_neq b_lss b_leq b_gtr b_geq b_shl b_shr b_seq b_sne b_slt b_sad q_bool q_str q_nil q_nilf u_not u_neg u_xor f_ret f_nor v_r v_c v_g v_reg v_ob v_set v_put v_so v_sn v_pn v_pc g_nil d_nil p_nil m_mv m_fr z_nil z_cons z_an z_ac g_cons d_cons p_cons y_mov y_bin y_eq y_un y_conv y_len y_slen y_idx y_aix y_fad y_load y_store y_boxp y_boxo y_boxm y_alloc y_alloca y_allocm y_nilarr y_build y_bslp y_bslo y_slc y_sslc y_slc3 y_sidx y_mkfn y_ext y_pick y_callf y_callb y_appd y_clear y_mxn y_field y_nilc y_make y_makeb y_buildm y_boxg y_mkif y_tass y_eqs y_callo y_mkmv y_callx y_vidx nb_if
attribute [local go_sem] nbd VL_mk VL2_mk If_t If_f If_not If_and If_or If_dt If_df If_et If_ef If_ne Ck_t Ck_h Opt_s ld_a ld_c lm_a lm_c renL ren keepR renA idxM invL getObs mapOb renOb allNone putAll fzR fzO fz fzL fzOb fzB frzOk upFrom mapR resOne resA cellsOf oneA oneAL isP isPL okSt kRows kParts fillA setAt bor bor0 bor1 bor2 borC borI key0 key1 key2 keysA fillM cellsM cellM unif ptrA ifOk kPartsM getObsM allNoneM zipU scal0 scalar eqC evNil evNilF memK keyX hideM xbor scal1 scalX scalOb bndA mkMag showM lendV hideV hideR hideOb hideL hideO showL backO noneO mapA List.map_cons List.map_nil List.cons_append List.nil_append List.append_nil List.drop_zero List.drop_succ_cons List.drop_nil List.take_succ_cons List.take_zero List.take_nil List.length_cons List.length_nil List.length_map List.getElem?_map Option.map_some Option.map_none Int.toNat_natCast Int.toNat_zero Int.toNat_one Int.natCast_nonneg List.flatMap_cons List.flatMap_nil List.all_cons List.all_nil List.any_cons List.any_nil Bool.or_false Bool.false_or Bool.or_true Bool.true_or Bool.and_true Bool.true_and Bool.and_false Bool.false_and Bool.not_true Bool.not_false beq_self_eq_true nb_self all_nil List.forall_mem_cons tk_map tk_app bs_self bs_dec bq_t bq_f Bool.not_not decide_true decide_false Bool.not_not and_self and_true true_and eq_self List.reverse_cons List.reverse_nil List.getElem?_cons_zero List.getElem?_cons_succ cond_true cond_false List.set_cons_zero List.set_cons_succ Nat.zero_add Nat.add_zero if_true if_false ite_true ite_false implies_true wrap64 wrap8
open Go.Bits
set_option linter.unusedVariables false
set_option linter.unusedSimpArgs false
set_option maxRecDepth 10000
set_option maxHeartbeats 2000000
theorem setObs_eq {n : Nat} {bs : List Bool} (h : bs.length = n) : setObs bs = [.box [.int .i64 (n : Int), .hs 1 0 0 (nw n)], .arr 0 1 (encWs bs)] := by subst h; rfl
theorem New' (n : Int) (hn : n < 1000000000) : Ctr Try.prog 36 [.int .i64 n] [] (retO [.ref 0 0] [.box [.int .i64 (n.toNat : Int), .hs 1 0 0 (nw n.toNat)], .arr 0 1 (encWs (noneB n.toNat))]) := by
  have := C36 n hn
  rwa [setObs_eq noneB_len] at this
theorem Add' {n : Nat} {bs : List Bool} (h : bs.length = n) (i : Int) (hl : n < 2 ^ 62) : Ctr Try.prog 38 [.ref 0 0, .int .i64 i] [.box [.int .i64 (n : Int), .hs 1 0 0 (nw n)], .arr 0 1 (encWs bs)]
    (retO [.bool (addR bs i)] [.box [.int .i64 (n : Int), .hs 1 0 0 (nw n)], .arr 0 1 (encWs (addS bs i))]) := by
  have := C38 bs i (by omega)
  rwa [setObs_eq h, setObs_eq (n := n) (by rw [addS_len]; exact h)] at this
theorem Has' {n : Nat} {bs : List Bool} (h : bs.length = n) (i : Int) (hl : n < 2 ^ 62) : Ctr Try.prog 19 [.rp [.int .i64 (n : Int), .sl (encWs bs)], .int .i64 i] [] (ret [.bool (hasB bs i)]) := by
  subst h
  exact C19 bs i hl
theorem scalW (bs : List Bool) : ((encWs bs).all fun c => c.all scal1) = true := by
  rw [List.all_eq_true]
  intro x hx
  rw [List.all_eq_true]
  intro y hy
  obtain ⟨w, _, rfl⟩ := List.mem_map.1 hx
  simp only [encW, List.mem_singleton] at hy
  subst hy
  rfl
def encZ (i : Int) : List AV := [.int .i64 i]
def ofS (n : Nat) (l : List Int) : List Bool := l.foldl addS (noneB n)
theorem foldl_addS_len : ∀ (l : List Int) (bs : List Bool), (l.foldl addS bs).length = bs.length
  | [], bs => rfl
  | i :: l, bs => by rw [List.foldl_cons, foldl_addS_len l, addS_len]
theorem ofS_len (n : Nat) (l : List Int) : (ofS n l).length = n := by unfold ofS; rw [foldl_addS_len, noneB_len]
theorem ofS_succ {n : Nat} {l : List Int} {s : Nat} {x : Int} (h : l[s]? = some x) : addS (ofS n (l.take s)) x = ofS n (l.take (s + 1)) := by
  unfold ofS
  rw [List.take_add_one, h, Option.toList_some, List.foldl_append]
  rfl
theorem encZ_get {l : List Int} {s : Nat} {x : Int} (h : l[s]? = some x) : (l.map encZ)[s]? = some [.int .i64 x] := by rw [List.getElem?_map, h]; rfl
def cntS (bs : List Bool) (s : Nat) : Nat := ((List.range s).map fun k => popN (wordAt bs k)).sum
theorem cntS_succ {bs : List Bool} {s : Nat} : cntS bs (s + 1) = cntS bs s + popN (wordAt bs s) := by simp [cntS, List.range_succ, List.sum_append]
theorem popN_le (x : Nat) : popN x ≤ 64 := by
  rw [← onesW_len]
  unfold onesW
  have := List.length_filter_le (fun j => x.testBit j) (List.range 64)
  rwa [List.length_range] at this
theorem cntS_le (bs : List Bool) : ∀ s, cntS bs s ≤ 64 * s
  | 0 => by simp [cntS]
  | s + 1 => by
    rw [cntS_succ]
    have := cntS_le bs s
    have := popN_le (wordAt bs s)
    omega
theorem C27 {n : Nat} {bs : List Bool} (h : bs.length = n) (hl : n < 1000000000000) : Ctr Try.prog 27 [.rp [.int .i64 (n : Int), .sl (encWs bs)]] [] (ret [.int .i64 ((ones bs).length : Int)]) := by
  have hnw : (encWs bs).length = nw n := by rw [encWs_len, h]
  apply ctr_b A27_ok rfl (Nat.le_of_ble_eq_true rfl)
  unfold A27
  simp only [initL, Nat.reduceAdd]
  simp (config := {maxSteps := 2000000, implicitDefEqProofs := false}) (disch := omega) only [↓reduceIte, go_sem, Int.reduceToNat, Nat.reduceAdd, Nat.reduceLeDiff, Nat.reduceEqDiff, Nat.reduceSub, Nat.reduceMul, reduceCtorEq, hnw]
  refine loopL (σ := Nat) (fun s => ⟨[(3, .int .i64 (cntS bs s : Nat)), (11, .sl (encWs bs)), (12, .int .i64 (nw n : Nat)), (13, .int .i64 (s : Nat))], []⟩) (fun s => s ≤ nw n) (fun s => nw n - s) 0 (by simp (config := {maxSteps := 2000000, implicitDefEqProofs := false}) (disch := omega) only [↓reduceIte, go_sem, Int.reduceToNat, Nat.reduceAdd, Nat.reduceLeDiff, Nat.reduceEqDiff, Nat.reduceSub, Nat.reduceMul, reduceCtorEq]; rfl) (Nat.zero_le _) ?_
  intro s hs
  simp (config := {maxSteps := 2000000, implicitDefEqProofs := false}) (disch := omega) only [↓reduceIte, go_sem, Int.reduceToNat, Nat.reduceAdd, Nat.reduceLeDiff, Nat.reduceEqDiff, Nat.reduceSub, Nat.reduceMul, reduceCtorEq]
  refine ifD (fun c => ?_) (fun c => ?_)
  · have hlt : s < nw bs.length := by rw [h]; omega
    have hb : nw n < 100000000000 := by unfold nw; omega
    have g4 : IntKind.i64.wrap ((s : Int) + 1) = ((s + 1 : Nat) : Int) := by rw [← wrapI (m := s + 1) (by omega)]; congr 1
    have g5 : IntKind.i64.wrap ((cntS bs s : Int) + (popN (wordAt bs s) : Int)) = ((cntS bs (s + 1) : Nat) : Int) := by
      have := cntS_le bs (s + 1)
      rw [cntS_succ] at this ⊢
      rw [← wrapI (m := cntS bs s + popN (wordAt bs s)) (by omega)]
      congr 1
    simp (config := {maxSteps := 2000000, implicitDefEqProofs := false}) (disch := omega) only [↓reduceIte, go_sem, Int.reduceToNat, Nat.reduceAdd, Nat.reduceLeDiff, Nat.reduceEqDiff, Nat.reduceSub, Nat.reduceMul, reduceCtorEq, encWs_get bs hlt]
    refine callL (C45 _ (chunk_lt bs s)) ?_
    simp (config := {maxSteps := 2000000, implicitDefEqProofs := false}) (disch := omega) only [↓reduceIte, go_sem, Int.reduceToNat, Nat.reduceAdd, Nat.reduceLeDiff, Nat.reduceEqDiff, Nat.reduceSub, Nat.reduceMul, reduceCtorEq, g4, g5]
    exact ⟨s + 1, rfl, by omega, by omega⟩
  · have hs : s = nw n := by omega
    subst hs
    simp (config := {maxSteps := 2000000, implicitDefEqProofs := false}) (disch := omega) only [↓reduceIte, go_sem, Int.reduceToNat, Nat.reduceAdd, Nat.reduceLeDiff, Nat.reduceEqDiff, Nat.reduceSub, Nat.reduceMul, reduceCtorEq]
    rw [ones_count, h]
    exact ⟨rfl, rfl⟩
end
end Go.Proofs.Yticjemfgbfphdaa.X
