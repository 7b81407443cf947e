/- Sets of numbers in words of 64 bits: plain laws. -/
import Init
import Derived.Test.YtmecfeocmlbjfaaDoorXam5
import Derived.Test.YtmecfeocmlbjfaaDoorProg
import Derived.KernelRfl
namespace Go.Bits
set_option linter.unusedVariables false
set_option linter.unusedSimpArgs false
/-- A word out of its bits, the lowest first. -/
def packN : List Bool → Nat
  | [] => 0
  | b :: r => b.toNat + 2 * packN r
theorem packN_lt : ∀ (l : List Bool), packN l < 2 ^ l.length
  | [] => by simp [packN]
  | b :: r => by
    have := packN_lt r
    simp only [packN, List.length_cons, Nat.pow_succ]
    cases b <;> simp <;> omega
theorem packN_bit : ∀ (l : List Bool) (j : Nat), (packN l).testBit j = l.getD j false
  | [], j => by simp [packN]
  | b :: r, 0 => by
    simp only [packN, Nat.testBit_zero, List.getD_cons_zero]
    cases b <;> simp <;> omega
  | b :: r, j + 1 => by
    rw [Nat.testBit_add_one]
    have : packN (b :: r) / 2 = packN r := by
      simp only [packN]
      cases b <;> simp <;> omega
    rw [this, packN_bit r j, List.getD_cons_succ]
def chunk (bs : List Bool) (k : Nat) : List Bool := (bs.drop (64 * k)).take 64
def nw (n : Nat) : Nat := (n + 63) / 64
/-- The words of a set, of which each number below the bound is told. -/
def wordsOf (bs : List Bool) : List Nat := (List.range (nw bs.length)).map fun k => packN (chunk bs k)
theorem wordsOf_len (bs : List Bool) : (wordsOf bs).length = nw bs.length := by simp [wordsOf]
theorem wordsOf_get (bs : List Bool) {k : Nat} (h : k < nw bs.length) : (wordsOf bs)[k]? = some (packN (chunk bs k)) := by
  simp [wordsOf, h]
theorem chunk_bit (bs : List Bool) (k j : Nat) : (packN (chunk bs k)).testBit j = (decide (j < 64) && bs.getD (64 * k + j) false) := by
  rw [packN_bit]
  unfold chunk
  simp only [List.getD_eq_getElem?_getD, List.getElem?_take, List.getElem?_drop]
  by_cases h : j < 64 <;> simp [h]
theorem chunk_lt (bs : List Bool) (k : Nat) : packN (chunk bs k) < 2 ^ 64 := by
  refine Nat.lt_of_lt_of_le (packN_lt _) (Nat.pow_le_pow_right (by omega) ?_)
  simp [chunk]
  omega
/-- Two words are one where their bits are. -/
theorem word_ext {a b : Nat} (ha : a < 2 ^ 64) (hb : b < 2 ^ 64) (h : ∀ j, j < 64 → a.testBit j = b.testBit j) : a = b := by
  apply Nat.eq_of_testBit_eq
  intro j
  by_cases hj : j < 64
  · exact h j hj
  · rw [Nat.testBit_lt_two_pow (Nat.lt_of_lt_of_le ha (Nat.pow_le_pow_right (by omega) (by omega))), Nat.testBit_lt_two_pow (Nat.lt_of_lt_of_le hb (Nat.pow_le_pow_right (by omega) (by omega)))]
theorem getD_set (bs : List Bool) (i j : Nat) (b : Bool) (hi : i < bs.length) : (bs.set i b).getD j false = if j = i then b else bs.getD j false := by
  simp only [List.getD_eq_getElem?_getD, List.getElem?_set]
  by_cases h : i = j
  · subst h; simp [hi]
  · have h' : ¬ j = i := fun e => h e.symm
    simp [h, h']
theorem list_ext (a b : List Nat) (n : Nat) (ha : a.length = n) (hb : b.length = n) (h : ∀ k, k < n → a[k]? = b[k]?) : a = b := by
  apply List.ext_getElem?
  intro k
  by_cases hk : k < n
  · exact h k hk
  · rw [List.getElem?_eq_none (by omega), List.getElem?_eq_none (by omega)]
theorem nw_div {n i : Nat} (h : i < n) : i / 64 < nw n := by unfold nw; omega
theorem wordsOf_set (bs : List Bool) (i : Nat) (hi : i < bs.length) (b : Bool) (w : Nat) (hw : w < 2 ^ 64) (h : ∀ j, j < 64 → w.testBit j = if j = i % 64 then b else (packN (chunk bs (i / 64))).testBit j) :
    (wordsOf bs).set (i / 64) w = wordsOf (bs.set i b) := by
  have hl : (bs.set i b).length = bs.length := by simp
  apply list_ext _ _ (nw bs.length) (by simp [wordsOf_len]) (by rw [wordsOf_len, hl])
  intro k hk
  rw [wordsOf_get _ (by rw [hl]; exact hk), List.getElem?_set]
  by_cases e : i / 64 = k
  · subst e
    rw [if_pos rfl, if_pos (by rw [wordsOf_len]; exact hk)]
    congr 1
    apply word_ext hw (chunk_lt _ _)
    intro j hj
    rw [h j hj, chunk_bit, chunk_bit, getD_set bs i _ b hi]
    have : (64 * (i / 64) + j = i) ↔ (j = i % 64) := by omega
    by_cases hj2 : j = i % 64
    · rw [if_pos hj2, if_pos (this.2 hj2)]; simp [hj]
    · rw [if_neg hj2, if_neg (fun e => hj2 (this.1 e))]
  · rw [if_neg e, wordsOf_get _ hk]
    congr 1
    apply word_ext (chunk_lt _ _) (chunk_lt _ _)
    intro j hj
    rw [chunk_bit, chunk_bit, getD_set bs i _ b hi, if_neg (by omega)]
/-- Has. -/
theorem has_word (bs : List Bool) (i : Nat) (hi : i < bs.length) : (packN (chunk bs (i / 64)) >>> (i % 64)) &&& 1 = (bs.getD i false).toNat := by
  have h := chunk_bit bs (i / 64) (i % 64)
  rw [show 64 * (i / 64) + i % 64 = i by omega] at h
  rw [show (decide (i % 64 < 64)) = true by simp; omega, Bool.true_and] at h
  rw [← h, Nat.testBit_eq_decide_div_mod_eq, Nat.and_one_is_mod, Nat.shiftRight_eq_div_pow]
  have := Nat.mod_two_eq_zero_or_one (packN (chunk bs (i / 64)) / 2 ^ (i % 64))
  rcases this with e | e <;> simp [e]
theorem add_word (bs : List Bool) (i : Nat) (hi : i < bs.length) : (wordsOf bs).set (i / 64) (packN (chunk bs (i / 64)) ||| 2 ^ (i % 64)) = wordsOf (bs.set i true) := by
  apply wordsOf_set bs i hi
  · exact Nat.or_lt_two_pow (chunk_lt _ _) (Nat.pow_lt_pow_right (by omega) (by omega))
  · intro j hj
    rw [Nat.testBit_or, Nat.testBit_two_pow]
    by_cases h : i % 64 = j
    · subst h; simp
    · rw [if_neg (fun e => h e.symm)]; simp [h]
theorem drop_word (bs : List Bool) (i : Nat) (hi : i < bs.length) : (wordsOf bs).set (i / 64) (packN (chunk bs (i / 64)) &&& (2 ^ 64 - 1 - 2 ^ (i % 64))) = wordsOf (bs.set i false) := by
  apply wordsOf_set bs i hi
  · have := Nat.two_pow_pos (i % 64)
    exact Nat.and_lt_two_pow _ (by generalize 2 ^ (i % 64) = q at *; omega)
  · intro j hj
    rw [Nat.testBit_and]
    have hp : 2 ^ (i % 64) < 2 ^ 64 := Nat.pow_lt_pow_right (by omega) (by omega)
    rw [show 2 ^ 64 - 1 - 2 ^ (i % 64) = 2 ^ 64 - (2 ^ (i % 64) + 1) by omega, Nat.testBit_two_pow_sub_succ hp, Nat.testBit_two_pow]
    by_cases h : i % 64 = j
    · subst h; simp
    · rw [if_neg (fun e => h e.symm)]; simp [h, hj]
/-- Two sets put together, number by number. -/
def two (f : Bool → Bool → Bool) (bs os : List Bool) : List Bool := bs.mapIdx fun i x => f x (os.getD i false)
theorem two_len (f : Bool → Bool → Bool) (bs os : List Bool) : (two f bs os).length = bs.length := by simp [two]
theorem two_get (f : Bool → Bool → Bool) (bs os : List Bool) (i : Nat) : (two f bs os).getD i false = (decide (i < bs.length) && f (bs.getD i false) (os.getD i false)) := by
  simp only [two, List.getD_eq_getElem?_getD, List.getElem?_mapIdx]
  by_cases h : i < bs.length
  · simp [h]
  · simp [h, List.getElem?_eq_none (Nat.le_of_not_lt h)]
/-- The bits of a word that may be in a set. -/
def maskW (n k : Nat) : Nat := if n < 64 * k + 64 then 2 ^ (n - 64 * k) - 1 else 2 ^ 64 - 1
theorem maskW_lt (n k : Nat) : maskW n k < 2 ^ 64 := by
  unfold maskW
  split
  · have : 2 ^ (n - 64 * k) ≤ 2 ^ 64 := Nat.pow_le_pow_right (by omega) (by omega)
    have : 0 < 2 ^ (n - 64 * k) := Nat.two_pow_pos _
    omega
  · omega
theorem maskW_bit (n k j : Nat) (hj : j < 64) : (maskW n k).testBit j = decide (64 * k + j < n) := by
  unfold maskW
  split
  · rw [Nat.testBit_two_pow_sub_one]
    congr 1
    apply propext
    omega
  · rw [Nat.testBit_two_pow_sub_one]
    have : 64 * k + j < n := by omega
    simp [hj, this]
def wordAt (os : List Bool) (k : Nat) : Nat := packN (chunk os k)
theorem wordAt_none (os : List Bool) (k : Nat) (h : nw os.length ≤ k) : wordAt os k = 0 := by
  apply word_ext (chunk_lt _ _) (by omega)
  intro j hj
  rw [chunk_bit, List.getD_eq_getElem?_getD, List.getElem?_eq_none (by unfold nw at h; omega)]
  simp
theorem two_word (f : Bool → Bool → Bool) (g : Nat → Nat → Nat) (hg : ∀ a b j, a < 2 ^ 64 → b < 2 ^ 64 → j < 64 → (g a b).testBit j = f (a.testBit j) (b.testBit j)) (bs os : List Bool) (k : Nat) :
    g (wordAt bs k) (wordAt os k) &&& maskW bs.length k = wordAt (two f bs os) k := by
  apply word_ext (Nat.and_lt_two_pow _ (maskW_lt _ _)) (chunk_lt _ _)
  intro j hj
  unfold wordAt
  rw [Nat.testBit_and, hg _ _ j (chunk_lt _ _) (chunk_lt _ _) hj, maskW_bit _ _ _ hj, chunk_bit, chunk_bit, chunk_bit, two_get]
  simp [hj, Bool.and_comm]
/-- Sets are one where their words are. -/
theorem wordsOf_inj {a b : List Bool} (hl : a.length = b.length) (h : ∀ k, k < nw a.length → wordAt a k = wordAt b k) : a = b := by
  apply List.ext_getElem?
  intro i
  by_cases hi : i < a.length
  · have := congrArg (fun w => w.testBit (i % 64)) (h (i / 64) (nw_div hi))
    simp only [wordAt, chunk_bit, show 64 * (i / 64) + i % 64 = i by omega, show (decide (i % 64 < 64)) = true by simp; omega, Bool.true_and] at this
    have hb : i < b.length := by omega
    rw [List.getD_eq_getElem?_getD, List.getD_eq_getElem?_getD, List.getElem?_eq_getElem hi, List.getElem?_eq_getElem hb] at this
    rw [List.getElem?_eq_getElem hi, List.getElem?_eq_getElem hb]
    simpa using this
  · rw [List.getElem?_eq_none (by omega), List.getElem?_eq_none (by omega)]
end Go.Bits
/- How many bits a word has, and its lowest one: plain laws. -/
namespace Go.Bits
set_option linter.unusedVariables false
set_option linter.unusedSimpArgs false
theorem and_parts {t a b c d : Nat} (ha : a < 2 ^ t) (hc : c < 2 ^ t) : (a + 2 ^ t * b) &&& (c + 2 ^ t * d) = (a &&& c) + 2 ^ t * (b &&& d) := by
  apply Nat.eq_of_testBit_eq
  intro j
  have hac : a &&& c < 2 ^ t := Nat.and_lt_two_pow _ hc
  rw [Nat.testBit_and, Nat.add_comm a, Nat.add_comm c, Nat.add_comm (a &&& c), Nat.testBit_two_pow_mul_add _ ha, Nat.testBit_two_pow_mul_add _ hc, Nat.testBit_two_pow_mul_add _ hac]
  by_cases h : j < t <;> simp [h, Nat.testBit_and]
/-- A number out of its digits, each of s bits. -/
def pk (s : Nat) : List Nat → Nat
  | [] => 0
  | d :: r => d + 2 ^ s * pk s r
def sum2 : List Nat → List Nat
  | a :: b :: r => (a + b) :: sum2 r
  | l => l
def maskR (s : Nat) : Nat → Nat
  | 0 => 0
  | n + 1 => (2 ^ s - 1) + 2 ^ (2 * s) * maskR s n
theorem mod_add_mul {s d q : Nat} (h : d < 2 ^ s) : (d + 2 ^ s * q) % 2 ^ s = d := by
  rw [Nat.add_mul_mod_self_left, Nat.mod_eq_of_lt h]
theorem div_add_mul {s d q : Nat} (h : d < 2 ^ s) : (d + 2 ^ s * q) / 2 ^ s = q := by
  rw [Nat.add_mul_div_left _ _ (Nat.two_pow_pos s), Nat.div_eq_of_lt h, Nat.zero_add]
theorem low_mask {s x y m : Nat} : (x % 2 ^ (2 * s) + 2 ^ (2 * s) * y) &&& ((2 ^ s - 1) + 2 ^ (2 * s) * m) = x % 2 ^ s + 2 ^ (2 * s) * (y &&& m) := by
  have hp := Nat.two_pow_pos (2 * s)
  have h1 : 2 ^ s ≤ 2 ^ (2 * s) := Nat.pow_le_pow_right (by omega) (by omega)
  have hs := Nat.two_pow_pos s
  rw [and_parts (Nat.mod_lt _ hp) (by omega), Nat.and_two_pow_sub_one_eq_mod]
  congr 1
  exact Nat.mod_mod_of_dvd _ (Nat.pow_dvd_pow 2 (by omega))
/-- Digits put together by pairs, as the program does it. -/
theorem pairs_sum {s : Nat} : ∀ (n : Nat) (l : List Nat), l.length = 2 * n → (∀ d ∈ l, d < 2 ^ s) →
    ((pk s l / 2 ^ s) &&& maskR s n) + (pk s l &&& maskR s n) = pk (2 * s) (sum2 l)
  | 0, l, hl, h => by
    have : l = [] := List.eq_nil_of_length_eq_zero (by omega)
    subst this
    simp [pk, maskR, sum2]
  | n + 1, [], hl, h => by simp at hl
  | n + 1, [_], hl, h => by exfalso; simp at hl; omega
  | n + 1, a :: b :: r, hl, h => by
    have ha := h a (by simp)
    have hb := h b (by simp)
    have ih := pairs_sum n r (by simp at hl; omega) (fun d hd => h d (by simp [hd]))
    have e2 : (2 : Nat) ^ (2 * s) = 2 ^ s * 2 ^ s := by rw [Nat.two_mul, Nat.pow_add]
    simp only [pk, sum2, maskR]
    have x1 : a + 2 ^ s * (b + 2 ^ s * pk s r) = (a + 2 ^ s * b) % 2 ^ (2 * s) + 2 ^ (2 * s) * pk s r := by
      rw [Nat.mod_eq_of_lt]
      · rw [e2, Nat.mul_add, Nat.mul_assoc]; omega
      · rw [e2]
        have : 2 ^ s * b ≤ 2 ^ s * (2 ^ s - 1) := Nat.mul_le_mul_left _ (by omega)
        have e3 : 2 ^ s * (2 ^ s - 1) + 2 ^ s = 2 ^ s * 2 ^ s := by rw [← Nat.mul_succ]; congr 1; omega
        omega
    have x2 : (a + 2 ^ s * (b + 2 ^ s * pk s r)) / 2 ^ s = (b + 2 ^ s * (pk s r % 2 ^ s)) % 2 ^ (2 * s) + 2 ^ (2 * s) * (pk s r / 2 ^ s) := by
      rw [div_add_mul ha, Nat.mod_eq_of_lt]
      · have := Nat.mod_add_div (pk s r) (2 ^ s)
        rw [e2, Nat.mul_assoc, Nat.add_assoc, ← Nat.mul_add, this]
      · rw [e2]
        have hm := Nat.mod_lt (pk s r) (Nat.two_pow_pos s)
        have : 2 ^ s * (pk s r % 2 ^ s) ≤ 2 ^ s * (2 ^ s - 1) := Nat.mul_le_mul_left _ (by omega)
        have e3 : 2 ^ s * (2 ^ s - 1) + 2 ^ s = 2 ^ s * 2 ^ s := by rw [← Nat.mul_succ]; congr 1; omega
        omega
    rw [x2, x1, low_mask, low_mask, mod_add_mul ha, mod_add_mul hb, ← ih]
    rw [Nat.mul_add]
    omega
theorem sum2_sum : ∀ (l : List Nat), (sum2 l).sum = l.sum
  | [] => rfl
  | [_] => rfl
  | a :: b :: r => by simp only [sum2, List.sum_cons, sum2_sum r]; omega
theorem sum2_len : ∀ (n : Nat) (l : List Nat), l.length = 2 * n → (sum2 l).length = n
  | 0, l, h => by rw [List.eq_nil_of_length_eq_zero (l := l) (by omega)]; rfl
  | n + 1, [], h => by simp at h
  | n + 1, [_], h => by exfalso; simp at h; omega
  | n + 1, a :: b :: r, h => by simp only [sum2, List.length_cons, sum2_len n r (by simp at h; omega)]
theorem sum2_le {m : Nat} : ∀ (l : List Nat), (∀ d ∈ l, d ≤ m) → ∀ d ∈ sum2 l, d ≤ 2 * m
  | [], h, d, hd => by simp [sum2] at hd
  | [x], h, d, hd => by
    have := h x (by simp)
    simp [sum2] at hd
    omega
  | a :: b :: r, h, d, hd => by
    simp only [sum2, List.mem_cons] at hd
    rcases hd with rfl | hd
    · have := h a (by simp)
      have := h b (by simp)
      omega
    · exact sum2_le r (fun d hd => h d (by simp [hd])) d hd
theorem pk_lt {s : Nat} : ∀ (l : List Nat), (∀ d ∈ l, d < 2 ^ s) → pk s l < 2 ^ (s * l.length)
  | [], h => by simp [pk]
  | d :: r, h => by
    have h1 := h d (by simp)
    have h2 := pk_lt r (fun x hx => h x (by simp [hx]))
    simp only [pk, List.length_cons, Nat.mul_succ, Nat.pow_add]
    have : 2 ^ s * pk s r ≤ 2 ^ s * (2 ^ (s * r.length) - 1) := Nat.mul_le_mul_left _ (by omega)
    have e3 : 2 ^ s * (2 ^ (s * r.length) - 1) + 2 ^ s = 2 ^ s * 2 ^ (s * r.length) := by
      have := Nat.two_pow_pos (s * r.length)
      rw [← Nat.mul_succ]; congr 1; omega
    rw [Nat.mul_comm (2 ^ (s * r.length))]
    omega
/-- The third step: sums first, masked behind that. -/
theorem pairs_sum4 : ∀ (n : Nat) (l : List Nat), l.length = 2 * n → (∀ d ∈ l, d ≤ 4) →
    ((pk 4 l / 2 ^ 4) + pk 4 l) &&& maskR 4 n = pk 8 (sum2 l)
  | 0, l, hl, h => by
    rw [List.eq_nil_of_length_eq_zero (l := l) (by omega)]
    simp [pk, maskR, sum2]
  | n + 1, [], hl, h => by simp at hl
  | n + 1, [_], hl, h => by exfalso; simp at hl; omega
  | n + 1, a :: b :: r, hl, h => by
    have ha := h a (by simp)
    have hb := h b (by simp)
    have ih := pairs_sum4 n r (by simp at hl; omega) (fun d hd => h d (by simp [hd]))
    have hr0 : pk 4 r % 16 ≤ 4 := by
      cases r with
      | nil => simp [pk]
      | cons c r =>
        have := h c (by simp)
        simp only [pk]
        omega
    simp only [pk, sum2, maskR]
    generalize hR : pk 4 r = R at *
    have x1 : (a + 2 ^ 4 * (b + 2 ^ 4 * R)) / 2 ^ 4 + (a + 2 ^ 4 * (b + 2 ^ 4 * R)) = ((a + b) + 16 * (b + R % 16)) % 2 ^ (2 * 4) + 2 ^ (2 * 4) * (R / 2 ^ 4 + R) := by omega
    rw [x1, low_mask, ih]
    congr 1
    omega
theorem list8 {α : Type} (l : List α) (h : l.length = 8) : ∃ a b c d e f g i, l = [a, b, c, d, e, f, g, i] := by
  match l, h with
  | [a, b, c, d, e, f, g, i], _ => exact ⟨a, b, c, d, e, f, g, i, rfl⟩
theorem last_nums {a b c d e f g i : Nat} (h : a ≤ 8 ∧ b ≤ 8 ∧ c ≤ 8 ∧ d ≤ 8 ∧ e ≤ 8 ∧ f ≤ 8 ∧ g ≤ 8 ∧ i ≤ 8) {x : Nat}
    (hx : x = a + 256 * b + 65536 * c + 16777216 * d + 4294967296 * e + 1099511627776 * f + 281474976710656 * g + 72057594037927936 * i) :
    x < 2 ^ 60 ∧ x + x / 256 < 2 ^ 61 ∧ (x + x / 256) + (x + x / 256) / 65536 < 2 ^ 62 ∧ ((x + x / 256) + (x + x / 256) / 65536) + ((x + x / 256) + (x + x / 256) / 65536) / 4294967296 < 2 ^ 63 ∧
    (((x + x / 256) + (x + x / 256) / 65536) + ((x + x / 256) + (x + x / 256) / 65536) / 4294967296) % 128 = a + b + c + d + e + f + g + i := by
  obtain ⟨h1, h2, h3, h4, h5, h6, h7, h8⟩ := h
  have y1 : x / 256 = b + 256 * c + 65536 * d + 16777216 * e + 4294967296 * f + 1099511627776 * g + 281474976710656 * i := by omega
  obtain ⟨y, hy⟩ : ∃ y, y = x + x / 256 := ⟨_, rfl⟩
  rw [← hy]
  have y2 : y = (a + b) + 256 * (b + c) + 65536 * (c + d) + 16777216 * (d + e) + 4294967296 * (e + f) + 1099511627776 * (f + g) + 281474976710656 * (g + i) + 72057594037927936 * i := by rw [hy, y1, hx]; omega
  have x1 : x < 2 ^ 60 := by omega
  clear hy y1 hx
  have z1 : y / 65536 = (c + d) + 256 * (d + e) + 65536 * (e + f) + 16777216 * (f + g) + 4294967296 * (g + i) + 1099511627776 * i := by omega
  obtain ⟨z, hz⟩ : ∃ z, z = y + y / 65536 := ⟨_, rfl⟩
  rw [← hz]
  have z2 : z = (a + b + c + d) + 256 * (b + c + d + e) + 65536 * (c + d + e + f) + 16777216 * (d + e + f + g) + 4294967296 * (e + f + g + i) + 1099511627776 * (f + g + i) + 281474976710656 * (g + i) + 72057594037927936 * i := by rw [hz, z1, y2]; omega
  have yb : y < 2 ^ 61 := by omega
  clear hz z1 y2
  have w1 : z / 4294967296 = (e + f + g + i) + 256 * (f + g + i) + 65536 * (g + i) + 16777216 * i := by omega
  have zb : z < 2 ^ 62 := by omega
  refine ⟨x1, yb, zb, by omega, ?_⟩
  rw [w1, z2]
  clear w1 z2 zb yb x1
  omega
theorem last_steps (l : List Nat) (hl : l.length = 8) (h : ∀ d ∈ l, d ≤ 8) :
    pk 8 l < 2 ^ 60 ∧ pk 8 l + pk 8 l / 2 ^ 8 < 2 ^ 61 ∧ (pk 8 l + pk 8 l / 2 ^ 8) + (pk 8 l + pk 8 l / 2 ^ 8) / 2 ^ 16 < 2 ^ 62 ∧
    ((pk 8 l + pk 8 l / 2 ^ 8) + (pk 8 l + pk 8 l / 2 ^ 8) / 2 ^ 16) + ((pk 8 l + pk 8 l / 2 ^ 8) + (pk 8 l + pk 8 l / 2 ^ 8) / 2 ^ 16) / 2 ^ 32 < 2 ^ 63 ∧
    (((pk 8 l + pk 8 l / 2 ^ 8) + (pk 8 l + pk 8 l / 2 ^ 8) / 2 ^ 16) + ((pk 8 l + pk 8 l / 2 ^ 8) + (pk 8 l + pk 8 l / 2 ^ 8) / 2 ^ 16) / 2 ^ 32) % 128 = l.sum := by
  obtain ⟨a, b, c, d, e, f, g, i, rfl⟩ := list8 l hl
  simp only [List.mem_cons, List.not_mem_nil, or_false, forall_eq_or_imp, forall_eq] at h
  have := last_nums h (x := pk 8 [a, b, c, d, e, f, g, i]) (by simp only [pk, Nat.reducePow]; omega)
  simp only [Nat.reducePow, List.sum_cons, List.sum_nil] at this ⊢
  refine ⟨this.1, this.2.1, this.2.2.1, this.2.2.2.1, ?_⟩
  rw [this.2.2.2.2]
  omega
/-- How many bits of a word are set. -/
def popN (x : Nat) : Nat := ((List.range 64).map fun j => (x.testBit j).toNat).sum
def bitsL (x n : Nat) : List Nat := (List.range n).map fun j => (x.testBit j).toNat
theorem pk_bits (x : Nat) : ∀ (n : Nat), pk 1 (bitsL x n) = x % 2 ^ n := by
  intro n
  induction n generalizing x with
  | zero => simp [bitsL, pk, Nat.mod_one]
  | succ n ih =>
    have e : bitsL x (n + 1) = (x.testBit 0).toNat :: bitsL (x / 2) n := by
      simp only [bitsL, List.range_succ_eq_map, List.map_cons, List.map_map]
      congr 1
      apply List.map_congr_left
      intro j _
      simp [Nat.testBit_add_one]
    rw [e, pk, ih, Nat.testBit_zero]
    have h2 := Nat.mod_two_eq_zero_or_one x
    have h3 : x % 2 ^ (n + 1) = x % 2 + 2 * (x / 2 % 2 ^ n) := by rw [Nat.pow_succ, Nat.mul_comm (2 ^ n), Nat.mod_mul]
    rw [h3]
    rcases h2 with h2 | h2 <;> simp [h2]
theorem bitsL_le (x n : Nat) : ∀ d ∈ bitsL x n, d ≤ 1 := by
  intro d hd
  obtain ⟨j, _, rfl⟩ := List.mem_map.1 hd
  cases x.testBit j <;> simp
theorem mask1 : maskR 1 32 = 0x5555555555555555 := by decide
theorem mask2 : maskR 2 16 = 0x3333333333333333 := by decide
theorem mask4 : maskR 4 8 = 0x0f0f0f0f0f0f0f0f := by decide
/-- The program's count of bits. -/
theorem pop_steps (x : Nat) (hx : x < 2 ^ 64) : ∃ x1 x2 x3 : Nat, x1 = (x / 2 &&& 0x5555555555555555) + (x &&& 0x5555555555555555) ∧ x1 < 2 ^ 64 ∧
    x2 = (x1 / 4 &&& 0x3333333333333333) + (x1 &&& 0x3333333333333333) ∧ x2 < 2 ^ 63 ∧ x3 = (x2 / 16 + x2) &&& 0x0f0f0f0f0f0f0f0f ∧ x3 < 2 ^ 60 ∧
    x3 + x3 / 2 ^ 8 < 2 ^ 61 ∧ (x3 + x3 / 2 ^ 8) + (x3 + x3 / 2 ^ 8) / 2 ^ 16 < 2 ^ 62 ∧
    ((x3 + x3 / 2 ^ 8) + (x3 + x3 / 2 ^ 8) / 2 ^ 16) + ((x3 + x3 / 2 ^ 8) + (x3 + x3 / 2 ^ 8) / 2 ^ 16) / 2 ^ 32 < 2 ^ 63 ∧
    (((x3 + x3 / 2 ^ 8) + (x3 + x3 / 2 ^ 8) / 2 ^ 16) + ((x3 + x3 / 2 ^ 8) + (x3 + x3 / 2 ^ 8) / 2 ^ 16) / 2 ^ 32) % 128 = popN x := by
  have l0 : (bitsL x 64).length = 64 := by simp [bitsL]
  have b0 := bitsL_le x 64
  have e0 : pk 1 (bitsL x 64) = x := by rw [pk_bits, Nat.mod_eq_of_lt hx]
  have s1 := pairs_sum (s := 1) 32 (bitsL x 64) l0 (fun d hd => by have := b0 d hd; omega)
  have l1 := sum2_len 32 _ l0
  have b1 := sum2_le _ b0
  have s2 := pairs_sum (s := 2) 16 (sum2 (bitsL x 64)) l1 (fun d hd => by have := b1 d hd; omega)
  have l2 := sum2_len 16 _ l1
  have b2 := sum2_le _ b1
  have s3 := pairs_sum4 8 (sum2 (sum2 (bitsL x 64))) l2 (fun d hd => by have := b2 d hd; omega)
  have l3 := sum2_len 8 _ l2
  have b3 := sum2_le _ b2
  obtain ⟨t1, t2, t3, t4, t5⟩ := last_steps (sum2 (sum2 (sum2 (bitsL x 64)))) l3 (fun d hd => by have := b3 d hd; omega)
  rw [mask1, e0] at s1
  rw [mask2] at s2
  rw [mask4] at s3
  have u1 : pk 2 (sum2 (bitsL x 64)) < 2 ^ 64 := by have := pk_lt (s := 2) _ (fun d hd => by have := b1 d hd; omega : ∀ d ∈ sum2 (bitsL x 64), d < 2 ^ 2); rw [l1] at this; exact this
  have u2 : pk 4 (sum2 (sum2 (bitsL x 64))) < 2 ^ 63 := by
    have h8 : ∀ (n : Nat) (l : List Nat), l.length = n → (∀ d ∈ l, d ≤ 4) → pk 4 l * 15 ≤ 4 * (16 ^ n - 1) := by
      intro n
      induction n with
      | zero => intro l hl _; rw [List.eq_nil_of_length_eq_zero hl]; simp [pk]
      | succ n ih =>
        intro l hl hd
        match l, hl with
        | d :: r, hl =>
          have h1 := hd d (by simp)
          have h2 := ih r (by simpa using hl) (fun y hy => hd y (by simp [hy]))
          have hp : 0 < 16 ^ n := Nat.pow_pos (by omega)
          simp only [pk, Nat.pow_succ]
          omega
    have := h8 16 _ l2 (fun d hd => by have := b2 d hd; omega)
    omega
  refine ⟨pk 2 (sum2 (bitsL x 64)), pk 4 (sum2 (sum2 (bitsL x 64))), pk 8 (sum2 (sum2 (sum2 (bitsL x 64)))), ?_, u1, ?_, u2, ?_, t1, t2, t3, t4, ?_⟩
  · simpa using s1.symm
  · simpa using s2.symm
  · simpa using s3.symm
  · rw [t5, sum2_sum, sum2_sum, sum2_sum]; rfl
/-- The place of the lowest bit. -/
def tzN : Nat → Nat → Nat
  | 0, _ => 0
  | n + 1, x => if x % 2 = 1 then 0 else 1 + tzN n (x / 2)
theorem tz_spec : ∀ (n x : Nat), x ≠ 0 → x < 2 ^ n → tzN n x < n ∧ x.testBit (tzN n x) = true ∧ (∀ j, j < tzN n x → x.testBit j = false) ∧ ∀ j, (x - 1).testBit j = if j < tzN n x then true else if j = tzN n x then false else x.testBit j
  | 0, x, h0, h => by omega
  | n + 1, x, h0, h => by
    unfold tzN
    by_cases hx : x % 2 = 1
    · rw [if_pos hx]
      refine ⟨by omega, by simp [Nat.testBit_zero, hx], fun j hj => by omega, fun j => ?_⟩
      cases j with
      | zero => simp [Nat.testBit_zero]; omega
      | succ j =>
        rw [if_neg (by omega), if_neg (by omega), Nat.testBit_add_one, Nat.testBit_add_one]
        congr 1
        omega
    · rw [if_neg hx]
      obtain ⟨g1, g2, g3, g4⟩ := tz_spec n (x / 2) (by omega) (by rw [Nat.pow_succ] at h; omega)
      refine ⟨by omega, ?_, fun j hj => ?_, fun j => ?_⟩
      · rw [Nat.add_comm, Nat.testBit_add_one]; exact g2
      · cases j with
        | zero => simp [Nat.testBit_zero]; omega
        | succ j => rw [Nat.testBit_add_one]; exact g3 j (by omega)
      · cases j with
        | zero =>
          rw [if_pos (by omega), Nat.testBit_zero]
          simp; omega
        | succ j =>
          rw [Nat.testBit_add_one, Nat.testBit_add_one, show (x - 1) / 2 = x / 2 - 1 by omega, g4 j]
          generalize tzN n (x / 2) = t
          by_cases h1 : j < t
          · simp [h1, show j + 1 < 1 + t by omega]
          · by_cases h2 : j = t
            · simp [h2, show t + 1 = 1 + t by omega]
            · simp [h1, h2, show ¬ j + 1 < 1 + t by omega, show ¬ j + 1 = 1 + t by omega]
def tz (x : Nat) : Nat := tzN 64 x
theorem low_bit (x : Nat) (h0 : x ≠ 0) (h : x < 2 ^ 64) : x &&& (2 ^ 64 - x) = 2 ^ tz x := by
  obtain ⟨g1, g2, g3, g4⟩ := tz_spec 64 x h0 h
  have ht : 2 ^ tz x < 2 ^ 64 := Nat.pow_lt_pow_right (by omega) g1
  apply word_ext (Nat.and_lt_two_pow _ (by omega)) ht
  intro j hj
  rw [Nat.testBit_and, show 2 ^ 64 - x = 2 ^ 64 - ((x - 1) + 1) by omega, Nat.testBit_two_pow_sub_succ (by omega), g4 j, Nat.testBit_two_pow]
  unfold tz
  by_cases h1 : j < tzN 64 x
  · rw [if_pos h1, g3 j h1]; simp; omega
  · rw [if_neg h1]
    by_cases h2 : j = tzN 64 x
    · rw [if_pos h2, h2, g2]; simp [g1]
    · rw [if_neg h2]
      have : ¬ tzN 64 x = j := fun e => h2 e.symm
      cases x.testBit j <;> simp [this]
/-- The numbers of a word's bits, rising. -/
def onesW (w : Nat) : List Nat := (List.range 64).filter fun j => w.testBit j
theorem onesW_zero : onesW 0 = [] := by simp [onesW]
theorem onesW_cons (w : Nat) (h0 : w ≠ 0) (h : w < 2 ^ 64) : onesW w = tz w :: onesW (w &&& (w - 1)) := by
  obtain ⟨g1, g2, g3, g4⟩ := tz_spec 64 w h0 h
  have e : List.range 64 = List.range (tzN 64 w) ++ (tzN 64 w :: List.range' (tzN 64 w + 1) (63 - tzN 64 w)) := by
    have h := List.range'_append_1 (s := 0) (m := tzN 64 w) (n := 63 - tzN 64 w + 1)
    rw [Nat.zero_add] at h
    rw [List.range_eq_range', List.range_eq_range', ← List.range'_succ, h]
    congr 1
    omega
  have low : (List.range (tzN 64 w)).filter (fun j => w.testBit j) = [] := by
    rw [List.filter_eq_nil_iff]
    intro j hj
    rw [g3 j (List.mem_range.1 hj)]
    simp
  have low2 : (List.range (tzN 64 w)).filter (fun j => (w &&& (w - 1)).testBit j) = [] := by
    rw [List.filter_eq_nil_iff]
    intro j hj
    rw [Nat.testBit_and, g3 j (List.mem_range.1 hj)]
    simp
  unfold onesW tz
  rw [e, List.filter_append, List.filter_append, low, low2, List.nil_append, List.nil_append, List.filter_cons, List.filter_cons, if_pos g2, if_neg]
  · congr 1
    apply List.filter_congr
    intro j hj
    have hj := List.mem_range'_1.1 hj
    rw [Nat.testBit_and, g4 j, if_neg (by omega), if_neg (by omega), Bool.and_self]
  · rw [Nat.testBit_and, g4, if_neg (by omega), if_pos rfl]
    simp
theorem onesW_len (w : Nat) : (onesW w).length = popN w := by
  unfold onesW popN
  rw [← List.countP_eq_length_filter]
  induction List.range 64 with
  | nil => rfl
  | cons j l ih =>
    rw [List.countP_cons, List.map_cons, List.sum_cons, ih]
    cases w.testBit j <;> simp <;> omega
theorem andlt (w : Nat) (h0 : w ≠ 0) : w &&& (w - 1) < w := by
  have : w &&& (w - 1) ≤ w - 1 := Nat.and_le_right
  omega
/-- The numbers of a set, rising. -/
def ones (bs : List Bool) : List Nat := (List.range bs.length).filter fun i => bs.getD i false
theorem range_filter (p : Nat → Bool) : ∀ m : Nat, (List.range (64 * m)).filter p = (List.range m).flatMap fun k => ((List.range 64).filter fun j => p (64 * k + j)).map (64 * k + ·)
  | 0 => rfl
  | m + 1 => by
    rw [List.range_succ (n := m), List.flatMap_append, ← range_filter p m, Nat.mul_succ, List.range_add, List.filter_append]
    congr 1
    simp only [List.flatMap_cons, List.flatMap_nil, List.append_nil, List.filter_map]
    rfl
theorem ones_words (bs : List Bool) : ones bs = (List.range (nw bs.length)).flatMap fun k => (onesW (wordAt bs k)).map (64 * k + ·) := by
  have h1 : ones bs = (List.range (64 * nw bs.length)).filter fun i => bs.getD i false := by
    have e : 64 * nw bs.length = bs.length + (64 * nw bs.length - bs.length) := by unfold nw; omega
    unfold ones
    rw [e, List.range_add, List.filter_append]
    have : (List.map (fun x => bs.length + x) (List.range (64 * nw bs.length - bs.length))).filter (fun i => bs.getD i false) = [] := by
      rw [List.filter_eq_nil_iff]
      intro j hj
      obtain ⟨x, _, rfl⟩ := List.mem_map.1 hj
      simp [List.getD_eq_getElem?_getD]
    rw [this, List.append_nil]
  rw [h1, range_filter]
  congr 1
  funext k
  congr 1
  unfold onesW
  apply List.filter_congr
  intro j hj
  unfold wordAt
  rw [chunk_bit]
  have := List.mem_range.1 hj
  simp [this]
theorem ones_count (bs : List Bool) : (ones bs).length = ((List.range (nw bs.length)).map fun k => popN (wordAt bs k)).sum := by
  rw [ones_words, List.length_flatMap]
  refine congrArg List.sum (List.map_congr_left fun k _ => ?_)
  show (List.map _ _).length = _
  rw [List.length_map, onesW_len]
end Go.Bits
/- The machine's operations on words of 64 bits, as plain numbers. -/
namespace Go.Bits
open Go Go.AM
set_option linter.unusedVariables false
set_option linter.unusedSimpArgs false
theorem wrapU {n : Int} (h1 : 0 ≤ n) (h2 : n < 18446744073709551616) : IntKind.u64.wrap n = n := by
  simp only [IntKind.wrap, IntKind.bits, IntKind.signed]
  simp
  omega
theorem wrapN {n : Nat} (h : n < 2 ^ 64) : IntKind.u64.wrap (n : Int) = n := wrapU (by omega) (by omega)
theorem ofInt_nat {a : Nat} (h : a < 2 ^ 64) : (BitVec.ofInt 64 (a : Int)).toNat = a := by
  rw [BitVec.ofInt_natCast, BitVec.toNat_ofNat, Nat.mod_eq_of_lt h]
theorem bAnd_nat {a b : Nat} (ha : a < 2 ^ 64) (hb : b < 2 ^ 64) : bAnd .u64 (a : Int) (b : Int) = ((a &&& b : Nat) : Int) := by
  show IntKind.u64.wrap ((BitVec.ofInt 64 (a : Int) &&& BitVec.ofInt 64 (b : Int)).toNat : Int) = _
  rw [BitVec.toNat_and, ofInt_nat ha, ofInt_nat hb, wrapN (Nat.and_lt_two_pow _ hb)]
theorem bOr_nat {a b : Nat} (ha : a < 2 ^ 64) (hb : b < 2 ^ 64) : bOr .u64 (a : Int) (b : Int) = ((a ||| b : Nat) : Int) := by
  show IntKind.u64.wrap ((BitVec.ofInt 64 (a : Int) ||| BitVec.ofInt 64 (b : Int)).toNat : Int) = _
  rw [BitVec.toNat_or, ofInt_nat ha, ofInt_nat hb, wrapN (Nat.or_lt_two_pow ha hb)]
theorem bAndNot_nat {a b : Nat} (ha : a < 2 ^ 64) (hb : b < 2 ^ 64) : bAndNot .u64 (a : Int) (b : Int) = ((a &&& (2 ^ 64 - 1 - b) : Nat) : Int) := by
  show IntKind.u64.wrap ((BitVec.ofInt 64 (a : Int) &&& ~~~BitVec.ofInt 64 (b : Int)).toNat : Int) = _
  rw [BitVec.toNat_and, BitVec.toNat_not, ofInt_nat ha, ofInt_nat hb, wrapN (Nat.and_lt_two_pow _ (by omega))]
theorem bAnd_nat63 {a b : Nat} (ha : a < 2 ^ 63) (hb : b < 2 ^ 63) : bAnd .i64 (a : Int) (b : Int) = ((a &&& b : Nat) : Int) := by
  show IntKind.i64.wrap ((BitVec.ofInt 64 (a : Int) &&& BitVec.ofInt 64 (b : Int)).toNat : Int) = _
  rw [BitVec.toNat_and, ofInt_nat (by omega), ofInt_nat (by omega), wrap64 (by omega) (by have := Nat.and_lt_two_pow (n := 63) a hb; omega)]
theorem shl_nat {j : Nat} (h : j < 64) : IntKind.u64.wrap ((1 : Int) * 2 ^ min j 64) = ((2 ^ j : Nat) : Int) := by
  rw [Nat.min_eq_left (by omega), Int.one_mul]
  have : (2 : Nat) ^ j < 2 ^ 64 := Nat.pow_lt_pow_right (by omega) h
  rw [← wrapN this]
  norm_cast
theorem shr_nat {a j : Nat} (h : j < 64) : Int.fdiv (a : Int) (2 ^ min j 64) = ((a / 2 ^ j : Nat) : Int) := by
  rw [Nat.min_eq_left (by omega)]
  rw [Int.fdiv_eq_ediv_of_nonneg _ (by have : (0 : Int) < 2 ^ j := Int.pow_pos (by omega); omega)]
  norm_cast
/-- A set's words, as they lie in memory. -/
def encW (w : Nat) : List AV := [.int .u64 (w : Int)]
def encWs (bs : List Bool) : List (List AV) := (wordsOf bs).map encW
theorem encWs_len (bs : List Bool) : (encWs bs).length = nw bs.length := by simp [encWs, wordsOf_len]
theorem encWs_get (bs : List Bool) {k : Nat} (h : k < nw bs.length) : (encWs bs)[k]? = some [.int .u64 (wordAt bs k : Int)] := by
  simp [encWs, wordsOf_get bs h, encW, wordAt]
theorem encWs_set (bs bs' : List Bool) (k w : Nat) (h : (wordsOf bs).set k w = wordsOf bs') : (encWs bs).set k [.int .u64 (w : Int)] = encWs bs' := by
  unfold encWs
  rw [← h, List.map_set]
  rfl
/-- A set of the caller's own. -/
def setBox (n m : Nat) : Ob := .box [.int .i64 (n : Int), .hs 1 0 0 m]
def setObs (bs : List Bool) : List Ob := [.box [.int .i64 (bs.length : Int), .hs 1 0 0 (nw bs.length)], .arr 0 1 (encWs bs)]
/-- A set that no one writes. -/
def setP (bs : List Bool) : AV := .rp [.int .i64 (bs.length : Int), .sl (encWs bs)]
end Go.Bits
namespace Go.Proofs.YtmecfeocmlbjfaaDoor.X
open Go Go.AM Go.Proofs
/-- dyehouse/dyehouselaw07.BitsWalks -/
def A3 : ACode :=
  (.seq
   /- R0 -/ (.ops [.it (.one (.boxp 5 (.r 2))),
      .it (.one (.mov 6 (.c (.bool false))))])
   (.seq
    (.seq
     /- R1 -/ (.ops [.it (.one (.mov 14 (.r 0))),
      .it (.one (.bin 15 .gtr (.r 14) (.c (.int .i64 (300))))),
      .it (.one (.mov 16 (.r 15))),
      .it (.grp 16 false [.mov 17 (.r 1), .len 18 (.r 17), .bin 19 .gtr (.r 18) (.c (.int .i64 (40)))]),
      .it (.one (.pick 20 (.r 16) (.c (.bool true)) (.r 19)))])
     (.cond (.r 20)
      (.seq
       /- R2 -/ (.ops [.it (.one (.callf (some 21) (.st 5) [])),
      .it (.one (.mov 6 (.r 21)))]) .ret) .skip))
    (.seq
     /- R3 -/ (.post (.post (.ops [.it (.one (.mov 22 (.r 0))),
      .it (.one (.mov 23 (.r 1))),
      .it (.one (.callo (some 24) (.st 6) [(.r 22), (.r 23)] [] [60, 61])),
      .it (.one (.mov 7 (.r 24)))]) (.frz 61)) (.frz 60))
     (.seq
      /- R4 -/ (.ops [.it (.one (.alloca 8 8 1008 1))])
      (.seq
       /- R5 -/ (.ops [.it (.one (.mov 25 (.r 7))),
      .it (.one (.callf (some 26) (.st 7) [(.r 25)])),
      .it (.one (.mov 9 (.r 26)))])
       (.seq
        (.seq
         /- R6 -/ (.ops [.it (.one (.mov 27 (.r 9))),
      .it (.one (.eq 28 false .nilf (.r 27) (.c (.nilf))))])
         (.cond (.r 28)
          (.seq
           /- R7 -/ (.ops [.it (.one (.mov 6 (.c (.bool false))))]) .ret) .skip))
        (.seq
         (.seq
          /- R8 -/ (.ops [.it (.one (.mov 29 (.r 9)))])
          (.block 0
           (.rfunc [] [8, 1008] (.r 29) [30]
            /- R9 -/ (.ops [.it (.one (.mov 10 (.r 30)))])
            (.post
             (.block 1
              (.seq
               /- R10 -/ (.ops [.it (.one (.load 31 (.r 8) 1 false)),
      .it (.one (.mov 32 (.r 10))),
      .it (.one (.bslp 33 1 [(.r 32)])),
      .it (.one (.appd 34 (.r 31) (.r 33) 1 8)),
      .it (.one (.store (.r 8) (.r 34) 1))])
               (.seq
                /- R11 -/ (.ops [.it (.one (.load 35 (.r 8) 1 false)),
      .it (.one (.len 36 (.r 35))),
      .it (.one (.load 37 (.r 5) 1 false)),
      .it (.one (.bin 38 .geq (.r 36) (.r 37)))])
                (.cond (.r 38) (.exit 0) .skip)))) (.mv [] [(8, 8), (1008, 1008)])))))
         (.seq
          /- R12 -/ (.post (.ops [.it (.one (.mov 39 (.r 7))),
      .it (.one (.callo (some 40) (.st 8) [(.r 39)] [] [70])),
      .it (.one (.mov 11 (.r 40)))]) (.frz 70))
          (.seq
           (.seq
            /- R13 -/ (.ops [.it (.one (.load 41 (.r 5) 1 false)),
      .it (.one (.mxn 42 true (.r 41) (.c (.int .i64 (1))))),
      .it (.one (.mov 12 (.r 42)))])
            (.seq
             /- R14 -/ (.ops [.it (.one (.mov 43 (.r 12))),
      .it (.one (.mov 44 (.r 11))),
      .it (.one (.len 45 (.r 44))),
      .it (.one (.bin 46 .lss (.r 43) (.r 45)))])
             (.cond (.r 46)
              /- R15 -/ (.ops [.it (.one (.mov 47 (.r 11))),
      .it (.one (.mov 48 (.r 12))),
      .it (.one (.slc 49 (.r 47) none (some (.r 48)) 1)),
      .it (.one (.mov 11 (.r 49)))]) .skip)))
           (.seq
            (.seq
             /- R16 -/ (.ops [.it (.one (.mov 13 (.c (.int .i64 (1)))))])
             (.block 2
              (.loop (.pre (.mv [8, 11, 13] [(8, 8), (70, 70), (1008, 1008)])
               (.seq
                (.seq
                 /- R17 -/ (.ops [.it (.one (.mov 50 (.r 13))),
      .it (.one (.load 51 (.r 8) 1 false)),
      .it (.one (.len 52 (.r 51))),
      .it (.one (.bin 53 .lss (.r 50) (.r 52)))])
                 (.cond (.r 53) .skip (.exit 2)))
                (.seq
                 (.block 3
                  (.seq
                   /- R19 -/ (.draw [[], [], [1], [0, 1, 2], [0, 1, 2, 3], [], [], [5, 6], [5, 6, 7], [0, 1, 2, 3, 4, 5, 6, 7, 8]] [.one (.load 56 (.r 8) 1 false),
      .one (.mov 57 (.r 13)),
      .one (.bin 58 .sub (.r 57) (.c (.int .i64 (1)))),
      .one (.idx 59 (.r 56) (.r 58) 1),
      .one (.load 60 (.r 59) 1 false),
      .one (.load 61 (.r 8) 1 false),
      .one (.mov 62 (.r 13)),
      .one (.idx 63 (.r 61) (.r 62) 1),
      .one (.load 64 (.r 63) 1 false),
      .one (.bin 65 .geq (.r 60) (.r 64))])
                   (.cond (.r 65)
                    (.seq
                     /- R20 -/ (.ops [.it (.one (.mov 6 (.c (.bool false))))]) .ret) .skip)))
                 /- R18 -/ (.ops [.it (.one (.mov 54 (.r 13))),
      .it (.one (.bin 55 .add (.r 54) (.c (.int .i64 (1))))),
      .it (.one (.mov 13 (.r 55)))])))))))
            (.seq
             /- R21 -/ (.ops [.it (.one (.load 66 (.r 8) 1 false)),
      .it (.one (.mov 67 (.r 11))),
      .it (.one (.callb (some 68) (.st 9) [(.r 66), (.r 67)])),
      .it (.one (.mov 69 (.r 68))),
      .it (.grp 69 true [.callf (some 70) (.st 5) []]),
      .it (.one (.pick 71 (.r 69) (.r 70) (.c (.bool false)))),
      .it (.one (.mov 6 (.r 71)))]) .ret)))))))))))
theorem A3_ok : okFunK Tryd.prog 3 72 0 [8, 1008] A3 [.tmp 6] [] = true := by kernel_rfl
/-- dyehouse/dyehouselaw07.BitsDoes -/
def A4 : ACode :=
  (.seq
   /- R0 -/ (.ops [.it (.one (.mov 4 (.c (.bool false))))])
   (.seq
    (.seq
     /- R1 -/ (.ops [.it (.one (.mov 11 (.r 0))),
      .it (.one (.mov 12 (.r 1))),
      .it (.one (.callf (some 13) (.st 10) [(.r 11), (.r 12)])),
      .it (.one (.un 14 .not (.r 13)))])
     (.cond (.r 14)
      (.seq
       /- R2 -/ (.ops [.it (.one (.callf (some 15) (.st 5) [])),
      .it (.one (.mov 4 (.r 15)))]) .ret) .skip))
    (.seq
     /- R3 -/ (.post (.ops [.it (.one (.mov 16 (.r 0))),
      .it (.one (.callo (some 17) (.st 11) [(.r 16)] [] [60, 61])),
      .it (.one (.mov 18 (.r 0))),
      .it (.one (.callo (some 19) (.st 12) [(.r 18)] [] [70])),
      .it (.one (.allocm 6 6 [.sl []])),
      .it (.one (.mov 5 (.r 17))),
      .it (.one (.store (.r 6) (.r 19) 1))]) (.frz 70))
     (.seq
      (.seq
       /- R4 -/ (.ops [.it (.one (.mov 20 (.r 5))),
      .it (.one (.eq 21 false .nil (.r 20) (.c (.nilp))))])
       (.cond (.r 21)
        (.seq
         /- R5 -/ (.ops [.it (.one (.mov 4 (.c (.bool false))))]) .ret) .skip))
      (.seq
       (.seq
        /- R6 -/ (.ops [.it (.one (.mov 7 (.c (.int .i64 (0)))))])
        (.block 0
         (.loop (.pre (.mv [1, 5, 6, 7] [(6, 6), (60, 60), (61, 61)])
          (.seq
           (.seq
            /- R7 -/ (.ops [.it (.one (.mov 22 (.r 7))),
      .it (.one (.mov 23 (.r 1))),
      .it (.one (.len 24 (.r 23))),
      .it (.one (.bin 25 .lss (.r 22) (.r 24)))])
            (.cond (.r 25) .skip (.exit 0)))
           (.seq
            (.block 1
             (.seq
              /- R9 -/ (.post (.draw [[], [], [], [], [2, 3], [2, 3, 4], [0, 1, 2, 3, 4, 5], [0, 1, 2, 3, 4, 5, 6], [0, 1, 2, 3, 4, 5, 6, 7], [0, 1, 2, 3, 4, 5, 6, 7], [], [0, 1, 2, 3, 4, 5, 6, 7, 8, 10], [0, 1, 2, 3, 4, 5, 6, 7, 8, 9, 10, 11]] [.one (.mov 29 (.r 5)),
      .one (.load 30 (.r 6) 1 true),
      .one (.mov 31 (.r 1)),
      .one (.mov 32 (.r 7)),
      .one (.idx 33 (.r 31) (.r 32) 3),
      .one (.load 34 (.r 33) 3 true),
      .one (.callo (some 35) (.st 13) [(.r 29), (.r 30), (.r 34)] [60, 61] []),
      .one (.mov 28 (.r 35)),
      .one (.ext 36 (.r 28) 0),
      .one (.ext 37 (.r 28) 1),
      .one (.alloc 8 8 [.sl []]),
      .one (.store (.r 8) (.r 36) 1),
      .one (.mov 9 (.r 37))]) (.frz 8))
              (.seq
               /- R10 -/ (.ops [.it (.one (.load 38 (.r 8) 1 true)),
      .it (.one (.store (.r 6) (.r 38) 1))])
               (.seq
                /- R11 -/ (.ops [.it (.one (.load 39 (.r 6) 1 true)),
      .it (.one (.callf (some 40) (.st 14) [(.r 39)])),
      .it (.one (.mov 10 (.r 40)))])
                (.seq
                 /- R12 -/ (.draw [[], [0], [0, 1], [0, 1, 2], [0, 1, 2, 3], [0, 1, 2], [0, 1, 2, 3, 4, 5], [0, 1, 2, 3, 4, 5, 6], [0, 1, 2, 3, 4, 5, 6, 7], [0, 1, 2, 3, 4, 5, 6, 7, 8], [0, 1, 2, 3, 4, 5, 6, 7, 8, 9], [0, 1, 2, 3, 4, 5, 6, 7, 8, 9, 10], [0, 1, 2, 3, 4, 5, 6, 7, 8, 9], [0, 1, 2, 3, 4, 5, 6, 7, 8, 9, 12], [0, 1, 2, 3, 4, 5, 6, 7, 8, 9, 10, 11, 12, 13], [0, 1, 2, 3, 4, 5, 6, 7, 8, 9, 10, 11, 12, 13, 14], [0, 1, 2, 3, 4, 5, 6, 7, 8, 9, 10, 11, 12, 13, 14, 15], [0, 1, 2, 3, 4, 5, 6, 7, 8, 9, 10, 11, 12, 13, 14, 15, 16], [0, 1, 2, 3, 4, 5, 6, 7, 8, 9, 10, 11, 12, 13, 14, 15, 16], [0, 1, 2, 3, 4, 5, 6, 7, 8, 9, 10, 11, 12, 13, 14, 15, 16], [0, 1, 2, 3, 4, 5, 6, 7, 8, 9, 10, 11, 12, 13, 14, 15, 16, 18, 19], [0, 1, 2, 3, 4, 5, 6, 7, 8, 9, 10, 11, 12, 13, 14, 15, 16, 18, 19, 20], [0, 1, 2, 3, 4, 5, 6, 7, 8, 9, 10, 11, 12, 13, 14, 15, 16, 18, 19, 20, 21], [0, 1, 2, 3, 4, 5, 6, 7, 8, 9, 10, 11, 12, 13, 14, 15, 16, 17, 18, 19, 20, 21, 22], [0, 1, 2, 3, 4, 5, 6, 7, 8, 9, 10, 11, 12, 13, 14, 15, 16], [0, 1, 2, 3, 4, 5, 6, 7, 8, 9, 10, 11, 12, 13, 14, 15, 16], [0, 1, 2, 3, 4, 5, 6, 7, 8, 9, 10, 11, 12, 13, 14, 15, 16], [0, 1, 2, 3, 4, 5, 6, 7, 8, 9, 10, 11, 12, 13, 14, 15, 16, 25, 26], [0, 1, 2, 3, 4, 5, 6, 7, 8, 9, 10, 11, 12, 13, 14, 15, 16, 25, 26, 27], [0, 1, 2, 3, 4, 5, 6, 7, 8, 9, 10, 11, 12, 13, 14, 15, 16, 25, 26, 27, 28], [0, 1, 2, 3, 4, 5, 6, 7, 8, 9, 10, 11, 12, 13, 14, 15, 16, 17, 18, 19, 20, 21, 22, 23, 24, 25, 26, 27, 28, 29], [0, 1, 2, 3, 4, 5, 6, 7, 8, 9, 10, 11, 12, 13, 14, 15, 16, 17, 18, 19, 20, 21, 22, 23, 24, 25, 26, 27, 28, 29, 30], [0, 1, 2, 3, 4, 5, 6, 7, 8, 9, 10, 11, 12, 13, 14, 15, 16, 17, 18, 19, 20, 21, 22, 23, 24, 25, 26, 27, 28, 29, 30, 31], [0, 1, 2, 3, 4, 5, 6, 7, 8, 9, 10, 11, 12, 13, 14, 15, 16, 17, 18, 19, 20, 21, 22, 23, 24, 25, 26, 27, 28, 29, 30, 31, 32], [0, 1, 2, 3, 4, 5, 6, 7, 8, 9, 10, 11, 12, 13, 14, 15, 16, 17, 18, 19, 20, 21, 22, 23, 24, 25, 26, 27, 28, 29, 30, 31, 32, 33], [0, 1, 2, 3, 4, 5, 6, 7, 8, 9, 10, 11, 12, 13, 14, 15, 16, 17, 18, 19, 20, 21, 22, 23, 24, 25, 26, 27, 28, 29, 30, 31, 32, 33, 34], [0, 1, 2, 3, 4, 5, 6, 7, 8, 9, 10, 11, 12, 13, 14, 15, 16, 17, 18, 19, 20, 21, 22, 23, 24, 25, 26, 27, 28, 29, 30, 31, 32, 33], [0, 1, 2, 3, 4, 5, 6, 7, 8, 9, 10, 11, 12, 13, 14, 15, 16, 17, 18, 19, 20, 21, 22, 23, 24, 25, 26, 27, 28, 29, 30, 31, 32, 33, 36], [0, 1, 2, 3, 4, 5, 6, 7, 8, 9, 10, 11, 12, 13, 14, 15, 16, 17, 18, 19, 20, 21, 22, 23, 24, 25, 26, 27, 28, 29, 30, 31, 32, 33, 36, 37], [0, 1, 2, 3, 4, 5, 6, 7, 8, 9, 10, 11, 12, 13, 14, 15, 16, 17, 18, 19, 20, 21, 22, 23, 24, 25, 26, 27, 28, 29, 30, 31, 32, 33, 34, 35, 36, 37, 38], [0, 1, 2, 3, 4, 5, 6, 7, 8, 9, 10, 11, 12, 13, 14, 15, 16, 17, 18, 19, 20, 21, 22, 23, 24, 25, 26, 27, 28, 29, 30, 31, 32, 33, 34, 35, 36, 37, 38, 39]] [.one (.mov 41 (.r 9)),
      .one (.un 42 .not (.r 41)),
      .one (.mov 43 (.r 42)),
      .grp 43 false [.mov 44 (.r 5), .callx (some 45) (.st 8) [(.r 44)] [] [80], .mov 46 (.r 10), .callb (some 47) (.st 9) [(.r 45), (.r 46)], .un 48 .not (.r 47)],
      .one (.pick 49 (.r 43) (.c (.bool true)) (.r 48)),
      .one (.mov 50 (.r 49)),
      .grp 50 false [.mov 51 (.r 5), .callb (some 52) (.st 15) [(.r 51)], .mov 53 (.r 10), .len 54 (.r 53), .bin 55 .neq (.r 52) (.r 54)],
      .one (.pick 56 (.r 50) (.c (.bool true)) (.r 55)),
      .one (.mov 57 (.r 56)),
      .grp 57 false [.mov 58 (.r 5), .mov 59 (.r 1), .mov 60 (.r 7), .idx 61 (.r 59) (.r 60) 3, .fad 62 (.r 61) 1, .load 63 (.r 62) 1 false, .callb (some 64) (.st 16) [(.r 58), (.r 63)], .load 65 (.r 6) 1 true, .mov 66 (.r 1), .mov 67 (.r 7), .idx 68 (.r 66) (.r 67) 3, .fad 69 (.r 68) 1, .load 70 (.r 69) 1 false, .callf (some 71) (.st 17) [(.r 65), (.r 70)], .eq 72 true .bool (.r 64) (.r 71)],
      .one (.pick 73 (.r 57) (.c (.bool true)) (.r 72)),
      .one (.mov 74 (.r 73)),
      .grp 74 false [.mov 75 (.r 5), .callb (some 76) (.st 18) [(.r 75)], .fad 77 (.r 6) 0, .load 78 (.r 77) 1 false, .len 79 (.r 78), .bin 80 .neq (.r 76) (.r 79)],
      .one (.pick 81 (.r 74) (.c (.bool true)) (.r 80))])
                 (.cond (.r 81)
                  (.seq
                   /- R13 -/ (.ops [.it (.one (.mov 4 (.c (.bool false))))]) .ret) .skip))))))
            /- R8 -/ (.ops [.it (.one (.mov 26 (.r 7))),
      .it (.one (.bin 27 .add (.r 26) (.c (.int .i64 (1))))),
      .it (.one (.mov 7 (.r 27)))])))))))
       (.seq
        /- R14 -/ (.ops [.it (.one (.callf (some 82) (.st 5) [])),
      .it (.one (.mov 4 (.r 82)))]) .ret))))))
theorem A4_ok : okFun Tryd.prog 4 83 0 A4 [.tmp 4] [] = true := by kernel_rfl
/-- dyehouse/dyehouselaw07.works -/
def A5 : ACode :=
  (.seq
   /- R0 -/ (.ops [.it (.one (.mov 0 (.c (.bool false))))])
   (.seq
    /- R1 -/ (.ops [.it (.one (.bslp 4 1 [(.c (.int .i64 (3))), (.c (.int .i64 (69))), (.c (.int .i64 (3))), (.c (.int .i64 (70)))])),
      .it (.one (.callo (some 5) (.st 6) [(.c (.int .i64 (70))), (.r 4)] [] [60, 61])),
      .it (.one (.mov 1 (.r 5)))])
    (.seq
     (.seq
      /- R2 -/ (.ops [.it (.one (.mov 6 (.r 1))),
      .it (.one (.eq 7 false .nil (.r 6) (.c (.nilp))))])
      (.cond (.r 7)
       (.seq
        /- R3 -/ (.ops [.it (.one (.mov 0 (.c (.bool false))))]) .ret) .skip))
     (.seq
      /- R4 -/ (.ops [.it (.one (.alloc 2 2 [.int .i64 0])),
      .it (.one (.store (.r 2) (.c (.int .i64 (0))) 1))])
      (.seq
       /- R5 -/ (.ops [.it (.one (.mov 8 (.r 1))),
      .it (.one (.callo (some 9) (.st 7) [(.r 8)] [60, 61] [])),
      .it (.one (.mov 3 (.r 9)))])
       (.seq
        (.seq
         /- R6 -/ (.ops [.it (.one (.mov 10 (.r 3))),
      .it (.one (.eq 11 false .nilf (.r 10) (.c (.nilf))))])
         (.cond (.r 11)
          (.seq
           /- R7 -/ (.ops [.it (.one (.mov 0 (.c (.bool false))))]) .ret) .skip))
        (.seq
         (.seq
          /- R8 -/ (.ops [.it (.one (.mov 12 (.r 3)))])
          (.block 0
           (.rfunc [60, 61] [2, 60, 61] (.r 12) [13] .skip
            (.post
             (.block 1
              /- R9 -/ (.ops [.it (.one (.load 14 (.r 2) 1 false)),
      .it (.one (.bin 15 .add (.r 14) (.c (.int .i64 (1))))),
      .it (.one (.store (.r 2) (.r 15) 1))])) (.mv [] [(2, 2), (60, 60), (61, 61)])))))
         (.seq
          /- R10 -/ (.ops [.it (.one (.load 16 (.r 2) 1 false)),
      .it (.one (.bin 17 .eql (.r 16) (.c (.int .i64 (2))))),
      .it (.one (.mov 18 (.r 17))),
      .it (.grp 18 true [.mov 19 (.r 1), .callb (some 20) (.st 16) [(.r 19), (.c (.int .i64 (69)))]]),
      .it (.one (.pick 21 (.r 18) (.r 20) (.c (.bool false)))),
      .it (.one (.mov 22 (.r 21))),
      .it (.grp 22 true [.mov 23 (.r 1), .callb (some 24) (.st 16) [(.r 23), (.c (.int .i64 (70)))], .un 25 .not (.r 24)]),
      .it (.one (.pick 26 (.r 22) (.r 25) (.c (.bool false)))),
      .it (.one (.mov 27 (.r 26))),
      .it (.grp 27 true [.mov 28 (.r 1), .callb (some 29) (.st 15) [(.r 28)], .bin 30 .eql (.r 29) (.c (.int .i64 (2)))]),
      .it (.one (.pick 31 (.r 27) (.r 30) (.c (.bool false)))),
      .it (.one (.mov 32 (.r 31))),
      .it (.grp 32 true [.mov 33 (.r 1), .callb (some 34) (.st 18) [(.r 33)], .bin 35 .eql (.r 34) (.c (.int .i64 (70)))]),
      .it (.one (.pick 36 (.r 32) (.r 35) (.c (.bool false)))),
      .it (.one (.mov 37 (.r 36))),
      .it (.grp 37 true [.mov 38 (.r 1), .bslp 39 1 [(.c (.int .i64 (69))), (.c (.int .i64 (3)))], .callo (some 40) (.st 6) [(.c (.int .i64 (100))), (.r 39)] [] [62, 63], .callb (some 41) (.st 19) [(.r 38), (.r 40)]]),
      .it (.one (.pick 42 (.r 37) (.r 41) (.c (.bool false)))),
      .it (.one (.mov 43 (.r 42))),
      .it (.grp 43 true [.callo (some 44) (.st 20) [(.c (.int .i64 (65)))] [] [64, 65], .callb (some 45) (.st 15) [(.r 44)], .bin 46 .eql (.r 45) (.c (.int .i64 (65)))]),
      .it (.one (.pick 47 (.r 43) (.r 46) (.c (.bool false)))),
      .it (.one (.mov 48 (.r 47))),
      .it (.grp 48 true [.mov 49 (.r 1), .bslp 50 1 [(.c (.int .i64 (4)))], .callo (some 51) (.st 6) [(.c (.int .i64 (70))), (.r 50)] [] [66, 67], .callx (some 52) (.st 21) [(.r 49), (.r 51)] [60, 61] []]),
      .it (.one (.pick 53 (.r 48) (.r 52) (.c (.bool false)))),
      .it (.one (.mov 54 (.r 53))),
      .it (.grp 54 true [.mov 55 (.r 1), .bslp 56 1 [(.c (.int .i64 (4)))], .callo (some 57) (.st 6) [(.c (.int .i64 (70))), (.r 56)] [] [68, 69], .callx (some 58) (.st 21) [(.r 55), (.r 57)] [60, 61] [], .un 59 .not (.r 58)]),
      .it (.one (.pick 60 (.r 54) (.r 59) (.c (.bool false)))),
      .it (.one (.mov 0 (.r 60)))]) .ret))))))))
theorem A5_ok : okFunK Tryd.prog 5 61 0 [2, 60, 61] A5 [.tmp 0] [] = true := by kernel_rfl
/-- dyehouse/bits.Of -/
def A6 : ACode :=
  (.seq
   /- R0 -/ (.ops [.it (.one (.mov 4 (.c (.nilp))))])
   (.seq
    /- R1 -/ (.ops [.it (.one (.mov 8 (.r 0))),
      .it (.one (.callo (some 9) (.st 11) [(.r 8)] [] [60, 61])),
      .it (.one (.mov 5 (.r 9)))])
    (.seq
     (.seq
      /- R2 -/ (.ops [.it (.one (.mov 10 (.r 1))),
      .it (.one (.len 11 (.r 10))),
      .it (.one (.mov 12 (.c (.int .i64 (0)))))])
      (.block 0
       (.loop (.pre (.mv [5, 10, 11, 12] [(60, 60), (61, 61)])
        (.seq
         /- R3 -/ (.ops [.it (.one (.bin 13 .lss (.r 12) (.r 11)))])
         (.seq
          (.cond (.r 13) .skip (.exit 0))
          (.seq
           (.block 1
            (.seq
             /- R4 -/ (.ops [.it (.one (.idx 14 (.r 10) (.r 12) 1)),
      .it (.one (.load 15 (.r 14) 1 false)),
      .it (.one (.mov 7 (.r 15)))])
             /- R5 -/ (.ops [.it (.one (.mov 16 (.r 5))),
      .it (.one (.mov 17 (.r 7))),
      .it (.one (.callo (some 18) (.st 22) [(.r 16), (.r 17)] [60, 61] []))])))
           /- R6 -/ (.ops [.it (.one (.bin 19 .add (.r 12) (.c (.int .i64 (1))))),
      .it (.one (.mov 12 (.r 19)))]))))))))
     (.seq
      /- R7 -/ (.ops [.it (.one (.mov 20 (.r 5))),
      .it (.one (.mov 4 (.r 20)))]) .ret))))
theorem A6_ok : okFun Tryd.prog 6 21 0 A6 [.tmp 4] [60, 61] = true := by kernel_rfl
/-- (*dyehouse/bits.Set).All -/
def A7 : ACode :=
  (.seq
   /- R0 -/ (.ops [.it (.one (.mov 2 (.c (.nilf))))])
   (.seq
    (.seq
     /- R1 -/ (.ops [.it (.one (.mov 3 (.r 0))),
      .it (.one (.eq 4 false .nil (.r 3) (.c (.nilp))))])
     (.cond (.r 4)
      (.seq
       /- R2 -/ (.ops [.it (.one (.callf (some 5) (.st 23) [(.c (.sl []))])),
      .it (.one (.mov 2 (.r 5)))]) .ret) .skip))
    (.seq
     /- R3 -/ (.ops [.it (.one (.mov 6 (.r 0))),
      .it (.one (.mkmv 7 24 [(.r 6)])),
      .it (.one (.mov 2 (.r 7)))]) .ret)))
theorem A7_ok : okFun Tryd.prog 7 8 0 A7 [.tmp 2] [] = true := by kernel_rfl
/-- (*dyehouse/bits.Set).List -/
def A8 : ACode :=
  (.seq
   /- R0 -/ (.ops [.it (.one (.mov 2 (.c (.sl []))))])
   (.seq
    /- R1 -/ (.ops [.it (.one (.mov 3 (.r 0))),
      .it (.one (.callf (some 4) (.st 7) [(.r 3)])),
      .it (.one (.callo (some 5) (.st 25) [(.r 4)] [] [60])),
      .it (.one (.mov 2 (.r 5)))]) .ret))
theorem A8_ok : okFun Tryd.prog 8 6 0 A8 [.tmp 2] [60] = true := by kernel_rfl
/-- dyehouse/dyehouseref07.Same -/
def A9 : ACode :=
  (.seq
   /- R0 -/ (.ops [.it (.one (.mov 4 (.c (.bool false))))])
   (.seq
    (.seq
     /- R1 -/ (.ops [.it (.one (.mov 6 (.r 0))),
      .it (.one (.len 7 (.r 6))),
      .it (.one (.mov 8 (.r 1))),
      .it (.one (.len 9 (.r 8))),
      .it (.one (.bin 10 .neq (.r 7) (.r 9)))])
     (.cond (.r 10)
      (.seq
       /- R2 -/ (.ops [.it (.one (.mov 4 (.c (.bool false))))]) .ret) .skip))
    (.seq
     (.seq
      /- R3 -/ (.ops [.it (.one (.mov 5 (.c (.int .i64 (0)))))])
      (.block 0
       (.loop (.pre (.mv [0, 1, 5] [])
        (.seq
         (.seq
          /- R4 -/ (.ops [.it (.one (.mov 11 (.r 5))),
      .it (.one (.mov 12 (.r 0))),
      .it (.one (.len 13 (.r 12))),
      .it (.one (.bin 14 .lss (.r 11) (.r 13)))])
          (.cond (.r 14) .skip (.exit 0)))
         (.seq
          (.block 1
           (.seq
            /- R6 -/ (.draw [[], [], [0, 1], [0, 1, 2], [], [], [4, 5], [4, 5, 6], [0, 1, 2, 3, 4, 5, 6, 7]] [.one (.mov 17 (.r 0)),
      .one (.mov 18 (.r 5)),
      .one (.idx 19 (.r 17) (.r 18) 1),
      .one (.load 20 (.r 19) 1 false),
      .one (.mov 21 (.r 1)),
      .one (.mov 22 (.r 5)),
      .one (.idx 23 (.r 21) (.r 22) 1),
      .one (.load 24 (.r 23) 1 false),
      .one (.bin 25 .neq (.r 20) (.r 24))])
            (.cond (.r 25)
             (.seq
              /- R7 -/ (.ops [.it (.one (.mov 4 (.c (.bool false))))]) .ret) .skip)))
          /- R5 -/ (.ops [.it (.one (.mov 15 (.r 5))),
      .it (.one (.bin 16 .add (.r 15) (.c (.int .i64 (1))))),
      .it (.one (.mov 5 (.r 16)))])))))))
     (.seq
      /- R8 -/ (.ops [.it (.one (.mov 4 (.c (.bool true))))]) .ret))))
theorem A9_ok : okFun Tryd.prog 9 26 0 A9 [.tmp 4] [] = true := by kernel_rfl
/-- dyehouse/dyehouselaw07.few -/
def A10 : ACode :=
  (.seq
   /- R0 -/ (.ops [.it (.one (.mov 4 (.c (.bool false))))])
   (.seq
    (.seq
     /- R1 -/ (.ops [.it (.one (.mov 6 (.r 0))),
      .it (.one (.bin 7 .gtr (.r 6) (.c (.int .i64 (300))))),
      .it (.one (.mov 8 (.r 7))),
      .it (.grp 8 false [.mov 9 (.r 1), .len 10 (.r 9), .bin 11 .gtr (.r 10) (.c (.int .i64 (40)))]),
      .it (.one (.pick 12 (.r 8) (.c (.bool true)) (.r 11)))])
     (.cond (.r 12)
      (.seq
       /- R2 -/ (.ops [.it (.one (.mov 4 (.c (.bool false))))]) .ret) .skip))
    (.seq
     (.seq
      /- R3 -/ (.ops [.it (.one (.mov 5 (.c (.int .i64 (0)))))])
      (.block 0
       (.loop (.pre (.mv [1, 5] [])
        (.seq
         (.seq
          /- R4 -/ (.ops [.it (.one (.mov 13 (.r 5))),
      .it (.one (.mov 14 (.r 1))),
      .it (.one (.len 15 (.r 14))),
      .it (.one (.bin 16 .lss (.r 13) (.r 15)))])
          (.cond (.r 16) .skip (.exit 0)))
         (.seq
          (.block 1
           (.seq
            /- R6 -/ (.ops [.it (.one (.mov 19 (.r 1))),
      .it (.one (.mov 20 (.r 5))),
      .it (.one (.idx 21 (.r 19) (.r 20) 3)),
      .it (.one (.fad 22 (.r 21) 0)),
      .it (.one (.load 23 (.r 22) 1 false)),
      .it (.one (.bin 24 .gtr (.r 23) (.c (.int .u8 (1))))),
      .it (.one (.mov 25 (.r 24))),
      .it (.grp 25 true [.mov 26 (.r 1), .mov 27 (.r 5), .idx 28 (.r 26) (.r 27) 3, .fad 29 (.r 28) 1, .load 30 (.r 29) 1 false, .bin 31 .gtr (.r 30) (.c (.int .i64 (300)))]),
      .it (.one (.pick 32 (.r 25) (.r 31) (.c (.bool false)))),
      .it (.one (.mov 33 (.r 32))),
      .it (.grp 33 false [.mov 34 (.r 1), .mov 35 (.r 5), .idx 36 (.r 34) (.r 35) 3, .fad 37 (.r 36) 2, .load 38 (.r 37) 1 false, .len 39 (.r 38), .bin 40 .gtr (.r 39) (.c (.int .i64 (40)))]),
      .it (.one (.pick 41 (.r 33) (.c (.bool true)) (.r 40)))])
            (.cond (.r 41)
             (.seq
              /- R7 -/ (.ops [.it (.one (.mov 4 (.c (.bool false))))]) .ret) .skip)))
          /- R5 -/ (.ops [.it (.one (.mov 17 (.r 5))),
      .it (.one (.bin 18 .add (.r 17) (.c (.int .i64 (1))))),
      .it (.one (.mov 5 (.r 18)))])))))))
     (.seq
      /- R8 -/ (.ops [.it (.one (.mov 4 (.c (.bool true))))]) .ret))))
theorem A10_ok : okFun Tryd.prog 10 42 0 A10 [.tmp 4] [] = true := by kernel_rfl
/-- dyehouse/bits.New -/
def A11 : ACode :=
  (.seq
   /- R0 -/ (.ops [.it (.one (.mov 2 (.c (.nilp))))])
   (.seq
    /- R1 -/ (.ops [.it (.one (.mov 3 (.r 0))),
      .it (.one (.mxn 4 true (.r 3) (.c (.int .i64 (0))))),
      .it (.one (.mov 0 (.r 4)))])
    (.seq
     /- R2 -/ (.ops [.it (.one (.mov 5 (.r 0))),
      .it (.one (.mov 6 (.r 0))),
      .it (.one (.bin 7 .add (.r 6) (.c (.int .i64 (64))))),
      .it (.one (.bin 8 .sub (.r 7) (.c (.int .i64 (1))))),
      .it (.one (.bin 9 .quo (.r 8) (.c (.int .i64 (64))))),
      .it (.one (.make 10 10 1 8 [.int .u64 0] (.r 9) (.r 9))),
      .it (.one (.buildm 11 [.int .i64 0, .sl []] [(0, 1, (.r 5)), (1, 1, (.r 10))])),
      .it (.one (.boxg 12 12 (.r 11))),
      .it (.one (.mov 2 (.r 12)))]) .ret)))
theorem A11_ok : okFun Tryd.prog 11 13 0 A11 [.tmp 2] [12, 10] = true := by kernel_rfl
/-- dyehouse/dyehouseref07.New -/
def A12 : ACode :=
  (.seq
   /- R0 -/ (.ops [.it (.one (.allocm 2 2 [.sl []]))])
   (.seq
    (.seq
     /- R1 -/ (.ops [.it (.one (.mov 3 (.r 0))),
      .it (.one (.bin 4 .lss (.r 3) (.c (.int .i64 (0)))))])
     (.cond (.r 4)
      /- R2 -/ (.ops [.it (.one (.mov 0 (.c (.int .i64 (0)))))]) .skip))
    (.seq
     /- R3 -/ (.ops [.it (.one (.mov 5 (.r 0))),
      .it (.one (.make 6 6 1 1 [.bool false] (.r 5) (.r 5))),
      .it (.one (.buildm 7 [.sl []] [(0, 1, (.r 6))])),
      .it (.one (.store (.r 2) (.r 7) 1))]) .ret)))
theorem A12_ok : okFun Tryd.prog 12 8 0 A12 [.cell 2 1 true] [6] = true := by kernel_rfl
/-- dyehouse/dyehouselaw07.do -/
def A13 : ACode :=
  (.seq
   /- R0 -/ (.ops [.it (.one (.boxp 4 (.r 1))),
      .it (.one (.boxp 5 (.r 2))),
      .it (.one (.alloc 6 6 [.sl []])),
      .it (.one (.mov 7 (.c (.bool false))))])
   (.seq
    (.seq
     /- R1 -/ (.ops [.it (.one (.fad 17 (.r 5) 0)),
      .it (.one (.load 18 (.r 17) 1 false))])
     (.block 0
      (.seq
       /- R2 -/ (.ops [.it (.one (.bin 20 .eql (.r 18) (.c (.int .u8 (0))))),
      .it (.one (.mov 19 (.r 20)))])
       (.cond (.r 19)
        (.seq
         /- R3 -/ (.post (.ops [.it (.one (.load 22 (.r 4) 1 true)),
      .it (.one (.fad 23 (.r 5) 1)),
      .it (.one (.load 24 (.r 23) 1 false)),
      .it (.one (.callf (some 25) (.st 26) [(.r 22), (.r 24), (.c (.bool true))])),
      .it (.one (.mov 21 (.r 25))),
      .it (.one (.ext 26 (.r 21) 0)),
      .it (.one (.ext 27 (.r 21) 1)),
      .it (.one (.alloc 8 8 [.sl []])),
      .it (.one (.store (.r 8) (.r 26) 1)),
      .it (.one (.mov 9 (.r 27)))]) (.frz 8))
         (.seq
          /- R4 -/ (.draw [[], [], [], [2], [1, 2, 3], [], [1, 2, 3, 4, 5], [0, 1, 2, 3, 4], [0, 1, 2, 3, 4, 5, 6, 7]] [.one (.load 28 (.r 8) 1 true),
      .one (.mov 29 (.r 0)),
      .one (.fad 30 (.r 5) 1),
      .one (.load 31 (.r 30) 1 false),
      .one (.callo (some 32) (.st 22) [(.r 29), (.r 31)] [0, 1] []),
      .one (.mov 33 (.r 9)),
      .one (.eq 34 false .bool (.r 32) (.r 33)),
      .one (.store (.r 6) (.r 28) 1),
      .one (.mov 7 (.r 34))]) .ret))
        (.seq
         /- R5 -/ (.ops [.it (.one (.bin 36 .eql (.r 18) (.c (.int .u8 (1))))),
      .it (.one (.mov 35 (.r 36)))])
         (.cond (.r 35)
          (.seq
           /- R6 -/ (.post (.ops [.it (.one (.load 38 (.r 4) 1 true)),
      .it (.one (.fad 39 (.r 5) 1)),
      .it (.one (.load 40 (.r 39) 1 false)),
      .it (.one (.callf (some 41) (.st 26) [(.r 38), (.r 40), (.c (.bool false))])),
      .it (.one (.mov 37 (.r 41))),
      .it (.one (.ext 42 (.r 37) 0)),
      .it (.one (.ext 43 (.r 37) 1)),
      .it (.one (.alloc 10 10 [.sl []])),
      .it (.one (.store (.r 10) (.r 42) 1)),
      .it (.one (.mov 11 (.r 43)))]) (.frz 10))
           (.seq
            /- R7 -/ (.draw [[], [], [], [2], [1, 2, 3], [], [1, 2, 3, 4, 5], [0, 1, 2, 3, 4], [0, 1, 2, 3, 4, 5, 6, 7]] [.one (.load 44 (.r 10) 1 true),
      .one (.mov 45 (.r 0)),
      .one (.fad 46 (.r 5) 1),
      .one (.load 47 (.r 46) 1 false),
      .one (.callo (some 48) (.st 27) [(.r 45), (.r 47)] [0, 1] []),
      .one (.mov 49 (.r 11)),
      .one (.eq 50 false .bool (.r 48) (.r 49)),
      .one (.store (.r 6) (.r 44) 1),
      .one (.mov 7 (.r 50))]) .ret))
          (.seq
           (.seq
            /- R8 -/ (.ops [.it (.one (.bin 52 .eql (.r 18) (.c (.int .u8 (2))))),
      .it (.one (.mov 51 (.r 52)))])
            (.cond (.r 51) .skip
             (.seq
              /- R9 -/ (.ops [.it (.one (.bin 53 .eql (.r 18) (.c (.int .u8 (3))))),
      .it (.one (.mov 51 (.r 53)))])
              (.cond (.r 51) .skip
               /- R10 -/ (.ops [.it (.one (.bin 54 .eql (.r 18) (.c (.int .u8 (4))))),
      .it (.one (.mov 51 (.r 54)))])))))
           (.cond (.r 51)
            (.seq
             /- R11 -/ (.post (.ops [.it (.one (.load 56 (.r 5) 3 true)),
      .it (.one (.callo (some 57) (.st 28) [(.r 56)] [] [60, 61])),
      .it (.one (.mov 55 (.r 57))),
      .it (.one (.ext 58 (.r 55) 0)),
      .it (.one (.ext 59 (.r 55) 1)),
      .it (.one (.alloc 13 13 [.sl []])),
      .it (.one (.mov 12 (.r 58))),
      .it (.one (.store (.r 13) (.r 59) 1))]) (.frz 13))
             (.seq
              /- R12 -/ (.post (.ops [.it (.one (.fad 61 (.r 5) 0)),
      .it (.one (.load 62 (.r 61) 1 false)),
      .it (.one (.conv 63 .i64 (.r 62))),
      .it (.one (.bin 64 .sub (.r 63) (.c (.int .i64 (1))))),
      .it (.one (.load 65 (.r 4) 1 true)),
      .it (.one (.load 66 (.r 13) 1 true)),
      .it (.one (.callf (some 67) (.st 29) [(.r 64), (.r 65), (.r 66)])),
      .it (.one (.mov 60 (.r 67))),
      .it (.one (.ext 68 (.r 60) 0)),
      .it (.one (.ext 69 (.r 60) 1)),
      .it (.one (.alloc 14 14 [.sl []])),
      .it (.one (.store (.r 14) (.r 68) 1)),
      .it (.one (.mov 15 (.r 69)))]) (.frz 14))
              (.seq
               /- R13 -/ (.ops [.it (.one (.mov 16 (.c (.bool false))))])
               (.seq
                (.seq
                 /- R14 -/ (.ops [.it (.one (.fad 70 (.r 5) 0)),
      .it (.one (.load 71 (.r 70) 1 false))])
                 (.block 1
                  (.seq
                   /- R16 -/ (.ops [.it (.one (.bin 76 .eql (.r 71) (.c (.int .u8 (2))))),
      .it (.one (.mov 75 (.r 76)))])
                   (.cond (.r 75)
                    /- R17 -/ (.ops [.it (.one (.mov 77 (.r 0))),
      .it (.one (.mov 78 (.r 12))),
      .it (.one (.callx (some 79) (.st 21) [(.r 77), (.r 78)] [0, 1] [])),
      .it (.one (.mov 16 (.r 79)))])
                    (.seq
                     /- R18 -/ (.ops [.it (.one (.bin 81 .eql (.r 71) (.c (.int .u8 (3))))),
      .it (.one (.mov 80 (.r 81)))])
                     (.cond (.r 80)
                      /- R19 -/ (.ops [.it (.one (.mov 82 (.r 0))),
      .it (.one (.mov 83 (.r 12))),
      .it (.one (.callx (some 84) (.st 30) [(.r 82), (.r 83)] [0, 1] [])),
      .it (.one (.mov 16 (.r 84)))])
                      /- R15 -/ (.ops [.it (.one (.mov 72 (.r 0))),
      .it (.one (.mov 73 (.r 12))),
      .it (.one (.callx (some 74) (.st 31) [(.r 72), (.r 73)] [0, 1] [])),
      .it (.one (.mov 16 (.r 74)))])))))))
                (.seq
                 /- R20 -/ (.ops [.it (.one (.load 85 (.r 14) 1 true)),
      .it (.one (.mov 86 (.r 16))),
      .it (.one (.mov 87 (.r 15))),
      .it (.one (.eq 88 false .bool (.r 86) (.r 87))),
      .it (.one (.store (.r 6) (.r 85) 1)),
      .it (.one (.mov 7 (.r 88)))]) .ret))))) .skip))))))))
    (.seq
     /- R21 -/ (.ops [.it (.one (.load 89 (.r 4) 1 true)),
      .it (.one (.store (.r 6) (.r 89) 1)),
      .it (.one (.mov 7 (.c (.bool true))))]) .ret)))
theorem A13_ok : okFun Tryd.prog 13 90 2 A13 [.cell 6 1 true, .tmp 7] [] = true := by kernel_rfl
/-- dyehouse/dyehouseref07.List -/
def A14 : ACode :=
  (.seq
   /- R0 -/ (.ops [.it (.one (.boxp 1 (.r 0))),
      .it (.one (.mov 2 (.c (.sl []))))])
   (.seq
    /- R1 -/ (.ops [.it (.one (.nilarr 3 3 1))])
    (.seq
     (.seq
      /- R2 -/ (.ops [.it (.one (.mov 4 (.c (.int .i64 (0)))))])
      (.block 0
       (.loop (.pre (.mv [1, 3, 4] [(3, 3)])
        (.seq
         (.seq
          /- R3 -/ (.ops [.it (.one (.mov 5 (.r 4))),
      .it (.one (.fad 6 (.r 1) 0)),
      .it (.one (.load 7 (.r 6) 1 false)),
      .it (.one (.len 8 (.r 7))),
      .it (.one (.bin 9 .lss (.r 5) (.r 8)))])
          (.cond (.r 9) .skip (.exit 0)))
         (.seq
          (.block 1
           (.seq
            /- R5 -/ (.ops [.it (.one (.fad 12 (.r 1) 0)),
      .it (.one (.load 13 (.r 12) 1 false)),
      .it (.one (.mov 14 (.r 4))),
      .it (.one (.idx 15 (.r 13) (.r 14) 1)),
      .it (.one (.load 16 (.r 15) 1 false))])
            (.cond (.r 16)
             /- R6 -/ (.ops [.it (.one (.mov 17 (.r 3))),
      .it (.one (.mov 18 (.r 4))),
      .it (.one (.bslp 19 1 [(.r 18)])),
      .it (.one (.appd 20 (.r 17) (.r 19) 1 8)),
      .it (.one (.mov 3 (.r 20)))]) .skip)))
          /- R4 -/ (.ops [.it (.one (.mov 10 (.r 4))),
      .it (.one (.bin 11 .add (.r 10) (.c (.int .i64 (1))))),
      .it (.one (.mov 4 (.r 11)))])))))))
     (.seq
      /- R7 -/ (.post (.ops [.it (.one (.mov 21 (.r 3))),
      .it (.one (.mov 2 (.r 21)))]) (.frz 3)) .ret))))
theorem A14_ok : okFun Tryd.prog 14 22 0 A14 [.tmp 2] [] = true := by kernel_rfl
/-- (*dyehouse/bits.Set).Count -/
def A15 : ACode :=
  (.seq
   /- R0 -/ (.ops [.it (.one (.mov 2 (.c (.int .i64 (0)))))])
   (.seq
    (.seq
     /- R1 -/ (.ops [.it (.one (.mov 6 (.r 0))),
      .it (.one (.eq 7 false .nil (.r 6) (.c (.nilp))))])
     (.cond (.r 7)
      (.seq
       /- R2 -/ (.ops [.it (.one (.mov 2 (.c (.int .i64 (0)))))]) .ret) .skip))
    (.seq
     /- R3 -/ (.ops [.it (.one (.mov 3 (.c (.int .i64 (0)))))])
     (.seq
      (.seq
       /- R4 -/ (.ops [.it (.one (.mov 8 (.r 0))),
      .it (.one (.nilc 9 (.r 8))),
      .it (.one (.fad 10 (.r 9) 1)),
      .it (.one (.load 11 (.r 10) 1 false)),
      .it (.one (.len 12 (.r 11))),
      .it (.one (.mov 13 (.c (.int .i64 (0)))))])
       (.block 0
        (.loop (.pre (.mv [3, 11, 12, 13] [])
         (.seq
          /- R5 -/ (.ops [.it (.one (.bin 14 .lss (.r 13) (.r 12)))])
          (.seq
           (.cond (.r 14) .skip (.exit 0))
           (.seq
            (.block 1
             (.seq
              /- R6 -/ (.ops [.it (.one (.idx 15 (.r 11) (.r 13) 1)),
      .it (.one (.load 16 (.r 15) 1 false)),
      .it (.one (.mov 5 (.r 16)))])
              /- R7 -/ (.ops [.it (.one (.mov 17 (.r 3))),
      .it (.one (.mov 18 (.r 5))),
      .it (.one (.callf (some 19) (.st 32) [(.r 18)])),
      .it (.one (.bin 20 .add (.r 17) (.r 19))),
      .it (.one (.mov 3 (.r 20)))])))
            /- R8 -/ (.ops [.it (.one (.bin 21 .add (.r 13) (.c (.int .i64 (1))))),
      .it (.one (.mov 13 (.r 21)))]))))))))
      (.seq
       /- R9 -/ (.ops [.it (.one (.mov 22 (.r 3))),
      .it (.one (.mov 2 (.r 22)))]) .ret)))))
theorem A15_ok : okFun Tryd.prog 15 23 0 A15 [.tmp 2] [] = true := by kernel_rfl
/-- (*dyehouse/bits.Set).Has -/
def A16 : ACode :=
  (.seq
   /- R0 -/ (.ops [.it (.one (.mov 4 (.c (.bool false))))])
   (.seq
    /- R1 -/ (.ops [.it (.one (.mov 5 (.r 0))),
      .it (.one (.mov 6 (.r 1))),
      .it (.one (.callb (some 7) (.st 33) [(.r 5), (.r 6)])),
      .it (.one (.mov 8 (.r 7))),
      .it (.grp 8 true [.mov 9 (.r 0), .nilc 10 (.r 9), .fad 11 (.r 10) 1, .load 12 (.r 11) 1 false, .mov 13 (.r 1), .bin 14 .quo (.r 13) (.c (.int .i64 (64))), .idx 15 (.r 12) (.r 14) 1, .load 16 (.r 15) 1 false, .mov 17 (.r 1), .bin 18 .rem (.r 17) (.c (.int .i64 (64))), .bin 19 .shr (.r 16) (.r 18), .bin 20 .and (.r 19) (.c (.int .u64 (1))), .bin 21 .eql (.r 20) (.c (.int .u64 (1)))]),
      .it (.one (.pick 22 (.r 8) (.r 21) (.c (.bool false)))),
      .it (.one (.mov 4 (.r 22)))]) .ret))
theorem A16_ok : okFun Tryd.prog 16 23 0 A16 [.tmp 4] [] = true := by kernel_rfl
/-- dyehouse/dyehouseref07.Has -/
def A17 : ACode :=
  (.seq
   /- R0 -/ (.ops [.it (.one (.boxp 2 (.r 0))),
      .it (.one (.mov 4 (.c (.bool false))))])
   (.seq
    /- R1 -/ (.ops [.it (.one (.mov 5 (.r 1))),
      .it (.one (.bin 6 .geq (.r 5) (.c (.int .i64 (0))))),
      .it (.one (.mov 7 (.r 6))),
      .it (.grp 7 true [.mov 8 (.r 1), .fad 9 (.r 2) 0, .load 10 (.r 9) 1 false, .len 11 (.r 10), .bin 12 .lss (.r 8) (.r 11)]),
      .it (.one (.pick 13 (.r 7) (.r 12) (.c (.bool false)))),
      .it (.one (.mov 14 (.r 13))),
      .it (.grp 14 true [.fad 15 (.r 2) 0, .load 16 (.r 15) 1 false, .mov 17 (.r 1), .idx 18 (.r 16) (.r 17) 1, .load 19 (.r 18) 1 false]),
      .it (.one (.pick 20 (.r 14) (.r 19) (.c (.bool false)))),
      .it (.one (.mov 4 (.r 20)))]) .ret))
theorem A17_ok : okFun Tryd.prog 17 21 0 A17 [.tmp 4] [] = true := by kernel_rfl
/-- (*dyehouse/bits.Set).Bound -/
def A18 : ACode :=
  (.seq
   /- R0 -/ (.ops [.it (.one (.mov 2 (.c (.int .i64 (0)))))])
   (.seq
    (.seq
     /- R1 -/ (.ops [.it (.one (.mov 3 (.r 0))),
      .it (.one (.eq 4 false .nil (.r 3) (.c (.nilp))))])
     (.cond (.r 4)
      (.seq
       /- R2 -/ (.ops [.it (.one (.mov 2 (.c (.int .i64 (0)))))]) .ret) .skip))
    (.seq
     /- R3 -/ (.ops [.it (.one (.mov 5 (.r 0))),
      .it (.one (.nilc 6 (.r 5))),
      .it (.one (.fad 7 (.r 6) 0)),
      .it (.one (.load 8 (.r 7) 1 false)),
      .it (.one (.mov 2 (.r 8)))]) .ret)))
theorem A18_ok : okFun Tryd.prog 18 9 0 A18 [.tmp 2] [] = true := by kernel_rfl
/-- (*dyehouse/bits.Set).Same -/
def A19 : ACode :=
  (.seq
   /- R0 -/ (.ops [.it (.one (.mov 4 (.c (.bool false))))])
   (.seq
    /- R1 -/ (.ops [.it (.one (.mov 5 (.r 0))),
      .it (.one (.callo (some 6) (.st 8) [(.r 5)] [] [60])),
      .it (.one (.mov 7 (.r 1))),
      .it (.one (.callo (some 8) (.st 8) [(.r 7)] [] [61])),
      .it (.one (.callb (some 9) (.st 34) [(.r 6), (.r 8)])),
      .it (.one (.mov 4 (.r 9)))]) .ret))
theorem A19_ok : okFun Tryd.prog 19 10 0 A19 [.tmp 4] [] = true := by kernel_rfl
/-- dyehouse/bits.Full -/
def A20 : ACode :=
  (.seq
   /- R0 -/ (.ops [.it (.one (.mov 2 (.c (.nilp))))])
   (.seq
    /- R1 -/ (.ops [.it (.one (.mov 5 (.r 0))),
      .it (.one (.callo (some 6) (.st 11) [(.r 5)] [] [60, 61])),
      .it (.one (.mov 3 (.r 6)))])
    (.seq
     (.seq
      /- R2 -/ (.ops [.it (.one (.mov 7 (.r 3))),
      .it (.one (.nilc 8 (.r 7))),
      .it (.one (.fad 9 (.r 8) 0)),
      .it (.one (.load 10 (.r 9) 1 false)),
      .it (.one (.mov 11 (.c (.int .i64 (0)))))])
      (.block 0
       (.loop (.pre (.mv [3, 10, 11] [(60, 60), (61, 61)])
        (.seq
         /- R3 -/ (.ops [.it (.one (.bin 12 .lss (.r 11) (.r 10)))])
         (.seq
          (.cond (.r 12) .skip (.exit 0))
          (.seq
           (.block 1
            (.seq
             /- R4 -/ (.ops [.it (.one (.mov 13 (.r 11))),
      .it (.one (.mov 4 (.r 13)))])
             /- R5 -/ (.ops [.it (.one (.mov 14 (.r 3))),
      .it (.one (.mov 15 (.r 4))),
      .it (.one (.callo (some 16) (.st 22) [(.r 14), (.r 15)] [60, 61] []))])))
           /- R6 -/ (.ops [.it (.one (.bin 17 .add (.r 11) (.c (.int .i64 (1))))),
      .it (.one (.mov 11 (.r 17)))]))))))))
     (.seq
      /- R7 -/ (.ops [.it (.one (.mov 18 (.r 3))),
      .it (.one (.mov 2 (.r 18)))]) .ret))))
theorem A20_ok : okFun Tryd.prog 20 19 0 A20 [.tmp 2] [60, 61] = true := by kernel_rfl
/-- (*dyehouse/bits.Set).Or -/
def A21 : ACode :=
  (.seq
   /- R0 -/ (.ops [.it (.one (.mov 4 (.c (.bool false))))])
   (.seq
    /- R1 -/ (.ops [.it (.one (.mov 5 (.r 0))),
      .it (.one (.mov 6 (.r 1))),
      .it (.one (.callo (some 7) (.st 35) [(.r 5), (.r 6), (.c (.fn 36 []))] [0, 1] [])),
      .it (.one (.mov 4 (.r 7)))]) .ret))
theorem A21_ok : okFun Tryd.prog 21 8 2 A21 [.tmp 4] [] = true := by kernel_rfl
/-- (*dyehouse/bits.Set).Add -/
def A22 : ACode :=
  (.seq
   /- R0 -/ (.ops [.it (.one (.mov 4 (.c (.bool false))))])
   (.seq
    (.seq
     /- R1 -/ (.ops [.it (.one (.mov 5 (.r 0))),
      .it (.one (.mov 6 (.r 1))),
      .it (.one (.callb (some 7) (.st 33) [(.r 5), (.r 6)])),
      .it (.one (.un 8 .not (.r 7))),
      .it (.one (.mov 9 (.r 8))),
      .it (.grp 9 false [.mov 10 (.r 0), .mov 11 (.r 1), .callb (some 12) (.st 16) [(.r 10), (.r 11)]]),
      .it (.one (.pick 13 (.r 9) (.c (.bool true)) (.r 12)))])
     (.cond (.r 13)
      (.seq
       /- R2 -/ (.ops [.it (.one (.mov 4 (.c (.bool false))))]) .ret) .skip))
    (.seq
     /- R3 -/ (.draw [[], [0], [0, 1], [0, 1, 2], [], [4], [0, 1, 2, 3, 4, 5], [0, 1, 2, 3, 4, 5, 6], [], [8], [8, 9], [0, 1, 2, 3, 4, 5, 6, 7, 8, 9, 10], [0, 1, 2, 3, 4, 5, 6, 7, 8, 9, 10, 11], [0, 1, 2, 3, 4, 5, 6, 7, 8, 9, 10, 11, 12]] [.one (.mov 14 (.r 0)),
      .one (.nilc 15 (.r 14)),
      .one (.fad 16 (.r 15) 1),
      .one (.load 17 (.r 16) 1 false),
      .one (.mov 18 (.r 1)),
      .one (.bin 19 .quo (.r 18) (.c (.int .i64 (64)))),
      .one (.idx 20 (.r 17) (.r 19) 1),
      .one (.load 21 (.r 20) 1 false),
      .one (.mov 22 (.r 1)),
      .one (.bin 23 .rem (.r 22) (.c (.int .i64 (64)))),
      .one (.bin 24 .shl (.c (.int .u64 (1))) (.r 23)),
      .one (.bin 25 .or (.r 21) (.r 24)),
      .one (.idx 26 (.r 17) (.r 19) 1),
      .one (.store (.r 26) (.r 25) 1)])
     (.seq
      /- R4 -/ (.ops [.it (.one (.mov 4 (.c (.bool true))))]) .ret))))
theorem A22_ok : okFun Tryd.prog 22 27 2 A22 [.tmp 4] [] = true := by kernel_rfl
/-- slices.Values[[]int,int] -/
def A23 : ACode :=
  (.seq
   /- R0 -/ (.ops [.it (.one (.boxp 1 (.r 0))),
      .it (.one (.mov 2 (.c (.nilf))))])
   (.seq
    /- R1 -/ (.ops [.it (.one (.mkfn 3 37 [(.r 1)])),
      .it (.one (.mov 2 (.r 3)))]) .ret))
theorem A23_ok : okFun Tryd.prog 23 4 0 A23 [.tmp 2] [] = true := by kernel_rfl
/-- (*dyehouse/bits.Set).walk -/
def A24 : ACode :=
  (.seq
   /- R0 -/ (.ops [.it (.one (.mov 6 (.r 0))),
      .it (.one (.nilc 7 (.r 6))),
      .it (.one (.fad 8 (.r 7) 1)),
      .it (.one (.load 9 (.r 8) 1 false)),
      .it (.one (.len 10 (.r 9))),
      .it (.one (.mov 11 (.c (.int .i64 (0)))))])
   (.block 0
    (.loop (.pre (.mv [0, 1, 10, 11] [])
     (.seq
      /- R1 -/ (.ops [.it (.one (.bin 12 .lss (.r 11) (.r 10)))])
      (.seq
       (.cond (.r 12) .skip (.exit 0))
       (.seq
        (.block 1
         (.seq
          /- R2 -/ (.ops [.it (.one (.mov 13 (.r 11))),
      .it (.one (.mov 4 (.r 13)))])
          (.seq
           /- R3 -/ (.ops [.it (.one (.mov 14 (.r 0))),
      .it (.one (.nilc 15 (.r 14))),
      .it (.one (.fad 16 (.r 15) 1)),
      .it (.one (.load 17 (.r 16) 1 false)),
      .it (.one (.mov 18 (.r 4))),
      .it (.one (.idx 19 (.r 17) (.r 18) 1)),
      .it (.one (.load 20 (.r 19) 1 false)),
      .it (.one (.mov 5 (.r 20)))])
           (.block 2
            (.loop (.pre (.mv [0, 1, 4, 5, 10, 11] [])
             (.seq
              (.seq
               /- R4 -/ (.ops [.it (.one (.mov 21 (.r 5))),
      .it (.one (.bin 22 .neq (.r 21) (.c (.int .u64 (0)))))])
               (.cond (.r 22) .skip (.exit 2)))
              (.seq
               (.block 3
                (.seq
                 /- R6 -/ (.ops [.it (.one (.mov 27 (.r 1))),
      .it (.one (.mov 28 (.r 4))),
      .it (.one (.bin 29 .mul (.r 28) (.c (.int .i64 (64))))),
      .it (.one (.mov 30 (.r 5))),
      .it (.one (.callf (some 31) (.st 38) [(.r 30)])),
      .it (.one (.bin 32 .add (.r 29) (.r 31))),
      .it (.one (.callf (some 33) (.dy (.r 27)) [(.r 32)])),
      .it (.one (.un 34 .not (.r 33)))])
                 (.cond (.r 34) .ret .skip)))
               /- R5 -/ (.ops [.it (.one (.mov 23 (.r 5))),
      .it (.one (.mov 24 (.r 5))),
      .it (.one (.bin 25 .sub (.r 24) (.c (.int .u64 (1))))),
      .it (.one (.bin 26 .and (.r 23) (.r 25))),
      .it (.one (.mov 5 (.r 26)))])))))))))
        /- R7 -/ (.ops [.it (.one (.bin 35 .add (.r 11) (.c (.int .i64 (1))))),
      .it (.one (.mov 11 (.r 35)))]))))))))
theorem A24_ok : okFun Tryd.prog 24 36 0 A24 [] [] = true := by kernel_rfl
/-- slices.Collect[int] -/
def A25 : ACode :=
  (.seq
   /- R0 -/ (.ops [.it (.one (.mov 2 (.c (.sl []))))])
   (.seq
    /- R1 -/ (.ops [.it (.one (.mov 3 (.r 0))),
      .it (.one (.callo (some 4) (.st 39) [(.c (.yl 0)), (.r 3)] [] [60])),
      .it (.one (.mov 2 (.r 4)))]) .ret))
theorem A25_ok : okFun Tryd.prog 25 5 0 A25 [.tmp 2] [60] = true := by kernel_rfl
/-- dyehouse/dyehouseref07.With -/
def A26 : ACode :=
  (.seq
   /- R0 -/ (.ops [.it (.one (.boxp 3 (.r 0))),
      .it (.one (.alloc 6 6 [.sl []])),
      .it (.one (.mov 7 (.c (.bool false))))])
   (.seq
    (.seq
     /- R1 -/ (.ops [.it (.one (.mov 9 (.r 1))),
      .it (.one (.bin 10 .lss (.r 9) (.c (.int .i64 (0))))),
      .it (.one (.mov 11 (.r 10))),
      .it (.grp 11 false [.mov 12 (.r 1), .fad 13 (.r 3) 0, .load 14 (.r 13) 1 false, .len 15 (.r 14), .bin 16 .geq (.r 12) (.r 15)]),
      .it (.one (.pick 17 (.r 11) (.c (.bool true)) (.r 16))),
      .it (.one (.mov 18 (.r 17))),
      .it (.grp 18 false [.fad 19 (.r 3) 0, .load 20 (.r 19) 1 false, .mov 21 (.r 1), .idx 22 (.r 20) (.r 21) 1, .load 23 (.r 22) 1 false, .mov 24 (.r 2), .eq 25 false .bool (.r 23) (.r 24)]),
      .it (.one (.pick 26 (.r 18) (.c (.bool true)) (.r 25)))])
     (.cond (.r 26)
      (.seq
       /- R2 -/ (.ops [.it (.one (.load 27 (.r 3) 1 true)),
      .it (.one (.store (.r 6) (.r 27) 1)),
      .it (.one (.mov 7 (.c (.bool false))))]) .ret) .skip))
    (.seq
     /- R3 -/ (.ops [.it (.one (.bslo 28 28 1 [])),
      .it (.one (.fad 29 (.r 3) 0)),
      .it (.one (.load 30 (.r 29) 1 false)),
      .it (.one (.appd 31 (.r 28) (.r 30) 1 1)),
      .it (.one (.buildm 32 [.sl []] [(0, 1, (.r 31))])),
      .it (.one (.allocm 8 8 [.sl []])),
      .it (.one (.store (.r 8) (.r 32) 1))])
     (.seq
      /- R4 -/ (.ops [.it (.one (.fad 33 (.r 8) 0)),
      .it (.one (.load 34 (.r 33) 1 false)),
      .it (.one (.mov 35 (.r 1))),
      .it (.one (.mov 36 (.r 2))),
      .it (.one (.idx 37 (.r 34) (.r 35) 1)),
      .it (.one (.store (.r 37) (.r 36) 1))])
      (.seq
       /- R5 -/ (.pre (.frz 28) (.ops [.it (.one (.load 38 (.r 8) 1 true)),
      .it (.one (.store (.r 6) (.r 38) 1)),
      .it (.one (.mov 7 (.c (.bool true))))])) .ret)))))
theorem A26_ok : okFun Tryd.prog 26 39 0 A26 [.cell 6 1 true, .tmp 7] [] = true := by kernel_rfl
/-- (*dyehouse/bits.Set).Drop -/
def A27 : ACode :=
  (.seq
   /- R0 -/ (.ops [.it (.one (.mov 4 (.c (.bool false))))])
   (.seq
    (.seq
     /- R1 -/ (.ops [.it (.one (.mov 5 (.r 0))),
      .it (.one (.mov 6 (.r 1))),
      .it (.one (.callb (some 7) (.st 16) [(.r 5), (.r 6)])),
      .it (.one (.un 8 .not (.r 7)))])
     (.cond (.r 8)
      (.seq
       /- R2 -/ (.ops [.it (.one (.mov 4 (.c (.bool false))))]) .ret) .skip))
    (.seq
     /- R3 -/ (.draw [[], [0], [0, 1], [0, 1, 2], [], [4], [0, 1, 2, 3, 4, 5], [0, 1, 2, 3, 4, 5, 6], [], [8], [8, 9], [0, 1, 2, 3, 4, 5, 6, 7, 8, 9, 10], [0, 1, 2, 3, 4, 5, 6, 7, 8, 9, 10, 11], [0, 1, 2, 3, 4, 5, 6, 7, 8, 9, 10, 11, 12]] [.one (.mov 9 (.r 0)),
      .one (.nilc 10 (.r 9)),
      .one (.fad 11 (.r 10) 1),
      .one (.load 12 (.r 11) 1 false),
      .one (.mov 13 (.r 1)),
      .one (.bin 14 .quo (.r 13) (.c (.int .i64 (64)))),
      .one (.idx 15 (.r 12) (.r 14) 1),
      .one (.load 16 (.r 15) 1 false),
      .one (.mov 17 (.r 1)),
      .one (.bin 18 .rem (.r 17) (.c (.int .i64 (64)))),
      .one (.bin 19 .shl (.c (.int .u64 (1))) (.r 18)),
      .one (.bin 20 .andNot (.r 16) (.r 19)),
      .one (.idx 21 (.r 12) (.r 14) 1),
      .one (.store (.r 21) (.r 20) 1)])
     (.seq
      /- R4 -/ (.ops [.it (.one (.mov 4 (.c (.bool true))))]) .ret))))
theorem A27_ok : okFun Tryd.prog 27 22 2 A27 [.tmp 4] [] = true := by kernel_rfl
/-- dyehouse/dyehouselaw07.other -/
def A28 : ACode :=
  (.seq
   /- R0 -/ (.ops [.it (.one (.boxp 1 (.r 0))),
      .it (.one (.mov 2 (.c (.nilp)))),
      .it (.one (.alloc 3 3 [.sl []]))])
   (.seq
    /- R1 -/ (.post (.ops [.it (.one (.fad 6 (.r 1) 1)),
      .it (.one (.load 7 (.r 6) 1 false)),
      .it (.one (.callo (some 8) (.st 12) [(.r 7)] [] [70])),
      .it (.one (.allocm 4 4 [.sl []])),
      .it (.one (.store (.r 4) (.r 8) 1))]) (.frz 70))
    (.seq
     (.seq
      /- R2 -/ (.ops [.it (.one (.mov 5 (.c (.int .i64 (0)))))])
      (.block 0
       (.loop (.pre (.mv [1, 3, 4, 5] [(3, 3), (4, 4)])
        (.seq
         (.seq
          /- R3 -/ (.ops [.it (.one (.mov 9 (.r 5))),
      .it (.one (.fad 10 (.r 1) 2)),
      .it (.one (.load 11 (.r 10) 1 false)),
      .it (.one (.len 12 (.r 11))),
      .it (.one (.bin 13 .lss (.r 9) (.r 12)))])
          (.cond (.r 13) .skip (.exit 0)))
         (.seq
          (.block 1
           /- R5 -/ (.draw [[], [], [1], [], [1, 2, 3], [1, 2, 3, 4], [0, 1, 2, 3, 4, 5], [0, 1, 2, 3, 4, 5, 6], [0, 1, 2, 3, 4, 5, 6, 7], [0, 1, 2, 3, 4, 5, 6, 7], [0, 1, 2, 3, 4, 5, 6, 7, 8]] [.one (.load 17 (.r 4) 1 true),
      .one (.fad 18 (.r 1) 2),
      .one (.load 19 (.r 18) 1 false),
      .one (.mov 20 (.r 5)),
      .one (.idx 21 (.r 19) (.r 20) 1),
      .one (.load 22 (.r 21) 1 false),
      .one (.callf (some 23) (.st 26) [(.r 17), (.r 22), (.c (.bool true))]),
      .one (.mov 16 (.r 23)),
      .one (.ext 24 (.r 16) 0),
      .one (.ext 25 (.r 16) 1),
      .one (.store (.r 4) (.r 24) 1)]))
          /- R4 -/ (.ops [.it (.one (.mov 14 (.r 5))),
      .it (.one (.bin 15 .add (.r 14) (.c (.int .i64 (1))))),
      .it (.one (.mov 5 (.r 15)))])))))))
     (.seq
      /- R6 -/ (.draw [[], [0], [], [2], [0, 1, 2, 3], [], [0, 1, 2, 3, 4], [0, 1, 2, 3, 4, 5, 6]] [.one (.fad 26 (.r 1) 1),
      .one (.load 27 (.r 26) 1 false),
      .one (.fad 28 (.r 1) 2),
      .one (.load 29 (.r 28) 1 false),
      .one (.callo (some 30) (.st 6) [(.r 27), (.r 29)] [] [60, 61]),
      .one (.load 31 (.r 4) 1 true),
      .one (.mov 2 (.r 30)),
      .one (.store (.r 3) (.r 31) 1)]) .ret))))
theorem A28_ok : okFun Tryd.prog 28 32 0 A28 [.tmp 2, .cell 3 1 true] [60, 61] = true := by kernel_rfl
/-- dyehouse/dyehouseref07.Two -/
def A29 : ACode :=
  (.seq
   /- R0 -/ (.ops [.it (.one (.boxp 4 (.r 1))),
      .it (.one (.boxp 5 (.r 2))),
      .it (.one (.alloc 6 6 [.sl []])),
      .it (.one (.mov 7 (.c (.bool false))))])
   (.seq
    /- R1 -/ (.ops [.it (.one (.fad 13 (.r 4) 0)),
      .it (.one (.load 14 (.r 13) 1 false)),
      .it (.one (.len 15 (.r 14))),
      .it (.one (.callo (some 16) (.st 12) [(.r 15)] [] [60])),
      .it (.one (.allocm 8 8 [.sl []])),
      .it (.one (.store (.r 8) (.r 16) 1))])
    (.seq
     /- R2 -/ (.ops [.it (.one (.mov 9 (.c (.bool false))))])
     (.seq
      (.seq
       /- R3 -/ (.ops [.it (.one (.mov 10 (.c (.int .i64 (0)))))])
       (.block 0
        (.loop (.pre (.mv [0, 4, 5, 6, 8, 9, 10] [(6, 6), (8, 8), (60, 60)])
         (.seq
          (.seq
           /- R4 -/ (.ops [.it (.one (.mov 17 (.r 10))),
      .it (.one (.fad 18 (.r 4) 0)),
      .it (.one (.load 19 (.r 18) 1 false)),
      .it (.one (.len 20 (.r 19))),
      .it (.one (.bin 21 .lss (.r 17) (.r 20)))])
           (.cond (.r 21) .skip (.exit 0)))
          (.seq
           (.block 1
            (.seq
             /- R6 -/ (.draw [[], [0], [], [0, 1, 2], [0, 1, 2, 3], [], [], [5, 6], [0, 1, 2, 3, 4, 5, 6, 7], [0, 1, 2, 3, 4, 5, 6, 7, 8]] [.one (.fad 24 (.r 4) 0),
      .one (.load 25 (.r 24) 1 false),
      .one (.mov 26 (.r 10)),
      .one (.idx 27 (.r 25) (.r 26) 1),
      .one (.load 28 (.r 27) 1 false),
      .one (.load 29 (.r 5) 1 true),
      .one (.mov 30 (.r 10)),
      .one (.callf (some 31) (.st 17) [(.r 29), (.r 30)]),
      .one (.mov 11 (.r 28)),
      .one (.mov 12 (.r 31))])
             (.seq
              (.seq
               /- R7 -/ (.ops [.it (.one (.mov 32 (.r 0)))])
               (.block 2
                (.seq
                 /- R9 -/ (.ops [.it (.one (.bin 43 .eql (.r 32) (.c (.int .i64 (1))))),
      .it (.one (.mov 42 (.r 43)))])
                 (.cond (.r 42)
                  /- R10 -/ (.ops [.it (.one (.fad 44 (.r 8) 0)),
      .it (.one (.load 45 (.r 44) 1 false)),
      .it (.one (.mov 46 (.r 10))),
      .it (.one (.mov 47 (.r 11))),
      .it (.one (.mov 48 (.r 47))),
      .it (.grp 48 false [.mov 49 (.r 12)]),
      .it (.one (.pick 50 (.r 48) (.c (.bool true)) (.r 49))),
      .it (.one (.idx 51 (.r 45) (.r 46) 1)),
      .it (.one (.store (.r 51) (.r 50) 1))])
                  (.seq
                   /- R11 -/ (.ops [.it (.one (.bin 53 .eql (.r 32) (.c (.int .i64 (2))))),
      .it (.one (.mov 52 (.r 53)))])
                   (.cond (.r 52)
                    /- R12 -/ (.ops [.it (.one (.fad 54 (.r 8) 0)),
      .it (.one (.load 55 (.r 54) 1 false)),
      .it (.one (.mov 56 (.r 10))),
      .it (.one (.mov 57 (.r 11))),
      .it (.one (.mov 58 (.r 57))),
      .it (.grp 58 true [.mov 59 (.r 12)]),
      .it (.one (.pick 60 (.r 58) (.r 59) (.c (.bool false)))),
      .it (.one (.idx 61 (.r 55) (.r 56) 1)),
      .it (.one (.store (.r 61) (.r 60) 1))])
                    /- R8 -/ (.ops [.it (.one (.fad 33 (.r 8) 0)),
      .it (.one (.load 34 (.r 33) 1 false)),
      .it (.one (.mov 35 (.r 10))),
      .it (.one (.mov 36 (.r 11))),
      .it (.one (.mov 37 (.r 36))),
      .it (.grp 37 true [.mov 38 (.r 12), .un 39 .not (.r 38)]),
      .it (.one (.pick 40 (.r 37) (.r 39) (.c (.bool false)))),
      .it (.one (.idx 41 (.r 34) (.r 35) 1)),
      .it (.one (.store (.r 41) (.r 40) 1))])))))))
              /- R13 -/ (.ops [.it (.one (.mov 62 (.r 9))),
      .it (.one (.mov 63 (.r 62))),
      .it (.grp 63 false [.fad 64 (.r 8) 0, .load 65 (.r 64) 1 false, .mov 66 (.r 10), .idx 67 (.r 65) (.r 66) 1, .load 68 (.r 67) 1 false, .mov 69 (.r 11), .eq 70 true .bool (.r 68) (.r 69)]),
      .it (.one (.pick 71 (.r 63) (.c (.bool true)) (.r 70))),
      .it (.one (.mov 9 (.r 71)))]))))
           /- R5 -/ (.ops [.it (.one (.mov 22 (.r 10))),
      .it (.one (.bin 23 .add (.r 22) (.c (.int .i64 (1))))),
      .it (.one (.mov 10 (.r 23)))])))))))
      (.seq
       /- R14 -/ (.pre (.frz 60) (.ops [.it (.one (.load 72 (.r 8) 1 true)),
      .it (.one (.mov 73 (.r 9))),
      .it (.one (.store (.r 6) (.r 72) 1)),
      .it (.one (.mov 7 (.r 73)))])) .ret)))))
theorem A29_ok : okFun Tryd.prog 29 74 0 A29 [.cell 6 1 true, .tmp 7] [] = true := by kernel_rfl
/-- (*dyehouse/bits.Set).And -/
def A30 : ACode :=
  (.seq
   /- R0 -/ (.ops [.it (.one (.mov 4 (.c (.bool false))))])
   (.seq
    /- R1 -/ (.ops [.it (.one (.mov 5 (.r 0))),
      .it (.one (.mov 6 (.r 1))),
      .it (.one (.callo (some 7) (.st 35) [(.r 5), (.r 6), (.c (.fn 40 []))] [0, 1] [])),
      .it (.one (.mov 4 (.r 7)))]) .ret))
theorem A30_ok : okFun Tryd.prog 30 8 2 A30 [.tmp 4] [] = true := by kernel_rfl
/-- (*dyehouse/bits.Set).Minus -/
def A31 : ACode :=
  (.seq
   /- R0 -/ (.ops [.it (.one (.mov 4 (.c (.bool false))))])
   (.seq
    /- R1 -/ (.ops [.it (.one (.mov 5 (.r 0))),
      .it (.one (.mov 6 (.r 1))),
      .it (.one (.callo (some 7) (.st 35) [(.r 5), (.r 6), (.c (.fn 41 []))] [0, 1] [])),
      .it (.one (.mov 4 (.r 7)))]) .ret))
theorem A31_ok : okFun Tryd.prog 31 8 2 A31 [.tmp 4] [] = true := by kernel_rfl
/-- math/bits.OnesCount64 -/
def A32 : ACode :=
  (.seq
   /- R0 -/ (.ops [.it (.one (.mov 2 (.c (.int .i64 (0)))))])
   (.seq
    /- R1 -/ (.ops [.it (.one (.mov 3 (.r 0))),
      .it (.one (.bin 4 .shr (.r 3) (.c (.int .u64 (1))))),
      .it (.one (.bin 5 .and (.r 4) (.c (.int .u64 (6148914691236517205))))),
      .it (.one (.mov 6 (.r 0))),
      .it (.one (.bin 7 .and (.r 6) (.c (.int .u64 (6148914691236517205))))),
      .it (.one (.bin 8 .add (.r 5) (.r 7))),
      .it (.one (.mov 0 (.r 8)))])
    (.seq
     /- R2 -/ (.ops [.it (.one (.mov 9 (.r 0))),
      .it (.one (.bin 10 .shr (.r 9) (.c (.int .u64 (2))))),
      .it (.one (.bin 11 .and (.r 10) (.c (.int .u64 (3689348814741910323))))),
      .it (.one (.mov 12 (.r 0))),
      .it (.one (.bin 13 .and (.r 12) (.c (.int .u64 (3689348814741910323))))),
      .it (.one (.bin 14 .add (.r 11) (.r 13))),
      .it (.one (.mov 0 (.r 14)))])
     (.seq
      /- R3 -/ (.ops [.it (.one (.mov 15 (.r 0))),
      .it (.one (.bin 16 .shr (.r 15) (.c (.int .u64 (4))))),
      .it (.one (.mov 17 (.r 0))),
      .it (.one (.bin 18 .add (.r 16) (.r 17))),
      .it (.one (.bin 19 .and (.r 18) (.c (.int .u64 (1085102592571150095))))),
      .it (.one (.mov 0 (.r 19)))])
      (.seq
       /- R4 -/ (.ops [.it (.one (.mov 20 (.r 0))),
      .it (.one (.mov 21 (.r 0))),
      .it (.one (.bin 22 .shr (.r 21) (.c (.int .u64 (8))))),
      .it (.one (.bin 23 .add (.r 20) (.r 22))),
      .it (.one (.mov 0 (.r 23)))])
       (.seq
        /- R5 -/ (.ops [.it (.one (.mov 24 (.r 0))),
      .it (.one (.mov 25 (.r 0))),
      .it (.one (.bin 26 .shr (.r 25) (.c (.int .u64 (16))))),
      .it (.one (.bin 27 .add (.r 24) (.r 26))),
      .it (.one (.mov 0 (.r 27)))])
        (.seq
         /- R6 -/ (.ops [.it (.one (.mov 28 (.r 0))),
      .it (.one (.mov 29 (.r 0))),
      .it (.one (.bin 30 .shr (.r 29) (.c (.int .u64 (32))))),
      .it (.one (.bin 31 .add (.r 28) (.r 30))),
      .it (.one (.mov 0 (.r 31)))])
         (.seq
          /- R7 -/ (.ops [.it (.one (.mov 32 (.r 0))),
      .it (.one (.conv 33 .i64 (.r 32))),
      .it (.one (.bin 34 .and (.r 33) (.c (.int .i64 (127))))),
      .it (.one (.mov 2 (.r 34)))]) .ret))))))))
theorem A32_ok : okFun Tryd.prog 32 35 0 A32 [.tmp 2] [] = true := by kernel_rfl
/-- (*dyehouse/bits.Set).in -/
def A33 : ACode :=
  (.seq
   /- R0 -/ (.ops [.it (.one (.mov 4 (.c (.bool false))))])
   (.seq
    /- R1 -/ (.ops [.it (.one (.mov 5 (.r 0))),
      .it (.one (.eq 6 true .nil (.r 5) (.c (.nilp)))),
      .it (.one (.mov 7 (.r 6))),
      .it (.grp 7 true [.mov 8 (.r 1), .bin 9 .geq (.r 8) (.c (.int .i64 (0)))]),
      .it (.one (.pick 10 (.r 7) (.r 9) (.c (.bool false)))),
      .it (.one (.mov 11 (.r 10))),
      .it (.grp 11 true [.mov 12 (.r 1), .mov 13 (.r 0), .nilc 14 (.r 13), .fad 15 (.r 14) 0, .load 16 (.r 15) 1 false, .bin 17 .lss (.r 12) (.r 16)]),
      .it (.one (.pick 18 (.r 11) (.r 17) (.c (.bool false)))),
      .it (.one (.mov 4 (.r 18)))]) .ret))
theorem A33_ok : okFun Tryd.prog 33 19 0 A33 [.tmp 4] [] = true := by kernel_rfl
/-- slices.Equal[[]int,int] -/
def A34 : ACode :=
  (.seq
   /- R0 -/ (.ops [.it (.one (.mov 4 (.c (.bool false))))])
   (.seq
    (.seq
     /- R1 -/ (.ops [.it (.one (.mov 6 (.r 0))),
      .it (.one (.len 7 (.r 6))),
      .it (.one (.mov 8 (.r 1))),
      .it (.one (.len 9 (.r 8))),
      .it (.one (.bin 10 .neq (.r 7) (.r 9)))])
     (.cond (.r 10)
      (.seq
       /- R2 -/ (.ops [.it (.one (.mov 4 (.c (.bool false))))]) .ret) .skip))
    (.seq
     (.seq
      /- R3 -/ (.ops [.it (.one (.mov 11 (.r 0))),
      .it (.one (.len 12 (.r 11))),
      .it (.one (.mov 13 (.c (.int .i64 (0)))))])
      (.block 0
       (.loop (.pre (.mv [0, 1, 12, 13] [])
        (.seq
         /- R4 -/ (.ops [.it (.one (.bin 14 .lss (.r 13) (.r 12)))])
         (.seq
          (.cond (.r 14) .skip (.exit 0))
          (.seq
           (.block 1
            (.seq
             /- R5 -/ (.ops [.it (.one (.mov 15 (.r 13))),
      .it (.one (.mov 5 (.r 15)))])
             (.seq
              /- R6 -/ (.draw [[], [], [0, 1], [0, 1, 2], [], [], [4, 5], [4, 5, 6], [0, 1, 2, 3, 4, 5, 6, 7]] [.one (.mov 16 (.r 0)),
      .one (.mov 17 (.r 5)),
      .one (.idx 18 (.r 16) (.r 17) 1),
      .one (.load 19 (.r 18) 1 false),
      .one (.mov 20 (.r 1)),
      .one (.mov 21 (.r 5)),
      .one (.idx 22 (.r 20) (.r 21) 1),
      .one (.load 23 (.r 22) 1 false),
      .one (.bin 24 .neq (.r 19) (.r 23))])
              (.cond (.r 24)
               (.seq
                /- R7 -/ (.ops [.it (.one (.mov 4 (.c (.bool false))))]) .ret) .skip))))
           /- R8 -/ (.ops [.it (.one (.bin 25 .add (.r 13) (.c (.int .i64 (1))))),
      .it (.one (.mov 13 (.r 25)))]))))))))
     (.seq
      /- R9 -/ (.ops [.it (.one (.mov 4 (.c (.bool true))))]) .ret))))
theorem A34_ok : okFun Tryd.prog 34 26 0 A34 [.tmp 4] [] = true := by kernel_rfl
/-- (*dyehouse/bits.Set).each -/
def A35 : ACode :=
  (.seq
   /- R0 -/ (.ops [.it (.one (.mov 6 (.c (.bool false))))])
   (.seq
    (.seq
     /- R1 -/ (.ops [.it (.one (.mov 12 (.r 0))),
      .it (.one (.eq 13 false .nil (.r 12) (.c (.nilp)))),
      .it (.one (.mov 14 (.r 13))),
      .it (.grp 14 false [.mov 15 (.r 1), .eq 16 false .nil (.r 15) (.c (.nilp))]),
      .it (.one (.pick 17 (.r 14) (.c (.bool true)) (.r 16)))])
     (.cond (.r 17)
      (.seq
       /- R2 -/ (.ops [.it (.one (.mov 6 (.c (.bool false))))]) .ret) .skip))
    (.seq
     /- R3 -/ (.ops [.it (.one (.mov 7 (.c (.bool false))))])
     (.seq
      (.seq
       /- R4 -/ (.ops [.it (.one (.mov 18 (.r 0))),
      .it (.one (.nilc 19 (.r 18))),
      .it (.one (.fad 20 (.r 19) 1)),
      .it (.one (.load 21 (.r 20) 1 false)),
      .it (.one (.len 22 (.r 21))),
      .it (.one (.mov 23 (.c (.int .i64 (0)))))])
       (.block 0
        (.loop (.pre (.mv [0, 1, 2, 7, 21, 22, 23] [(0, 0), (1, 1)])
         (.seq
          /- R5 -/ (.ops [.it (.one (.bin 24 .lss (.r 23) (.r 22)))])
          (.seq
           (.cond (.r 24) .skip (.exit 0))
           (.seq
            (.block 1
             (.seq
              /- R6 -/ (.ops [.it (.one (.mov 25 (.r 23))),
      .it (.one (.idx 26 (.r 21) (.r 23) 1)),
      .it (.one (.load 27 (.r 26) 1 false)),
      .it (.one (.mov 8 (.r 25))),
      .it (.one (.mov 9 (.r 27)))])
              (.seq
               /- R7 -/ (.ops [.it (.one (.mov 10 (.c (.int .u64 (0)))))])
               (.seq
                (.seq
                 /- R8 -/ (.ops [.it (.one (.mov 28 (.r 8))),
      .it (.one (.mov 29 (.r 1))),
      .it (.one (.nilc 30 (.r 29))),
      .it (.one (.fad 31 (.r 30) 1)),
      .it (.one (.load 32 (.r 31) 1 false)),
      .it (.one (.len 33 (.r 32))),
      .it (.one (.bin 34 .lss (.r 28) (.r 33)))])
                 (.cond (.r 34)
                  /- R9 -/ (.ops [.it (.one (.mov 35 (.r 1))),
      .it (.one (.nilc 36 (.r 35))),
      .it (.one (.fad 37 (.r 36) 1)),
      .it (.one (.load 38 (.r 37) 1 false)),
      .it (.one (.mov 39 (.r 8))),
      .it (.one (.idx 40 (.r 38) (.r 39) 1)),
      .it (.one (.load 41 (.r 40) 1 false)),
      .it (.one (.mov 10 (.r 41)))]) .skip))
                (.seq
                 /- R10 -/ (.ops [.it (.one (.mov 42 (.r 2))),
      .it (.one (.mov 43 (.r 9))),
      .it (.one (.mov 44 (.r 10))),
      .it (.one (.callf (some 45) (.dy (.r 42)) [(.r 43), (.r 44)])),
      .it (.one (.mov 46 (.r 0))),
      .it (.one (.mov 47 (.r 8))),
      .it (.one (.callb (some 48) (.st 42) [(.r 46), (.r 47)])),
      .it (.one (.bin 49 .and (.r 45) (.r 48))),
      .it (.one (.mov 11 (.r 49)))])
                 (.seq
                  /- R11 -/ (.ops [.it (.one (.mov 50 (.r 7))),
      .it (.one (.mov 51 (.r 50))),
      .it (.grp 51 false [.mov 52 (.r 11), .mov 53 (.r 9), .bin 54 .neq (.r 52) (.r 53)]),
      .it (.one (.pick 55 (.r 51) (.c (.bool true)) (.r 54))),
      .it (.one (.mov 7 (.r 55)))])
                  /- R12 -/ (.ops [.it (.one (.mov 56 (.r 0))),
      .it (.one (.nilc 57 (.r 56))),
      .it (.one (.fad 58 (.r 57) 1)),
      .it (.one (.load 59 (.r 58) 1 false)),
      .it (.one (.mov 60 (.r 8))),
      .it (.one (.mov 61 (.r 11))),
      .it (.one (.idx 62 (.r 59) (.r 60) 1)),
      .it (.one (.store (.r 62) (.r 61) 1))])))))))
            /- R13 -/ (.ops [.it (.one (.bin 63 .add (.r 23) (.c (.int .i64 (1))))),
      .it (.one (.mov 23 (.r 63)))]))))))))
      (.seq
       /- R14 -/ (.ops [.it (.one (.mov 64 (.r 7))),
      .it (.one (.mov 6 (.r 64)))]) .ret)))))
theorem A35_ok : okFun Tryd.prog 35 65 2 A35 [.tmp 6] [] = true := by kernel_rfl
/-- (*dyehouse/bits.Set).Or$1 -/
def A36 : ACode :=
  (.seq
   /- R0 -/ (.ops [.it (.one (.mov 4 (.c (.int .u64 (0)))))])
   (.seq
    /- R1 -/ (.ops [.it (.one (.mov 5 (.r 0))),
      .it (.one (.mov 6 (.r 1))),
      .it (.one (.bin 7 .or (.r 5) (.r 6))),
      .it (.one (.mov 4 (.r 7)))]) .ret))
theorem A36_ok : okFun Tryd.prog 36 8 0 A36 [.tmp 4] [] = true := by kernel_rfl
/-- slices.Values[[]int,int]$1 -/
def A37 : ACode :=
  (.seq
   /- R0 -/ (.ops [.it (.one (.load 5 (.r 1) 1 false)),
      .it (.one (.len 6 (.r 5))),
      .it (.one (.mov 7 (.c (.int .i64 (0)))))])
   (.block 0
    (.loop (.pre (.mv [0, 5, 6, 7] [])
     (.seq
      /- R1 -/ (.ops [.it (.one (.bin 8 .lss (.r 7) (.r 6)))])
      (.seq
       (.cond (.r 8) .skip (.exit 0))
       (.seq
        (.block 1
         (.seq
          /- R2 -/ (.ops [.it (.one (.idx 9 (.r 5) (.r 7) 1)),
      .it (.one (.load 10 (.r 9) 1 false)),
      .it (.one (.mov 4 (.r 10)))])
          (.seq
           /- R3 -/ (.ops [.it (.one (.mov 11 (.r 0))),
      .it (.one (.mov 12 (.r 4))),
      .it (.one (.callf (some 13) (.dy (.r 11)) [(.r 12)])),
      .it (.one (.un 14 .not (.r 13)))])
           (.cond (.r 14) .ret .skip))))
        /- R4 -/ (.ops [.it (.one (.bin 15 .add (.r 7) (.c (.int .i64 (1))))),
      .it (.one (.mov 7 (.r 15)))]))))))))
theorem A37_ok : okFun Tryd.prog 37 16 0 A37 [] [] = true := by kernel_rfl
/-- math/bits.TrailingZeros64 -/
def A38 : ACode :=
  (.seq
   /- R0 -/ (.ops [.it (.one (.mov 2 (.c (.int .i64 (0)))))])
   (.seq
    (.seq
     /- R1 -/ (.ops [.it (.one (.mov 3 (.r 0))),
      .it (.one (.bin 4 .eql (.r 3) (.c (.int .u64 (0)))))])
     (.cond (.r 4)
      (.seq
       /- R2 -/ (.ops [.it (.one (.mov 2 (.c (.int .i64 (64)))))]) .ret) .skip))
    (.seq
     /- R3 -/ (.ops [.it (.one (.mov 5 (.r 0))),
      .it (.one (.mov 6 (.r 0))),
      .it (.one (.un 7 .neg (.r 6))),
      .it (.one (.bin 8 .and (.r 5) (.r 7))),
      .it (.one (.bin 9 .mul (.r 8) (.c (.int .u64 (285870213051353865))))),
      .it (.one (.bin 10 .shr (.r 9) (.c (.int .u64 (58))))),
      .it (.one (.aix 11 (.g 0) (.r 10) 1 64)),
      .it (.one (.load 12 (.r 11) 1 false)),
      .it (.one (.conv 13 .i64 (.r 12))),
      .it (.one (.mov 2 (.r 13)))]) .ret)))
theorem A38_ok : okFun Tryd.prog 38 14 0 A38 [.tmp 2] [] = true := by kernel_rfl
/-- slices.AppendSeq[[]int,int] -/
def A39 : ACode :=
  (.seq
   /- R0 -/ (.pre (.nil 0 2000 1) (.ops [.it (.one (.boxo 2 2 (.r 0))),
      .it (.one (.mov 4 (.c (.sl []))))]))
   (.seq
    (.seq
     /- R1 -/ (.ops [.it (.one (.mov 6 (.r 1)))])
     (.block 0
      (.rfunc [] [2, 2000] (.r 6) [7]
       /- R2 -/ (.ops [.it (.one (.mov 5 (.r 7)))])
       (.post
        (.block 1
         /- R3 -/ (.ops [.it (.one (.load 8 (.r 2) 1 false)),
      .it (.one (.mov 9 (.r 5))),
      .it (.one (.bslp 10 1 [(.r 9)])),
      .it (.one (.appd 11 (.r 8) (.r 10) 1 8)),
      .it (.one (.store (.r 2) (.r 11) 1))])) (.mv [] [(2, 2), (2000, 2000)])))))
    (.seq
     /- R4 -/ (.ops [.it (.one (.load 12 (.r 2) 1 false)),
      .it (.one (.mov 4 (.r 12)))]) .ret)))
theorem A39_ok : okFunK Tryd.prog 39 13 0 [2, 2000] A39 [.tmp 4] [2000] = true := by kernel_rfl
/-- (*dyehouse/bits.Set).And$1 -/
def A40 : ACode :=
  (.seq
   /- R0 -/ (.ops [.it (.one (.mov 4 (.c (.int .u64 (0)))))])
   (.seq
    /- R1 -/ (.ops [.it (.one (.mov 5 (.r 0))),
      .it (.one (.mov 6 (.r 1))),
      .it (.one (.bin 7 .and (.r 5) (.r 6))),
      .it (.one (.mov 4 (.r 7)))]) .ret))
theorem A40_ok : okFun Tryd.prog 40 8 0 A40 [.tmp 4] [] = true := by kernel_rfl
/-- (*dyehouse/bits.Set).Minus$1 -/
def A41 : ACode :=
  (.seq
   /- R0 -/ (.ops [.it (.one (.mov 4 (.c (.int .u64 (0)))))])
   (.seq
    /- R1 -/ (.ops [.it (.one (.mov 5 (.r 0))),
      .it (.one (.mov 6 (.r 1))),
      .it (.one (.bin 7 .andNot (.r 5) (.r 6))),
      .it (.one (.mov 4 (.r 7)))]) .ret))
theorem A41_ok : okFun Tryd.prog 41 8 0 A41 [.tmp 4] [] = true := by kernel_rfl
/-- (*dyehouse/bits.Set).mask -/
def A42 : ACode :=
  (.seq
   /- R0 -/ (.ops [.it (.one (.mov 4 (.c (.int .u64 (0)))))])
   (.seq
    (.seq
     /- R1 -/ (.ops [.it (.one (.mov 6 (.r 0))),
      .it (.one (.nilc 7 (.r 6))),
      .it (.one (.fad 8 (.r 7) 0)),
      .it (.one (.load 9 (.r 8) 1 false)),
      .it (.one (.mov 10 (.r 1))),
      .it (.one (.bin 11 .mul (.r 10) (.c (.int .i64 (64))))),
      .it (.one (.bin 12 .sub (.r 9) (.r 11))),
      .it (.one (.mov 5 (.r 12)))])
     (.seq
      /- R2 -/ (.ops [.it (.one (.mov 13 (.r 5))),
      .it (.one (.bin 14 .lss (.r 13) (.c (.int .i64 (64)))))])
      (.cond (.r 14)
       (.seq
        /- R3 -/ (.ops [.it (.one (.mov 15 (.r 5))),
      .it (.one (.bin 16 .shl (.c (.int .u64 (1))) (.r 15))),
      .it (.one (.bin 17 .sub (.r 16) (.c (.int .u64 (1))))),
      .it (.one (.mov 4 (.r 17)))]) .ret) .skip)))
    (.seq
     /- R4 -/ (.ops [.it (.one (.mov 4 (.c (.int .u64 (18446744073709551615)))))]) .ret)))
theorem A42_ok : okFun Tryd.prog 42 18 0 A42 [.tmp 4] [] = true := by kernel_rfl
end Go.Proofs.YtmecfeocmlbjfaaDoor.X
