/- Abstract values, and how they stand for what lies in memory. -/
import Derived.WalkKit
namespace Go.AM
open Go
set_option linter.unusedVariables false

inductive AV where
  | int (k : IntKind) (n : Int)
  | bool (b : Bool)
  | str (s : ByteArray)
  | nilp | nilf | nili
  | sl (xs : List (List AV))
  | fl (xs : List (List AV))
  | rp (cells : List AV)
  | ref (k off : Nat)
  | hs (k ver off len : Nat)
  | er (k ver i off : Nat)
  | fn (f : Nat) (caps : List AV)
  | ifc (t : Nat) (x : AV)
  | agg (cells : List AV)
  | tup (xs : List AV)
  | mag (cells : List AV)
  | mif (t : Nat) (x : AV)
  | anyb
  | yl (l : Nat)
  | dead

inductive Ob where
  | box (cells : List AV)
  | pbox (cells : List AV)
  | arr (ver esz : Nat) (xs : List (List AV))

/-- What is known of memory that no one writes any more: block and place, the value there. -/
abbrev View := Nat → Nat → Option Value
def View.le (V V' : View) : Prop := ∀ b o v, V b o = some v → V' b o = some v
theorem View.le_refl (V : View) : V.le V := fun _ _ _ h => h
theorem View.le_trans {A B C : View} (h : A.le B) (k : B.le C) : A.le C := fun b o v e => k b o v (h b o v e)

mutual
/-- A value without anything that may be written. -/
def RepP (V : View) : AV → Value → Prop
  | .int k n, v => v = .int k n
  | .bool b, v => v = .bool b
  | .str s, v => v = .string s
  | .nilp, v => v = .pointer none
  | .nilf, v => v = .nilFunc
  | .nili, v => v = .nilIface
  | .sl xs, v => ∃ a cap, v = .slice a xs.length cap ∧ xs.length ≤ cap ∧ (xs = [] ∨ ∃ b o esz, a = some ⟨b, o, none⟩ ∧ RepR V (V b) esz o xs)
  | .fl xs, v => ∃ a, v = .slice a xs.length xs.length ∧ (xs = [] ∨ ∃ b o esz, a = some ⟨b, o, none⟩ ∧ RepR V (V b) esz o xs)
  | .rp cs, v => ∃ b o, v = .pointer (some ⟨b, o, none⟩) ∧ RepC V (V b) o cs
  | .ref _ _, _ => False
  | .hs _ _ _ _, _ => False
  | .er _ _ _ _, _ => False
  | .fn f caps, v => ∃ cv : List Value, v = .func (.func f) #[] cv.toArray ∧ RepPL V caps cv
  | .ifc t x, v => ∃ u, v = .iface t u ∧ RepP V x u
  | .agg cs, v => ∃ us : List Value, v = .agg us.toArray ∧ RepPL V cs us
  | .tup xs, v => ∃ us : List Value, v = .tuple us.toArray ∧ RepPL V xs us
  | .mag _, _ => False
  | .mif _ _, _ => False
  | .anyb, v => ∃ b, v = .bool b
  | .yl l, v => v = .func (.yield l) #[] #[]
  | .dead, _ => False
def RepPL (V : View) : List AV → List Value → Prop
  | [], vs => vs = []
  | x :: xs, vs => ∃ v r, vs = v :: r ∧ RepP V x v ∧ RepPL V xs r
/-- Cells in a row, of which L tells what they hold. -/
def RepC (V : View) (L : Nat → Option Value) (o : Nat) : List AV → Prop
  | [] => True
  | x :: r => (∃ v, L o = some v ∧ RepP V x v ∧ v.oneCell' = true) ∧ RepC V L (o + 1) r
def RepR (V : View) (L : Nat → Option Value) (esz o : Nat) : List (List AV) → Prop
  | [] => True
  | c :: r => c.length = esz ∧ RepC V L o c ∧ RepR V L esz (o + esz) r
end

/-- What is known of an object's shape, and where it lies: a box in block b; rows of esz cells, n of them, from place o on in block b, which has tot cells (or nowhere: nothing was laid yet). -/
inductive Sh where
  | box (b : Nat)
  | arr (ver esz n : Nat) (loc : Option (Nat × Nat × Nat))
abbrev Ctx := Nat → Option Sh
def Sh.block : Sh → Option Nat
  | .box b => some b
  | .arr _ _ _ loc => loc.map (·.1)
def Sh.le : Sh → Sh → Prop
  | .box b, .box b' => b = b'
  | .arr v e n l, .arr v' e' n' l' => e = e' ∧ v ≤ v' ∧ (v = v' → n = n' ∧ l = l')
  | _, _ => False
theorem Sh.le_refl (s : Sh) : s.le s := by cases s <;> simp [Sh.le]
theorem Sh.le_trans {a b c : Sh} (h : a.le b) (k : b.le c) : a.le c := by
  cases a <;> cases b <;> cases c <;> simp only [Sh.le] at h k ⊢
  · exact h.trans k
  · refine ⟨h.1.trans k.1, Nat.le_trans h.2.1 k.2.1, fun e => ?_⟩
    subst e
    have e := Nat.le_antisymm h.2.1 k.2.1
    obtain ⟨p, q⟩ := h.2.2 e
    obtain ⟨p', q'⟩ := k.2.2 e.symm
    exact ⟨p.trans p', q.trans q'⟩
def Ctx.le (G G' : Ctx) : Prop := ∀ k s, G k = some s → ∃ s', G' k = some s' ∧ s.le s'
theorem Ctx.le_refl (G : Ctx) : G.le G := fun k s h => ⟨s, h, s.le_refl⟩
theorem Ctx.le_trans {A B C : Ctx} (h : A.le B) (k : B.le C) : A.le C := fun i s e => by
  obtain ⟨s', e', p⟩ := h i s e
  obtain ⟨s'', e'', q⟩ := k i s' e'
  exact ⟨s'', e'', Sh.le_trans p q⟩

/-- An array's slice value. -/
def HsOk (esz n : Nat) (loc : Option (Nat × Nat × Nat)) (off len : Nat) (v : Value) : Prop :=
  ∃ a cap, v = .slice a len cap ∧ len ≤ cap ∧ off + len ≤ n ∧ n ≤ off + cap ∧
    match loc with
    | none => a = none ∧ cap = 0 ∧ n = 0
    | some (b, o, tot) => (cap = 0 ∨ a = some ⟨b, o + off * esz, none⟩) ∧ o + (off + cap) * esz ≤ tot
def ErOk (esz n : Nat) (loc : Option (Nat × Nat × Nat)) (i off : Nat) (v : Value) : Prop :=
  ∃ b o tot, loc = some (b, o, tot) ∧ i < n ∧ v = .pointer (some ⟨b, o + i * esz + off, none⟩)

mutual
def Rep (V : View) (G : Ctx) : AV → Value → Prop
  | .ref k off, v => ∃ b, G k = some (.box b) ∧ v = .pointer (some ⟨b, off, none⟩)
  | .hs k ver off len, v => (∃ a cap, v = .slice a len cap) ∧ ∃ ver' esz n loc, G k = some (.arr ver' esz n loc) ∧ ver ≤ ver' ∧ (ver = ver' → HsOk esz n loc off len v)
  | .er k ver i off, v => (∃ b o, v = .pointer (some ⟨b, o, none⟩)) ∧ ∃ ver' esz n loc, G k = some (.arr ver' esz n loc) ∧ ver ≤ ver' ∧ (ver = ver' → ErOk esz n loc i off v)
  | .fn f caps, v => ∃ cv : List Value, v = .func (.func f) #[] cv.toArray ∧ RepL V G caps cv
  | .tup xs, v => ∃ us : List Value, v = .tuple us.toArray ∧ RepL V G xs us
  | .mag xs, v => ∃ us : List Value, v = .agg us.toArray ∧ RepL V G xs us
  | .mif t x, v => ∃ u, v = .iface t u ∧ Rep V G x u
  | .dead, _ => True
  | .int k n, v => RepP V (.int k n) v
  | .bool b, v => RepP V (.bool b) v
  | .str s, v => RepP V (.str s) v
  | .nilp, v => RepP V .nilp v
  | .nilf, v => RepP V .nilf v
  | .nili, v => RepP V .nili v
  | .sl xs, v => RepP V (.sl xs) v
  | .fl xs, v => RepP V (.fl xs) v
  | .rp cs, v => RepP V (.rp cs) v
  | .ifc t x, v => RepP V (.ifc t x) v
  | .agg cs, v => RepP V (.agg cs) v
  | .anyb, v => RepP V .anyb v
  | .yl l, v => RepP V (.yl l) v
def RepL (V : View) (G : Ctx) : List AV → List Value → Prop
  | [], vs => vs = []
  | x :: xs, vs => ∃ v r, vs = v :: r ∧ Rep V G x v ∧ RepL V G xs r
end

mutual
theorem RepP.mono {V V' : View} (h : V.le V') : ∀ {x : AV} {v : Value}, RepP V x v → RepP V' x v := by
  intro x v hx
  cases x <;> simp only [RepP] at hx ⊢ <;> try exact hx
  case sl xs =>
    obtain ⟨a, cap, e, l, q⟩ := hx
    exact ⟨a, cap, e, l, q.imp id fun ⟨b, o, esz, e, r⟩ => ⟨b, o, esz, e, RepR.mono h (h b) r⟩⟩
  case fl xs =>
    obtain ⟨a, e, q⟩ := hx
    exact ⟨a, e, q.imp id fun ⟨b, o, esz, e, r⟩ => ⟨b, o, esz, e, RepR.mono h (h b) r⟩⟩
  case rp cs =>
    obtain ⟨b, o, e, r⟩ := hx
    exact ⟨b, o, e, RepC.mono h (h b) r⟩
  case fn f caps =>
    obtain ⟨cv, e, r⟩ := hx
    exact ⟨cv, e, RepPL.mono h r⟩
  case ifc t x =>
    obtain ⟨u, e, r⟩ := hx
    exact ⟨u, e, RepP.mono h r⟩
  case agg cs =>
    obtain ⟨cv, e, r⟩ := hx
    exact ⟨cv, e, RepPL.mono h r⟩
  case tup cs =>
    obtain ⟨cv, e, r⟩ := hx
    exact ⟨cv, e, RepPL.mono h r⟩
theorem RepPL.mono {V V' : View} (h : V.le V') : ∀ {x : List AV} {v : List Value}, RepPL V x v → RepPL V' x v := by
  intro x v hx
  cases x with
  | nil => simpa only [RepPL] using hx
  | cons x xs =>
    simp only [RepPL] at hx ⊢
    obtain ⟨u, r, e, p, q⟩ := hx
    exact ⟨u, r, e, RepP.mono h p, RepPL.mono h q⟩
theorem RepC.mono {V V' : View} (h : V.le V') {L L' : Nat → Option Value} (hL : ∀ i v, L i = some v → L' i = some v) : ∀ {x : List AV} {o : Nat}, RepC V L o x → RepC V' L' o x := by
  intro x o hx
  cases x with
  | nil => simp only [RepC]
  | cons x xs =>
    simp only [RepC] at hx ⊢
    obtain ⟨⟨u, e, p, l⟩, q⟩ := hx
    exact ⟨⟨u, hL _ _ e, RepP.mono h p, l⟩, RepC.mono h hL q⟩
theorem RepR.mono {V V' : View} (h : V.le V') {L L' : Nat → Option Value} (hL : ∀ i v, L i = some v → L' i = some v) : ∀ {x : List (List AV)} {esz o : Nat}, RepR V L esz o x → RepR V' L' esz o x := by
  intro x esz o hx
  cases x with
  | nil => simp only [RepR]
  | cons x xs =>
    simp only [RepR] at hx ⊢
    exact ⟨hx.1, RepC.mono h hL hx.2.1, RepR.mono h hL hx.2.2⟩
end

mutual
theorem Rep.mono {V V' : View} {G G' : Ctx} (h : V.le V') (hG : G.le G') : ∀ {x : AV} {v : Value}, Rep V G x v → Rep V' G' x v := by
  intro x v hx
  cases x <;> simp only [Rep] at hx ⊢ <;> try exact RepP.mono h hx
  case ref k off =>
    obtain ⟨b, e, q⟩ := hx
    obtain ⟨s', e', p⟩ := hG _ _ e
    cases s' with
    | box b' => exact ⟨b', e', by rw [q, show b = b' from p]⟩
    | arr => exact p.elim
  case hs k ver off len =>
    obtain ⟨h0, ver', esz, n, loc, e, l, q⟩ := hx
    refine ⟨h0, ?_⟩
    obtain ⟨s', e', p⟩ := hG _ _ e
    cases s' with
    | box b' => exact p.elim
    | arr v2 e2 n2 l2 =>
      obtain ⟨p1, p2, p3⟩ := p
      subst p1
      refine ⟨v2, _, n2, l2, e', Nat.le_trans l p2, fun e => ?_⟩
      subst e
      have e := Nat.le_antisymm l p2
      obtain ⟨rfl, rfl⟩ := p3 e.symm
      exact q e
  case er k ver off len =>
    obtain ⟨h0, ver', esz, n, loc, e, l, q⟩ := hx
    refine ⟨h0, ?_⟩
    obtain ⟨s', e', p⟩ := hG _ _ e
    cases s' with
    | box b' => exact p.elim
    | arr v2 e2 n2 l2 =>
      obtain ⟨p1, p2, p3⟩ := p
      subst p1
      refine ⟨v2, _, n2, l2, e', Nat.le_trans l p2, fun e => ?_⟩
      subst e
      have e := Nat.le_antisymm l p2
      obtain ⟨rfl, rfl⟩ := p3 e.symm
      exact q e
  case fn f caps =>
    obtain ⟨cv, e, r⟩ := hx
    exact ⟨cv, e, RepL.mono h hG r⟩
  case tup cs =>
    obtain ⟨cv, e, r⟩ := hx
    exact ⟨cv, e, RepL.mono h hG r⟩
  case mag cs =>
    obtain ⟨cv, e, r⟩ := hx
    exact ⟨cv, e, RepL.mono h hG r⟩
  case mif t x =>
    obtain ⟨u, e, r⟩ := hx
    exact ⟨u, e, Rep.mono h hG r⟩
theorem RepL.mono {V V' : View} {G G' : Ctx} (h : V.le V') (hG : G.le G') : ∀ {x : List AV} {v : List Value}, RepL V G x v → RepL V' G' x v := by
  intro x v hx
  cases x with
  | nil => simpa only [RepL] using hx
  | cons x xs =>
    simp only [RepL] at hx ⊢
    obtain ⟨u, r, e, p, q⟩ := hx
    exact ⟨u, r, e, Rep.mono h hG p, RepL.mono h hG q⟩
end
mutual
/-- Is there nothing in a value that may be written? -/
def isP : AV → Bool
  | .ref _ _ | .hs _ _ _ _ | .er _ _ _ _ | .mag _ | .mif _ _ | .dead => false
  | .fn _ caps => isPL caps
  | .tup xs => isPL xs
  | _ => true
def isPL : List AV → Bool
  | [] => true
  | x :: xs => isP x && isPL xs
end
mutual
theorem RepP.rep {V : View} (G : Ctx) : ∀ {x : AV} {v : Value}, RepP V x v → Rep V G x v := by
  intro x v hx
  cases x <;> simp only [Rep] <;> try exact hx
  case ref k off => simp only [RepP] at hx
  case hs => simp only [RepP] at hx
  case er => simp only [RepP] at hx
  case mag => simp only [RepP] at hx
  case mif => simp only [RepP] at hx
  case fn f caps =>
    simp only [RepP] at hx
    obtain ⟨cv, e, r⟩ := hx
    exact ⟨cv, e, RepPL.rep G r⟩
  case tup cs =>
    simp only [RepP] at hx
    obtain ⟨cv, e, r⟩ := hx
    exact ⟨cv, e, RepPL.rep G r⟩
theorem RepPL.rep {V : View} (G : Ctx) : ∀ {x : List AV} {v : List Value}, RepPL V x v → RepL V G x v := by
  intro x v hx
  cases x with
  | nil => simpa only [RepL, RepPL] using hx
  | cons x xs =>
    simp only [RepPL] at hx
    simp only [RepL]
    obtain ⟨u, r, e, p, q⟩ := hx
    exact ⟨u, r, e, RepP.rep G p, RepPL.rep G q⟩
end
mutual
theorem Rep.pure {V : View} {G : Ctx} : ∀ {x : AV} {v : Value}, isP x = true → Rep V G x v → RepP V x v := by
  intro x v hp hx
  cases x <;> simp only [Rep] at hx <;> first | exact hx | (simp [isP] at hp; done) | skip
  case fn f caps =>
    simp only [isP] at hp
    obtain ⟨cv, e, r⟩ := hx
    simp only [RepP]
    exact ⟨cv, e, RepL.pure hp r⟩
  case tup cs =>
    simp only [isP] at hp
    obtain ⟨cv, e, r⟩ := hx
    simp only [RepP]
    exact ⟨cv, e, RepL.pure hp r⟩
theorem RepL.pure {V : View} {G : Ctx} : ∀ {x : List AV} {v : List Value}, isPL x = true → RepL V G x v → RepPL V x v := by
  intro x v hp hx
  cases x with
  | nil => simpa only [RepL, RepPL] using hx
  | cons x xs =>
    simp only [isPL, Bool.and_eq_true] at hp
    simp only [RepL] at hx
    simp only [RepPL]
    obtain ⟨u, r, e, p, q⟩ := hx
    exact ⟨u, r, e, Rep.pure hp.1 p, RepL.pure hp.2 q⟩
end
end Go.AM
