/- Abstract values, and how they stand for what lies in memory. -/
import Derived.WalkKit
import Derived.Laws.CopyRow
namespace Go.AM
open Go
set_option linter.unusedVariables false
inductive AV where
 | int (k : IntKind) (n : Int)
 | bool (b : Bool)
 | str (s : ByteArray)
 | nilp | nilf | nili
 | sl (xs : List (List AV))
 | fl (xs : List (List AV))
 | rp (cells : List AV)
 | ref (k off : Nat)
 | hs (k ver off len : Nat)
 | er (k ver i off : Nat)
 | fn (f : Nat) (caps : List AV)
 | ifc (t : Nat) (x : AV)
 | agg (cells : List AV)
 | tup (xs : List AV)
 | mag (cells : List AV)
 | mif (t : Nat) (x : AV)
 | anyb
 | yl (l : Nat)
 | mfn (f : Nat) (bs : List AV)
 | bs (k off len : Nat)
 | dead
inductive Ob where
 | box (cells : List AV)
 | pbox (cells : List AV)
 | arr (ver esz : Nat) (xs : List (List AV))
 | rarr (ver : Nat) (cs : List AV)
/-- What is known of memory that no one writes any more: block and place, the value there. -/
abbrev View := Nat → Nat → Option Value
def View.le (V V' : View) : Prop := ∀ b o v, V b o = some v → V' b o = some v
theorem View.le_refl (V : View) : V.le V := fun _ _ _ h => h
theorem View.le_trans {A B C : View} (h : A.le B) (k : B.le C) : A.le C := fun b o v e => k b o v (h b o v e)
mutual
/-- A value without anything that may be written. -/
def RepP (V : View) : AV → Value → Prop
 | .int k n, v => v = .int k n
 | .bool b, v => v = .bool b
 | .str s, v => v = .string s
 | .nilp, v => v = .pointer none
 | .nilf, v => v = .nilFunc
 | .nili, v => v = .nilIface
 | .sl xs, v => ∃ a cap, v = .slice a xs.length cap ∧ xs.length ≤ cap ∧ (xs = [] ∨ ∃ b o esz, a = some ⟨b, o, none⟩ ∧ RepR V (V b) esz o xs)
 | .fl xs, v => ∃ a, v = .slice a xs.length xs.length ∧ (xs = [] ∨ ∃ b o esz, a = some ⟨b, o, none⟩ ∧ RepR V (V b) esz o xs)
 | .rp cs, v => ∃ b o, v = .pointer (some ⟨b, o, none⟩) ∧ RepC V (V b) o cs
 | .ref _ _, _ => False
 | .hs _ _ _ _, _ => False
 | .er _ _ _ _, _ => False
 | .fn f caps, v => ∃ cv : List Value, v = .func (.func f) #[] cv.toArray ∧ RepPL V caps cv
 | .ifc t x, v => ∃ u, v = .iface t u ∧ RepP V x u
 | .agg cs, v => ∃ us : List Value, v = .agg us.toArray ∧ RepPL V cs us
 | .tup xs, v => ∃ us : List Value, v = .tuple us.toArray ∧ RepPL V xs us
 | .mag _, _ => False
 | .mif _ _, _ => False
 | .anyb, v => ∃ b, v = .bool b
 | .yl l, v => v = .slice none 0 0
 | .mfn f bs, v => ∃ us : List Value, v = .func (.func f) us.toArray #[] ∧ RepPL V bs us
 | .bs _ _ _, _ => False
 | .dead, _ => False
def RepPL (V : View) : List AV → List Value → Prop
 | [], vs => vs = []
 | x :: xs, vs => ∃ v r, vs = v :: r ∧ RepP V x v ∧ RepPL V xs r
/-- Cells in a row, of which L tells what they hold. -/
def RepC (V : View) (L : Nat → Option Value) (o : Nat) : List AV → Prop
 | [] => True
 | x :: r => (∃ v, L o = some v ∧ RepP V x v ∧ v.oneCell' = true) ∧ RepC V L (o + 1) r
def RepR (V : View) (L : Nat → Option Value) (esz o : Nat) : List (List AV) → Prop
 | [] => True
 | c :: r => c.length = esz ∧ RepC V L o c ∧ RepR V L esz (o + esz) r
end
/-- What is known of an object's shape, and where it lies: a box in block b; rows of esz cells, n of them, from place o on in block b, which has tot cells (or nowhere: nothing was laid yet). -/
inductive Sh where
 | box (b : Nat)
 | arr (ver esz n : Nat) (loc : Option (Nat × Nat × Nat))
abbrev Ctx := Nat → Option Sh
def Sh.block : Sh → Option Nat
 | .box b => some b
 | .arr _ _ _ loc => loc.map (·.1)
def Sh.le : Sh → Sh → Prop
 | .box b, .box b' => b = b'
 | .arr v e n l, .arr v' e' n' l' => e = e' ∧ v ≤ v' ∧ (v = v' → n = n' ∧ l = l')
 | _, _ => False
theorem Sh.le_refl (s : Sh) : s.le s := by cases s <;> simp [Sh.le]
theorem Sh.le_trans {a b c : Sh} (h : a.le b) (k : b.le c) : a.le c := by
 cases a <;> cases b <;> cases c <;> simp only [Sh.le] at h k ⊢
 ·exact h.trans k
 ·refine ⟨h.1.trans k.1, Nat.le_trans h.2.1 k.2.1, fun e => ?_⟩
  subst e
  have e := Nat.le_antisymm h.2.1 k.2.1
  obtain ⟨p, q⟩ := h.2.2 e
  obtain ⟨p', q'⟩ := k.2.2 e.symm
  exact ⟨p.trans p', q.trans q'⟩
def Ctx.le (G G' : Ctx) : Prop := ∀ k s, G k = some s → ∃ s', G' k = some s' ∧ s.le s'
theorem Ctx.le_refl (G : Ctx) : G.le G := fun k s h => ⟨s, h, s.le_refl⟩
theorem Ctx.le_trans {A B C : Ctx} (h : A.le B) (k : B.le C) : A.le C := fun i s e => by
 obtain ⟨s', e', p⟩ := h i s e
 obtain ⟨s'', e'', q⟩ := k i s' e'
 exact ⟨s'', e'', Sh.le_trans p q⟩
/-- An array's slice value. -/
def HsOk (esz n : Nat) (loc : Option (Nat × Nat × Nat)) (off len : Nat) (v : Value) : Prop :=
 ∃ a cap, v = .slice a len cap ∧ len ≤ cap ∧ off + len ≤ n ∧ n ≤ off + cap ∧
  match loc with
  | none => a = none ∧ cap = 0 ∧ n = 0
  | some (b, o, tot) => (cap = 0 ∨ a = some ⟨b, o + off * esz, none⟩) ∧ o + (off + cap) * esz ≤ tot
def ErOk (esz n : Nat) (loc : Option (Nat × Nat × Nat)) (i off : Nat) (v : Value) : Prop :=
 ∃ b o tot, loc = some (b, o, tot) ∧ i < n ∧ v = .pointer (some ⟨b, o + i * esz + off, none⟩)
mutual
def Rep (V : View) (G : Ctx) : AV → Value → Prop
 | .ref k off, v => ∃ b, G k = some (.box b) ∧ v = .pointer (some ⟨b, off, none⟩)
 | .hs k ver off len, v => (∃ a cap, v = .slice a len cap) ∧ ∃ ver' esz n loc, G k = some (.arr ver' esz n loc) ∧ ver ≤ ver' ∧ (ver = ver' → HsOk esz n loc off len v)
 | .er k ver i off, v => (∃ b o, v = .pointer (some ⟨b, o, none⟩)) ∧ ∃ ver' esz n loc, G k = some (.arr ver' esz n loc) ∧ ver ≤ ver' ∧ (ver = ver' → ErOk esz n loc i off v)
 | .fn f caps, v => ∃ cv : List Value, v = .func (.func f) #[] cv.toArray ∧ RepL V G caps cv
 | .tup xs, v => ∃ us : List Value, v = .tuple us.toArray ∧ RepL V G xs us
 | .mag xs, v => ∃ us : List Value, v = .agg us.toArray ∧ RepL V G xs us
 | .mif t x, v => ∃ u, v = .iface t u ∧ Rep V G x u
 | .dead, _ => True
 | .int k n, v => RepP V (.int k n) v
 | .bool b, v => RepP V (.bool b) v
 | .str s, v => RepP V (.str s) v
 | .nilp, v => RepP V .nilp v
 | .nilf, v => RepP V .nilf v
 | .nili, v => RepP V .nili v
 | .sl xs, v => RepP V (.sl xs) v
 | .fl xs, v => RepP V (.fl xs) v
 | .rp cs, v => RepP V (.rp cs) v
 | .ifc t x, v => RepP V (.ifc t x) v
 | .agg cs, v => RepP V (.agg cs) v
 | .anyb, v => RepP V .anyb v
 | .yl l, v => RepP V (.yl l) v
 | .mfn f bs, v => ∃ us : List Value, v = .func (.func f) us.toArray #[] ∧ RepL V G bs us
 | .bs k off len, v => ∃ b cap, G k = some (.box b) ∧ v = .slice (some ⟨b, off, none⟩) len cap ∧ len ≤ cap
def RepL (V : View) (G : Ctx) : List AV → List Value → Prop
 | [], vs => vs = []
 | x :: xs, vs => ∃ v r, vs = v :: r ∧ Rep V G x v ∧ RepL V G xs r
end
mutual
theorem RepP.mono {V V' : View} (h : V.le V') : ∀ {x : AV} {v : Value}, RepP V x v → RepP V' x v := by
 intro x v hx
 cases x <;> simp only [RepP] at hx ⊢ <;> try exact hx
 case sl xs =>
  obtain ⟨a, cap, e, l, q⟩ := hx
  exact ⟨a, cap, e, l, q.imp id fun ⟨b, o, esz, e, r⟩ => ⟨b, o, esz, e, RepR.mono h (h b) r⟩⟩
 case fl xs =>
  obtain ⟨a, e, q⟩ := hx
  exact ⟨a, e, q.imp id fun ⟨b, o, esz, e, r⟩ => ⟨b, o, esz, e, RepR.mono h (h b) r⟩⟩
 case rp cs =>
  obtain ⟨b, o, e, r⟩ := hx
  exact ⟨b, o, e, RepC.mono h (h b) r⟩
 case fn f caps =>
  obtain ⟨cv, e, r⟩ := hx
  exact ⟨cv, e, RepPL.mono h r⟩
 case ifc t x =>
  obtain ⟨u, e, r⟩ := hx
  exact ⟨u, e, RepP.mono h r⟩
 case agg cs =>
  obtain ⟨cv, e, r⟩ := hx
  exact ⟨cv, e, RepPL.mono h r⟩
 case mfn f cs =>
  obtain ⟨cv, e, r⟩ := hx
  exact ⟨cv, e, RepPL.mono h r⟩
 case tup cs =>
  obtain ⟨cv, e, r⟩ := hx
  exact ⟨cv, e, RepPL.mono h r⟩
theorem RepPL.mono {V V' : View} (h : V.le V') : ∀ {x : List AV} {v : List Value}, RepPL V x v → RepPL V' x v := by
 intro x v hx
 cases x with
 | nil => simpa only [RepPL] using hx
 | cons x xs =>
  simp only [RepPL] at hx ⊢
  obtain ⟨u, r, e, p, q⟩ := hx
  exact ⟨u, r, e, RepP.mono h p, RepPL.mono h q⟩
theorem RepC.mono {V V' : View} (h : V.le V') {L L' : Nat → Option Value} (hL : ∀ i v, L i = some v → L' i = some v) : ∀ {x : List AV} {o : Nat}, RepC V L o x → RepC V' L' o x := by
 intro x o hx
 cases x with
 | nil => simp only [RepC]
 | cons x xs =>
  simp only [RepC] at hx ⊢
  obtain ⟨⟨u, e, p, l⟩, q⟩ := hx
  exact ⟨⟨u, hL _ _ e, RepP.mono h p, l⟩, RepC.mono h hL q⟩
theorem RepR.mono {V V' : View} (h : V.le V') {L L' : Nat → Option Value} (hL : ∀ i v, L i = some v → L' i = some v) : ∀ {x : List (List AV)} {esz o : Nat}, RepR V L esz o x → RepR V' L' esz o x := by
 intro x esz o hx
 cases x with
 | nil => simp only [RepR]
 | cons x xs =>
  simp only [RepR] at hx ⊢
  exact ⟨hx.1, RepC.mono h hL hx.2.1, RepR.mono h hL hx.2.2⟩
end
mutual
theorem Rep.mono {V V' : View} {G G' : Ctx} (h : V.le V') (hG : G.le G') : ∀ {x : AV} {v : Value}, Rep V G x v → Rep V' G' x v := by
 intro x v hx
 cases x <;> simp only [Rep] at hx ⊢ <;> try exact RepP.mono h hx
 case ref k off =>
  obtain ⟨b, e, q⟩ := hx
  obtain ⟨s', e', p⟩ := hG _ _ e
  cases s' with
  | box b' => exact ⟨b', e', by rw [q, show b = b' from p]⟩
  | arr => exact p.elim
 case bs k off len =>
  obtain ⟨b, cap, e, q⟩ := hx
  obtain ⟨s', e', p⟩ := hG _ _ e
  cases s' with
  | box b' => exact ⟨b', cap, e', by rw [← show b = b' from p]; exact q⟩
  | arr => exact p.elim
 case hs k ver off len =>
  obtain ⟨h0, ver', esz, n, loc, e, l, q⟩ := hx
  refine ⟨h0, ?_⟩
  obtain ⟨s', e', p⟩ := hG _ _ e
  cases s' with
  | box b' => exact p.elim
  | arr v2 e2 n2 l2 =>
   obtain ⟨p1, p2, p3⟩ := p
   subst p1
   refine ⟨v2, _, n2, l2, e', Nat.le_trans l p2, fun e => ?_⟩
   subst e
   have e := Nat.le_antisymm l p2
   obtain ⟨rfl, rfl⟩ := p3 e.symm
   exact q e
 case er k ver off len =>
  obtain ⟨h0, ver', esz, n, loc, e, l, q⟩ := hx
  refine ⟨h0, ?_⟩
  obtain ⟨s', e', p⟩ := hG _ _ e
  cases s' with
  | box b' => exact p.elim
  | arr v2 e2 n2 l2 =>
   obtain ⟨p1, p2, p3⟩ := p
   subst p1
   refine ⟨v2, _, n2, l2, e', Nat.le_trans l p2, fun e => ?_⟩
   subst e
   have e := Nat.le_antisymm l p2
   obtain ⟨rfl, rfl⟩ := p3 e.symm
   exact q e
 case fn f caps =>
  obtain ⟨cv, e, r⟩ := hx
  exact ⟨cv, e, RepL.mono h hG r⟩
 case mfn f caps =>
  obtain ⟨cv, e, r⟩ := hx
  exact ⟨cv, e, RepL.mono h hG r⟩
 case tup cs =>
  obtain ⟨cv, e, r⟩ := hx
  exact ⟨cv, e, RepL.mono h hG r⟩
 case mag cs =>
  obtain ⟨cv, e, r⟩ := hx
  exact ⟨cv, e, RepL.mono h hG r⟩
 case mif t x =>
  obtain ⟨u, e, r⟩ := hx
  exact ⟨u, e, Rep.mono h hG r⟩
theorem RepL.mono {V V' : View} {G G' : Ctx} (h : V.le V') (hG : G.le G') : ∀ {x : List AV} {v : List Value}, RepL V G x v → RepL V' G' x v := by
 intro x v hx
 cases x with
 | nil => simpa only [RepL] using hx
 | cons x xs =>
  simp only [RepL] at hx ⊢
  obtain ⟨u, r, e, p, q⟩ := hx
  exact ⟨u, r, e, Rep.mono h hG p, RepL.mono h hG q⟩
end
mutual
/-- Is there nothing in a value that may be written? -/
def isP : AV → Bool
 | .ref _ _ | .hs _ _ _ _ | .er _ _ _ _ | .bs _ _ _ | .mag _ | .mif _ _ | .dead => false
 | .fn _ caps => isPL caps
 | .mfn _ bs => isPL bs
 | .tup xs => isPL xs
 | _ => true
def isPL : List AV → Bool
 | [] => true
 | x :: xs => isP x && isPL xs
end
mutual
theorem RepP.rep {V : View} (G : Ctx) : ∀ {x : AV} {v : Value}, RepP V x v → Rep V G x v := by
 intro x v hx
 cases x <;> simp only [Rep] <;> try exact hx
 case ref k off => simp only [RepP] at hx
 case hs => simp only [RepP] at hx
 case bs => simp only [RepP] at hx
 case er => simp only [RepP] at hx
 case mag => simp only [RepP] at hx
 case mif => simp only [RepP] at hx
 case fn f caps =>
  simp only [RepP] at hx
  obtain ⟨cv, e, r⟩ := hx
  exact ⟨cv, e, RepPL.rep G r⟩
 case mfn f caps =>
  simp only [RepP] at hx
  obtain ⟨cv, e, r⟩ := hx
  exact ⟨cv, e, RepPL.rep G r⟩
 case tup cs =>
  simp only [RepP] at hx
  obtain ⟨cv, e, r⟩ := hx
  exact ⟨cv, e, RepPL.rep G r⟩
theorem RepPL.rep {V : View} (G : Ctx) : ∀ {x : List AV} {v : List Value}, RepPL V x v → RepL V G x v := by
 intro x v hx
 cases x with
 | nil => simpa only [RepL, RepPL] using hx
 | cons x xs =>
  simp only [RepPL] at hx
  simp only [RepL]
  obtain ⟨u, r, e, p, q⟩ := hx
  exact ⟨u, r, e, RepP.rep G p, RepPL.rep G q⟩
end
mutual
theorem Rep.pure {V : View} {G : Ctx} : ∀ {x : AV} {v : Value}, isP x = true → Rep V G x v → RepP V x v := by
 intro x v hp hx
 cases x <;> simp only [Rep] at hx <;> first | exact hx | (simp [isP] at hp; done) | skip
 case fn f caps =>
  simp only [isP] at hp
  obtain ⟨cv, e, r⟩ := hx
  simp only [RepP]
  exact ⟨cv, e, RepL.pure hp r⟩
 case mfn f caps =>
  simp only [isP] at hp
  obtain ⟨cv, e, r⟩ := hx
  simp only [RepP]
  exact ⟨cv, e, RepL.pure hp r⟩
 case tup cs =>
  simp only [isP] at hp
  obtain ⟨cv, e, r⟩ := hx
  simp only [RepP]
  exact ⟨cv, e, RepL.pure hp r⟩
theorem RepL.pure {V : View} {G : Ctx} : ∀ {x : List AV} {v : List Value}, isPL x = true → RepL V G x v → RepPL V x v := by
 intro x v hp hx
 cases x with
 | nil => simpa only [RepL, RepPL] using hx
 | cons x xs =>
  simp only [isPL, Bool.and_eq_true] at hp
  simp only [RepL] at hx
  simp only [RepPL]
  obtain ⟨u, r, e, p, q⟩ := hx
  exact ⟨u, r, e, Rep.pure hp.1 p, RepL.pure hp.2 q⟩
end
/- Rows and cells: what a list of abstract values says of what lies in memory. -/
theorem RepPL.length {V : View} : ∀ {x : List AV} {v : List Value}, RepPL V x v → v.length = x.length
 | [], v, h => by simp only [RepPL] at h; subst h; rfl
 | x :: xs, v, h => by
  simp only [RepPL] at h
  obtain ⟨u, r, e, p, q⟩ := h
  rw [e, List.length_cons, List.length_cons, RepPL.length q]
theorem RepPL.get {V : View} : ∀ {x : List AV} {v : List Value} {i : Nat} {y : AV}, RepPL V x v → x[i]? = some y → ∃ u, v[i]? = some u ∧ RepP V y u
 | [], v, i, y, h, hi => by simp at hi
 | x :: xs, v, i, y, h, hi => by
  simp only [RepPL] at h
  obtain ⟨u, r, rfl, p, q⟩ := h
  cases i with
  | zero => simp at hi; subst hi; exact ⟨u, rfl, p⟩
  | succ i => exact RepPL.get (i := i) q (by simpa using hi)
theorem RepPL.append {V : View} : ∀ {x y : List AV} {v u : List Value}, RepPL V x v → RepPL V y u → RepPL V (x ++ y) (v ++ u)
 | [], y, v, u, h, h' => by simp only [RepPL] at h; subst h; exact h'
 | x :: xs, y, v, u, h, h' => by
  simp only [RepPL, List.cons_append] at h ⊢
  obtain ⟨w, r, rfl, p, q⟩ := h
  exact ⟨w, r ++ u, rfl, p, RepPL.append q h'⟩
theorem RepPL.drop {V : View} : ∀ {x : List AV} {v : List Value} (n : Nat), RepPL V x v → RepPL V (x.drop n) (v.drop n)
 | [], v, n, h => by simp only [RepPL] at h; subst h; simp [RepPL]
 | x :: xs, v, 0, h => h
 | x :: xs, v, n + 1, h => by
  simp only [RepPL] at h
  obtain ⟨u, r, rfl, p, q⟩ := h
  exact RepPL.drop n q
theorem RepPL.take {V : View} : ∀ {x : List AV} {v : List Value} (n : Nat), RepPL V x v → RepPL V (x.take n) (v.take n)
 | [], v, n, h => by simp only [RepPL] at h; subst h; simp [RepPL]
 | x :: xs, v, 0, h => by simp [RepPL]
 | x :: xs, v, n + 1, h => by
  simp only [RepPL] at h
  obtain ⟨u, r, rfl, p, q⟩ := h
  simp only [List.take_succ_cons, RepPL]
  exact ⟨u, _, rfl, p, RepPL.take n q⟩
theorem RepL.length {V : View} {G : Ctx} : ∀ {x : List AV} {v : List Value}, RepL V G x v → v.length = x.length
 | [], v, h => by simp only [RepL] at h; subst h; rfl
 | x :: xs, v, h => by
  simp only [RepL] at h
  obtain ⟨u, r, e, p, q⟩ := h
  rw [e, List.length_cons, List.length_cons, RepL.length q]
theorem RepL.get {V : View} {G : Ctx} : ∀ {x : List AV} {v : List Value} {i : Nat} {y : AV}, RepL V G x v → x[i]? = some y → ∃ u, v[i]? = some u ∧ Rep V G y u
 | [], v, i, y, h, hi => by simp at hi
 | x :: xs, v, i, y, h, hi => by
  simp only [RepL] at h
  obtain ⟨u, r, rfl, p, q⟩ := h
  cases i with
  | zero => simp at hi; subst hi; exact ⟨u, rfl, p⟩
  | succ i => exact RepL.get (i := i) q (by simpa using hi)
theorem RepL.append {V : View} {G : Ctx} : ∀ {x y : List AV} {v u : List Value}, RepL V G x v → RepL V G y u → RepL V G (x ++ y) (v ++ u)
 | [], y, v, u, h, h' => by simp only [RepL] at h; subst h; exact h'
 | x :: xs, y, v, u, h, h' => by
  simp only [RepL, List.cons_append] at h ⊢
  obtain ⟨w, r, rfl, p, q⟩ := h
  exact ⟨w, r ++ u, rfl, p, RepL.append q h'⟩
theorem RepL.set {V : View} {G : Ctx} : ∀ {x : List AV} {v : List Value} (i : Nat) {y : AV} {u : Value}, RepL V G x v → Rep V G y u → RepL V G (x.set i y) (v.set i u)
 | [], v, i, y, u, h, h' => by simp only [RepL] at h; subst h; simp [RepL]
 | x :: xs, v, 0, y, u, h, h' => by
  simp only [RepL] at h
  obtain ⟨w, r, rfl, p, q⟩ := h
  simp only [List.set_cons_zero, RepL]
  exact ⟨u, r, rfl, h', q⟩
 | x :: xs, v, i + 1, y, u, h, h' => by
  simp only [RepL] at h
  obtain ⟨w, r, rfl, p, q⟩ := h
  simp only [List.set_cons_succ, RepL]
  exact ⟨w, _, rfl, p, RepL.set i q h'⟩
theorem RepC.get {V : View} {L : Nat → Option Value} : ∀ {x : List AV} {o j : Nat} {y : AV}, RepC V L o x → x[j]? = some y → ∃ v, L (o + j) = some v ∧ RepP V y v ∧ v.oneCell' = true
 | [], o, j, y, h, hj => by simp at hj
 | x :: xs, o, j, y, h, hj => by
  simp only [RepC] at h
  cases j with
  | zero => simp at hj; subst hj; exact h.1
  | succ j =>
   have := RepC.get (j := j) h.2 (by simpa using hj)
   rwa [show o + 1 + j = o + (j + 1) by omega] at this
theorem RepC.drop {V : View} {L : Nat → Option Value} : ∀ {x : List AV} {o : Nat} (n : Nat), RepC V L o x → RepC V L (o + n) (x.drop n)
 | [], o, n, h => by simp [RepC]
 | x :: xs, o, 0, h => h
 | x :: xs, o, n + 1, h => by
  simp only [RepC] at h
  have := RepC.drop n h.2
  rwa [show o + 1 + n = o + (n + 1) by omega] at this
theorem RepC.take {V : View} {L : Nat → Option Value} : ∀ {x : List AV} {o : Nat} (n : Nat), RepC V L o x → RepC V L o (x.take n)
 | [], o, n, h => by simp [RepC]
 | x :: xs, o, 0, h => by simp [RepC]
 | x :: xs, o, n + 1, h => by
  simp only [List.take_succ_cons, RepC] at h ⊢
  exact ⟨h.1, RepC.take n h.2⟩
theorem RepC.append {V : View} {L : Nat → Option Value} : ∀ {x y : List AV} {o : Nat}, RepC V L o x → RepC V L (o + x.length) y → RepC V L o (x ++ y)
 | [], y, o, h, h' => by simpa using h'
 | x :: xs, y, o, h, h' => by
  simp only [List.cons_append, RepC] at h ⊢
  refine ⟨h.1, RepC.append h.2 ?_⟩
  rwa [show o + 1 + xs.length = o + (x :: xs).length by simp; omega]
/-- The values themselves. -/
theorem RepC.vals {V : View} {L : Nat → Option Value} : ∀ {x : List AV} {o : Nat}, RepC V L o x → ∃ us : List Value, RepPL V x us ∧ (∀ j u, us[j]? = some u → L (o + j) = some u ∧ u.oneCell' = true)
 | [], o, h => ⟨[], by simp [RepPL], fun j u hu => by simp at hu⟩
 | x :: xs, o, h => by
  simp only [RepC] at h
  obtain ⟨⟨v, e, p, l⟩, q⟩ := h
  obtain ⟨us, hp, hu⟩ := RepC.vals q
  refine ⟨v :: us, by simp only [RepPL]; exact ⟨v, us, rfl, p, hp⟩, fun j u hj => ?_⟩
  cases j with
  | zero => simp at hj; subst hj; exact ⟨e, l⟩
  | succ j =>
   have := hu j u (by simpa using hj)
   rwa [show o + 1 + j = o + (j + 1) by omega] at this
theorem RepC.of_vals {V : View} {L : Nat → Option Value} : ∀ {x : List AV} {us : List Value} {o : Nat}, RepPL V x us → (∀ j u, us[j]? = some u → L (o + j) = some u ∧ u.oneCell' = true) → RepC V L o x
 | [], us, o, h, hl => by simp [RepC]
 | x :: xs, us, o, h, hl => by
  simp only [RepPL] at h
  obtain ⟨u, r, rfl, p, q⟩ := h
  simp only [RepC]
  refine ⟨⟨u, (hl 0 u rfl).1, p, (hl 0 u rfl).2⟩, RepC.of_vals q fun j v hv => ?_⟩
  have := hl (j + 1) v (by simpa using hv)
  rwa [show o + (j + 1) = o + 1 + j by omega] at this
theorem RepC.local {V : View} {L L' : Nat → Option Value} : ∀ {x : List AV} {o : Nat}, RepC V L o x → (∀ j, o ≤ j → j < o + x.length → L' j = L j) → RepC V L' o x
 | [], o, h, hl => by simp [RepC]
 | x :: xs, o, h, hl => by
  simp only [RepC] at h ⊢
  obtain ⟨⟨v, e, p, l⟩, q⟩ := h
  refine ⟨⟨v, by rw [hl o (Nat.le_refl _) (by simp)]; exact e, p, l⟩, RepC.local q fun j h1 h2 => hl j (by omega) (by simp only [List.length_cons]; omega)⟩
theorem RepR.get {V : View} {L : Nat → Option Value} : ∀ {xs : List (List AV)} {esz o i : Nat} {c : List AV}, RepR V L esz o xs → xs[i]? = some c → c.length = esz ∧ RepC V L (o + i * esz) c
 | [], esz, o, i, c, h, hi => by simp at hi
 | x :: xs, esz, o, i, c, h, hi => by
  simp only [RepR] at h
  cases i with
  | zero => simp at hi; subst hi; simpa using ⟨h.1, h.2.1⟩
  | succ i =>
   have := RepR.get (i := i) h.2.2 (by simpa using hi)
   rwa [show o + esz + i * esz = o + (i + 1) * esz by rw [Nat.add_mul]; omega] at this
theorem RepR.of_get {V : View} {L : Nat → Option Value} : ∀ {xs : List (List AV)} {esz o : Nat}, (∀ i c, xs[i]? = some c → c.length = esz ∧ RepC V L (o + i * esz) c) → RepR V L esz o xs
 | [], esz, o, h => by simp [RepR]
 | x :: xs, esz, o, h => by
  simp only [RepR]
  have h0 := h 0 x rfl
  refine ⟨h0.1, by simpa using h0.2, RepR.of_get fun i c hi => ?_⟩
  have := h (i + 1) c (by simpa using hi)
  rwa [show o + (i + 1) * esz = o + esz + i * esz by rw [Nat.add_mul]; omega] at this
theorem RepR.drop {V : View} {L : Nat → Option Value} {xs : List (List AV)} {esz o : Nat} (n : Nat) (h : RepR V L esz o xs) : RepR V L esz (o + n * esz) (xs.drop n) := by
 refine RepR.of_get fun i c hi => ?_
 rw [List.getElem?_drop] at hi
 have := h.get hi
 rwa [show o + n * esz + i * esz = o + (n + i) * esz by rw [Nat.add_mul]; omega]
theorem RepR.take {V : View} {L : Nat → Option Value} {xs : List (List AV)} {esz o : Nat} (n : Nat) (h : RepR V L esz o xs) : RepR V L esz o (xs.take n) := by
 refine RepR.of_get fun i c hi => ?_
 rw [List.getElem?_take] at hi
 split at hi
 ·exact h.get hi
 ·cases hi
theorem RepR.append {V : View} {L : Nat → Option Value} {xs ys : List (List AV)} {esz o : Nat} (h : RepR V L esz o xs) (k : RepR V L esz (o + xs.length * esz) ys) : RepR V L esz o (xs ++ ys) := by
 refine RepR.of_get fun i c hi => ?_
 rcases Nat.lt_or_ge i xs.length with hl | hl
 ·rw [List.getElem?_append_left hl] at hi
  exact h.get hi
 ·rw [List.getElem?_append_right hl] at hi
  have := k.get hi
  rwa [show o + xs.length * esz + (i - xs.length) * esz = o + i * esz by rw [Nat.add_assoc, ← Nat.add_mul]; congr 2; omega] at this
theorem RepR.local {V : View} {L L' : Nat → Option Value} {xs : List (List AV)} {esz o : Nat} (h : RepR V L esz o xs) (hl : ∀ j, o ≤ j → j < o + xs.length * esz → L' j = L j) : RepR V L' esz o xs := by
 refine RepR.of_get fun i c hi => ?_
 obtain ⟨h1, h2⟩ := h.get hi
 have hlt : i < xs.length := (List.getElem?_eq_some_iff.1 hi).1
 refine ⟨h1, h2.local fun j h3 h4 => hl j (by omega) ?_⟩
 have : (i + 1) * esz ≤ xs.length * esz := Nat.mul_le_mul_right _ hlt
 rw [Nat.add_mul] at this
 omega
theorem RepC.rows1 {V : View} {L : Nat → Option Value} : ∀ {x : List AV} {o : Nat}, RepC V L o x → RepR V L 1 o (x.map fun c => [c])
 | [], o, h => by simp [RepR]
 | x :: xs, o, h => by
  simp only [RepC] at h
  simp only [List.map_cons, RepR, RepC]
  exact ⟨rfl, ⟨h.1, trivial⟩, RepC.rows1 h.2⟩
/-- The cells of a value. -/
def cellsOf : AV → List AV
 | .agg cs => cs
 | .mag cs => cs
 | x => [x]
theorem RepPL.single {V : View} {x : AV} {v : Value} (h : RepP V x v) : RepPL V [x] [v] := by
 simp only [RepPL]
 exact ⟨v, [], rfl, h, rfl⟩
theorem RepP.cells {V : View} {x : AV} {v : Value} (h : RepP V x v) : RepPL V (cellsOf x) v.cells.toList := by
 have h0 := RepPL.single h
 cases x <;> simp only [RepP] at h
 case agg cs =>
  obtain ⟨us, rfl, p⟩ := h
  simpa [cellsOf, Value.cells] using p
 all_goals first
  | exact h.elim
  | (subst h; exact h0)
  | skip
 case sl xs => obtain ⟨a, cap, rfl, q⟩ := h; exact h0
 case fl xs => obtain ⟨a, rfl, q⟩ := h; exact h0
 case rp xs => obtain ⟨a, cap, rfl, q⟩ := h; exact h0
 case fn f xs => obtain ⟨cv, rfl, q⟩ := h; exact h0
 case ifc t x => obtain ⟨cv, rfl, q⟩ := h; exact h0
 case tup x => obtain ⟨cv, rfl, q⟩ := h; exact h0
 case mfn f xs => obtain ⟨cv, rfl, q⟩ := h; exact h0
 case anyb => obtain ⟨b, rfl⟩ := h; exact h0
/-- May a value lie in one cell? -/
def oneA : AV → Bool
 | .agg _ | .tup _ | .mag _ | .dead => false
 | _ => true
def oneAL : List AV → Bool
 | [] => true
 | x :: xs => oneA x && oneAL xs
theorem RepP.one {V : View} {x : AV} {v : Value} (h : RepP V x v) (ho : oneA x = true) : v.oneCell' = true := by
 cases x <;> simp only [RepP] at h <;> first
  | (simp [oneA] at ho; done)
  | (subst h; rfl)
  | exact h.elim
  | skip
 case sl xs => obtain ⟨a, cap, rfl, q⟩ := h; rfl
 case fl xs => obtain ⟨a, rfl, q⟩ := h; rfl
 case rp xs => obtain ⟨a, cap, rfl, q⟩ := h; rfl
 case fn f xs => obtain ⟨cv, rfl, q⟩ := h; rfl
 case ifc t x => obtain ⟨cv, rfl, q⟩ := h; rfl
 case mfn f xs => obtain ⟨cv, rfl, q⟩ := h; rfl
 case anyb => obtain ⟨b, rfl⟩ := h; rfl
theorem Rep.one {V : View} {G : Ctx} {x : AV} {v : Value} (h : Rep V G x v) (ho : oneA x = true) : v.oneCell' = true := by
 cases x <;> simp only [Rep] at h <;> first
  | exact RepP.one h ho
  | (simp [oneA] at ho; done)
  | skip
 case ref k off => obtain ⟨b, _, rfl⟩ := h; rfl
 case bs k off len => obtain ⟨b, cap, _, rfl, _⟩ := h; rfl
 case fn f caps => obtain ⟨cv, rfl, q⟩ := h; rfl
 case mfn f caps => obtain ⟨cv, rfl, q⟩ := h; rfl
 case hs k v o l => obtain ⟨⟨a, cap, rfl⟩, q⟩ := h; rfl
 case er k v o l => obtain ⟨⟨a, b, rfl⟩, q⟩ := h; rfl
 case mif t x => obtain ⟨u, rfl, q⟩ := h; rfl
theorem RepL.of_single {V : View} {G : Ctx} {x : AV} {v : Value} (h : Rep V G x v) : RepL V G [x] [v] := by
 simp only [RepL]
 exact ⟨v, [], rfl, h, rfl⟩
/-- The cells of a value, some of which may be the function's own. -/
def cellsM : AV → List AV
 | .agg cs => cs
 | .mag cs => cs
 | x => [x]
def cellM : AV → Bool
 | .agg _ | .mag _ => true
 | x => oneA x
theorem Rep.cellsM {V : View} {G : Ctx} {x : AV} {v : Value} (h : Rep V G x v) (ho : cellM x = true) : RepL V G (Go.AM.cellsM x) v.cells.toList := by
 have h0 := RepL.of_single h
 have key : oneA x = true → v.cells.toList = [v] := by
  intro h1
  have h1c := h.one h1
  cases v <;> simp [Value.cells, Value.oneCell'] at h1c ⊢
 cases x
 case agg cs =>
  simp only [Rep, RepP] at h
  obtain ⟨us, rfl, p⟩ := h
  simpa [Go.AM.cellsM, Value.cells] using RepPL.rep G p
 case mag cs =>
  simp only [Rep] at h
  obtain ⟨us, rfl, p⟩ := h
  simpa [Go.AM.cellsM, Value.cells] using p
 all_goals first
  | (rw [key (by simpa only [cellM] using ho)]; exact h0)
  | (simp [cellM, oneA] at ho; done)
theorem RepL.oneAll {V : View} {G : Ctx} {cs : List AV} {us : List Value} (h : RepL V G cs us) (ho : oneAL cs = true) : ∀ x ∈ us, x.oneCell' = true := by
 induction cs generalizing us with
 | nil => simp only [RepL] at h; subst h; intro x hx; cases hx
 | cons c cs ih =>
  simp only [RepL] at h
  obtain ⟨y, r, rfl, p, q⟩ := h
  simp only [oneAL, Bool.and_eq_true] at ho
  intro x hx
  rcases List.mem_cons.1 hx with rfl | hx
  ·exact p.one ho.1
  ·exact ih q ho.2 x hx
theorem RepL.take {V : View} {G : Ctx} : ∀ {x : List AV} {v : List Value} (n : Nat), RepL V G x v → RepL V G (x.take n) (v.take n)
 | [], v, n, h => by simp only [RepL] at h; subst h; simp [RepL]
 | x :: xs, v, 0, h => by simp [RepL]
 | x :: xs, v, n + 1, h => by
  simp only [RepL] at h
  obtain ⟨u, r, rfl, p, q⟩ := h
  simp only [List.take_succ_cons, RepL]
  exact ⟨u, _, rfl, p, RepL.take n q⟩
theorem cellsM_eq {x : AV} : cellsM x = cellsOf x := by cases x <;> rfl
/-- A value out of cells. -/
def mkMag (cs : List AV) : AV := bif isPL cs then .agg cs else .mag cs
theorem mkMag_rep {V : View} {G : Ctx} {cs : List AV} {us : List Value} (h : RepL V G cs us) : Rep V G (mkMag cs) (.agg us.toArray) := by
 unfold mkMag
 cases hp : isPL cs with
 | true =>
  simp only [cond_true, Rep, RepP]
  exact ⟨us, rfl, h.pure hp⟩
 | false =>
  simp only [cond_false, Rep]
  exact ⟨us, rfl, h⟩
/- The package-level variables that are read: number, and what their cells hold. -/
def dbNums : List Nat := [0, 1, 56, 2, 57, 49, 28, 3, 61, 58, 42, 50, 38, 29, 17, 4, 62, 47, 59, 36, 45, 43, 51, 22, 53, 39, 33, 30, 24, 18, 12, 5, 63, 55, 48, 27, 60, 41, 37, 16, 46, 35, 44, 21, 52, 32, 23, 11, 54, 26, 40, 15, 34, 20, 31, 10, 25, 14, 19, 9, 13, 8, 7, 6]
def dbTab : List AV := dbNums.map fun n => .int .u8 (n : Nat)
def GLOB : List (Nat × List AV) := [(0, dbTab)]
/- The abstract machine: its operations, its code, and when a state of it stands for a state of the program. -/
/-- What is known of package-level variables: of each number of AGL's list, that its cells hold what the list says. -/
def globA : List (Nat × List AV) → Nat → AV
 | [], _ => .dead
 | (j, cs) :: r, i => bif Nat.beq j i then .rp cs else globA r i
def Glob (V : View) : Prop := ∀ p ∈ GLOB, RepC V (V p.1) 0 p.2
theorem Glob.mono {V V' : View} (h : Glob V) (hle : V.le V') : Glob V' := fun p hp => RepC.mono hle (hle p.1) (h p hp)
theorem globA_rep' {V : View} {l : List (Nat × List AV)} (h : ∀ p ∈ l, RepC V (V p.1) 0 p.2) (G : Ctx) (i : Nat) : Rep V G (globA l i) (.pointer (some ⟨i, 0, none⟩)) := by
 induction l with
 | nil => simp only [globA, Rep]
 | cons p l ih =>
  obtain ⟨j, cs⟩ := p
  simp only [globA]
  cases hb : Nat.beq j i with
  | true =>
   have := Nat.eq_of_beq_eq_true hb
   subst this
   simp only [cond_true, Rep, RepP]
   exact ⟨j, 0, rfl, h (j, cs) List.mem_cons_self⟩
  | false => exact ih fun p hp => h p (List.mem_cons_of_mem _ hp)
theorem Glob.rep {V : View} (h : Glob V) (G : Ctx) (i : Nat) : Rep V G (globA GLOB i) (.pointer (some ⟨i, 0, none⟩)) := globA_rep' h G i
/-- What a function may write to: blocks that were there, and the keys of what lies in them. -/
structure Fra where
 own : Nat → Prop
 key : Nat → Nat → Prop
 ctx : Ctx
 dfs : List Deferred
structure Keep (W0 : World) (Own : Fra) (w : World) : Prop where
 os : w.os = W0.os
 tape : w.tape = W0.tape
 output : w.output = W0.output
 size : W0.heap.size ≤ w.heap.size
 block : ∀ b, b < W0.heap.size → ¬ Own.own b → w.heap[b]? = W0.heap[b]?
def ObOk (V : View) (G : Ctx) (w : World) : Sh → Ob → Prop
 | .box b, .box cs => ∃ (us : List Value) (T : TypeId), w.heap[b]? = some (.cells us.toArray T (0, 0)) ∧ RepL V G cs us ∧ ∀ u ∈ us, u.oneCell' = true
 | .box b, .pbox cs => ∃ (us : List Value) (T : TypeId), w.heap[b]? = some (.cells us.toArray T (0, 0)) ∧ RepPL V cs us ∧ ∀ u ∈ us, u.oneCell' = true
 | .arr ver esz n loc, .arr ver' esz' xs => ver = ver' ∧ esz = esz' ∧ n = xs.length ∧ (loc = none → xs = []) ∧
   ∀ b o tot, loc = some (b, o, tot) → ∃ (us : List Value) (T : TypeId), w.heap[b]? = some (.cells us.toArray T (0, 0)) ∧ us.length = tot ∧ o + n * esz ≤ tot ∧ RepR V (fun i => us[i]?) esz o xs
 | .arr ver esz n loc, .rarr ver' cs => ver = ver' ∧ esz = 1 ∧ n = cs.length ∧ (loc = none → cs = []) ∧
   ∀ b o tot, loc = some (b, o, tot) → ∃ (us : List Value) (T : TypeId), w.heap[b]? = some (.cells us.toArray T (0, 0)) ∧ us.length = tot ∧ o + n ≤ tot ∧ RepL V G cs ((us.drop o).take n) ∧ ∀ u ∈ (us.drop o).take n, u.oneCell' = true
 | _, _ => False
/-- What is so of memory while a function runs that began at W0 with the view V0, and may write to the blocks of Own, and to new ones. -/
structure Sat (W0 : World) (V0 : View) (Own : Fra) (V : View) (G : Ctx) (w : World) (objs : Nat → Option Ob) : Prop where
 keep : Keep W0 Own w
 view : ∀ b o v, V b o = some v → w.cell? ⟨b, o, none⟩ = some v
 vle : V0.le V
 vnew : ∀ b o, b < W0.heap.size → V b o = V0 b o
 obs : ∀ k ob, objs k = some ob → ∃ s, G k = some s ∧ ObOk V G w s ob
 dom : ∀ k s, G k = some s → ∃ ob, objs k = some ob
 priv : ∀ k s b, G k = some s → s.block = some b → b < w.heap.size ∧ (Own.own b ∨ W0.heap.size ≤ b) ∧ ∀ o, V b o = none
 inj : ∀ k k' s s' b, G k = some s → G k' = some s' → s.block = some b → s'.block = some b → k = k'
 loc : ∀ k s b, G k = some s → s.block = some b → b < W0.heap.size → Own.key k b
 glob : Glob V0
def Ctx.owns (G : Ctx) : Fra := ⟨fun b => ∃ k s, G k = some s ∧ s.block = some b, fun k b => ∃ s, G k = some s ∧ s.block = some b, G, []⟩
def RepRes (V : View) (G : Ctx) (res : List AV) (v : Value) : Prop :=
 match res with
 | [x] => Rep V G x v
 | xs => ∃ us : List Value, v = .tuple us.toArray ∧ RepL V G xs us
def resA : List AV → AV
 | [x] => x
 | xs => .tup xs
theorem RepRes.rep {V : View} {G : Ctx} {res : List AV} {v : Value} (h : RepRes V G res v) : Rep V G (resA res) v := by
 match res, h with
 | [], h => simpa only [resA, Rep, RepRes] using h
 | [x], h => exact h
 | x :: y :: r, h => simpa only [resA, Rep, RepRes] using h
def okFn (P : Program) (f : Nat) : Bool :=
 match P.funcs[f]? with
 | some fn => fn.body.isSome && fn.name != "runtime.NumGoroutine"
 | none => false
/-- A function's contract: it is there, and called with such values, and such objects, it returns, and what it returns, and what the objects are then (and further ones), is as R says. -/
def Ctr (P : Program) (f : Nat) (args : List AV) (obs : List Ob) (R : List AV → List Ob → Prop) : Prop :=
 okFn P f = true ∧ ∀ (V : View) (G : Ctx) (w : World) (vs : List Value), Sat w V G.owns V G w (fun k => obs[k]?) → RepL V G args vs →
  Calls P f vs.toArray w fun e w' => ∃ V' G' v res obs', R res obs' ∧ e = .returned v ∧ RepRes V' G' res v ∧ G.le G' ∧ Sat w V G.owns V' G' w' (fun k => obs'[k]?)
/-! The state. -/
def getA {α : Type} (d : α) : List (Nat × α) → Nat → α
 | [], _ => d
 | (j, v) :: r, i => bif Nat.beq j i then v else getA d r i
def delA {α : Type} : List (Nat × α) → Nat → List (Nat × α)
 | [], _ => []
 | (j, v) :: r, i => bif Nat.beq j i then delA r i else (j, v) :: delA r i
def mapA {α β : Type} (f : α → β) : List (Nat × α) → List (Nat × β)
 | [] => []
 | (j, v) :: r => (j, f v) :: mapA f r
structure St where
 regs : List (Nat × AV)
 objs : List (Nat × Ob)
inductive Arg where
 | r (i : Nat)
 | c (v : AV)
 | g (i : Nat)
def optA {α : Type} : List (Nat × α) → Nat → Option α
 | [], _ => none
 | (j, v) :: r, i => bif Nat.beq j i then some v else optA r i
def St.reg (st : St) (i : Nat) : AV := getA .dead st.regs i
def St.set (st : St) (i : Nat) (v : AV) : St := ⟨(i, v) :: delA st.regs i, st.objs⟩
def St.ob (st : St) (k : Nat) : Option Ob := optA st.objs k
def St.put (st : St) (k : Nat) (o : Ob) : St := ⟨st.regs, (k, o) :: delA st.objs k⟩
def St.ev (st : St) : Arg → AV
 | .r i => st.reg i
 | .c v => v
 | .g i => globA GLOB i
def St.setO (st : St) (d : Option Nat) (v : AV) : St := match d with | some i => st.set i v | none => st
theorem beq_ne {i j : Nat} (h : i ≠ j) : Nat.beq i j = false := by
 cases hh : Nat.beq i j with
 | false => rfl
 | true => exact absurd (Nat.eq_of_beq_eq_true hh) h
theorem getA_delA {α : Type} (d : α) : ∀ (r : List (Nat × α)) (i j : Nat), j ≠ i → getA d (delA r i) j = getA d r j
 | [], i, j, h => rfl
 | (k, v) :: r, i, j, h => by
  by_cases h1 : k = i
  ·subst h1
   simp only [delA, getA, Nat.beq_refl, cond_true, beq_ne (Ne.symm h), cond_false]
   exact getA_delA d r k j h
  ·simp only [delA, getA, beq_ne h1, cond_false]
   rw [getA_delA d r i j h]
theorem optA_delA {α : Type} : ∀ (r : List (Nat × α)) (i j : Nat), j ≠ i → optA (delA r i) j = optA r j
 | [], i, j, h => rfl
 | (k, v) :: r, i, j, h => by
  by_cases h1 : k = i
  ·subst h1
   simp only [delA, optA, Nat.beq_refl, cond_true, beq_ne (Ne.symm h), cond_false]
   exact optA_delA r k j h
  ·simp only [delA, optA, beq_ne h1, cond_false]
   rw [optA_delA r i j h]
theorem St.reg_set (st : St) (i j : Nat) (v : AV) : (st.set i v).reg j = if j = i then v else st.reg j := by
 unfold St.set St.reg
 by_cases h : j = i
 ·subst h; simp [getA]
 ·rw [if_neg h]
  simp only [getA, beq_ne (Ne.symm h), cond_false]
  exact getA_delA _ _ _ _ h
theorem St.ob_put (st : St) (i j : Nat) (v : Ob) : (st.put i v).ob j = if j = i then some v else st.ob j := by
 unfold St.put St.ob
 by_cases h : j = i
 ·subst h; simp [optA]
 ·rw [if_neg h]
  simp only [optA, beq_ne (Ne.symm h), cond_false]
  exact optA_delA _ _ _ h
@[simp] theorem St.ob_set (st : St) (i j : Nat) (v : AV) : (st.set i v).ob j = st.ob j := rfl
@[simp] theorem St.reg_put (st : St) (i j : Nat) (v : Ob) : (st.put i v).reg j = st.reg j := rfl
/- Objects under other names; who may be handed on under which name. -/
set_option linter.unusedSimpArgs false
/-- All pairs, the first of which stands ahead of the second. -/
def pairsOk {α : Type} (clash : α → α → Bool) (prec : List (List Nat)) : Nat → List (Nat × α) → List α → Bool
 | _, _, [] => true
 | j, seen, y :: l => seen.all (fun p => !clash p.2 y || (prec.getD j []).any fun k => Nat.beq k p.1) && pairsOk clash prec (j + 1) ((j, y) :: seen) l
theorem pairsOk_spec {α : Type} {clash : α → α → Bool} {prec : List (List Nat)} : ∀ {l : List α} {j : Nat} {seen : List (Nat × α)}, pairsOk clash prec j seen l = true →
  (∀ k y, l[k]? = some y → ∀ p ∈ seen, clash p.2 y = true → p.1 ∈ prec.getD (j + k) []) ∧ (∀ i k x y, i < k → l[i]? = some x → l[k]? = some y → clash x y = true → j + i ∈ prec.getD (j + k) [])
 | [], j, seen, h => ⟨fun k y hk => by simp at hk, fun i k x y _ hi => by simp at hi⟩
 | z :: l, j, seen, h => by
  simp only [pairsOk, Bool.and_eq_true] at h
  obtain ⟨h1, h2⟩ := pairsOk_spec h.2
  have h0 := h.1
  rw [List.all_eq_true] at h0
  refine ⟨fun k y hk p hp hc => ?_, fun i k x y hik hi hk hc => ?_⟩
  ·cases k with
   | zero =>
    simp at hk
    subst hk
    have := h0 p hp
    simp only [hc, Bool.not_true, Bool.false_or, List.any_eq_true] at this
    obtain ⟨q, hq, he⟩ := this
    rw [Nat.add_zero, ← Nat.eq_of_beq_eq_true he]
    exact hq
   | succ k =>
    have := h1 k y (by simpa using hk) p (List.mem_cons_of_mem _ hp) hc
    rwa [show j + (k + 1) = j + 1 + k by omega]
  ·cases k with
   | zero => omega
   | succ k =>
    cases i with
    | zero =>
     simp at hi
     subst hi
     have := h1 k y (by simpa using hk) (j, z) List.mem_cons_self hc
     rwa [show j + (k + 1) = j + 1 + k by omega]
    | succ i =>
     have := h2 i k x y (by omega) (by simpa using hi) (by simpa using hk) hc
     rwa [show j + 1 + i = j + (i + 1) by omega, show j + 1 + k = j + (k + 1) by omega] at this
mutual
/-- The same value, where its objects have other names; those that have none are gone. -/
def ren (m : List (Nat × Nat)) : AV → AV
 | .ref k off => match optA m k with | some k' => .ref k' off | none => .dead
 | .hs k ver off len => match optA m k with | some k' => .hs k' ver off len | none => .dead
 | .er k ver i off => match optA m k with | some k' => .er k' ver i off | none => .dead
 | .bs k off len => match optA m k with | some k' => .bs k' off len | none => .dead
 | .fn f caps => .fn f (renL m caps)
 | .tup xs => .tup (renL m xs)
 | .int k n => .int k n
 | .bool b => .bool b
 | .str s => .str s
 | .nilp => .nilp
 | .nilf => .nilf
 | .nili => .nili
 | .sl xs => .sl xs
 | .fl xs => .fl xs
 | .rp cs => .rp cs
 | .ifc t x => .ifc t x
 | .agg cs => .agg cs
 | .mag cs => .mag (renL m cs)
 | .mif t x => .mif t (ren m x)
 | .anyb => .anyb
 | .mfn f bs => .mfn f (renL m bs)
 | .yl l => .yl l
 | .dead => .dead
def renL (m : List (Nat × Nat)) : List AV → List AV
 | [] => []
 | x :: xs => ren m x :: renL m xs
end
def renOb (m : List (Nat × Nat)) : Ob → Ob
 | .box cs => .box (renL m cs)
 | .pbox cs => .pbox cs
 | .arr v e xs => .arr v e xs
 | .rarr v cs => .rarr v (renL m cs)
section
variable {W0 : World} {V0 : View} {Own : Fra} {P : Program} {w w' : World} {V V' : View} {G G' : Ctx} {μ : Nat → Option Ob} {m : List (Nat × Nat)}
mutual
theorem Rep.ren (hm : ∀ k k', optA m k = some k' → G' k' = G k) : ∀ {x : AV} {v : Value}, Rep V G x v → Rep V G' (ren m x) v := by
 intro x v h
 cases x <;> simp only [Go.AM.ren]
 case ref k off =>
  cases hk : optA m k with
  | none => simp only [Rep]
  | some k' =>
   simp only [Rep] at h ⊢
   rw [hm k k' hk]
   exact h
 case hs k ver off len =>
  cases hk : optA m k with
  | none => simp only [Rep]
  | some k' =>
   simp only [Rep] at h ⊢
   rw [hm k k' hk]
   exact h
 case er k ver off len =>
  cases hk : optA m k with
  | none => simp only [Rep]
  | some k' =>
   simp only [Rep] at h ⊢
   rw [hm k k' hk]
   exact h
 case bs k off len =>
  cases hk : optA m k with
  | none => simp only [Rep]
  | some k' =>
   simp only [Rep] at h ⊢
   rw [hm k k' hk]
   exact h
 case fn f caps =>
  simp only [Rep] at h ⊢
  obtain ⟨cv, e, r⟩ := h
  exact ⟨cv, e, RepL.ren hm r⟩
 case mfn f caps =>
  simp only [Rep] at h ⊢
  obtain ⟨cv, e, r⟩ := h
  exact ⟨cv, e, RepL.ren hm r⟩
 case tup xs =>
  simp only [Rep] at h ⊢
  obtain ⟨cv, e, r⟩ := h
  exact ⟨cv, e, RepL.ren hm r⟩
 case mag xs =>
  simp only [Rep] at h ⊢
  obtain ⟨cv, e, r⟩ := h
  exact ⟨cv, e, RepL.ren hm r⟩
 case mif t x =>
  simp only [Rep] at h ⊢
  obtain ⟨u, e, r⟩ := h
  exact ⟨u, e, Rep.ren hm r⟩
 case dead => simp only [Rep]
 all_goals exact h
theorem RepL.ren (hm : ∀ k k', optA m k = some k' → G' k' = G k) : ∀ {x : List AV} {v : List Value}, RepL V G x v → RepL V G' (renL m x) v := by
 intro x v h
 cases x with
 | nil => simpa only [renL, RepL] using h
 | cons x xs =>
  simp only [renL, RepL] at h ⊢
  obtain ⟨y, r, e, p, q⟩ := h
  exact ⟨y, r, e, Rep.ren hm p, RepL.ren hm q⟩
end
theorem ObOk.ren (hm : ∀ k k', optA m k = some k' → G' k' = G k) {s : Sh} {ob : Ob} (h : ObOk V G w s ob) : ObOk V G' w s (renOb m ob) := by
 cases ob <;> cases s <;> simp only [renOb, ObOk] at h ⊢
 case box cs b =>
  obtain ⟨us, T, e, r, q⟩ := h
  exact ⟨us, T, e, r.ren hm, q⟩
 case rarr ver cs v esz n loc =>
  obtain ⟨h1, h2, h3, h4, h5⟩ := h
  have hl : ∀ l : List AV, (renL m l).length = l.length := fun l => by
   induction l with
   | nil => rfl
   | cons x l ih => simp only [renL, List.length_cons, ih]
  refine ⟨h1, h2, by rw [hl]; exact h3, fun e => by rw [h4 e]; rfl, fun b o tot e => ?_⟩
  obtain ⟨us, T, g1, g2, g3, g4, g5⟩ := h5 b o tot e
  exact ⟨us, T, g1, g2, g3, g4.ren hm, g5⟩
 all_goals exact h
/-- Pairs of names: no old one twice, no new one twice. -/
def keysOk (m : List (Nat × Nat)) : Bool := pairsOk (fun (a b : Nat × Nat) => Nat.beq a.1 b.1 || Nat.beq a.2 b.2) [] 0 [] m
def invL : List (Nat × Nat) → List (Nat × Nat)
 | [] => []
 | (a, b) :: r => (b, a) :: invL r
theorem optA_mem : ∀ {m : List (Nat × Nat)} {k k' : Nat}, optA m k = some k' → (k, k') ∈ m
 | [], k, k', h => by simp [optA] at h
 | (a, b) :: r, k, k', h => by
  simp only [optA] at h
  cases hb : Nat.beq a k with
  | true =>
   rw [hb] at h
   simp only [cond_true, Option.some.injEq] at h
   rw [Nat.eq_of_beq_eq_true hb, h]
   exact List.mem_cons_self
  | false =>
   rw [hb] at h
   exact List.mem_cons_of_mem _ (optA_mem h)
theorem optA_of_mem : ∀ {m : List (Nat × Nat)} {k k' : Nat}, (∀ x ∈ m, ∀ y ∈ m, x.1 = y.1 → x = y) → (k, k') ∈ m → optA m k = some k'
 | [], k, k', _, h => by cases h
 | (a, b) :: r, k, k', hu, h => by
  simp only [optA]
  cases hb : Nat.beq a k with
  | true =>
   have := hu (a, b) List.mem_cons_self (k, k') h (Nat.eq_of_beq_eq_true hb)
   simp only [Prod.mk.injEq] at this
   simp [this.2]
  | false =>
   rcases List.mem_cons.1 h with h | h
   ·simp only [Prod.mk.injEq] at h
    rw [h.1, Nat.beq_refl] at hb
    cases hb
   ·exact optA_of_mem (fun x hx y hy => hu x (List.mem_cons_of_mem _ hx) y (List.mem_cons_of_mem _ hy)) h
theorem keysOk_spec (h : keysOk m = true) : (∀ x ∈ m, ∀ y ∈ m, x.1 = y.1 → x = y) ∧ (∀ x ∈ m, ∀ y ∈ m, x.2 = y.2 → x = y) := by
 have hs := (pairsOk_spec h).2
 have key : ∀ (i k : Nat) (x y : Nat × Nat), i < k → m[i]? = some x → m[k]? = some y → ¬ (x.1 = y.1 ∨ x.2 = y.2) := by
  intro i k x y hik hi hk hx
  have := hs i k x y hik hi hk (by rcases hx with hx | hx <;> simp [hx])
  simp at this
 have gen : ∀ x ∈ m, ∀ y ∈ m, (x.1 = y.1 ∨ x.2 = y.2) → x = y := by
  intro x hx y hy hxy
  obtain ⟨i, hi⟩ := List.mem_iff_getElem?.1 hx
  obtain ⟨k, hk⟩ := List.mem_iff_getElem?.1 hy
  rcases Nat.lt_trichotomy i k with h1 | h1 | h1
  ·exact absurd hxy (key i k x y h1 hi hk)
  ·subst h1
   rw [hi] at hk
   cases hk
   rfl
  ·exact absurd (by rcases hxy with h | h <;> simp [h]) (key k i y x h1 hk hi)
 exact ⟨fun x hx y hy h => gen x hx y hy (.inl h), fun x hx y hy h => gen x hx y hy (.inr h)⟩
theorem invL_mem : ∀ {m : List (Nat × Nat)} {a b : Nat}, (b, a) ∈ invL m ↔ (a, b) ∈ m
 | [], a, b => by simp [invL]
 | (c, d) :: r, a, b => by
  simp only [invL, List.mem_cons, Prod.mk.injEq, invL_mem]
  constructor <;> rintro (⟨h1, h2⟩ | h) <;> first | exact .inl ⟨h2, h1⟩ | exact .inr h
theorem optA_inv (h : keysOk m = true) {a b : Nat} : optA (invL m) b = some a ↔ optA m a = some b := by
 obtain ⟨h1, h2⟩ := keysOk_spec h
 constructor
 ·intro e
  exact optA_of_mem h1 (invL_mem.1 (optA_mem e))
 ·intro e
  refine optA_of_mem ?_ (invL_mem.2 (optA_mem e))
  intro x hx y hy hxy
  obtain ⟨x1, x2⟩ := x
  obtain ⟨y1, y2⟩ := y
  have := h2 _ (invL_mem.1 hx) _ (invL_mem.1 hy) hxy
  simp only [Prod.mk.injEq] at this ⊢
  exact ⟨this.2, this.1⟩
/-- All objects get other names; those that have none are gone. -/
def renC (m : List (Nat × Nat)) (G : Ctx) : Ctx := fun k' => (optA (invL m) k').bind G
def renM (m : List (Nat × Nat)) (μ : Nat → Option Ob) : Nat → Option Ob := fun k' => (optA (invL m) k').bind fun k => (μ k).map (renOb m)
theorem renC_spec (h : keysOk m = true) : ∀ k k', optA m k = some k' → renC m G k' = G k := by
 intro k k' hk
 unfold renC
 rw [(optA_inv h).2 hk]
 rfl
theorem Sat.ren (hs : Sat W0 V0 Own V G w μ) (h : keysOk m = true) (hkey : ∀ k k' b, optA m k = some k' → Own.key k b → Own.key k' b) : Sat W0 V0 Own V (renC m G) w (renM m μ) where
 keep := hs.keep
 view := hs.view
 vle := hs.vle
 vnew := hs.vnew
 obs := fun k' ob e => by
  unfold renM at e
  cases hk : optA (invL m) k' with
  | none => rw [hk] at e; cases e
  | some k =>
   rw [hk] at e
   simp only [Option.bind_some, Option.map_eq_some_iff] at e
   obtain ⟨ob', e', rfl⟩ := e
   obtain ⟨s, hg, ho⟩ := hs.obs k ob' e'
   refine ⟨s, ?_, ho.ren (renC_spec h)⟩
   unfold renC
   rw [hk]
   exact hg
 dom := fun k' s e => by
  unfold renC at e
  unfold renM
  cases hk : optA (invL m) k' with
  | none => rw [hk] at e; cases e
  | some k =>
   rw [hk] at e
   obtain ⟨ob, e'⟩ := hs.dom k s e
   exact ⟨Go.AM.renOb m ob, by simp only [Option.bind_some, e', Option.map_some]⟩
 priv := fun k' s b e hb => by
  unfold renC at e
  cases hk : optA (invL m) k' with
  | none => rw [hk] at e; cases e
  | some k =>
   rw [hk] at e
   exact hs.priv k s b e hb
 inj := fun k1 k2 s1 s2 b e1 e2 h1 h2 => by
  unfold renC at e1 e2
  cases hk1 : optA (invL m) k1 with
  | none => rw [hk1] at e1; cases e1
  | some a1 =>
   cases hk2 : optA (invL m) k2 with
   | none => rw [hk2] at e2; cases e2
   | some a2 =>
    rw [hk1] at e1
    rw [hk2] at e2
    have := hs.inj a1 a2 s1 s2 b e1 e2 h1 h2
    subst this
    have q1 := (optA_inv h).1 hk1
    have q2 := (optA_inv h).1 hk2
    rw [q1] at q2
    cases q2
    rfl
 glob := hs.glob
 loc := fun k' s b e hb hlt => by
  unfold renC at e
  cases hk : optA (invL m) k' with
  | none => rw [hk] at e; cases e
  | some k =>
   rw [hk] at e
   exact hkey k k' b ((optA_inv h).1 hk) (hs.loc k s b e hb hlt)
end
def idxM : Nat → List Nat → List (Nat × Nat)
 | _, [] => []
 | n, k :: r => (k, n) :: idxM (n + 1) r
def mapOb (m : List (Nat × Nat)) : List Ob → List Ob
 | [] => []
 | o :: r => renOb m o :: mapOb m r
section
variable {W0 : World} {V0 : View} {Own : Fra} {P : Program} {w w' : World} {V V' : View} {G G' : Ctx} {μ : Nat → Option Ob}
theorem idx_get : ∀ {ks : List Nat} {n i : Nat}, optA (invL (idxM n ks)) i = if n ≤ i then ks[i - n]? else none
 | [], n, i => by simp [idxM, invL, optA]
 | k :: r, n, i => by
  simp only [idxM, invL, optA]
  cases hb : Nat.beq n i with
  | true =>
   have := Nat.eq_of_beq_eq_true hb
   subst this
   simp
  | false =>
   have hne : n ≠ i := fun e => by rw [e, Nat.beq_refl] at hb; cases hb
   simp only [cond_false]
   rw [idx_get]
   by_cases h : n ≤ i
   ·rw [if_pos h, if_pos (by omega), show i - n = (i - (n + 1)) + 1 by omega, List.getElem?_cons_succ]
   ·rw [if_neg h, if_neg (by omega)]
theorem mapOb_get {m : List (Nat × Nat)} : ∀ {obs : List Ob} {i : Nat}, (mapOb m obs)[i]? = (obs[i]?).map (renOb m)
 | [], i => by simp [mapOb]
 | o :: r, 0 => by simp [mapOb]
 | o :: r, i + 1 => by simpa [mapOb] using mapOb_get (obs := r) (i := i)
theorem Sat.rebase (hs : Sat W0 V0 Own V G w μ) : Sat w V G.owns V G w μ where
 keep := ⟨rfl, rfl, rfl, Nat.le_refl _, fun _ _ _ => rfl⟩
 view := hs.view
 vle := View.le_refl _
 vnew := fun _ _ _ => rfl
 obs := hs.obs
 dom := hs.dom
 priv := fun k s b e hb => ⟨(hs.priv k s b e hb).1, .inl ⟨k, s, e, hb⟩, (hs.priv k s b e hb).2.2⟩
 inj := hs.inj
 loc := fun k s b e hb _ => ⟨s, e, hb⟩
 glob := hs.glob.mono hs.vle
theorem Sat.weak (hs : Sat W0 V0 Own V G w μ) : Sat W0 V0 ⟨Own.own, fun _ _ => True, Own.ctx, Own.dfs⟩ V G w μ where
 keep := ⟨hs.keep.os, hs.keep.tape, hs.keep.output, hs.keep.size, hs.keep.block⟩
 view := hs.view
 vle := hs.vle
 vnew := hs.vnew
 obs := hs.obs
 dom := hs.dom
 priv := hs.priv
 inj := hs.inj
 loc := fun _ _ _ _ _ _ => trivial
 glob := hs.glob
theorem keysOk_distinct {ks : List Nat} (h : keysOk (idxM 0 ks) = true) : ∀ (i k : Nat), i < k → ∀ x y, ks[i]? = some x → ks[k]? = some y → x ≠ y := by
 intro i k hik x y hx hy e
 subst e
 have h1 : optA (invL (idxM 0 ks)) i = some x := by rw [idx_get, if_pos (Nat.zero_le _), Nat.sub_zero]; exact hx
 have h2 : optA (invL (idxM 0 ks)) k = some x := by rw [idx_get, if_pos (Nat.zero_le _), Nat.sub_zero]; exact hy
 rw [optA_inv h] at h1 h2
 rw [h1] at h2
 cases h2
 omega
end
/- The abstract machine's operations: what they do, and when one of them is one of the program's. -/
/-- What lies in a cell that can be compared. -/
inductive LK where
 | i | b | s
 deriving DecidableEq
/-- Are two rows of numbers, truth values and texts one? -/
def eqC : List LK → List AV → List AV → Option Bool
 | [], [], [] => some true
 | .i :: ks, .int k a :: xs, .int k' b :: ys => if k = k' then (eqC ks xs ys).map fun r => (a == b) && r else none
 | .b :: ks, .bool a :: xs, .bool b :: ys => (eqC ks xs ys).map fun r => (a == b) && r
 | .s :: ks, .str a :: xs, .str b :: ys => (eqC ks xs ys).map fun r => (a == b) && r
 | _, _, _ => none
def intBin (op : BinOp) (k : IntKind) (x y : Int) : Option AV :=
 match op with
 | .add => some (.int k (k.wrap (x + y)))
 | .sub => some (.int k (k.wrap (x - y)))
 | .mul => some (.int k (k.wrap (x * y)))
 | .quo => if y = 0 then none else some (.int k (k.wrap (x.tdiv y)))
 | .rem => if y = 0 then none else some (.int k (x.tmod y))
 | .and => some (.int k (k.wrap (BitVec.ofInt k.bits x &&& BitVec.ofInt k.bits y).toNat))
 | .or => some (.int k (k.wrap (BitVec.ofInt k.bits x ||| BitVec.ofInt k.bits y).toNat))
 | .xor => some (.int k (k.wrap (BitVec.ofInt k.bits x ^^^ BitVec.ofInt k.bits y).toNat))
 | .andNot => some (.int k (k.wrap (BitVec.ofInt k.bits x &&& ~~~BitVec.ofInt k.bits y).toNat))
 | .eql => some (.bool (x == y))
 | .neq => some (.bool (x != y))
 | .lss => some (.bool (decide (x < y)))
 | .leq => some (.bool (decide (x ≤ y)))
 | .gtr => some (.bool (decide (x > y)))
 | .geq => some (.bool (decide (x ≥ y)))
 | _ => none
def shBin (op : BinOp) (k : IntKind) (x y : Int) : Option AV :=
 match op with
 | .shl => if y < 0 then none else some (.int k (k.wrap (x * 2 ^ min y.toNat k.bits)))
 | .shr => if y < 0 then none else some (.int k (x.fdiv (2 ^ min y.toNat k.bits)))
 | _ => none
def evBin (op : BinOp) : AV → AV → Option AV
 | .int k x, .int k' y =>
  match op with
  | .shl => shBin .shl k x y
  | .shr => shBin .shr k x y
  | op => if k = k' then intBin op k x y else none
 | .str a, .str b =>
  match op with
  | .eql => some (.bool (a == b))
  | .neq => some (.bool (!(a == b)))
  | .lss => some (.bool (Op.bytesLess a.toList b.toList))
  | .add => if a.size + b.size ≤ 9223372036854775807 then some (.str (a ++ b)) else none
  | _ => none
 | _, _ => none
def evNil : AV → AV → Option Bool
 | .ref _ _, .nilp => some false
 | .nilp, .ref _ _ => some false
 | .rp _, .nilp => some false
 | .nilp, .rp _ => some false
 | .nilp, .nilp => some true
 | _, _ => none
def evNilF : AV → AV → Option Bool
 | .fn _ _, .nilf => some false
 | .nilf, .fn _ _ => some false
 | .mfn _ _, .nilf => some false
 | .nilf, .mfn _ _ => some false
 | .nilf, .nilf => some true
 | _, _ => none
inductive EqK where
 | bool
 | strct (ks : List LK)
 | nil
 | nilf
def evEq : EqK → AV → AV → Option Bool
 | .bool, .bool a, .bool b => some (a == b)
 | .strct ks, .agg x, .agg y => eqC ks x y
 | .nil, x, y => evNil x y
 | .nilf, x, y => evNilF x y
 | _, _, _ => none
def evUn (op : UnOp) : AV → Option AV
 | .int k n =>
  match op with
  | .neg => some (.int k (k.wrap (0 - n)))
  | .xor => some (.int k (k.wrap (BitVec.ofInt k.bits (if k.signed then -1 else k.max) ^^^ BitVec.ofInt k.bits n).toNat))
  | _ => none
 | .bool b =>
  match op with
  | .not => some (.bool !b)
  | _ => none
 | _ => none
inductive Cal where
 | st (f : Nat)
 | dy (a : Arg)
 | iv (a : Arg) (t : TypeId) (nm : String) (f : Nat)
inductive AOp where
 | mov (d : Nat) (a : Arg)
 | bin (d : Nat) (op : BinOp) (a b : Arg)
 | eq (d : Nat) (neg : Bool) (ks : EqK) (a b : Arg)
 | un (d : Nat) (op : UnOp) (a : Arg)
 | conv (d : Nat) (k : IntKind) (a : Arg)
 | len (d : Nat) (a : Arg)
 | slen (d : Nat) (a : Arg)
 | idx (d : Nat) (a i : Arg) (n : Nat)
 | aix (d : Nat) (a i : Arg) (n m : Nat)
 | fad (d : Nat) (a : Arg) (off : Nat)
 | load (d : Nat) (a : Arg) (n : Nat) (ag : Bool)
 | store (a x : Arg) (n : Nat)
 | boxp (d : Nat) (a : Arg)
 | boxo (d key : Nat) (a : Arg)
 | boxm (d key : Nat) (a : Arg)
 | alloc (d key : Nat) (cells : List AV)
 | alloca (d key key2 esz : Nat)
 | allocm (d key : Nat) (cells : List AV)
 | nilarr (d key esz : Nat)
 | build (d : Nat) (zero : List AV) (parts : List (Nat × Nat × Arg))
 | bslp (d esz : Nat) (rows : List Arg)
 | bslo (d key esz : Nat) (rows : List Arg)
 | slc (d : Nat) (a : Arg) (lo hi : Option Arg) (esz : Nat)
 | sslc (d : Nat) (a : Arg) (lo hi : Option Arg)
 | slc3 (d : Nat) (a : Arg) (lo : Option Arg) (hi mx : Arg) (esz : Nat)
 | sidx (d : Nat) (a i : Arg)
 | mkfn (d f : Nat) (caps : List Arg)
 | ext (d : Nat) (a : Arg) (i : Nat)
 | pick (d : Nat) (c a b : Arg)
 | callf (d : Option Nat) (c : Cal) (args : List Arg)
 | callb (d : Option Nat) (c : Cal) (args : List Arg)
 | appd (d : Nat) (a x : Arg) (esz bytes : Nat)
 | clear (a : Arg) (zero : List AV)
 | mxn (d : Nat) (max : Bool) (a b : Arg)
 | field (d : Nat) (a : Arg) (off n : Nat) (ag : Bool)
 | nilc (d : Nat) (a : Arg)
 | make (d key esz bytes : Nat) (zero : List AV) (n c : Arg)
 | makeb (d key bytes : Nat) (rows : Option (Nat × Nat × Nat)) (zero : AV) (n c : Arg)
 | buildm (d : Nat) (zero : List AV) (parts : List (Nat × Nat × Arg))
 | boxg (d key : Nat) (a : Arg)
 | mkif (d : Nat) (t : TypeId) (a : Arg)
 | tass (d : Nat) (t : TypeId) (a : Arg)
 | eqs (d : Nat) (neg : Bool) (a : Arg)
 | callo (d : Option Nat) (c : Cal) (args : List Arg) (pass new : List Nat)
 | mkmv (d f : Nat) (bs : List Arg)
 | callx (d : Option Nat) (c : Cal) (args : List Arg) (pass new : List Nat)
 | vidx (d : Nat) (a i : Arg) (n m : Nat) (ag : Bool)
 | bslr (d key : Nat) (a : Arg)
 | ridx (d : Nat) (a i : Arg)
 | rload (d : Nat) (a : Arg)
 | rapp (d : Nat) (a x : Arg) (bytes : Nat)
 | calle (d : Option Nat) (c : Cal) (args : List Arg)
def AOp.dst : AOp → Option Nat
 | .mov d _ | .bin d _ _ _ | .eq d _ _ _ _ | .un d _ _ | .conv d _ _ | .len d _ | .slen d _ | .idx d _ _ _ | .aix d _ _ _ _ | .fad d _ _ | .load d _ _ _ | .boxp d _ | .boxo d _ _ | .boxm d _ _
 | .alloc d _ _ | .allocm d _ _ | .alloca d _ _ _ | .nilarr d _ _ | .build d _ _ | .bslp d _ _ | .bslo d _ _ _ | .slc d _ _ _ _ | .sslc d _ _ _ | .slc3 d _ _ _ _ _ | .sidx d _ _ | .mkfn d _ _
 | .ext d _ _ | .pick d _ _ _ | .appd d _ _ _ _ | .mxn d _ _ _ | .field d _ _ _ _ | .nilc d _ | .make d _ _ _ _ _ _ | .makeb d _ _ _ _ _ _ | .buildm d _ _ | .boxg d _ _ | .mkif d _ _ | .tass d _ _ | .eqs d _ _ | .mkmv d _ _ | .vidx d _ _ _ _ _ => some d
 | .bslr d _ _ | .ridx d _ _ | .rload d _ | .rapp d _ _ _ => some d
 | .callf d _ _ => d
 | .callb d _ _ => d
 | .callo d _ _ _ _ => d
 | .callx d _ _ _ _ => d
 | .calle d _ _ => d
 | .store _ _ _ | .clear _ _ => none
def AOp.args : AOp → List Arg
 | .mov _ a | .un _ _ a | .conv _ _ a | .len _ a | .slen _ a | .fad _ a _ | .load _ a _ _ | .boxp _ a | .boxo _ _ a | .boxm _ _ a | .ext _ a _ | .clear a _ | .field _ a _ _ _ | .nilc _ a | .boxg _ _ a | .mkif _ _ a | .tass _ _ a | .eqs _ _ a => [a]
 | .bin _ _ a b | .eq _ _ _ a b | .idx _ a b _ | .aix _ a b _ _ | .store a b _ | .sidx _ a b | .appd _ a b _ _ | .mxn _ _ a b => [a, b]
 | .alloc _ _ _ | .allocm _ _ _ | .alloca _ _ _ _ | .nilarr _ _ _ => []
 | .build _ _ ps | .buildm _ _ ps => ps.map (·.2.2)
 | .bslp _ _ rs | .bslo _ _ _ rs | .mkfn _ _ rs | .mkmv _ _ rs => rs
 | .vidx _ a i _ _ _ => [a, i]
 | .bslr _ _ a | .rload _ a => [a]
 | .ridx _ a i => [a, i]
 | .rapp _ a x _ => [a, x]
 | .sslc _ a lo hi => a :: (lo.toList ++ hi.toList)
 | .slc _ a lo hi _ => a :: (lo.toList ++ hi.toList)
 | .slc3 _ a lo hi mx _ => a :: hi :: mx :: lo.toList
 | .pick _ c a b => [c, a, b]
 | .callf _ (.st _) as => as
 | .callf _ (.dy f) as => f :: as
 | .callf _ (.iv f _ _ _) as => f :: as
 | .callb _ (.st _) as => as
 | .callb _ (.dy f) as => f :: as
 | .callb _ (.iv f _ _ _) as => f :: as
 | .callo _ (.st _) as _ _ => as
 | .callo _ (.dy f) as _ _ => f :: as
 | .callo _ (.iv f _ _ _) as _ _ => f :: as
 | .callx _ (.st _) as _ _ => as
 | .callx _ (.dy f) as _ _ => f :: as
 | .callx _ (.iv f _ _ _) as _ _ => f :: as
 | .calle _ (.st _) as => as
 | .calle _ (.dy f) as => f :: as
 | .calle _ (.iv f _ _ _) as => f :: as
 | .make _ _ _ _ _ n c => [n, c]
 | .makeb _ _ _ _ _ n c => [n, c]
def setAt (l : List AV) (o : Nat) (cs : List AV) : List AV := l.take o ++ cs ++ l.drop (o + cs.length)
def fillA (ρ : Arg → AV) : List (Nat × Nat × Arg) → List AV → List AV
 | [], z => z
 | (o, _, a) :: r, z => fillA ρ r (setAt z o (cellsOf (ρ a)))
def fillM (ρ : Arg → AV) : List (Nat × Nat × Arg) → List AV → List AV
 | [], z => z
 | (o, _, a) :: r, z => fillM ρ r (setAt z o (cellsM (ρ a)))
def loadV (ag : Bool) (n : Nat) (c : List AV) : Option AV :=
 match ag with
 | true => if n ≤ c.length then some (.agg (c.take n)) else none
 | false => match c with
  | x :: _ => some x
  | [] => none
def loadM (ag : Bool) (n : Nat) (c : List AV) : Option AV :=
 match ag with
 | true => if n ≤ c.length then some (mkMag (c.take n)) else none
 | false => match c with
  | x :: _ => some x
  | [] => none
def callee (ρ : Arg → AV) : Cal → Option (Nat × List AV)
 | .st f => some (f, [])
 | .dy a => match ρ a with
  | .fn f caps => some (f, caps)
  | .mfn f _ => some (f, [])
  | _ => none
 | .iv _ _ _ f => some (f, [])
/-- What an interface value holds. -/
def unif : AV → AV
 | .mif _ x => x
 | .ifc _ x => x
 | _ => .dead
def ptrA : AV → Bool
 | .ref _ _ | .er _ _ _ _ | .rp _ => true
 | _ => false
/-- What a method value is bound to. -/
def bndA : AV → List AV
 | .mfn _ bs => bs
 | _ => []
/-- What a call's function is handed, but for what it has captured. -/
def calV (ρ : Arg → AV) (c : Cal) (args : List Arg) : List AV :=
 match c with
 | .iv a _ _ _ => unif (ρ a) :: args.map ρ
 | .dy a => bndA (ρ a) ++ args.map ρ
 | .st _ => args.map ρ
/-- A method of a pointer's type, found by its name. -/
def MethOk (P : Program) (t : TypeId) (nm : String) (f : Nat) : Prop := ∀ (a : Option Addr) (w : World), (method (P.types.size + Made.depth) t (.pointer a) nm).run P w = .ok (f, .pointer a) w
def ifOk (t : TypeId) : AV → Bool
 | .mif t' x => Nat.beq t t' && ptrA x
 | .ifc t' x => Nat.beq t t' && ptrA x
 | _ => false
def calOk (P : Program) (ρ : Arg → AV) : Cal → Prop
 | .iv a t nm f => ifOk t (ρ a) = true ∧ MethOk P t nm f
 | _ => True
def optI (ρ : Arg → AV) (d : Int) : Option Arg → Option Int
 | none => some d
 | some a => match ρ a with
  | .int _ n => some n
  | _ => none
abbrev Acc := List Nat × List Nat
/-- A value that is lent: what is the caller's own is as if no one wrote it. -/
def bor1 (μ : Nat → Option Ob) : AV → AV
 | .hs k ver off len => match μ k with
  | some (.arr ver' _ xs) => if ver' = ver then .sl ((xs.drop off).take len) else .dead
  | _ => .dead
 | .ref k off => match μ k with
  | some (.pbox cs) => .rp (cs.drop off)
  | _ => .dead
 | .er k ver i off => match μ k with
  | some (.arr ver' _ xs) => if ver' = ver then (match xs[i]? with | some c => .rp (c.drop off) | none => .dead) else .dead
  | _ => .dead
 | .fn f caps => bif isPL caps then .fn f caps else .dead
 | .mfn f bs => bif isPL bs then .mfn f bs else .dead
 | .tup _ => .dead
 | .mag _ => .dead
 | .mif _ _ => .dead
 | .bs _ _ _ => .dead
 | x => x
def borC (cs : List AV) (off : Nat) : AV := bif isPL cs && oneAL cs then .rp (cs.drop off) else .dead
def bor2 (μ : Nat → Option Ob) : AV → AV
 | .ref k off => match μ k with
  | some (.box cs) => borC (cs.map (bor1 μ)) off
  | some (.pbox cs) => .rp (cs.drop off)
  | _ => .dead
 | x => bor1 μ x
def borI (t : TypeId) (x : AV) : AV := bif isP x then .ifc t x else .dead
def bor0 (μ : Nat → Option Ob) : AV → AV
 | .mif t x => borI t (bor2 μ x)
 | x => bor2 μ x
def bor (μ : Nat → Option Ob) : AV → AV
 | .fn f caps => .fn f (caps.map (bor0 μ))
 | .mfn f bs => .mfn f (bs.map (bor0 μ))
 | x => bor0 μ x
def key1 : AV → List Nat
 | .hs k _ _ _ | .ref k _ | .er k _ _ _ => [k]
 | _ => []
def key2 (μ : Nat → Option Ob) : AV → List Nat
 | .ref k off => match μ k with
  | some (.box cs) => k :: cs.flatMap key1
  | _ => [k]
 | x => key1 x
def key0 (μ : Nat → Option Ob) : AV → List Nat
 | .mif _ x => key2 μ x
 | x => key2 μ x
def keysA (μ : Nat → Option Ob) : AV → List Nat
 | .fn _ caps => caps.flatMap (key0 μ)
 | .mfn _ bs => bs.flatMap (key0 μ)
 | x => key0 μ x
def scal0 : AV → Bool
 | .int _ _ | .bool _ | .str _ => true
 | _ => false
def scalar : AV → Bool
 | .int _ _ | .bool _ | .str _ => true
 | .agg cs => cs.all scal0
 | _ => false
def getObsM (μ : Nat → Option Ob) : List Nat → Option (List Ob)
 | [] => some []
 | k :: r => match μ k with
  | some o => (getObsM μ r).map (o :: ·)
  | none => none
def allNoneM (μ : Nat → Option Ob) : List Nat → Bool
 | [] => true
 | k :: r => (match μ k with | none => true | some _ => false) && allNoneM μ r
def zipU : List Nat → List Ob → List (Nat × Ob)
 | k :: ks, o :: os => (k, o) :: zipU ks os
 | _, _ => []
def memK (ks : List Nat) (k : Nat) : Bool := ks.any fun j => Nat.beq j k
def keyX : AV → Option Nat
 | .ref k _ | .hs k _ _ _ | .er k _ _ _ => some k
 | _ => none
def hideM (pass : List Nat) (μ : Nat → Option Ob) : Nat → Option Ob := fun k => bif memK pass k then none else μ k
/-- A value that is handed on with its object, or lent. -/
def xbor (pass : List Nat) (μ : Nat → Option Ob) (x : AV) : AV :=
 match keyX x with
 | some k => bif memK pass k then ren (idxM 0 pass) x else bor (hideM pass μ) x
 | none => bor (hideM pass μ) x
def scal1 : AV → Bool
 | .int _ _ | .bool _ | .str _ | .nilp | .nilf | .nili | .yl _ => true
 | _ => false
def scalX : AV → Bool
 | .int _ _ | .bool _ | .str _ | .nilp | .nilf | .nili | .yl _ | .hs _ _ _ _ | .ref _ _ | .er _ _ _ _ => true
 | .agg cs => cs.all scal0
 | _ => false
def scalOb : Ob → Bool
 | .box cs => cs.all scalX
 | .pbox cs => cs.all scal1
 | .arr _ _ xs => xs.all fun c => c.all scal1
 | .rarr _ cs => cs.all scalX
/-- An array the cells of which are arrays that are not there yet: number i of them, of rows of esz cells, has the name base + stride * i. -/
def rowCs (base stride : Nat) : Nat → Nat → List AV
 | _, 0 => []
 | i, n + 1 => .hs (base + stride * i) 0 0 0 :: rowCs base stride (i + 1) n
def rowOs (base stride esz : Nat) : Nat → Nat → List (Nat × Ob)
 | _, 0 => []
 | i, n + 1 => (base + stride * i, .arr 0 esz []) :: rowOs base stride esz (i + 1) n
def rowKs (base stride : Nat) : Nat → Nat → List Nat
 | _, 0 => []
 | i, n + 1 => (base + stride * i) :: rowKs base stride (i + 1) n
def mkbC (rows : Option (Nat × Nat × Nat)) (zero : AV) (n : Nat) : List AV := match rows with | none => List.replicate n zero | some (base, stride, _) => rowCs base stride 0 n
def mkbO (rows : Option (Nat × Nat × Nat)) (n : Nat) : List (Nat × Ob) := match rows with | none => [] | some (base, stride, esz) => rowOs base stride esz 0 n
def mkbK (rows : Option (Nat × Nat × Nat)) (n : Nat) : List Nat := match rows with | none => [] | some (base, stride, _) => rowKs base stride 0 n
def mkbOk (μ : Nat → Option Ob) (key : Nat) (rows : Option (Nat × Nat × Nat)) (n : Nat) : Prop := match rows with | none => True | some (base, stride, _) => 1 ≤ stride ∧ ∀ i, i < n → μ (base + stride * i) = none ∧ base + stride * i ≠ key
/-- Values that are lent, to any depth; the objects that are looked at. -/
inductive LendL (μ : Nat → Option Ob) : List AV → List AV → List Nat → Prop where
 | nil : LendL μ [] [] []
 | pure {x : AV} {xs ys : List AV} {ks : List Nat} : isP x = true → LendL μ xs ys ks → LendL μ (x :: xs) (x :: ys) ks
 | ref {k off : Nat} {cs zs xs ys : List AV} {k1 ks : List Nat} : μ k = some (.box cs) → LendL μ cs zs k1 → oneAL zs = true → LendL μ xs ys ks → LendL μ (.ref k off :: xs) (.rp (zs.drop off) :: ys) (k :: (k1 ++ ks))
 | pref {k off : Nat} {cs xs ys : List AV} {ks : List Nat} : μ k = some (.pbox cs) → LendL μ xs ys ks → LendL μ (.ref k off :: xs) (.rp (cs.drop off) :: ys) (k :: ks)
 | hs {k ver off len esz : Nat} {rs : List (List AV)} {xs ys : List AV} {ks : List Nat} : μ k = some (.arr ver esz rs) → LendL μ xs ys ks → LendL μ (.hs k ver off len :: xs) (.sl ((rs.drop off).take len) :: ys) (k :: ks)
 | hsr {k ver off len : Nat} {cs zs xs ys : List AV} {k1 ks : List Nat} : μ k = some (.rarr ver cs) → LendL μ cs zs k1 → oneAL zs = true → LendL μ xs ys ks → LendL μ (.hs k ver off len :: xs) (.sl (((zs.drop off).take len).map fun c => [c]) :: ys) (k :: (k1 ++ ks))
/-- Arguments that are handed on with their objects, or lent. -/
inductive ArgL (μ : Nat → Option Ob) (pass : List Nat) : List AV → List AV → List Nat → Prop where
 | nil : ArgL μ pass [] [] []
 | pass {x : AV} {k : Nat} {xs ys : List AV} {ks : List Nat} : keyX x = some k → k ∈ pass → ArgL μ pass xs ys ks → ArgL μ pass (x :: xs) (ren (idxM 0 pass) x :: ys) ks
 | lend {x y : AV} {xs ys : List AV} {k1 ks : List Nat} : LendL (hideM pass μ) [x] [y] k1 → ArgL μ pass xs ys ks → ArgL μ pass (x :: xs) (y :: ys) (k1 ++ ks)
/-- What an operation makes: the value, the objects that are others then, and which objects it reads and writes. -/
def opR (P : Program) (o : AOp) (ρ : Arg → AV) (μ : Nat → Option Ob) (v : AV) (u : List (Nat × Ob)) (acc : Acc) : Prop :=
  match o with
  | .mov _ a => v = ρ a ∧ u = [] ∧ acc = ([], [])
  | .bin _ op a b => evBin op (ρ a) (ρ b) = some v ∧ u = [] ∧ acc = ([], [])
  | .eq _ neg ks a b => (∃ r, evEq ks (ρ a) (ρ b) = some r ∧ v = .bool (bif neg then !r else r)) ∧ u = [] ∧ acc = ([], [])
  | .un _ op a => evUn op (ρ a) = some v ∧ u = [] ∧ acc = ([], [])
  | .conv _ k a => (∃ k' n, ρ a = .int k' n ∧ v = .int k (k.wrap n)) ∧ u = [] ∧ acc = ([], [])
  | .len _ a => ((∃ xs, ρ a = .sl xs ∧ v = .int .i64 xs.length) ∨ (∃ xs, ρ a = .fl xs ∧ v = .int .i64 xs.length) ∨ (∃ k ver off len, ρ a = .hs k ver off len ∧ v = .int .i64 len) ∨ (∃ k off len, ρ a = .bs k off len ∧ v = .int .i64 len)) ∧ u = [] ∧ acc = ([], [])
  | .slen _ a => (∃ s, ρ a = .str s ∧ v = .int .i64 s.size) ∧ u = [] ∧ acc = ([], [])
  | .idx _ a i n => u = [] ∧ ∃ ik z, ρ i = .int ik z ∧ 0 ≤ z ∧
      ((∃ xs c, (ρ a = .sl xs ∨ ρ a = .fl xs) ∧ xs[z.toNat]? = some c ∧ c.length = n ∧ v = .rp c ∧ acc = ([], [])) ∨
       (∃ k ver off len xs, ρ a = .hs k ver off len ∧ z < len ∧ μ k = some (.arr ver n xs) ∧ v = .er k ver (off + z.toNat) 0 ∧ acc = ([k], [])) ∨
       (∃ k off len, ρ a = .bs k off len ∧ z < len ∧ n = 1 ∧ v = .ref k (off + z.toNat) ∧ acc = ([], [])))
  | .aix _ a i n m => u = [] ∧ ∃ ik z, ρ i = .int ik z ∧ 0 ≤ z ∧ z < m ∧ acc = ([], []) ∧
      ((∃ c, ρ a = .rp c ∧ v = .rp (c.drop (z.toNat * n))) ∨ (∃ k off, ρ a = .ref k off ∧ v = .ref k (off + z.toNat * n)) ∨ (∃ k ver j off, ρ a = .er k ver j off ∧ v = .er k ver j (off + z.toNat * n)))
  | .fad _ a off => u = [] ∧ acc = ([], []) ∧
      ((∃ c, ρ a = .rp c ∧ v = .rp (c.drop off)) ∨ (∃ k o, ρ a = .ref k o ∧ v = .ref k (o + off)) ∨ (∃ k ver i o, ρ a = .er k ver i o ∧ v = .er k ver i (o + off)))
  | .load _ a n ag => u = [] ∧
      ((∃ c, ρ a = .rp c ∧ loadV ag n c = some v ∧ acc = ([], [])) ∨
       (∃ k o c, ρ a = .ref k o ∧ μ k = some (.pbox c) ∧ loadV ag n (c.drop o) = some v ∧ acc = ([k], [])) ∨
       (∃ k o c, ρ a = .ref k o ∧ μ k = some (.box c) ∧ loadM ag n (c.drop o) = some v ∧ acc = ([k], [])) ∨
       (∃ k ver i o esz xs c, ρ a = .er k ver i o ∧ μ k = some (.arr ver esz xs) ∧ xs[i]? = some c ∧ loadV ag n (c.drop o) = some v ∧ acc = ([k], [])))
  | .store a x n => v = .dead ∧ (cellsOf (ρ x)).length = n ∧
      ((∃ k o c, ρ a = .ref k o ∧ μ k = some (.pbox c) ∧ isP (ρ x) = true ∧ oneAL (cellsOf (ρ x)) = true ∧ o + (cellsOf (ρ x)).length ≤ c.length ∧ u = [(k, .pbox (setAt c o (cellsOf (ρ x))))] ∧ acc = ([], [k])) ∨
       (∃ k o c, ρ a = .ref k o ∧ μ k = some (.box c) ∧ cellM (ρ x) = true ∧ oneAL (cellsOf (ρ x)) = true ∧ o + (cellsOf (ρ x)).length ≤ c.length ∧ u = [(k, .box (setAt c o (cellsOf (ρ x))))] ∧ acc = ([], [k])) ∨
       (∃ k ver i o esz xs c, ρ a = .er k ver i o ∧ μ k = some (.arr ver esz xs) ∧ xs[i]? = some c ∧ isP (ρ x) = true ∧ oneAL (cellsOf (ρ x)) = true ∧ o + (cellsOf (ρ x)).length ≤ c.length ∧ u = [(k, .arr ver esz (xs.set i (setAt c o (cellsOf (ρ x)))))] ∧ acc = ([], [k])))
  | .boxp _ a => isP (ρ a) = true ∧ oneAL (cellsOf (ρ a)) = true ∧ v = .rp (cellsOf (ρ a)) ∧ u = [] ∧ acc = ([], [])
  | .boxo _ key a => oneA (ρ a) = true ∧ μ key = none ∧ v = .ref key 0 ∧ u = [(key, .box [ρ a])] ∧ acc = ([], [key])
  | .boxm _ key a => isP (ρ a) = true ∧ oneAL (cellsOf (ρ a)) = true ∧ μ key = none ∧ v = .ref key 0 ∧ u = [(key, .pbox (cellsOf (ρ a)))] ∧ acc = ([], [key])
  | .alloc _ key cells => μ key = none ∧ v = .ref key 0 ∧ u = [(key, .pbox cells)] ∧ acc = ([], [key])
  | .allocm _ key cells => μ key = none ∧ v = .ref key 0 ∧ u = [(key, .box cells)] ∧ acc = ([], [key])
  | .alloca _ key key2 esz => μ key = none ∧ μ key2 = none ∧ key ≠ key2 ∧ v = .ref key 0 ∧ u = [(key2, .arr 0 esz []), (key, .box [.hs key2 0 0 0])] ∧ acc = ([], [key, key2])
  | .nilarr _ key esz => μ key = none ∧ v = .hs key 0 0 0 ∧ u = [(key, .arr 0 esz [])] ∧ acc = ([], [key])
  | .build _ zero parts => (∀ p ∈ parts, isP (ρ p.2.2) = true ∧ (cellsOf (ρ p.2.2)).length = p.2.1 ∧ p.1 + p.2.1 ≤ zero.length) ∧ v = .agg (fillA ρ parts zero) ∧ u = [] ∧ acc = ([], [])
  | .bslp _ esz rows => (∀ r ∈ rows, isP (ρ r) = true ∧ oneAL (cellsOf (ρ r)) = true ∧ (cellsOf (ρ r)).length = esz) ∧ v = .sl (rows.map fun r => cellsOf (ρ r)) ∧ u = [] ∧ acc = ([], [])
  | .bslo _ key esz rows => μ key = none ∧ (∀ r ∈ rows, isP (ρ r) = true ∧ oneAL (cellsOf (ρ r)) = true ∧ (cellsOf (ρ r)).length = esz) ∧ v = .hs key 0 0 rows.length ∧ u = [(key, .arr 0 esz (rows.map fun r => cellsOf (ρ r)))] ∧ acc = ([], [key])
  | .slc _ a lo hi esz => u = [] ∧
      ((∃ xs l h, (ρ a = .sl xs ∨ ρ a = .fl xs) ∧ (∀ c ∈ xs, c.length = esz) ∧ optI ρ 0 lo = some l ∧ optI ρ xs.length hi = some h ∧ 0 ≤ l ∧ l ≤ h ∧ h ≤ xs.length ∧ v = .sl ((xs.take h.toNat).drop l.toNat) ∧ acc = ([], [])) ∨
       (∃ k ver off len xs l h, ρ a = .hs k ver off len ∧ μ k = some (.arr ver esz xs) ∧ optI ρ 0 lo = some l ∧ optI ρ len hi = some h ∧ 0 ≤ l ∧ l ≤ h ∧ (h ≤ len ∨ off + h ≤ xs.length) ∧ v = .hs k ver (off + l.toNat) (h.toNat - l.toNat) ∧ acc = ([k], [])))
  | .sslc _ a lo hi => u = [] ∧ acc = ([], []) ∧
       (∃ s l h, ρ a = .str s ∧ optI ρ 0 lo = some l ∧ optI ρ s.size hi = some h ∧ 0 ≤ l ∧ l ≤ h ∧ h ≤ s.size ∧ v = .str (s.extract l.toNat h.toNat))
  | .slc3 _ a lo hi mx esz => u = [] ∧ ((acc = ([], []) ∧ ∃ xs l h m, (ρ a = .sl xs ∨ ρ a = .fl xs) ∧ (∀ c ∈ xs, c.length = esz) ∧ optI ρ 0 lo = some l ∧ optI ρ 0 (some hi) = some h ∧ optI ρ 0 (some mx) = some m ∧ 0 ≤ l ∧ l ≤ h ∧ h = m ∧ m ≤ xs.length ∧ v = .fl ((xs.take h.toNat).drop l.toNat)) ∨
       (∃ k ver off len e xs l h m, ρ a = .hs k ver off len ∧ μ k = some (.arr ver e xs) ∧ optI ρ 0 lo = some l ∧ optI ρ 0 (some hi) = some h ∧ optI ρ 0 (some mx) = some m ∧ 0 ≤ l ∧ l ≤ h ∧ h ≤ m ∧ m ≤ len ∧ v = (bif Nat.beq (off + m.toNat) xs.length && Nat.beq e esz then .hs k ver (off + l.toNat) (h.toNat - l.toNat) else .dead) ∧ acc = ([k], [])))
  | .sidx _ a i => u = [] ∧ acc = ([], []) ∧ ∃ s ik z b, ρ a = .str s ∧ ρ i = .int ik z ∧ 0 ≤ z ∧ s[z.toNat]? = some b ∧ v = .int .u8 b.toNat
  | .mkfn _ f caps => v = .fn f (caps.map ρ) ∧ u = [] ∧ acc = ([], [])
  | .mkmv _ f bs => v = .mfn f (bs.map ρ) ∧ u = [] ∧ acc = ([], [])
  | .vidx _ a i n m ag => (∃ c ik z, ρ a = .agg c ∧ ρ i = .int ik z ∧ 0 ≤ z ∧ z < m ∧ loadV ag n (c.drop (z.toNat * n)) = some v) ∧ u = [] ∧ acc = ([], [])
  | .bslr _ key a => ∃ k off, ρ a = .ref k off ∧ μ key = none ∧ v = .hs key 0 0 1 ∧ u = [(key, .rarr 0 [.ref k off])] ∧ acc = ([], [key])
  | .ridx _ a i => u = [] ∧ ∃ ik z k ver off len cs, ρ i = .int ik z ∧ 0 ≤ z ∧ ρ a = .hs k ver off len ∧ z < len ∧ μ k = some (.rarr ver cs) ∧ v = .er k ver (off + z.toNat) 0 ∧ acc = ([k], [])
  | .rload _ a => u = [] ∧ ∃ k ver i cs, ρ a = .er k ver i 0 ∧ μ k = some (.rarr ver cs) ∧ cs[i]? = some v ∧ acc = ([k], [])
  | .rapp _ a x bytes => ∃ k ver off len cs k2 ver2 off2 len2 cs2, ρ a = .hs k ver off len ∧ μ k = some (.rarr ver cs) ∧ ρ x = .hs k2 ver2 off2 len2 ∧ μ k2 = some (.rarr ver2 cs2) ∧ off2 + len2 ≤ cs2.length ∧ off + len = cs.length ∧
      ((len + len2 : Nat) : Int) * bytes ≤ 70368744177664 ∧ v = .hs k (ver + 1) 0 (len + len2) ∧ u = [(k, .rarr (ver + 1) (cs.drop off ++ (cs2.drop off2).take len2))] ∧ acc = ([k2], [k])
  | .ext _ a i => (∃ xs, ρ a = .tup xs ∧ xs[i]? = some v) ∧ u = [] ∧ acc = ([], [])
  | .pick _ c a b => (∃ t, ρ c = .bool t ∧ v = bif t then ρ a else ρ b) ∧ u = [] ∧ acc = ([], [])
  | .callf _ c args => u = [] ∧ acc = ([], []) ∧ ∃ f caps res, callee ρ c = some (f, caps) ∧ calOk P ρ c ∧ isPL (calV ρ c args) = true ∧ isPL caps = true ∧ Ctr P f (calV ρ c args ++ caps) [] (fun r o => r = res ∧ o = []) ∧ v = resA res
  | .callb _ c args => u = [] ∧ ∃ f caps res, callee ρ c = some (f, caps) ∧ calOk P ρ c ∧ acc = ((calV ρ c args ++ caps).flatMap (keysA μ), []) ∧ isPL ((calV ρ c args ++ caps).map (bor μ)) = true ∧
      Ctr P f ((calV ρ c args ++ caps).map (bor μ)) [] (fun r o => r = res ∧ o = []) ∧ res.all scalar = true ∧ v = resA res
  | .appd _ a x esz bytes => ∃ k ver off len xs ys rd, ρ a = .hs k ver off len ∧ μ k = some (.arr ver esz xs) ∧
      (((ρ x = .sl ys ∨ ρ x = .fl ys) ∧ (∀ c ∈ ys, c.length = esz) ∧ rd = []) ∨ (∃ k2 ver2 off2 len2 xs2, ρ x = .hs k2 ver2 off2 len2 ∧ μ k2 = some (.arr ver2 esz xs2) ∧ ys = (xs2.drop off2).take len2 ∧ rd = [k2])) ∧
      ((off + len + ys.length ≤ xs.length ∧ v = .hs k ver off (len + ys.length) ∧ u = [(k, .arr ver esz (xs.take (off + len) ++ ys ++ xs.drop (off + len + ys.length)))]) ∨
       (off + len = xs.length ∧ ((len + ys.length : Nat) : Int) * bytes ≤ 70368744177664 ∧ v = .hs k (ver + 1) 0 (len + ys.length) ∧ u = [(k, .arr (ver + 1) esz (xs.drop off ++ ys))])) ∧ acc = (rd, [k])
  | .clear a zero => v = .dead ∧ ∃ k ver off len esz xs, ρ a = .hs k ver off len ∧ μ k = some (.arr ver esz xs) ∧ zero.length = esz ∧ isPL zero = true ∧ oneAL zero = true ∧ u = [(k, .arr ver esz (xs.take off ++ List.replicate len zero ++ xs.drop (off + len)))] ∧ acc = ([], [k])
  | .mxn _ max a b => (∃ k x y, ρ a = .int k x ∧ ρ b = .int k y ∧ v = .int k (if max then (if y > x then y else x) else (if y < x then y else x))) ∧ u = [] ∧ acc = ([], [])
  | .field _ a off n ag => (∃ c, ρ a = .agg c ∧ loadV ag n (c.drop off) = some v) ∧ u = [] ∧ acc = ([], [])
  | .nilc _ a => ((∃ c, ρ a = .rp c) ∨ (∃ k o, ρ a = .ref k o) ∨ (∃ k w i o, ρ a = .er k w i o) ∨ (∃ f c, ρ a = .fn f c) ∨ (∃ f c, ρ a = .mfn f c)) ∧ v = ρ a ∧ u = [] ∧ acc = ([], [])
  | .make _ key esz bytes zero n c => ∃ nk ck z zc, ρ n = .int nk z ∧ ρ c = .int ck zc ∧ z = zc ∧ 0 ≤ z ∧ z * bytes ≤ 140737488355328 ∧ zero.length = esz ∧ μ key = none ∧ v = .hs key 0 0 z.toNat ∧ u = [(key, .arr 0 esz (List.replicate z.toNat zero))] ∧ acc = ([], [key])
  | .makeb _ key bytes rows zero n c => ∃ nk ck z zc, ρ n = .int nk z ∧ ρ c = .int ck zc ∧ z = zc ∧ 0 ≤ z ∧ z * bytes ≤ 140737488355328 ∧ μ key = none ∧ mkbOk μ key rows z.toNat ∧ v = .bs key 0 z.toNat ∧ u = mkbO rows z.toNat ++ [(key, .box (mkbC rows zero z.toNat))] ∧ acc = ([], key :: mkbK rows z.toNat)
  | .buildm _ zero parts => (∀ p ∈ parts, cellM (ρ p.2.2) = true ∧ (cellsM (ρ p.2.2)).length = p.2.1 ∧ p.1 + p.2.1 ≤ zero.length) ∧ v = .mag (fillM ρ parts zero) ∧ u = [] ∧ acc = ([], [])
  | .boxg _ key a => cellM (ρ a) = true ∧ oneAL (cellsM (ρ a)) = true ∧ μ key = none ∧ v = .ref key 0 ∧ u = [(key, .box (cellsM (ρ a)))] ∧ acc = ([], [key])
  | .mkif _ t a => v = (bif isP (ρ a) then .ifc t (ρ a) else .mif t (ρ a)) ∧ u = [] ∧ acc = ([], [])
  | .tass _ t a => (∃ x, ρ a = .ifc t x ∧ v = .tup [x, .bool true]) ∧ u = [] ∧ acc = ([], [])
  | .eqs _ neg a => ((∃ c xs, (ρ a = .sl (c :: xs) ∨ ρ a = .fl (c :: xs)) ∧ v = .bool neg) ∨ (∃ xs, (ρ a = .sl xs ∨ ρ a = .fl xs) ∧ v = .anyb) ∨ (∃ k ver off len, ρ a = .hs k ver off len ∧ v = .anyb)) ∧ u = [] ∧ acc = ([], [])
  | .callo _ c args pass new => ∃ f caps obs res obs', callee ρ c = some (f, caps) ∧ calOk P ρ c ∧ getObsM μ pass = some obs ∧ allNoneM μ new = true ∧
      Ctr P f (renL (idxM 0 pass) (calV ρ c args ++ caps)) (mapOb (idxM 0 pass) obs) (fun r o => r = res ∧ o = obs') ∧ obs'.length = pass.length + new.length ∧
      v = ren (invL (idxM 0 (pass ++ new))) (resA res) ∧ u = zipU (pass ++ new) (mapOb (invL (idxM 0 (pass ++ new))) obs') ∧ acc = ([], pass ++ new)
  | .callx _ c args pass new => ∃ f caps obs res obs', callee ρ c = some (f, caps) ∧ calOk P ρ c ∧ getObsM μ pass = some obs ∧ allNoneM μ new = true ∧
      Ctr P f ((calV ρ c args ++ caps).map (xbor pass μ)) (mapOb (idxM 0 pass) obs) (fun r o => r = res ∧ o = obs') ∧ obs'.length = pass.length + new.length ∧ res.all scalX = true ∧ obs'.all scalOb = true ∧
      v = ren (invL (idxM 0 (pass ++ new))) (resA res) ∧ u = zipU (pass ++ new) (mapOb (invL (idxM 0 (pass ++ new))) obs') ∧ acc = ((calV ρ c args ++ caps).flatMap (keysA (hideM pass μ)), pass ++ new)
  | .calle _ c args => ∃ pass new ys ks f caps obs res obs', callee ρ c = some (f, caps) ∧ calOk P ρ c ∧ (keysOk (idxM 0 (pass ++ new)) = true ∧ keysOk (idxM 0 pass) = true) ∧ getObsM μ pass = some obs ∧ allNoneM μ new = true ∧
      ArgL μ pass (calV ρ c args ++ caps) ys ks ∧ Ctr P f ys (mapOb (idxM 0 pass) obs) (fun r o => r = res ∧ o = obs') ∧ obs'.length = pass.length + new.length ∧ res.all scalX = true ∧ obs'.all scalOb = true ∧
      v = ren (invL (idxM 0 (pass ++ new))) (resA res) ∧ u = zipU (pass ++ new) (mapOb (invL (idxM 0 (pass ++ new))) obs') ∧ acc = (ks, pass ++ new)
def St.puts (st : St) : List (Nat × Ob) → St
 | [] => st
 | (k, o) :: r => (st.put k o).puts r
/- When an operation of the abstract machine is one of the program's; and that the simple ones do what they say. -/
mutual
def okC : AV → Value → Bool
 | .int k n, .int k' m => decide (k = k') && decide (n = m)
 | .bool a, .bool b => a == b
 | .str a, .string b => decide (a = b)
 | .nilp, .pointer none => true
 | .nilf, .nilFunc => true
 | .nili, .nilIface => true
 | .sl [], .slice none 0 0 => true
 | .yl _, .slice none 0 0 => true
 | .fn f [], .func (.func g) a b => Nat.beq f g && a.toList.isEmpty && b.toList.isEmpty
 | .agg cs, .agg us => okCL cs us.toList
 | _, _ => false
def okCL : List AV → List Value → Bool
 | [], [] => true
 | x :: xs, v :: vs => okC x v && okCL xs vs
 | _, _ => false
end
mutual
theorem okC_rep (V : View) : ∀ {x : AV} {v : Value}, okC x v = true → RepP V x v
 | .int k n, .int k' m, h => by simp [okC] at h; simp [RepP, h.1, h.2]
 | .bool a, .bool b, h => by simp [okC] at h; simp [RepP, h]
 | .str a, .string b, h => by simp [okC] at h; simp [RepP, h]
 | .nilp, .pointer none, h => by simp [RepP]
 | .nilf, .nilFunc, h => by simp [RepP]
 | .nili, .nilIface, h => by simp [RepP]
 | .sl [], .slice none 0 0, h => by simp [RepP]
 | .yl _, .slice none 0 0, h => by simp [RepP]
 | .fn f [], .func (.func g) a b, h => by
  simp only [okC, Bool.and_eq_true, List.isEmpty_iff, Array.toList_eq_nil_iff] at h
  have := Nat.eq_of_beq_eq_true h.1.1
  simp [RepP, RepPL, this, h.1.2, h.2]
 | .agg cs, .agg us, h => by
  simp only [okC] at h
  simp only [RepP]
  exact ⟨us.toList, rfl, okCL_rep V h⟩
theorem okCL_rep (V : View) : ∀ {x : List AV} {v : List Value}, okCL x v = true → RepPL V x v
 | [], [], h => by simp [RepPL]
 | x :: xs, v :: vs, h => by
  simp only [okCL, Bool.and_eq_true] at h
  simp only [RepPL]
  exact ⟨v, vs, rfl, okC_rep V h.1, okCL_rep V h.2⟩
end
def okA : Arg → Operand → Bool
 | .r i, .tmp j => Nat.beq i j
 | .c x, .const v => okC x v
 | .c (.fn f []), .func g => Nat.beq f g
 | .g i, .global j => Nat.beq i j
 | _, _ => false
def okAs : List Arg → List Operand → Bool
 | [], [] => true
 | x :: xs, y :: ys => okA x y && okAs xs ys
 | _, _ => false
def leafGo (P : Program) (rec : TypeId → Option (List LK)) (acc : Nat) : List Field → Option (List LK)
 | [] => some []
 | f :: fs =>
  if f.name != "_" && Nat.beq f.offset acc then
   match rec f.type with
   | some k1 => if Nat.beq k1.length (P.cellsOf f.type) && !Nat.beq k1.length 0 then (leafGo P rec (acc + P.cellsOf f.type) fs).map (k1 ++ ·) else none
   | none => none
  else none
def leafRep : Nat → List LK → List LK
 | 0, _ => []
 | n + 1, k => k ++ leafRep n k
/-- What lies in a type's cells, where these are numbers, truth values and texts alone, without gaps. -/
def leafK (P : Program) : Nat → TypeId → Option (List LK)
 | 0, _ => none
 | d + 1, t =>
  match P.underlying t with
  | some .bool => some [.b]
  | some (.int _) => some [.i]
  | some .string => some [.s]
  | some (.struct fs) => if P.stoodInHeld t then none else leafGo P (leafK P d) 0 fs.toList
  | some (.array n e) => (match leafK P d e with
   | some k1 => if Nat.beq k1.length (P.cellsOf e) && !Nat.beq k1.length 0 then some (leafRep n k1) else none
   | none => none)
  | _ => none
def isAggT (P : Program) (t : TypeId) : Bool :=
 match P.underlying t with
 | some (.struct _) | some (.array _ _) => true
 | _ => false
def okEq (P : Program) (t : TypeId) : EqK → Bool
 | .bool => (match P.underlying t with | some .bool => true | _ => false)
 | .strct ks => decide (leafK P 20 t = some ks) && !P.eqGuardType P.depth t && isAggT P t
 | .nil => (match P.underlying t with | some (.pointer _) => true | _ => false)
 | .nilf => (match P.underlying t with | some (.func _ _ _) => true | _ => false)
def okOffs (P : Program) (fs : Array Field) : List (Nat × Operand) → List (Nat × Nat × Arg) → Bool
 | [], [] => true
 | (i, y) :: r, (o, n, x) :: r' => (match fs[i]? with | some f => Nat.beq f.offset o && Nat.beq (P.cellsOf f.type) n | none => false) && okA x y && okOffs P fs r r'
 | _, _ => false
def okOffsA (sz : Nat) : List (Nat × Operand) → List (Nat × Nat × Arg) → Bool
 | [], [] => true
 | (i, y) :: r, (o, n, x) :: r' => Nat.beq (i * sz) o && Nat.beq sz n && okA x y && okOffsA sz r r'
 | _, _ => false
def okRows : Nat → List (Nat × Operand) → List Arg → Bool
 | _, [], [] => true
 | n, (i, y) :: r, x :: r' => Nat.beq i n && okA x y && okRows (n + 1) r r'
 | _, _, _ => false
def okOpt : Option Arg → Option Operand → Bool
 | none, none => true
 | some x, some y => okA x y
 | _, _ => false
def okZero (P : Program) (t : TypeId) (zero : List AV) : Bool :=
 match P.info? t with
 | some i => match i.zero with
  | some z => okCL zero z.cells.toList && Nat.beq zero.length i.size && oneAL zero
  | none => false
 | none => false
def okSl (P : Program) (t : TypeId) (n : Nat) : Bool :=
 match P.underlying t with
 | some (.slice e) => Nat.beq (P.cellsOf e) n && (P.info? e).isSome
 | _ => false
def okBytes (P : Program) (t : TypeId) (b : Nat) : Bool :=
 match P.underlying t with
 | some (.slice e) => (match P.info? e with | some i => Nat.beq i.bytes b && !Nat.beq b 0 && (match i.zero with | some z => Nat.beq z.cells.size i.size | none => false) | none => false)
 | _ => false
def okZeroE (P : Program) (t : TypeId) : Bool :=
 match P.underlying t with
 | some (.slice e) => (match P.info? e with | some i => i.zero.isSome | none => false)
 | _ => false
def okCal (c : Cal) (y : Operand) (P : Program) : Bool :=
 match c, y with
 | .st f, .func g => Nat.beq f g
 | .dy x, y => okA x y
 | _, _ => false
def okCall (P : Program) (c : Cal) (args : List Arg) (o : Op) : Bool :=
 match c with
 | .iv a _ nm _ => match o with
  | .call { callee := .invoke y nm', args := as, .. } => okA a y && decide (nm = nm') && okAs args as.toList
  | _ => false
 | c => match o with
  | .call { callee := .value y, args := as, .. } => okCal c y P && okAs args as.toList
  | _ => false
def concT (P : Program) (t : TypeId) : Bool :=
 match P.underlying t with
 | some (.interface _) | none => false
 | _ => true
def okOp' (P : Program) (o : Oper) : AOp → Bool
 | .mov _ a => match o.op with | .move y | .assign y => okA a y | _ => false
 | .bin _ op a b => match o.op with | .binOp op' t y z _ => decide (op = op') && okA a y && okA b z | _ => false
 | .eq _ neg ks a b => match o.op with | .binOp op' t y z _ => decide (op' = bif neg then .neq else .eql) && okA a y && okA b z && okEq P t ks | _ => false
 | .un _ op a => match o.op with | .unOp op' t y => decide (op = op') && okA a y | _ => false
 | .conv _ k a => match o.op with | .convert s t y => okA a y && (match P.underlying t with | some (.int k') => decide (k = k') | _ => false) && (P.underlying s).isSome | _ => false
 | .len _ a => match o.op with
  | .call { callee := .builtin .len, args := as, argTypes := ts } => okAs [a] as.toList && (match ts.toList with | t :: _ => (match P.underlying t with | some (.slice _) => true | _ => false) | [] => false)
  | _ => false
 | .slen _ a => match o.op with
  | .call { callee := .builtin .len, args := as, argTypes := ts } => okAs [a] as.toList && (match ts.toList with | t :: _ => (match P.underlying t with | some .string => true | _ => false) | [] => false)
  | _ => false
 | .idx _ a i n => match o.op with | .indexAddr t y z => okA a y && okA i z && okSl P t n | _ => false
 | .aix _ a i n m => match o.op with
  | .indexAddr t y z => okA a y && okA i z && (match P.underlying t with | some (.array m' e) => Nat.beq m m' && Nat.beq (P.cellsOf e) n && (P.info? e).isSome | _ => false)
  | _ => false
 | .fad _ a off => match o.op with
  | .fieldAddr s y f => okA a y && (match P.underlying s with | some (.struct fs) => (match fs[f]? with | some fd => Nat.beq fd.offset off && (P.info? fd.type).isSome && !Nat.beq (P.cellsOf fd.type) 0 | none => false) | _ => false)
  | _ => false
 | .load _ a n ag => match o.op with | .load t y => okA a y && Nat.beq (P.cellsOf t) n && (P.info? t).isSome && (isAggT P t == ag) && (P.underlying t).isSome | _ => false
 | .store a x n => match o.op with | .store t y z => okA a y && okA x z && (P.info? t).isSome && Nat.beq (P.cellsOf t) n | _ => false
 | .boxp _ a => match o.op with | .box t y => okA a y | _ => false
 | .boxo _ _ a => match o.op with | .box t y => okA a y | _ => false
 | .boxm _ _ a => match o.op with | .box t y => okA a y | _ => false
 | .alloc _ _ cells => match o.op with | .alloc t => okZero P t cells | _ => false
 | .allocm _ _ cells => match o.op with | .alloc t => okZero P t cells | _ => false
 | .alloca _ _ _ esz => match o.op with | .alloc t => okZero P t [.sl []] && okSl P t esz | _ => false
 | .nilarr _ _ esz => match o.op with | .move y | .assign y => okA (.c (.sl [])) y | _ => false
 | .build _ zero parts => match o.op with
  | .build t ps => okZero P t zero && (match P.underlying t with | some (.struct fs) => fs.toList.all (fun f => (P.info? f.type).isSome) && okOffs P fs ps.toList parts | some (.array _ e) => (P.info? e).isSome && okOffsA (P.cellsOf e) ps.toList parts | _ => false)
  | _ => false
 | .bslp _ esz rows => match o.op with | .buildSlice t n ps => okSl P t esz && Nat.beq n rows.length && okRows 0 ps.toList rows && okZeroE P t && decide (n * esz ≤ 16777216) | _ => false
 | .bslo _ _ esz rows => match o.op with | .buildSlice t n ps => okSl P t esz && Nat.beq n rows.length && okRows 0 ps.toList rows && okZeroE P t && decide (n * esz ≤ 16777216) | _ => false
 | .slc _ a lo hi esz => match o.op with
  | .slice t y l h none => okA a y && okOpt lo l && okOpt hi h && okSl P t esz
  | _ => false
 | .sslc _ a lo hi => match o.op with
  | .slice t y l h none => okA a y && okOpt lo l && okOpt hi h && (match P.underlying t with | some .string => true | _ => false)
  | _ => false
 | .slc3 _ a lo hi mx esz => match o.op with
  | .slice t y l (some h) (some m) => okA a y && okOpt lo l && okA hi h && okA mx m && okSl P t esz
  | _ => false
 | .sidx _ a i => match o.op with | .index t y z => okA a y && okA i z && (match P.underlying t with | some .string => true | _ => false) | _ => false
 | .mkfn _ f caps => match o.op with | .makeFunc (.func g) first cs => Nat.beq f g && first.toList.isEmpty && okAs caps cs.toList | _ => false
 | .mkmv _ f bs => match o.op with | .makeFunc (.func g) first cs => Nat.beq f g && cs.toList.isEmpty && okAs bs first.toList | _ => false
 | .vidx _ a i n m ag => match o.op with
  | .index t y z => okA a y && okA i z && (match P.underlying t with | some (.array m' e) => Nat.beq m m' && Nat.beq (P.cellsOf e) n && (P.info? e).isSome && (isAggT P e == ag) && (P.underlying e).isSome | _ => false)
  | _ => false
 | .bslr _ _ a => match o.op with | .buildSlice t n ps => okSl P t 1 && Nat.beq n [a].length && okRows 0 ps.toList [a] && okZeroE P t && decide (n * 1 ≤ 16777216) | _ => false
 | .ridx _ a i => match o.op with
  | .indexAddr t y z => okA a y && okA i z && okSl P t 1
  | _ => false
 | .rload _ a => match o.op with | .load t y => okA a y && Nat.beq (P.cellsOf t) 1 && (P.info? t).isSome && (isAggT P t == false) && (P.underlying t).isSome | _ => false
 | .rapp _ a x bytes => match o.op with
  | .call { callee := .builtin .append, args := as, argTypes := ts } => okAs [a, x] as.toList && (match ts.toList with | [t, t'] => okBytes P t bytes && okSl P t 1 && Nat.beq t t' | _ => false)
  | _ => false
 | .ext _ a i => match o.op with | .extract y j => okA a y && Nat.beq i j | _ => false
 | .pick _ c a b => match o.op with | .pick x y z => okA c x && okA a y && okA b z | _ => false
 | .callf _ c args => okCall P c args o.op
 | .callb _ c args => okCall P c args o.op
 | .calle _ c args => okCall P c args o.op
 | .appd _ a x esz bytes => match o.op with
  | .call { callee := .builtin .append, args := as, argTypes := ts } => okAs [a, x] as.toList && (match ts.toList with | [t, t'] => okBytes P t bytes && okSl P t esz && Nat.beq t t' | _ => false)
  | _ => false
 | .clear a zero => match o.op with
  | .call { callee := .builtin .clear, args := as, argTypes := ts } => okAs [a] as.toList && (match ts.toList with | [t] => (match P.underlying t with | some (.slice e) => okZero P e zero | _ => false) | _ => false)
  | _ => false
 | .mxn _ mx a b => match o.op with
  | .call { callee := .builtin b', args := as, .. } => decide (b' = bif mx then .max else .min) && okAs [a, b] as.toList
  | _ => false
 | .field _ a off n ag => match o.op with
  | .field t y f => okA a y && (match P.underlying t with | some (.struct fs) => (match fs[f]? with | some fd => Nat.beq fd.offset off && Nat.beq (P.cellsOf fd.type) n && (P.info? fd.type).isSome && (isAggT P fd.type == ag) && (P.underlying fd.type).isSome | none => false) | _ => false)
  | _ => false
 | .nilc _ a => match o.op with | .nilCheck y => okA a y | _ => false
 | .make _ _ esz bytes zero n c => match o.op with
  | .makeSlice t y z => okA n y && okA c z && okSl P t esz && okBytes P t bytes && (match P.underlying t with | some (.slice e) => okZero P e zero | _ => false)
  | _ => false
 | .makeb _ _ bytes rows zero n c => match o.op with
  | .makeSlice t y z => okA n y && okA c z && okSl P t 1 && okBytes P t bytes && (match P.underlying t with | some (.slice e) => okZero P e [match rows with | none => zero | some _ => .sl []] | _ => false)
  | _ => false
 | .buildm _ zero parts => match o.op with
  | .build t ps => okZero P t zero && (match P.underlying t with | some (.struct fs) => fs.toList.all (fun f => (P.info? f.type).isSome) && okOffs P fs ps.toList parts | some (.array _ e) => (P.info? e).isSome && okOffsA (P.cellsOf e) ps.toList parts | _ => false)
  | _ => false
 | .boxg _ _ a => match o.op with | .box t y => okA a y | _ => false
 | .mkif _ t a => match o.op with | .makeInterface t' y => Nat.beq t t' && okA a y && concT P t | _ => false
 | .tass _ t a => match o.op with | .typeAssert y xt as ok => Nat.beq t as && okA a y && ok && concT P t | _ => false
 | .eqs _ neg a => match o.op with | .binOp op' t y z _ => decide (op' = bif neg then .neq else .eql) && okA a y && okA (.c (.sl [])) z && (match P.underlying t with | some (.slice _) => true | _ => false) | _ => false
 | .callo _ c args pass new => okCall P c args o.op && keysOk (idxM 0 (pass ++ new)) && keysOk (idxM 0 pass)
 | .callx _ c args pass new => okCall P c args o.op && keysOk (idxM 0 (pass ++ new)) && keysOk (idxM 0 pass)
def okOp (P : Program) (N : Nat) (o : Oper) (x : AOp) : Bool :=
 decide (o.dst = x.dst) && (match x.dst with | some d => decide (d < N) | none => true) && okOp' P o x
/- The abstract machine's operations are the program's: those that leave memory alone. -/
def updO (μ : Nat → Option Ob) : List (Nat × Ob) → Nat → Option Ob
 | [] => μ
 | (k, o) :: r => updO (fun j => if j = k then some o else μ j) r
def Done (W0 : World) (V0 : View) (Own : Fra) (P : Program) (o : Oper) (a : Act) (w : World) (V : View) (G : Ctx) (μ : Nat → Option Ob) (v : AV) (u : List (Nat × Ob)) : Prop :=
 ∀ (next : Act → World → Prop) (Q : Exit → Act → World → Prop),
  (∀ (val : Value) (w' : World) (V' : View) (G' : Ctx), Rep V' G' v val → V.le V' → G.le G' → Sat W0 V0 Own V' G' w' (updO μ u) → next (a.put o.dst val) w') → o.wp P a w next Q
section
variable {W0 : World} {V0 : View} {Own : Fra} {P : Program} {o : Oper} {a : Act} {w : World} {V : View} {G : Ctx} {μ : Nat → Option Ob} {ρ : Arg → AV} {v : AV} {u : List (Nat × Ob)} {acc : Acc}
theorem done_pure {val : Value} (hs : Sat W0 V0 Own V G w μ) (hr : (execOp a.eval o).run P w = .ok (.value val) w) (hv : Rep V G v val) : Done W0 V0 Own P o a w V G μ v [] := by
 intro next Q hn
 unfold Oper.wp
 rw [hr, Oper.upon_value]
 exact hn val w V G hv (View.le_refl _) (Ctx.le_refl _) hs
theorem run_v {s : Sem Value} {val : Value} {w' : World} (h : s.run P w = .ok val w') : (do pure (Next.value (← s)) : Sem Next).run P w = .ok (.value val) w' := by
 simp only [Sem.run_bind, h, Result.andThen_ok, Sem.run_pure]
theorem run_und {t : TypeId} {d : TypeDesc} (h : P.underlying t = some d) : (underlying t).run P w = .ok d w := by
 simp [underlying, h]
theorem run_size {t : TypeId} (h : (P.info? t).isSome = true) : (sizeOf t).run P w = .ok (P.cellsOf t) w := by
 obtain ⟨i, hi⟩ := Option.isSome_iff_exists.1 h
 simp [sizeOf, typeInfo, hi, Program.cellsOf]
theorem run_isAgg {t : TypeId} (h : (P.underlying t).isSome = true) : (isAgg t).run P w = .ok (isAggT P t) w := by
 obtain ⟨d, hd⟩ := Option.isSome_iff_exists.1 h
 unfold isAgg isAggT
 simp only [Sem.run_bind, run_und hd, Result.andThen_ok, hd]
 cases d <;> rfl
def ArgsOk (V : View) (G : Ctx) (ρ : Arg → AV) (a : Act) (xs : List Arg) : Prop := ∀ x ∈ xs, ∀ y, okA x y = true → Rep V G (ρ x) (a.eval y)
theorem snd_mov {d : Nat} {x : Arg} (hok : okOp' P o (.mov d x) = true) (h : opR P (.mov d x) ρ μ v u acc) (hA : ArgsOk V G ρ a (AOp.mov d x).args) (hs : Sat W0 V0 Own V G w μ) :
  Done W0 V0 Own P o a w V G μ v u := by
 obtain ⟨rfl, rfl, rfl⟩ := h
 simp only [okOp'] at hok
 split at hok
 ·rename_i y hy
  exact done_pure hs (val := a.eval y) (by rw [execOp, hy]; rfl) (hA _ (by simp [AOp.args]) _ hok)
 ·rename_i y hy
  exact done_pure hs (val := a.eval y) (by rw [execOp, hy]; rfl) (hA _ (by simp [AOp.args]) _ hok)
 ·cases hok
theorem rep_int {k : IntKind} {n : Int} {x : Value} (h : Rep V G (.int k n) x) : x = .int k n := h
theorem rep_str {s : ByteArray} {x : Value} (h : Rep V G (.str s) x) : x = .string s := h
theorem rep_bool {s : Bool} {x : Value} (h : Rep V G (.bool s) x) : x = .bool s := h
theorem beq_bytes (a b : ByteArray) : (a == b) = (a.toList == b.toList) := beq_toListBytes a b
theorem eqGuard_int (op : BinOp) (t : TypeId) (x y : Operand) (k k' : IntKind) (n m : Int) : (eqGuard op t x y (.int k n) (.int k' m)).run P w = .ok () w := by
 unfold eqGuard
 cases op <;> rfl
theorem eqGuard_str (op : BinOp) (t : TypeId) (x y : Operand) (n m : ByteArray) : (eqGuard op t x y (.string n) (.string m)).run P w = .ok () w := by
 unfold eqGuard
 cases op <;> rfl
theorem run_bin {op : BinOp} {t : TypeId} {x y : AV} {xv yv : Value} {px py : Operand} (h : evBin op x y = some v) (hx : Rep V G x xv) (hy : Rep V G y yv) :
  ∃ val, (do eqGuard op t px py xv yv; binOp op t xv yv : Sem Value).run P w = .ok val w ∧ Rep V G v val := by
 unfold evBin at h
 split at h
 ·rename_i k x k' y
  cases rep_int hx
  cases rep_int hy
  simp only [Sem.run_bind, eqGuard_int, Result.andThen_ok]
  split at h
  ·simp only [shBin] at h
   split at h
   ·cases h
   ·rename_i hn
    cases h
    exact ⟨_, by simp only [binOp, Op.shift, hn, if_false]; rfl, rfl⟩
  ·simp only [shBin] at h
   split at h
   ·cases h
   ·rename_i hn
    cases h
    exact ⟨_, by simp only [binOp, Op.shift, hn, if_false]; rfl, rfl⟩
  ·rename_i h1 h2
   split at h
   ·rename_i hk
    subst hk
    cases op <;> simp only [intBin] at h
    case add => cases h; exact ⟨_, by simp only [binOp, Op.intArith, ne_eq, not_true, if_false]; rfl, rfl⟩
    case sub => cases h; exact ⟨_, by simp only [binOp, Op.intArith, ne_eq, not_true, if_false]; rfl, rfl⟩
    case mul => cases h; exact ⟨_, by simp only [binOp, Op.intArith, ne_eq, not_true, if_false]; rfl, rfl⟩
    case quo =>
     split at h
     ·cases h
     ·rename_i hn; cases h; exact ⟨_, by simp only [binOp, Op.intDiv, hn, ne_eq, not_true, if_false]; rfl, rfl⟩
    case rem =>
     split at h
     ·cases h
     ·rename_i hn; cases h; exact ⟨_, by simp only [binOp, Op.intDiv, hn, ne_eq, not_true, if_false]; rfl, rfl⟩
    all_goals first
     | (cases h; done)
     | (cases h; exact ⟨_, by simp only [binOp, Op.intBits, Op.intCmp, ne_eq, not_true, if_false]; rfl, rfl⟩)
   ·cases h
 ·rename_i x y
  cases rep_str hx
  cases rep_str hy
  simp only [Sem.run_bind, eqGuard_str, Result.andThen_ok]
  cases op <;> simp only at h
  case add =>
   split at h
   ·rename_i hn
    cases h
    exact ⟨_, by simp only [binOp, Op.stringOp]; rw [if_neg (by simp only [IntKind.max, IntKind.signed, IntKind.bits]; simp; omega)]; rfl, rfl⟩
   ·cases h
  all_goals first
   | (cases h; done)
   | (cases h; exact ⟨_, by simp only [binOp, Op.stringOp]; rfl, by first | rfl | (simp only [beq_bytes]; rfl)⟩)
 ·cases h
theorem snd_bin {d : Nat} {op : BinOp} {x y : Arg} (hok : okOp' P o (.bin d op x y) = true) (h : opR P (.bin d op x y) ρ μ v u acc) (hA : ArgsOk V G ρ a (AOp.bin d op x y).args) (hs : Sat W0 V0 Own V G w μ) :
  Done W0 V0 Own P o a w V G μ v u := by
 obtain ⟨h, rfl, rfl⟩ := h
 simp only [okOp'] at hok
 split at hok
 ·rename_i op' t px py yt ho
  simp only [Bool.and_eq_true, decide_eq_true_eq] at hok
  obtain ⟨⟨rfl, h1⟩, h2⟩ := hok
  obtain ⟨val, hr, hv⟩ := run_bin (t := t) (P := P) (w := w) (px := px) (py := py) h (hA _ (by simp [AOp.args]) _ h1) (hA _ (by simp [AOp.args]) _ h2)
  exact done_pure hs (by rw [execOp, ho]; exact run_v hr) hv
 ·cases hok
theorem snd_un {d : Nat} {op : UnOp} {x : Arg} (hok : okOp' P o (.un d op x) = true) (h : opR P (.un d op x) ρ μ v u acc) (hA : ArgsOk V G ρ a (AOp.un d op x).args) (hs : Sat W0 V0 Own V G w μ) :
  Done W0 V0 Own P o a w V G μ v u := by
 obtain ⟨h, rfl, rfl⟩ := h
 simp only [okOp'] at hok
 split at hok
 ·rename_i op' t px ho
  simp only [Bool.and_eq_true, decide_eq_true_eq] at hok
  obtain ⟨rfl, h1⟩ := hok
  have hx := hA _ (by simp [AOp.args]) _ h1
  unfold evUn at h
  split at h
  ·rename_i k n hn
   rw [hn] at hx
   have hx := rep_int hx
   cases op <;> simp only at h <;> first
    | (cases h; done)
    | (cases h; exact done_pure hs (by rw [execOp, ho]; exact run_v (by rw [hx]; simp only [Op.unary, Op.intArith, Op.intBits]; rfl)) rfl)
  ·rename_i b hn
   rw [hn] at hx
   have hx := rep_bool hx
   cases op <;> simp only at h <;> first
    | (cases h; done)
    | (cases h; exact done_pure hs (by rw [execOp, ho]; exact run_v (by rw [hx]; rfl)) rfl)
  ·cases h
 ·cases hok
theorem snd_conv {d : Nat} {k : IntKind} {x : Arg} (hok : okOp' P o (.conv d k x) = true) (h : opR P (.conv d k x) ρ μ v u acc) (hA : ArgsOk V G ρ a (AOp.conv d k x).args) (hs : Sat W0 V0 Own V G w μ) :
  Done W0 V0 Own P o a w V G μ v u := by
 obtain ⟨⟨k', n, hn, rfl⟩, rfl, rfl⟩ := h
 simp only [okOp'] at hok
 split at hok
 ·rename_i s t px ho
  simp only [Bool.and_eq_true] at hok
  obtain ⟨⟨h1, h2⟩, h3⟩ := hok
  obtain ⟨ds, hds⟩ := Option.isSome_iff_exists.1 h3
  have hx := hA _ (by simp [AOp.args]) _ h1
  rw [hn] at hx
  have hx := rep_int hx
  split at h2
  ·rename_i k2 hk2
   obtain rfl := of_decide_eq_true h2
   exact done_pure hs (by rw [execOp, ho]; exact run_v (by rw [hx]; simp only [convert, Sem.run_bind, run_und hk2, run_und hds, Conv.intToInt, Result.andThen_ok]; rfl)) rfl
  ·cases h2
 ·cases hok
theorem okAs_one {x : Arg} {ys : List Operand} (h : okAs [x] ys = true) : ∃ y, ys = [y] ∧ okA x y = true := by
 match ys, h with
 | [y], h => simp [okAs] at h; exact ⟨y, rfl, h⟩
 | [], h => simp [okAs] at h
 | y :: z :: r, h => simp [okAs] at h
theorem okAs_two {x x' : Arg} {ys : List Operand} (h : okAs [x, x'] ys = true) : ∃ y y', ys = [y, y'] ∧ okA x y = true ∧ okA x' y' = true := by
 match ys, h with
 | [y, y'], h => simp [okAs] at h; exact ⟨y, y', rfl, h⟩
 | [], h => simp [okAs] at h
 | [y], h => simp [okAs] at h
 | y :: z :: t :: r, h => simp [okAs] at h
theorem run_len {as : Array Operand} {ts : Array TypeId} {y : Operand} {t : TypeId} {val : Value} (ho : o.op = .call { callee := .builtin .len, args := as, argTypes := ts }) (hy : as.toList = [y])
  (h : (Builtin.len_ ts o.type #[a.eval y]).run P w = .ok val w) : (execOp a.eval o).run P w = .ok (.value val) w := by
 obtain rfl : as = #[y] := by rw [← Array.toList_inj, hy]
 rw [execOp, ho]
 simp [resolve, invoke, builtin, h]
theorem snd_len {d : Nat} {x : Arg} (hok : okOp' P o (.len d x) = true) (h : opR P (.len d x) ρ μ v u acc) (hA : ArgsOk V G ρ a (AOp.len d x).args) (hs : Sat W0 V0 Own V G w μ) :
  Done W0 V0 Own P o a w V G μ v u := by
 obtain ⟨h, rfl, rfl⟩ := h
 simp only [okOp'] at hok
 split at hok
 ·rename_i as ts ho
  simp only [Bool.and_eq_true] at hok
  obtain ⟨h1, h2⟩ := hok
  obtain ⟨y, hy, h1⟩ := okAs_one h1
  have hx := hA _ (by simp [AOp.args]) _ h1
  split at h2
  ·rename_i t r ht
   have ht0 : ts[0]? = some t := by rw [← Array.getElem?_toList, ht]; rfl
   split at h2
   ·rename_i e hu
    rcases h with ⟨xs, he, rfl⟩ | ⟨xs, he, rfl⟩ | ⟨k, ver, off, len, he, rfl⟩ | ⟨k, off, len, he, rfl⟩
    all_goals rw [he] at hx; simp only [Rep, RepP] at hx
    ·obtain ⟨b, c, hv, _⟩ := hx
     exact done_pure hs (run_len (t := t) ho hy (by simp only [Builtin.len_, ht0, hv]; simp [run_und hu]; rfl)) rfl
    ·obtain ⟨b, hv, _⟩ := hx
     exact done_pure hs (run_len (t := t) ho hy (by simp only [Builtin.len_, ht0, hv]; simp [run_und hu]; rfl)) rfl
    ·obtain ⟨⟨b, c, hv⟩, _⟩ := hx
     exact done_pure hs (run_len (t := t) ho hy (by simp only [Builtin.len_, ht0, hv]; simp [run_und hu]; rfl)) rfl
    ·obtain ⟨b, c, _, hv, _⟩ := hx
     exact done_pure hs (run_len (t := t) ho hy (by simp only [Builtin.len_, ht0, hv]; simp [run_und hu]; rfl)) rfl
   ·cases h2
  ·cases h2
 ·cases hok
theorem snd_slen {d : Nat} {x : Arg} (hok : okOp' P o (.slen d x) = true) (h : opR P (.slen d x) ρ μ v u acc) (hA : ArgsOk V G ρ a (AOp.slen d x).args) (hs : Sat W0 V0 Own V G w μ) :
  Done W0 V0 Own P o a w V G μ v u := by
 obtain ⟨⟨s, he, rfl⟩, rfl, rfl⟩ := h
 simp only [okOp'] at hok
 split at hok
 ·rename_i as ts ho
  simp only [Bool.and_eq_true] at hok
  obtain ⟨h1, h2⟩ := hok
  obtain ⟨y, hy, h1⟩ := okAs_one h1
  have hx := hA _ (by simp [AOp.args]) _ h1
  rw [he] at hx
  have hx := rep_str hx
  split at h2
  ·rename_i t r ht
   have ht0 : ts[0]? = some t := by rw [← Array.getElem?_toList, ht]; rfl
   split at h2
   ·rename_i hu
    exact done_pure hs (run_len (t := t) ho hy (by simp only [Builtin.len_, ht0, hx]; simp [run_und hu]; rfl)) rfl
   ·cases h2
  ·cases h2
 ·cases hok
end
/- The abstract machine's operations are the program's: those that read memory. -/
section
variable {W0 : World} {V0 : View} {Own : Fra} {P : Program} {o : Oper} {a : Act} {w : World} {V : View} {G : Ctx} {μ : Nat → Option Ob} {ρ : Arg → AV} {v : AV} {u : List (Nat × Ob)} {acc : Acc}
theorem okSl_spec {t : TypeId} {n : Nat} (h : okSl P t n = true) : ∃ e, P.underlying t = some (.slice e) ∧ P.cellsOf e = n ∧ (P.info? e).isSome = true := by
 unfold okSl at h
 split at h
 ·rename_i e he
  simp only [Bool.and_eq_true] at h
  exact ⟨e, he, Nat.eq_of_beq_eq_true h.1, h.2⟩
 ·cases h
theorem add_lit (b o n : Nat) : Addr.add ⟨b, o, none⟩ n = ⟨b, o + n, none⟩ := Addr.add_lit b o n
theorem getElem?_lt {α : Type} {l : List α} {i : Nat} {x : α} (h : l[i]? = some x) : i < l.length := (List.getElem?_eq_some_iff.1 h).1
/-- A slice's rows, read off its value. -/
theorem rep_sl {xs : List (List AV)} {x : Value} {z : AV} (he : z = .sl xs ∨ z = .fl xs) (h : Rep V G z x) :
  ∃ A cap, x = .slice A xs.length cap ∧ xs.length ≤ cap ∧ (xs = [] ∨ ∃ b o esz, A = some ⟨b, o, none⟩ ∧ RepR V (V b) esz o xs) := by
 rcases he with rfl | rfl
 ·simp only [Rep, RepP] at h
  exact h
 ·simp only [Rep, RepP] at h
  obtain ⟨A, e, q⟩ := h
  exact ⟨A, _, e, Nat.le_refl _, q⟩
theorem snd_idx {d n : Nat} {x y : Arg} (hok : okOp' P o (.idx d x y n) = true) (h : opR P (.idx d x y n) ρ μ v u acc) (hA : ArgsOk V G ρ a (AOp.idx d x y n).args) (hs : Sat W0 V0 Own V G w μ) :
  Done W0 V0 Own P o a w V G μ v u := by
 obtain ⟨rfl, ik, z, hz, h0, h⟩ := h
 simp only [okOp'] at hok
 split at hok
 ·rename_i t px py ho
  simp only [Bool.and_eq_true] at hok
  obtain ⟨⟨h1, h2⟩, h3⟩ := hok
  obtain ⟨e, hu, hn, hi⟩ := okSl_spec h3
  have hx := hA _ (by simp [AOp.args]) _ h1
  have hy := hA _ (by simp [AOp.args]) _ h2
  rw [hz] at hy
  have hy := rep_int hy
  rcases h with ⟨xs, c, he, hc, hcn, rfl, rfl⟩ | ⟨k, ver, off, len, xs, he, hlt, hm, rfl, rfl⟩ | ⟨k, off, len, he, hlt, rfl, rfl, rfl⟩
  ·obtain ⟨A, cap, hv, hcap, hr⟩ := rep_sl he hx
   have hl := getElem?_lt hc
   rcases hr with rfl | ⟨b, of, esz, rfl, hr⟩
   ·simp at hc
   ·obtain ⟨hce, hrc⟩ := hr.get hc
    have hesz : esz = n := by omega
    refine done_pure hs (val := .pointer (some ⟨b, of + z.toNat * n, none⟩)) ?_ ?_
    ·rw [execOp, ho]
     refine run_v ?_
     have hb : 0 ≤ z ∧ z < (xs.length : Int) := ⟨h0, by omega⟩
     simp only [Instr.indexAt, asIntOf, hy, hv, Sem.run_bind, Sem.run_pure, run_und hu, Result.andThen_ok, if_pos hb, run_size hi, hn, add_lit]
    ·simp only [Rep, RepP]
     exact ⟨b, _, rfl, by rw [← hesz]; exact hrc⟩
  ·rw [he] at hx
   simp only [Rep] at hx
   obtain ⟨⟨A, cap, hv⟩, ver', esz, nn, loc, hg, hle, hq⟩ := hx
   obtain ⟨s, hgs, hob⟩ := hs.obs _ _ hm
   rw [hg] at hgs
   cases hgs
   obtain ⟨rfl, rfl, rfl, hnone, hloc⟩ := hob
   obtain ⟨A', cap', hv', hlc, hol, hnc, hq⟩ := hq rfl
   rw [hv] at hv'
   cases hv'
   cases loc with
   | none =>
    obtain ⟨rfl, rfl, hn0⟩ := hq
    omega
   | some loc =>
    obtain ⟨b, of, tot⟩ := loc
    obtain ⟨hA', htot⟩ := hq
    have hA2 : A = some ⟨b, of + off * esz, none⟩ := hA'.resolve_left (by omega)
    subst hA2
    refine done_pure hs (val := .pointer (some ⟨b, of + off * esz + z.toNat * esz, none⟩)) ?_ ?_
    ·rw [execOp, ho]
     refine run_v ?_
     have hb : 0 ≤ z ∧ z < (len : Int) := ⟨h0, hlt⟩
     simp only [Instr.indexAt, asIntOf, hy, hv, Sem.run_bind, Sem.run_pure, run_und hu, Result.andThen_ok, if_pos hb, run_size hi, hn, add_lit]
    ·simp only [Rep]
     refine ⟨⟨_, _, rfl⟩, _, _, _, _, hg, Nat.le_refl _, fun _ => ⟨b, of, tot, rfl, by omega, ?_⟩⟩
     rw [Nat.add_mul, Nat.add_zero, Nat.add_assoc]
  ·rw [he] at hx
   simp only [Rep] at hx
   obtain ⟨b, cap, hg, hv, hlc⟩ := hx
   refine done_pure hs (val := .pointer (some ⟨b, off + z.toNat * 1, none⟩)) ?_ ?_
   ·rw [execOp, ho]
    refine run_v ?_
    have hb : 0 ≤ z ∧ z < (len : Int) := ⟨h0, hlt⟩
    simp only [Instr.indexAt, asIntOf, hy, hv, Sem.run_bind, Sem.run_pure, run_und hu, Result.andThen_ok, if_pos hb, run_size hi, hn, add_lit]
   ·simp only [Rep]
    exact ⟨b, hg, by rw [Nat.mul_one]⟩
 ·cases hok
theorem snd_aix {d n m : Nat} {x y : Arg} (hok : okOp' P o (.aix d x y n m) = true) (h : opR P (.aix d x y n m) ρ μ v u acc) (hA : ArgsOk V G ρ a (AOp.aix d x y n m).args) (hs : Sat W0 V0 Own V G w μ) :
  Done W0 V0 Own P o a w V G μ v u := by
 obtain ⟨rfl, ik, z, hz, h0, hlt, rfl, h⟩ := h
 simp only [okOp'] at hok
 split at hok
 ·rename_i t px py ho
  simp only [Bool.and_eq_true] at hok
  obtain ⟨⟨h1, h2⟩, h3⟩ := hok
  have hx := hA _ (by simp [AOp.args]) _ h1
  have hy := hA _ (by simp [AOp.args]) _ h2
  rw [hz] at hy
  have hy := rep_int hy
  split at h3
  ·rename_i m' e hu
   simp only [Bool.and_eq_true] at h3
   obtain rfl := Nat.eq_of_beq_eq_true h3.1.1
   have hn := Nat.eq_of_beq_eq_true h3.1.2
   have hi := h3.2
   have hb : 0 ≤ z ∧ z < (m : Int) := ⟨h0, hlt⟩
   have key : ∀ (b of : Nat), a.eval px = .pointer (some ⟨b, of, none⟩) → (execOp a.eval o).run P w = .ok (.value (.pointer (some ⟨b, of + z.toNat * n, none⟩))) w := by
    intro b of hv
    rw [execOp, ho]
    refine run_v ?_
    simp only [Instr.indexAt, asIntOf, hy, hv, Instr.sureAddr, Sem.run_bind, Sem.run_pure, run_und hu, Result.andThen_ok, if_pos hb, run_size hi, hn, add_lit]
   rcases h with ⟨c, he, rfl⟩ | ⟨k, off, he, rfl⟩ | ⟨k, ver, j, off, he, rfl⟩
   ·rw [he] at hx
    simp only [Rep, RepP] at hx
    obtain ⟨b, of, hv, hr⟩ := hx
    exact done_pure hs (key b of hv) (by simp only [Rep, RepP]; exact ⟨b, _, rfl, hr.drop _⟩)
   ·rw [he] at hx
    simp only [Rep] at hx
    obtain ⟨b, hg, hv⟩ := hx
    exact done_pure hs (key b _ hv) (by simp only [Rep]; exact ⟨b, hg, rfl⟩)
   ·rw [he] at hx
    simp only [Rep] at hx
    obtain ⟨⟨b, of, hv⟩, ver', esz, nn, loc, hg, hle, hq⟩ := hx
    refine done_pure hs (key b of hv) ?_
    simp only [Rep]
    refine ⟨⟨_, _, rfl⟩, _, _, _, _, hg, hle, fun e => ?_⟩
    obtain ⟨b', o', tot, hl, hj, hv'⟩ := hq e
    rw [hv] at hv'
    cases hv'
    exact ⟨b, o', tot, hl, hj, by rw [Nat.add_assoc (o' + j * esz)]⟩
  ·cases h3
 ·cases hok
theorem snd_fad {d off : Nat} {x : Arg} (hok : okOp' P o (.fad d x off) = true) (h : opR P (.fad d x off) ρ μ v u acc) (hA : ArgsOk V G ρ a (AOp.fad d x off).args) (hs : Sat W0 V0 Own V G w μ) :
  Done W0 V0 Own P o a w V G μ v u := by
 obtain ⟨rfl, rfl, h⟩ := h
 simp only [okOp'] at hok
 split at hok
 ·rename_i s px f ho
  simp only [Bool.and_eq_true] at hok
  obtain ⟨h1, h3⟩ := hok
  have hx := hA _ (by simp [AOp.args]) _ h1
  split at h3
  ·rename_i fs hu
   split at h3
   ·rename_i fd hf
    simp only [Bool.and_eq_true, Bool.not_eq_true'] at h3
    obtain ⟨⟨hoff, hi⟩, hnz⟩ := h3
    have hoff := Nat.eq_of_beq_eq_true hoff
    have hnz : P.cellsOf fd.type ≠ 0 := fun e => by rw [e] at hnz; exact absurd hnz (by decide)
    have key : ∀ (b of : Nat), a.eval px = .pointer (some ⟨b, of, none⟩) → (execOp a.eval o).run P w = .ok (.value (.pointer (some ⟨b, of + off, none⟩))) w := by
     intro b of hv
     rw [execOp, ho]
     refine run_v ?_
     simp only [Instr.fieldAt, hv, Instr.sureAddr, Sem.run_bind, Sem.run_pure, run_und hu, Result.andThen_ok, hf, fieldPlace, run_size hi, hnz, if_false, add_lit, hoff]
    rcases h with ⟨c, he, rfl⟩ | ⟨k, of, he, rfl⟩ | ⟨k, ver, j, of, he, rfl⟩
    ·rw [he] at hx
     simp only [Rep, RepP] at hx
     obtain ⟨b, of, hv, hr⟩ := hx
     exact done_pure hs (key b of hv) (by simp only [Rep, RepP]; exact ⟨b, _, rfl, hr.drop _⟩)
    ·rw [he] at hx
     simp only [Rep] at hx
     obtain ⟨b, hg, hv⟩ := hx
     exact done_pure hs (key b _ hv) (by simp only [Rep]; exact ⟨b, hg, rfl⟩)
    ·rw [he] at hx
     simp only [Rep] at hx
     obtain ⟨⟨b, of', hv⟩, ver', esz, nn, loc, hg, hle, hq⟩ := hx
     refine done_pure hs (key b of' hv) ?_
     simp only [Rep]
     refine ⟨⟨_, _, rfl⟩, _, _, _, _, hg, hle, fun e => ?_⟩
     obtain ⟨b', o', tot, hl, hj, hv'⟩ := hq e
     rw [hv] at hv'
     cases hv'
     exact ⟨b, o', tot, hl, hj, by rw [Nat.add_assoc (o' + j * esz)]⟩
   ·cases h3
  ·cases h3
 ·cases hok
/-- A variable's value, out of cells that say what they hold. -/
theorem run_loadVar_p {t : TypeId} {n : Nat} {ag : Bool} {b of : Nat} {c : List AV} {us : List Value} (hn : P.cellsOf t = n) (hi : (P.info? t).isSome = true) (hag : isAggT P t = ag) (hu : (P.underlying t).isSome = true)
  (hr : RepPL V c us) (hc : ∀ j x, us[j]? = some x → w.cell? ⟨b, of + j, none⟩ = some x) (hl : loadV ag n c = some v) :
  ∃ val, (loadVar t ⟨b, of, none⟩).run P w = .ok val w ∧ RepP V v val := by
 unfold loadVar
 simp only [Sem.run_bind, run_isAgg hu, Result.andThen_ok, hag]
 cases ag with
 | true =>
  simp only [loadV] at hl
  split at hl
  ·rename_i hle
   cases hl
   have hlen := hr.length
   have h1 : (loadCells ⟨b, of, none⟩ n).run P w = .ok (us.take n).toArray w := by
    have := run_loadCells_list (P := P) w ⟨b, of, none⟩ (us.take n) (fun j x hx => by
     rw [add_lit]
     rw [List.getElem?_take] at hx
     split at hx
     ·exact hc j x hx
     ·cases hx)
    rwa [List.length_take, Nat.min_eq_left (by omega)] at this
   refine ⟨.agg (us.take n).toArray, ?_, ?_⟩
   ·simp only [if_true, Sem.run_bind, run_size hi, hn, Result.andThen_ok, h1, Sem.run_pure]
   ·simp only [RepP]
    exact ⟨_, rfl, hr.take n⟩
  ·cases hl
 | false =>
  simp only [loadV] at hl
  split at hl
  ·rename_i x r
   cases hl
   simp only [RepPL] at hr
   obtain ⟨y, r', rfl, hy, _⟩ := hr
   refine ⟨y, ?_, hy⟩
   have := hc 0 y rfl
   simp only [Bool.false_eq_true, if_false, run_load]
   rw [Nat.add_zero] at this
   rw [this]
  ·cases hl
theorem run_loadVar_m {t : TypeId} {n : Nat} {ag : Bool} {b of : Nat} {c : List AV} {us : List Value} (hn : P.cellsOf t = n) (hi : (P.info? t).isSome = true) (hag : isAggT P t = ag) (hu : (P.underlying t).isSome = true)
  (hr : RepL V G c us) (hc : ∀ j x, us[j]? = some x → w.cell? ⟨b, of + j, none⟩ = some x) (hl : loadM ag n c = some v) :
  ∃ val, (loadVar t ⟨b, of, none⟩).run P w = .ok val w ∧ Rep V G v val := by
 unfold loadVar
 simp only [Sem.run_bind, run_isAgg hu, Result.andThen_ok, hag]
 cases ag with
 | true =>
  simp only [loadM] at hl
  split at hl
  ·rename_i hle
   cases hl
   have hlen := hr.length
   have h1 : (loadCells ⟨b, of, none⟩ n).run P w = .ok (us.take n).toArray w := by
    have := run_loadCells_list (P := P) w ⟨b, of, none⟩ (us.take n) (fun j x hx => by
     rw [add_lit]
     rw [List.getElem?_take] at hx
     split at hx
     ·exact hc j x hx
     ·cases hx)
    rwa [List.length_take, Nat.min_eq_left (by omega)] at this
   refine ⟨.agg (us.take n).toArray, ?_, mkMag_rep (hr.take n)⟩
   simp only [if_true, Sem.run_bind, run_size hi, hn, Result.andThen_ok, h1, Sem.run_pure]
  ·cases hl
 | false =>
  simp only [loadM] at hl
  split at hl
  ·rename_i x r
   cases hl
   simp only [RepL] at hr
   obtain ⟨y, r', rfl, hy, _⟩ := hr
   refine ⟨y, ?_, hy⟩
   have := hc 0 y rfl
   simp only [Bool.false_eq_true, if_false, run_load]
   rw [Nat.add_zero] at this
   rw [this]
  ·cases hl
theorem RepL.drop {x : List AV} {us : List Value} (n : Nat) (h : RepL V G x us) : RepL V G (x.drop n) (us.drop n) := by
 induction n generalizing x us with
 | zero => exact h
 | succ n ih =>
  cases x with
  | nil => simp only [RepL] at h; subst h; simp [RepL]
  | cons x xs =>
   simp only [RepL] at h
   obtain ⟨y, r, rfl, _, q⟩ := h
   exact ih q
theorem cell_of {b i : Nat} {us : List Value} {T : TypeId} {f : Nat × Nat} {x : Value} (h : w.heap[b]? = some (.cells us.toArray T f)) (hx : us[i]? = some x) : w.cell? ⟨b, i, none⟩ = some x := by
 simp [World.cell?, h, hx]
theorem snd_load {d n : Nat} {ag : Bool} {x : Arg} (hok : okOp' P o (.load d x n ag) = true) (h : opR P (.load d x n ag) ρ μ v u acc) (hA : ArgsOk V G ρ a (AOp.load d x n ag).args) (hs : Sat W0 V0 Own V G w μ) :
  Done W0 V0 Own P o a w V G μ v u := by
 obtain ⟨rfl, h⟩ := h
 simp only [okOp'] at hok
 split at hok
 ·rename_i t px ho
  simp only [Bool.and_eq_true, beq_iff_eq] at hok
  obtain ⟨⟨⟨⟨h1, hn⟩, hi⟩, hag⟩, hu⟩ := hok
  have hn := Nat.eq_of_beq_eq_true hn
  have hx := hA _ (by simp [AOp.args]) _ h1
  have key : ∀ (b of : Nat) (val : Value), a.eval px = .pointer (some ⟨b, of, none⟩) → (loadVar t ⟨b, of, none⟩).run P w = .ok val w → (execOp a.eval o).run P w = .ok (.value val) w := by
   intro b of val hv hl
   rw [execOp, ho]
   refine run_v ?_
   simp only [Instr.loadAt, hv, Instr.sureAddr, Sem.run_bind, Sem.run_pure, Result.andThen_ok, hl]
  rcases h with ⟨c, he, hl, rfl⟩ | ⟨k, of, c, he, hm, hl, rfl⟩ | ⟨k, of, c, he, hm, hl, rfl⟩ | ⟨k, ver, i, of, esz, xs, c, he, hm, hc, hl, rfl⟩
  ·rw [he] at hx
   simp only [Rep, RepP] at hx
   obtain ⟨b, of, hv, hr⟩ := hx
   obtain ⟨us, hp, hq⟩ := hr.vals
   obtain ⟨val, h1, h2⟩ := run_loadVar_p hn hi hag hu hp (fun j x hx => hs.view _ _ _ (hq j x hx).1) hl
   exact done_pure hs (key _ _ _ hv h1) (h2.rep G)
  ·rw [he] at hx
   simp only [Rep] at hx
   obtain ⟨b, hg, hv⟩ := hx
   obtain ⟨s, hgs, hob⟩ := hs.obs _ _ hm
   rw [hg] at hgs
   cases hgs
   obtain ⟨us, T, hh, hp, _⟩ := hob
   obtain ⟨val, h1, h2⟩ := run_loadVar_p (b := b) (of := of) hn hi hag hu (hp.drop of) (fun j x hx => cell_of hh (by rw [List.getElem?_drop] at hx; exact hx)) hl
   exact done_pure hs (key _ _ _ hv h1) (h2.rep G)
  ·rw [he] at hx
   simp only [Rep] at hx
   obtain ⟨b, hg, hv⟩ := hx
   obtain ⟨s, hgs, hob⟩ := hs.obs _ _ hm
   rw [hg] at hgs
   cases hgs
   obtain ⟨us, T, hh, hp, _⟩ := hob
   obtain ⟨val, h1, h2⟩ := run_loadVar_m (b := b) (of := of) hn hi hag hu (hp.drop of) (fun j x hx => cell_of hh (by rw [List.getElem?_drop] at hx; exact hx)) hl
   exact done_pure hs (key _ _ _ hv h1) h2
  ·rw [he] at hx
   simp only [Rep] at hx
   obtain ⟨_, ver', esz', nn, loc, hg, hle, hq⟩ := hx
   obtain ⟨s, hgs, hob⟩ := hs.obs _ _ hm
   rw [hg] at hgs
   cases hgs
   obtain ⟨rfl, rfl, rfl, hnone, hloc⟩ := hob
   obtain ⟨b, o', tot, rfl, hin, hv⟩ := hq rfl
   obtain ⟨us, T, hh, ht, hle, hr⟩ := hloc b o' tot rfl
   obtain ⟨hce, hrc⟩ := hr.get hc
   obtain ⟨vs, hp, hq⟩ := (hrc.drop of).vals
   obtain ⟨val, h1, h2⟩ := run_loadVar_p (b := b) hn hi hag hu hp (fun j x hx => cell_of hh (hq j x hx).1) hl
   exact done_pure hs (key _ _ _ hv h1) (h2.rep G)
 ·cases hok
end
/- How what is known of memory goes on: a new block, an object that is another one. -/
section
variable {W0 : World} {V0 : View} {Own : Fra} {P : Program} {w w' : World} {V V' : View} {G G' : Ctx} {μ μ' : Nat → Option Ob}
theorem ObOk.mono {s : Sh} {ob : Ob} (hV : V.le V') (hG : G.le G') (hb : ∀ b, s.block = some b → w'.heap[b]? = w.heap[b]?) (h : ObOk V G w s ob) : ObOk V' G' w' s ob := by
 cases s <;> cases ob <;> simp only [ObOk] at h ⊢
 ·obtain ⟨us, T, e, r, q⟩ := h
  exact ⟨us, T, by rw [hb _ rfl]; exact e, r.mono hV hG, q⟩
 ·obtain ⟨us, T, e, r, q⟩ := h
  exact ⟨us, T, by rw [hb _ rfl]; exact e, r.mono hV, q⟩
 ·obtain ⟨h1, h2, h3, h4, h5⟩ := h
  refine ⟨h1, h2, h3, h4, fun b o tot hl => ?_⟩
  obtain ⟨us, T, e, t, l, r⟩ := h5 b o tot hl
  exact ⟨us, T, by rw [hb _ (by simp [Sh.block, hl])]; exact e, t, l, r.mono hV (fun _ _ h => h)⟩
 ·obtain ⟨h1, h2, h3, h4, h5⟩ := h
  refine ⟨h1, h2, h3, h4, fun b o tot hl => ?_⟩
  obtain ⟨us, T, e, t, l, r, q⟩ := h5 b o tot hl
  exact ⟨us, T, by rw [hb _ (by simp [Sh.block, hl])]; exact e, t, l, r.mono hV hG, q⟩
theorem Keep.of_le (h : Keep W0 Own w) (os : w'.os = w.os) (tape : w'.tape = w.tape) (output : w'.output = w.output) (size : w.heap.size ≤ w'.heap.size)
  (hb : ∀ b, b < W0.heap.size → ¬ Own.own b → w'.heap[b]? = w.heap[b]?) : Keep W0 Own w' :=
 ⟨os.trans h.os, tape.trans h.tape, output.trans h.output, Nat.le_trans h.size size, fun b h1 h2 => (hb b h1 h2).trans (h.block b h1 h2)⟩
theorem Sat.drew (h : Sat W0 V0 Own V G w μ) : Sat W0 V0 Own V G w.drew μ where
 keep := h.keep.of_le rfl rfl rfl (Nat.le_refl _) (fun _ _ _ => rfl)
 view := h.view
 vle := h.vle
 vnew := h.vnew
 obs := fun k ob e => by
  obtain ⟨s, e', q⟩ := h.obs k ob e
  exact ⟨s, e', q.mono (View.le_refl _) (Ctx.le_refl _) (fun _ _ => rfl)⟩
 dom := h.dom
 priv := h.priv
 inj := h.inj
 loc := h.loc
 glob := h.glob
theorem heap_alloc_old {b : Nat} {x : Obj} (h : b < w.heap.size) : (w.alloc x).heap[b]? = w.heap[b]? := by
 simp only [World.alloc, Array.getElem?_push]
 rw [if_neg (by omega)]
theorem heap_alloc_new {x : Obj} : (w.alloc x).heap[w.heap.size]? = some x := by
 show (w.heap.push x)[w.heap.size]? = some x
 rw [Array.getElem?_push, if_pos rfl]
/-- A new block that no one will write. -/
def viewNew (V : View) (b0 : Nat) (us : List Value) : View := fun b o => if b = b0 then us[o]? else V b o
theorem Sat.view_lt (h : Sat W0 V0 Own V G w μ) {b o : Nat} {x : Value} (e : V b o = some x) : b < w.heap.size := World.block_lt_of_cell? w _ (h.view b o x e)
theorem Sat.viewNew_le (h : Sat W0 V0 Own V G w μ) (us : List Value) : V.le (viewNew V w.heap.size us) := by
 intro b o v e
 unfold viewNew
 have := h.view_lt e
 rw [if_neg (by omega)]
 exact e
theorem Sat.frozen (h : Sat W0 V0 Own V G w μ) (us : List Value) (T : TypeId) : Sat W0 V0 Own (viewNew V w.heap.size us) G (w.alloc (.cells us.toArray T)) μ where
 keep := h.keep.of_le rfl rfl rfl (by simp) (fun b h1 _ => heap_alloc_old (Nat.lt_of_lt_of_le h1 h.keep.size))
 view := fun b o v e => by
  unfold viewNew at e
  split at e
  ·rename_i hb
   subst hb
   rw [World.cell?_alloc_new]
   simpa using e
  ·have := h.view_lt e
   rw [World.cell?_alloc_lt _ _ _ this]
   exact h.view b o v e
 vle := View.le_trans h.vle (h.viewNew_le us)
 vnew := fun b o hb => by
  unfold viewNew
  have := h.keep.size
  rw [if_neg (by omega)]
  exact h.vnew b o hb
 obs := fun k ob e => by
  obtain ⟨s, e', q⟩ := h.obs k ob e
  exact ⟨s, e', q.mono (h.viewNew_le us) (Ctx.le_refl _) (fun b hb => heap_alloc_old (h.priv k s b e' hb).1)⟩
 dom := h.dom
 priv := fun k s b e hb => by
  obtain ⟨p, q, r⟩ := h.priv k s b e hb
  refine ⟨by simp only [World.size_alloc]; omega, q, fun o => ?_⟩
  unfold viewNew
  rw [if_neg (by omega)]
  exact r o
 inj := h.inj
 loc := h.loc
 glob := h.glob
theorem viewNew_rep {us : List Value} {cs : List AV} {b0 : Nat} (hr : RepPL V cs us) (hV : V.le (viewNew V b0 us)) (ho : ∀ u ∈ us, u.oneCell' = true) : RepC (viewNew V b0 us) (viewNew V b0 us b0) 0 cs := by
 refine RepC.of_vals (hr.mono hV) fun j u hu => ?_
 rw [Nat.zero_add]
 unfold viewNew
 rw [if_pos rfl]
 exact ⟨hu, ho u (List.mem_of_getElem? hu)⟩
/-- One object is another one (or a new one), all others are as they were. -/
theorem Sat.upd (h : Sat W0 V0 Own V G w μ) {k : Nat} {s : Sh} {ob : Ob} (hk : Keep W0 Own w')
  (hview : ∀ b o v, V b o = some v → w'.cell? ⟨b, o, none⟩ = some v)
  (hG : G.le (fun j => if j = k then some s else G j))
  (hob : ObOk V (fun j => if j = k then some s else G j) w' s ob)
  (hnew : ∀ b, s.block = some b → b < w'.heap.size ∧ (Own.own b ∨ W0.heap.size ≤ b) ∧ (∀ o, V b o = none) ∧ ∀ j s', j ≠ k → G j = some s' → s'.block ≠ some b)
  (hloc : ∀ b, s.block = some b → b < W0.heap.size → Own.key k b)
  (hsz : w.heap.size ≤ w'.heap.size)
  (hother : ∀ j s' b, j ≠ k → G j = some s' → s'.block = some b → w'.heap[b]? = w.heap[b]?) :
  Sat W0 V0 Own V (fun j => if j = k then some s else G j) w' (fun j => if j = k then some ob else μ j) where
 keep := hk
 view := hview
 vle := h.vle
 vnew := h.vnew
 obs := fun j ob' e => by
  by_cases hj : j = k
  ·rw [if_pos hj] at e ⊢
   cases e
   exact ⟨s, rfl, hob⟩
  ·rw [if_neg hj] at e ⊢
   obtain ⟨s', e', q⟩ := h.obs j ob' e
   exact ⟨s', e', q.mono (View.le_refl _) hG (fun b hb => hother j s' b hj e' hb)⟩
 dom := fun j s' e => by
  by_cases hj : j = k
  ·rw [if_pos hj]; exact ⟨ob, rfl⟩
  ·rw [if_neg hj] at e ⊢
   exact h.dom j s' e
 priv := fun j s' b e hb => by
  by_cases hj : j = k
  ·rw [if_pos hj] at e
   cases e
   obtain ⟨p, q, r, _⟩ := hnew b hb
   exact ⟨p, q, r⟩
  ·rw [if_neg hj] at e
   obtain ⟨p, q, r⟩ := h.priv j s' b e hb
   exact ⟨by omega, q, r⟩
 inj := fun j j' s1 s2 b e e' hb hb' => by
  by_cases h1 : j = k <;> by_cases h2 : j' = k
  ·omega
  ·rw [if_pos h1] at e
   rw [if_neg h2] at e'
   cases e
   exact absurd hb' ((hnew b hb).2.2.2 j' s2 h2 e')
  ·rw [if_neg h1] at e
   rw [if_pos h2] at e'
   cases e'
   exact absurd hb ((hnew b hb').2.2.2 j s1 h1 e)
  ·rw [if_neg h1] at e
   rw [if_neg h2] at e'
   exact h.inj j j' s1 s2 b e e' hb hb'
 glob := h.glob
 loc := fun j s' b e hb hlt => by
  by_cases hj : j = k
  ·rw [if_pos hj] at e
   cases e
   rw [hj]
   exact hloc b hb hlt
  ·rw [if_neg hj] at e
   exact h.loc j s' b e hb hlt
theorem Sat.fresh (h : Sat W0 V0 Own V G w μ) {k : Nat} (hm : μ k = none) : G k = none := by
 cases hg : G k with
 | none => rfl
 | some s =>
  obtain ⟨ob, e⟩ := h.dom k s hg
  rw [hm] at e
  cases e
theorem Ctx.le_new {k : Nat} {s : Sh} (hk : G k = none) : G.le (fun j => if j = k then some s else G j) := by
 intro j s' e
 exact ⟨s', (if_neg (fun he => by subst he; rw [hk] at e; cases e)).trans e, s'.le_refl⟩
theorem Ctx.le_upd {k : Nat} {s s' : Sh} (hk : G k = some s) (hle : s.le s') : G.le (fun j => if j = k then some s' else G j) := by
 intro j s1 e
 by_cases hj : j = k
 ·subst hj
  rw [hk] at e
  cases e
  exact ⟨s', by simp, hle⟩
 ·exact ⟨s1, (if_neg hj).trans e, s1.le_refl⟩
/-- A new object in a new block. -/
theorem Sat.newOb (h : Sat W0 V0 Own V G w μ) {k : Nat} {s : Sh} {ob : Ob} (x : Obj) (hm : μ k = none) (hb : s.block = some w.heap.size)
  (hob : ObOk V (fun j => if j = k then some s else G j) (w.alloc x) s ob) :
  Sat W0 V0 Own V (fun j => if j = k then some s else G j) (w.alloc x) (fun j => if j = k then some ob else μ j) := by
 refine h.upd (h.keep.of_le rfl rfl rfl (by simp) (fun b h1 _ => heap_alloc_old (Nat.lt_of_lt_of_le h1 h.keep.size))) ?_ (Ctx.le_new (h.fresh hm)) hob ?_ (fun b hb' hlt => by rw [hb] at hb'; cases hb'; exact absurd hlt (Nat.not_lt.2 h.keep.size)) (by simp) ?_
 ·intro b o v e
  rw [World.cell?_alloc_lt _ _ _ (h.view_lt e)]
  exact h.view b o v e
 ·intro b hb'
  rw [hb] at hb'
  cases hb'
  refine ⟨by simp, .inr h.keep.size, fun o => ?_, fun j s' hj hg hbl => ?_⟩
  ·cases e : V w.heap.size o with
   | none => rfl
   | some v => exact absurd (h.view_lt e) (Nat.lt_irrefl _)
  ·exact absurd (h.priv j s' _ hg hbl).1 (Nat.lt_irrefl _)
 ·intro j s' b hj hg hbl
  exact heap_alloc_old (h.priv j s' b hg hbl).1
/-- A new object that lies nowhere. -/
theorem Sat.newNone (h : Sat W0 V0 Own V G w μ) {k : Nat} {s : Sh} {ob : Ob} (hm : μ k = none) (hb : s.block = none)
  (hob : ObOk V (fun j => if j = k then some s else G j) w s ob) :
  Sat W0 V0 Own V (fun j => if j = k then some s else G j) w (fun j => if j = k then some ob else μ j) := by
 refine h.upd h.keep h.view (Ctx.le_new (h.fresh hm)) hob ?_ (fun b hb' => by rw [hb] at hb'; cases hb') (Nat.le_refl _) (fun _ _ _ _ _ _ => rfl)
 intro b hb'
 rw [hb] at hb'
 cases hb'
end
/- The abstract machine's operations are the program's: those that make values, and new memory that no one writes. -/
section
variable {W0 : World} {V0 : View} {Own : Fra} {P : Program} {o : Oper} {a : Act} {w : World} {V : View} {G : Ctx} {μ : Nat → Option Ob} {ρ : Arg → AV} {v : AV} {u : List (Nat × Ob)} {acc : Acc}
theorem done_w {val : Value} {w' : World} {V' : View} {G' : Ctx} (hs : Sat W0 V0 Own V' G' w' (updO μ u)) (hr : (execOp a.eval o).run P w = .ok (.value val) w') (hv : Rep V' G' v val) (hV : V.le V') (hG : G.le G') :
  Done W0 V0 Own P o a w V G μ v u := by
 intro next Q hn
 unfold Oper.wp
 rw [hr, Oper.upon_value]
 exact hn val w' V' G' hv hV hG hs
theorem run_newVar (t : TypeId) (x : Value) : (newVar t x).run P w = .ok ⟨w.heap.size, 0, none⟩ (w.alloc (.cells x.cells t)) := by
 simp [newVar, newRow]
theorem oneAL_get {cs : List AV} {us : List Value} (h : RepPL V cs us) (ho : oneAL cs = true) : ∀ x ∈ us, x.oneCell' = true := by
 induction cs generalizing us with
 | nil => simp only [RepPL] at h; subst h; intro x hx; cases hx
 | cons c cs ih =>
  simp only [RepPL] at h
  obtain ⟨y, r, rfl, p, q⟩ := h
  simp only [oneAL, Bool.and_eq_true] at ho
  intro x hx
  rcases List.mem_cons.1 hx with rfl | hx
  ·exact p.one ho.1
  ·exact ih q ho.2 x hx
theorem snd_boxp {d : Nat} {x : Arg} (hok : okOp' P o (.boxp d x) = true) (h : opR P (.boxp d x) ρ μ v u acc) (hA : ArgsOk V G ρ a (AOp.boxp d x).args) (hs : Sat W0 V0 Own V G w μ) :
  Done W0 V0 Own P o a w V G μ v u := by
 obtain ⟨hp, h1, rfl, rfl, rfl⟩ := h
 simp only [okOp'] at hok
 split at hok
 ·rename_i t px ho
  have hx := (hA _ (by simp [AOp.args]) _ hok).pure hp
  have hc := hx.cells
  have hs' := hs.frozen (a.eval px).cells.toList t
  have hV := hs.viewNew_le (a.eval px).cells.toList
  refine done_w hs' (val := .pointer (some ⟨w.heap.size, 0, none⟩)) ?_ ?_ hV (Ctx.le_refl _)
  ·rw [execOp, ho]
   refine run_v ?_
   simp only [Instr.box, Sem.run_bind, run_newVar, Result.andThen_ok, Sem.run_pure]
  ·simp only [Rep, RepP]
   exact ⟨_, _, rfl, viewNew_rep hc hV (oneAL_get hc h1)⟩
 ·cases hok
theorem snd_boxo {d key : Nat} {x : Arg} (hok : okOp' P o (.boxo d key x) = true) (h : opR P (.boxo d key x) ρ μ v u acc) (hA : ArgsOk V G ρ a (AOp.boxo d key x).args) (hs : Sat W0 V0 Own V G w μ) :
  Done W0 V0 Own P o a w V G μ v u := by
 obtain ⟨h1, hm, rfl, rfl, rfl⟩ := h
 simp only [okOp'] at hok
 split at hok
 ·rename_i t px ho
  have hx := hA _ (by simp [AOp.args]) _ hok
  have h1c := hx.one h1
  have hcl : (a.eval px).cells = #[a.eval px] := by
   cases hv : a.eval px <;> simp [Value.cells, hv, Value.oneCell'] at h1c ⊢
  have hle := Ctx.le_new (s := .box w.heap.size) (hs.fresh hm)
  have hs' := hs.newOb (s := .box w.heap.size) (ob := .box [ρ x]) (.cells #[a.eval px] t) hm rfl (by
   simp only [ObOk]
   refine ⟨[a.eval px], t, heap_alloc_new, ?_, ?_⟩
   ·simp only [RepL]
    exact ⟨_, [], rfl, hx.mono (View.le_refl _) hle, rfl⟩
   ·intro y hy
    rw [List.mem_singleton] at hy
    subst hy
    exact h1c)
  refine done_w (μ := μ) (u := [(key, .box [ρ x])]) hs' (val := .pointer (some ⟨w.heap.size, 0, none⟩)) ?_ ?_ (View.le_refl _) hle
  ·rw [execOp, ho]
   refine run_v ?_
   simp only [Instr.box, Sem.run_bind, run_newVar, Result.andThen_ok, Sem.run_pure, hcl]
  ·simp only [Rep]
   exact ⟨_, if_pos trivial, rfl⟩
 ·cases hok
theorem snd_boxm {d key : Nat} {x : Arg} (hok : okOp' P o (.boxm d key x) = true) (h : opR P (.boxm d key x) ρ μ v u acc) (hA : ArgsOk V G ρ a (AOp.boxm d key x).args) (hs : Sat W0 V0 Own V G w μ) :
  Done W0 V0 Own P o a w V G μ v u := by
 obtain ⟨hp, h1, hm, rfl, rfl, rfl⟩ := h
 simp only [okOp'] at hok
 split at hok
 ·rename_i t px ho
  have hx := (hA _ (by simp [AOp.args]) _ hok).pure hp
  have hc := hx.cells
  have hle := Ctx.le_new (s := .box w.heap.size) (hs.fresh hm)
  have hs' := hs.newOb (s := .box w.heap.size) (ob := .pbox (cellsOf (ρ x))) (.cells (a.eval px).cells t) hm rfl (by
   simp only [ObOk]
   exact ⟨(a.eval px).cells.toList, t, heap_alloc_new, hc, oneAL_get hc h1⟩)
  refine done_w (μ := μ) (u := [(key, .pbox (cellsOf (ρ x)))]) hs' (val := .pointer (some ⟨w.heap.size, 0, none⟩)) ?_ ?_ (View.le_refl _) hle
  ·rw [execOp, ho]
   refine run_v ?_
   simp only [Instr.box, Sem.run_bind, run_newVar, Result.andThen_ok, Sem.run_pure]
  ·simp only [Rep]
   exact ⟨_, if_pos trivial, rfl⟩
 ·cases hok
theorem okZero_spec {t : TypeId} {zero : List AV} (h : okZero P t zero = true) : ∃ i z, P.info? t = some i ∧ i.zero = some z ∧ okCL zero z.cells.toList = true ∧ zero.length = i.size ∧ oneAL zero = true := by
 unfold okZero at h
 split at h
 ·rename_i i hi
  split at h
  ·rename_i z hz
   simp only [Bool.and_eq_true] at h
   exact ⟨i, z, hi, hz, h.1.1, Nat.eq_of_beq_eq_true h.1.2, h.2⟩
  ·cases h
 ·cases h
theorem run_alloc {t : TypeId} {i : TypeInfo} {z : Value} (hi : P.info? t = some i) (hz : i.zero = some z) :
  (Instr.alloc t true (.tuple #[])).run P w = .ok (.pointer (some ⟨w.heap.size, 0, none⟩)) (w.alloc (.cells z.cells t)) := by
 simp only [Instr.alloc, zeroValue, typeInfo, Sem.run_bind, run_program, Result.andThen_ok, hi, Sem.run_pure, hz, run_newVar]
theorem snd_alloc {d key : Nat} {cells : List AV} (hok : okOp' P o (.alloc d key cells) = true) (h : opR P (.alloc d key cells) ρ μ v u acc) (hA : ArgsOk V G ρ a (AOp.alloc d key cells).args) (hs : Sat W0 V0 Own V G w μ) :
  Done W0 V0 Own P o a w V G μ v u := by
 obtain ⟨hm, rfl, rfl, rfl⟩ := h
 simp only [okOp'] at hok
 split at hok
 ·rename_i t ho
  obtain ⟨i, z, hi, hz, hc, hl, h1⟩ := okZero_spec hok
  have hr := okCL_rep V hc
  have hle := Ctx.le_new (s := .box w.heap.size) (hs.fresh hm)
  have hs' := hs.newOb (s := .box w.heap.size) (ob := .pbox cells) (.cells z.cells t) hm rfl (by
   simp only [ObOk]
   exact ⟨z.cells.toList, t, heap_alloc_new, hr, oneAL_get hr h1⟩)
  refine done_w (μ := μ) (u := [(key, .pbox cells)]) hs' (val := .pointer (some ⟨w.heap.size, 0, none⟩)) ?_ ?_ (View.le_refl _) hle
  ·rw [execOp, ho]
   exact run_v (run_alloc hi hz)
  ·simp only [Rep]
   exact ⟨_, if_pos trivial, rfl⟩
 ·cases hok
theorem snd_allocm {d key : Nat} {cells : List AV} (hok : okOp' P o (.allocm d key cells) = true) (h : opR P (.allocm d key cells) ρ μ v u acc) (hA : ArgsOk V G ρ a (AOp.allocm d key cells).args) (hs : Sat W0 V0 Own V G w μ) :
  Done W0 V0 Own P o a w V G μ v u := by
 obtain ⟨hm, rfl, rfl, rfl⟩ := h
 simp only [okOp'] at hok
 split at hok
 ·rename_i t ho
  obtain ⟨i, z, hi, hz, hc, hl, h1⟩ := okZero_spec hok
  have hr := okCL_rep V hc
  have hle := Ctx.le_new (s := .box w.heap.size) (hs.fresh hm)
  have hs' := hs.newOb (s := .box w.heap.size) (ob := .box cells) (.cells z.cells t) hm rfl (by
   simp only [ObOk]
   exact ⟨z.cells.toList, t, heap_alloc_new, RepPL.rep _ hr, oneAL_get hr h1⟩)
  refine done_w (μ := μ) (u := [(key, .box cells)]) hs' (val := .pointer (some ⟨w.heap.size, 0, none⟩)) ?_ ?_ (View.le_refl _) hle
  ·rw [execOp, ho]
   exact run_v (run_alloc hi hz)
  ·simp only [Rep]
   exact ⟨_, if_pos trivial, rfl⟩
 ·cases hok
theorem hsOk_none (esz : Nat) : HsOk esz 0 none 0 0 (.slice none 0 0) := ⟨none, 0, rfl, Nat.le_refl _, Nat.le_refl _, Nat.le_refl _, rfl, rfl, rfl⟩
theorem snd_nilarr {d key esz : Nat} (hok : okOp' P o (.nilarr d key esz) = true) (h : opR P (.nilarr d key esz) ρ μ v u acc) (hA : ArgsOk V G ρ a (AOp.nilarr d key esz).args) (hs : Sat W0 V0 Own V G w μ) :
  Done W0 V0 Own P o a w V G μ v u := by
 obtain ⟨hm, rfl, rfl, rfl⟩ := h
 have hs' := hs.newNone (s := .arr 0 esz 0 none) (ob := .arr 0 esz []) hm rfl (by
  simp only [ObOk]
  exact ⟨trivial, trivial, rfl, fun _ => trivial, fun b o tot h => by cases h⟩)
 have hle := Ctx.le_new (s := .arr 0 esz 0 none) (hs.fresh hm)
 have key0 : ∀ y, okA (.c (.sl [])) y = true → a.eval y = .slice none 0 0 := by
  intro y hy
  cases y with
  | const c =>
   simp only [okA] at hy
   cases c with
   | slice b l c =>
    cases b <;> cases l <;> cases c <;> simp [okC] at hy
    rfl
   | _ => simp [okC] at hy
  | _ => simp [okA] at hy
 have fin : ∀ y, okA (.c (.sl [])) y = true → (execOp a.eval o = pure (.value (a.eval y))) → Done W0 V0 Own P o a w V G μ (.hs key 0 0 0) [(key, .arr 0 esz [])] := by
  intro y hy he
  refine done_w (μ := μ) (u := [(key, .arr 0 esz [])]) hs' (val := .slice none 0 0) (by rw [he, key0 y hy]; rfl) ?_ (View.le_refl _) hle
  simp only [Rep]
  exact ⟨⟨_, _, rfl⟩, _, _, _, _, if_pos trivial, Nat.le_refl _, fun _ => hsOk_none _⟩
 simp only [okOp'] at hok
 split at hok
 ·rename_i y hy
  exact fin y hok (by rw [execOp, hy])
 ·rename_i y hy
  exact fin y hok (by rw [execOp, hy])
 ·cases hok
theorem snd_alloca {d key key2 esz : Nat} (hok : okOp' P o (.alloca d key key2 esz) = true) (h : opR P (.alloca d key key2 esz) ρ μ v u acc) (hA : ArgsOk V G ρ a (AOp.alloca d key key2 esz).args) (hs : Sat W0 V0 Own V G w μ) :
  Done W0 V0 Own P o a w V G μ v u := by
 obtain ⟨hm, hm2, hne, rfl, rfl, rfl⟩ := h
 simp only [okOp'] at hok
 split at hok
 ·rename_i t ho
  simp only [Bool.and_eq_true] at hok
  obtain ⟨i, z, hi, hz, hc, hl, h1⟩ := okZero_spec hok.1
  have hs1 := hs.newNone (s := .arr 0 esz 0 none) (ob := .arr 0 esz []) hm2 rfl (by
   simp only [ObOk]
   exact ⟨trivial, trivial, rfl, fun _ => trivial, fun b o tot h => by cases h⟩)
  have hle1 := Ctx.le_new (s := .arr 0 esz 0 none) (hs.fresh hm2)
  have hm' : (fun j => if j = key2 then some (Ob.arr 0 esz []) else μ j) key = none := by
   simp only
   rw [if_neg hne]
   exact hm
  have hz0 : z.cells = #[.slice none 0 0] := by
   have h2 : z.cells.toList = [.slice none 0 0] := by
    revert hc
    generalize z.cells.toList = l
    intro hc
    cases l with
    | nil => simp [okCL] at hc
    | cons c r =>
     simp only [okCL, Bool.and_eq_true] at hc
     cases r with
     | nil =>
      have hc := hc.1
      cases c with
      | slice b l c => cases b <;> cases l <;> cases c <;> simp [okC] at hc; rfl
      | _ => simp [okC] at hc
     | cons c2 r => simp [okCL] at hc
   rw [← Array.toList_inj, h2]
  have hle2 := Ctx.le_new (G := fun j => if j = key2 then some (Sh.arr 0 esz 0 none) else G j) (k := key) (s := .box w.heap.size) (hs1.fresh hm')
  have hs' := hs1.newOb (s := .box w.heap.size) (ob := .box [.hs key2 0 0 0]) (.cells z.cells t) hm' rfl (by
   simp only [ObOk]
   refine ⟨[.slice none 0 0], t, by rw [heap_alloc_new, hz0], ?_, ?_⟩
   ·simp only [RepL, Rep]
    exact ⟨_, [], rfl, ⟨⟨_, _, rfl⟩, 0, esz, 0, none, by rw [if_neg (Ne.symm hne), if_pos trivial], Nat.le_refl _, fun _ => hsOk_none _⟩, rfl⟩
   ·intro y hy
    rw [List.mem_singleton] at hy
    subst hy
    rfl)
  refine done_w (μ := μ) (u := [(key2, .arr 0 esz []), (key, .box [.hs key2 0 0 0])]) hs' (val := .pointer (some ⟨w.heap.size, 0, none⟩)) ?_ ?_ (View.le_refl _) (Ctx.le_trans hle1 hle2)
  ·rw [execOp, ho]
   exact run_v (run_alloc hi hz)
  ·simp only [Rep]
   exact ⟨_, if_pos trivial, rfl⟩
 ·cases hok
end
/- The abstract machine's operations are the program's: structs, slices, texts, tuples. -/
section
variable {W0 : World} {V0 : View} {Own : Fra} {P : Program} {o : Oper} {a : Act} {w : World} {V : View} {G : Ctx} {μ : Nat → Option Ob} {ρ : Arg → AV} {v : AV} {u : List (Nat × Ob)} {acc : Acc}
def splice (l : List Value) (o : Nat) (us : List Value) : List Value := l.take o ++ us ++ l.drop (o + us.length)
theorem splice_nil (l : List Value) (o : Nat) : splice l o [] = l := by simp [splice]
theorem splice_length {l us : List Value} {o : Nat} (h : o + us.length ≤ l.length) : (splice l o us).length = l.length := by
 simp [splice]
 omega
theorem splice_set {l us : List Value} {o : Nat} {x : Value} (h : o + (us.length + 1) ≤ l.length) : splice (l.set o x) (o + 1) us = splice l o (x :: us) := by
 apply List.ext_getElem?
 intro i
 unfold splice
 simp only [List.getElem?_append, List.length_append, List.length_take, List.length_set, List.length_cons, List.getElem?_take, List.getElem?_drop, List.getElem?_set, List.getElem?_cons]
 have h1 : min (o + 1) l.length = o + 1 := by omega
 have h2 : min o l.length = o := by omega
 rw [h1, h2]
 by_cases c1 : i < o
 ·rw [if_pos (by omega), if_pos (by omega), if_pos (by omega), if_neg (by omega), if_pos (by omega), if_pos c1, if_pos c1]
 ·by_cases c2 : i = o
  ·subst c2
   rw [if_pos (by omega), if_pos (by omega), if_pos (by omega), if_pos rfl, if_pos (by omega), if_pos (by omega), if_neg (by omega), if_pos (by omega)]
  ·by_cases c3 : i < o + 1 + us.length
   ·rw [if_pos (by omega), if_neg (by omega), if_pos (by omega), if_neg (by omega), if_neg (by omega)]
    first | (congr 1; omega) | congr 1
   ·rw [if_neg (by omega), if_neg (by omega), if_neg (by omega)]
    first | (congr 1; omega) | congr 1
theorem foldl_splice (off : Nat) : ∀ (us : List Value) (n : Nat) (cs : Array Value), off + n + us.length ≤ cs.size →
  ((us.zipIdx n).foldl (fun (cs : Array Value) (p : Value × Nat) => cs.setIfInBounds (off + p.2) p.1) cs).toList = splice cs.toList (off + n) us
 | [], n, cs, h => by simp [splice_nil]
 | x :: us, n, cs, h => by
  simp only [List.zipIdx_cons, List.foldl_cons]
  rw [foldl_splice off us (n + 1) _ (by simp at h ⊢; omega)]
  rw [Array.toList_setIfInBounds, show off + (n + 1) = off + n + 1 by omega]
  exact splice_set (by simp at h ⊢; omega)
theorem setAt_rep {z cs : List AV} {us xs : List Value} {o : Nat} (h : RepPL V z us) (k : RepPL V cs xs) : RepPL V (setAt z o cs) (splice us o xs) := by
 unfold setAt splice
 rw [k.length]
 exact ((h.take o).append k).append (h.drop _)
theorem fill_step {place : Nat → Option (Nat × Nat)} {i off : Nat} {x : Value} {rest : List (Nat × Value)} {cs : Array Value} (hp : place i = some (off, x.cells.size)) (hl : off + x.cells.size ≤ cs.size) :
  ∃ cs' : Array Value, cs'.toList = splice cs.toList off x.cells.toList ∧ Instr.fill place cs ((i, x) :: rest) = Instr.fill place cs' rest := by
 refine ⟨x.cells.zipIdx.foldl (fun cs (p : Value × Nat) => cs.setIfInBounds (off + p.2) p.1) cs, ?_, ?_⟩
 ·rw [← Array.foldl_toList, Array.toList_zipIdx]
  have := foldl_splice off x.cells.toList 0 cs (by simp; omega)
  rw [Nat.add_zero] at this
  exact this
 ·simp only [Instr.fill, hp]
  rw [if_neg (by simp; omega)]
theorem okOffs_fill {fs : Array Field} {places : Array (Nat × Nat)} (hpl : ∀ (i : Nat) (f : Field), fs[i]? = some f → places[i]? = some (f.offset, P.cellsOf f.type)) :
  ∀ {ps : List (Nat × Operand)} {parts : List (Nat × Nat × Arg)} {z : List AV} {cs : Array Value}, okOffs P fs ps parts = true → (∀ p ∈ parts, ∀ y, okA p.2.2 y = true → RepP V (ρ p.2.2) (a.eval y)) →
   (∀ p ∈ parts, (cellsOf (ρ p.2.2)).length = p.2.1 ∧ p.1 + p.2.1 ≤ z.length) → RepPL V z cs.toList →
   ∃ cs', Instr.fill (places[·]?) cs (ps.map fun p => (p.1, a.eval p.2)) = some cs' ∧ RepPL V (fillA ρ parts z) cs'.toList
 | [], [], z, cs, _, _, _, hz => ⟨cs, rfl, hz⟩
 | [], p :: r, z, cs, h, _, _, _ => by simp [okOffs] at h
 | (i, y) :: ps, [], z, cs, h, _, _, _ => by simp [okOffs] at h
 | (i, y) :: ps, (off, n, x) :: parts, z, cs, h, hA, hl, hz => by
  simp only [okOffs, Bool.and_eq_true] at h
  obtain ⟨⟨h1, h2⟩, h3⟩ := h
  split at h1
  ·rename_i f hf
   simp only [Bool.and_eq_true] at h1
   have ho := Nat.eq_of_beq_eq_true h1.1
   have hn := Nat.eq_of_beq_eq_true h1.2
   have hx := hA _ List.mem_cons_self _ h2
   have hlx := hl _ List.mem_cons_self
   simp only at hx hlx
   have hc := hx.cells
   have hcl : (a.eval y).cells.size = n := by
    have := hc.length
    rw [Array.length_toList] at this
    omega
   have hzl : cs.size = z.length := by
    have := hz.length
    rwa [Array.length_toList] at this
   obtain ⟨cs', h4, h5⟩ := fill_step (place := (places[·]?)) (i := i) (off := off) (x := a.eval y) (rest := ps.map fun p => (p.1, a.eval p.2)) (cs := cs) (by rw [hpl i f hf, ho, hn, hcl]) (by omega)
   have h6 : RepPL V (setAt z off (cellsOf (ρ x))) cs'.toList := by
    rw [h4]
    exact setAt_rep hz hc
   have hl6 : (setAt z off (cellsOf (ρ x))).length = z.length := by
    simp [setAt]
    omega
   obtain ⟨cs2, h7, h8⟩ := okOffs_fill hpl (ps := ps) (parts := parts) (z := setAt z off (cellsOf (ρ x))) (cs := cs') h3 (fun p hp => hA p (List.mem_cons_of_mem _ hp)) (fun p hp => by rw [hl6]; exact hl p (List.mem_cons_of_mem _ hp)) h6
   exact ⟨cs2, by rw [List.map_cons, h5, h7], h8⟩
  ·cases h1
theorem okOffsA_fill {sz : Nat} :
  ∀ {ps : List (Nat × Operand)} {parts : List (Nat × Nat × Arg)} {z : List AV} {cs : Array Value}, okOffsA sz ps parts = true → (∀ p ∈ parts, ∀ y, okA p.2.2 y = true → RepP V (ρ p.2.2) (a.eval y)) →
   (∀ p ∈ parts, (cellsOf (ρ p.2.2)).length = p.2.1 ∧ p.1 + p.2.1 ≤ z.length) → RepPL V z cs.toList →
   ∃ cs', Instr.fill (fun i => some (i * sz, sz)) cs (ps.map fun p => (p.1, a.eval p.2)) = some cs' ∧ RepPL V (fillA ρ parts z) cs'.toList
 | [], [], z, cs, _, _, _, hz => ⟨cs, rfl, hz⟩
 | [], p :: r, z, cs, h, _, _, _ => by simp [okOffsA] at h
 | (i, y) :: ps, [], z, cs, h, _, _, _ => by simp [okOffsA] at h
 | (i, y) :: ps, (off, n, x) :: parts, z, cs, h, hA, hl, hz => by
  simp only [okOffsA, Bool.and_eq_true] at h
  obtain ⟨⟨⟨h1, h1'⟩, h2⟩, h3⟩ := h
  have ho := Nat.eq_of_beq_eq_true h1
  have hn := Nat.eq_of_beq_eq_true h1'
  have hx := hA _ List.mem_cons_self _ h2
  have hlx := hl _ List.mem_cons_self
  simp only at hx hlx
  have hc := hx.cells
  have hcl : (a.eval y).cells.size = sz := by
   have := hc.length
   rw [Array.length_toList] at this
   omega
  have hzl : cs.size = z.length := by
   have := hz.length
   rwa [Array.length_toList] at this
  obtain ⟨cs', h4, h5⟩ := fill_step (place := fun i => some (i * sz, sz)) (i := i) (off := off) (x := a.eval y) (rest := ps.map fun p => (p.1, a.eval p.2)) (cs := cs) (by rw [hcl, ho]) (by omega)
  have h6 : RepPL V (setAt z off (cellsOf (ρ x))) cs'.toList := by
   rw [h4]
   exact setAt_rep hz hc
  have hl6 : (setAt z off (cellsOf (ρ x))).length = z.length := by
   simp [setAt]
   omega
  obtain ⟨cs2, h7, h8⟩ := okOffsA_fill (ps := ps) (parts := parts) (z := setAt z off (cellsOf (ρ x))) (cs := cs') h3 (fun p hp => hA p (List.mem_cons_of_mem _ hp)) (fun p hp => by rw [hl6]; exact hl p (List.mem_cons_of_mem _ hp)) h6
  exact ⟨cs2, by rw [List.map_cons, h5, h7], h8⟩
theorem mapM_fields {fs : List Field} (h : fs.all (fun f => (P.info? f.type).isSome) = true) :
  (fs.mapM fun f => (do pure (f.offset, ← sizeOf f.type) : Sem (Nat × Nat))).run P w = .ok (fs.map fun f => (f.offset, P.cellsOf f.type)) w := by
 induction fs with
 | nil => rfl
 | cons f fs ih =>
  simp only [List.all_cons, Bool.and_eq_true] at h
  simp only [List.mapM_cons, Sem.run_bind, run_size h.1, Result.andThen_ok, Sem.run_pure, ih h.2, List.map_cons]
theorem snd_build {d : Nat} {zero : List AV} {parts : List (Nat × Nat × Arg)} (hok : okOp' P o (.build d zero parts) = true) (h : opR P (.build d zero parts) ρ μ v u acc) (hA : ArgsOk V G ρ a (AOp.build d zero parts).args) (hs : Sat W0 V0 Own V G w μ) :
  Done W0 V0 Own P o a w V G μ v u := by
 obtain ⟨hp, rfl, rfl, rfl⟩ := h
 simp only [okOp'] at hok
 split at hok
 ·rename_i t ps ho
  simp only [Bool.and_eq_true] at hok
  obtain ⟨hz, h2⟩ := hok
  obtain ⟨i, z, hi, hz, hc, hl, h1⟩ := okZero_spec hz
  split at h2
  ·rename_i fs hu
   simp only [Bool.and_eq_true] at h2
   obtain ⟨h3, h4⟩ := h2
   obtain ⟨cs', h5, h6⟩ := okOffs_fill (P := P) (V := V) (ρ := ρ) (a := a) (fs := fs) (places := (fs.toList.map fun f => (f.offset, P.cellsOf f.type)).toArray) (fun i f hf => by simp [hf]) (z := zero) (cs := z.cells) h4
    (fun p hp' y hy => (hA _ (by simp only [AOp.args, List.mem_map]; exact ⟨p, hp', rfl⟩) y hy).pure (hp p hp').1) (fun p hp' => (hp p hp').2) (okCL_rep V hc)
   refine done_pure hs (val := .agg cs') ?_ ?_
   ·rw [execOp, ho]
    refine run_v ?_
    have hm : (fs.mapM fun f => (do pure (f.offset, ← sizeOf f.type) : Sem (Nat × Nat))).run P w = .ok (fs.toList.map fun f => (f.offset, P.cellsOf f.type)).toArray w := by
     rw [Array.mapM_eq_mapM_toList, Sem.run_map, mapM_fields h3]
     rfl
    simp only [Instr.build, zeroValue, typeInfo, Sem.run_bind, run_program, Result.andThen_ok, hi, Sem.run_pure, hz, run_und hu, hm]
    have h7 : (ps.map fun p => (p.1, a.eval p.2)).toList = ps.toList.map fun p => (p.1, a.eval p.2) := by simp
    rw [show (Array.map (fun (x : Nat × Operand) => match x with | (i, x) => (i, a.eval x)) ps).toList = ps.toList.map fun p => (p.1, a.eval p.2) from h7, h5]
    rfl
   ·simp only [Rep, RepP]
    exact ⟨cs'.toList, by simp, h6⟩
  ·rename_i m e hu
   simp only [Bool.and_eq_true] at h2
   obtain ⟨h3, h4⟩ := h2
   obtain ⟨cs', h5, h6⟩ := okOffsA_fill (V := V) (ρ := ρ) (a := a) (z := zero) (cs := z.cells) h4
    (fun p hp' y hy => (hA _ (by simp only [AOp.args, List.mem_map]; exact ⟨p, hp', rfl⟩) y hy).pure (hp p hp').1) (fun p hp' => (hp p hp').2) (okCL_rep V hc)
   refine done_pure hs (val := .agg cs') ?_ ?_
   ·rw [execOp, ho]
    refine run_v ?_
    simp only [Instr.build, zeroValue, typeInfo, Sem.run_bind, run_program, Result.andThen_ok, hi, Sem.run_pure, hz, run_und hu, run_size h3]
    have h7 : (ps.map fun p => (p.1, a.eval p.2)).toList = ps.toList.map fun p => (p.1, a.eval p.2) := by simp
    rw [show (Array.map (fun (x : Nat × Operand) => match x with | (i, x) => (i, a.eval x)) ps).toList = ps.toList.map fun p => (p.1, a.eval p.2) from h7, h5]
    rfl
   ·simp only [Rep, RepP]
    exact ⟨cs'.toList, by simp, h6⟩
  ·cases h2
 ·cases hok
theorem RepR.of_flat {L : Nat → Option Value} : ∀ {xs : List (List AV)} {us : List Value} {esz o : Nat}, RepPL V xs.flatten us → (∀ c ∈ xs, c.length = esz) → (∀ j y, us[j]? = some y → L (o + j) = some y ∧ y.oneCell' = true) → RepR V L esz o xs
 | [], us, esz, o, _, _, _ => by simp [RepR]
 | c :: r, us, esz, o, h, hl, hL => by
  rw [List.flatten_cons] at h
  have h1 := hl c List.mem_cons_self
  have ht := h.take c.length
  have hd := h.drop c.length
  rw [List.take_left] at ht
  rw [List.drop_left] at hd
  simp only [RepR]
  refine ⟨h1, RepC.of_vals ht fun j y hy => ?_, RepR.of_flat hd (fun c' hc' => hl c' (List.mem_cons_of_mem _ hc')) fun j y hy => ?_⟩
  ·rw [List.getElem?_take] at hy
   split at hy
   ·exact hL j y hy
   ·cases hy
  ·rw [List.getElem?_drop, h1] at hy
   have := hL _ _ hy
   rwa [show o + (esz + j) = o + esz + j by omega] at this
theorem okRows_fill {esz : Nat} : ∀ {ps : List (Nat × Operand)} {rows : List Arg} {n : Nat} {cs : Array Value} {pre : List AV}, okRows n ps rows = true → (∀ r ∈ rows, ∀ y, okA r y = true → RepP V (ρ r) (a.eval y)) →
   (∀ r ∈ rows, (cellsOf (ρ r)).length = esz) → cs.size = (n + rows.length) * esz → pre.length = n * esz → RepPL V pre (cs.toList.take (n * esz)) →
   ∃ cs', Instr.fill (fun i => some (i * esz, esz)) cs (ps.map fun p => (p.1, a.eval p.2)) = some cs' ∧ RepPL V (pre ++ (rows.map fun r => cellsOf (ρ r)).flatten) cs'.toList
 | [], [], n, cs, pre, _, _, _, hsz, hpre, hr => ⟨cs, rfl, by
   simp only [List.map_nil, List.flatten_nil, List.append_nil]
   rwa [List.take_of_length_le (by rw [Array.length_toList, hsz]; simp)] at hr⟩
 | [], r :: rs, n, cs, pre, h, _, _, _, _, _ => by simp [okRows] at h
 | (i, y) :: ps, [], n, cs, pre, h, _, _, _, _, _ => by simp [okRows] at h
 | (i, y) :: ps, x :: rows, n, cs, pre, h, hA, hl, hsz, hpre, hr => by
  simp only [okRows, Bool.and_eq_true] at h
  obtain ⟨⟨h1, h2⟩, h3⟩ := h
  obtain rfl := Nat.eq_of_beq_eq_true h1
  have hx := (hA _ List.mem_cons_self _ h2).cells
  have hlx := hl _ List.mem_cons_self
  have hcl : (a.eval y).cells.size = esz := by
   have := hx.length
   rw [Array.length_toList] at this
   omega
  have hsz' : cs.size = i * esz + esz + rows.length * esz := by
   rw [hsz, List.length_cons, show i + (rows.length + 1) = i + 1 + rows.length by omega, Nat.add_mul, Nat.add_mul, Nat.one_mul]
  obtain ⟨cs', h4, h5⟩ := fill_step (place := fun i => some (i * esz, esz)) (i := i) (off := i * esz) (x := a.eval y) (rest := ps.map fun p => (p.1, a.eval p.2)) (cs := cs) (by rw [hcl]) (by omega)
  have hcl2 : (a.eval y).cells.toList.length = esz := by rw [Array.length_toList, hcl]
  have h6 : RepPL V (pre ++ cellsOf (ρ x)) (cs'.toList.take ((i + 1) * esz)) := by
   rw [h4]
   unfold splice
   rw [List.take_append, List.take_of_length_le (by simp [hcl2, Nat.add_mul]; omega)]
   have hlen : (cs.toList.take (i * esz) ++ (a.eval y).cells.toList).length = (i + 1) * esz := by
    simp [hcl, Nat.add_mul]
    omega
   rw [hlen, Nat.sub_self, List.take_zero, List.append_nil]
   exact hr.append hx
  have hsz2 : cs'.size = (i + 1 + rows.length) * esz := by
   have : cs'.toList.length = cs.toList.length := by rw [h4]; exact splice_length (by simp only [Array.length_toList]; omega)
   rw [Array.length_toList, Array.length_toList] at this
   rw [this, hsz, List.length_cons]
   congr 1
   omega
  obtain ⟨cs2, h7, h8⟩ := okRows_fill (ps := ps) (rows := rows) (n := i + 1) (cs := cs') (pre := pre ++ cellsOf (ρ x)) h3 (fun r hr => hA r (List.mem_cons_of_mem _ hr)) (fun r hr => hl r (List.mem_cons_of_mem _ hr)) hsz2 (by rw [List.length_append, hpre, hlx, Nat.add_mul, Nat.one_mul]) h6
  refine ⟨cs2, by rw [List.map_cons, h5, h7], ?_⟩
  simpa [List.append_assoc] using h8
theorem okBytes_spec {t : TypeId} {b : Nat} (h : okBytes P t b = true) : ∃ e i z, P.underlying t = some (.slice e) ∧ P.info? e = some i ∧ i.bytes = b ∧ i.zero = some z ∧ z.cells.size = i.size ∧ 0 < b := by
 unfold okBytes at h
 split at h
 ·rename_i e he
  split at h
  ·rename_i i hi
   simp only [Bool.and_eq_true, Bool.not_eq_true'] at h
   obtain ⟨⟨h1, h2⟩, h3⟩ := h
   split at h3
   ·rename_i z hz
    refine ⟨e, i, z, he, hi, Nat.eq_of_beq_eq_true h1, hz, Nat.eq_of_beq_eq_true h3, Nat.pos_of_ne_zero fun e => ?_⟩
    rw [e] at h2
    exact absurd h2 (by decide)
   ·cases h3
  ·cases h
 ·cases h
theorem okZeroE_spec {t : TypeId} (h : okZeroE P t = true) : ∃ e i z, P.underlying t = some (.slice e) ∧ P.info? e = some i ∧ i.zero = some z := by
 unfold okZeroE at h
 split at h
 ·rename_i e he
  split at h
  ·rename_i i hi
   obtain ⟨z, hz⟩ := Option.isSome_iff_exists.1 h
   exact ⟨e, i, z, he, hi, hz⟩
  ·cases h
 ·cases h
theorem run_bsl {t : TypeId} {n esz : Nat} {ps : Array (Nat × Operand)} {rows : List Arg} (ho : o.op = .buildSlice t n ps) (h1 : okSl P t esz = true) (h2 : n = rows.length) (h3 : okRows 0 ps.toList rows = true) (h4 : okZeroE P t = true) (h5 : n * esz ≤ 16777216)
  (hA : ∀ r ∈ rows, ∀ y, okA r y = true → RepP V (ρ r) (a.eval y)) (hl : ∀ r ∈ rows, (cellsOf (ρ r)).length = esz) :
  ∃ (us : List Value) (T : TypeId), (execOp a.eval o).run P w = .ok (.value (.slice (some ⟨w.heap.size, 0, none⟩) n n)) (w.alloc (.cells us.toArray T)) ∧ RepPL V (rows.map fun r => cellsOf (ρ r)).flatten us := by
 obtain ⟨e, hu, he, hi⟩ := okSl_spec h1
 obtain ⟨e', i, z, hu', hi', hz⟩ := okZeroE_spec h4
 rw [hu] at hu'
 cases hu'
 have hsz : i.size = esz := by rw [← he]; simp [Program.cellsOf, hi']
 generalize hz0 : (Array.range (n * i.size)).map ((if n * i.size = 0 then #[] else z.cells)[· % (if n * i.size = 0 then #[] else z.cells).size]!) = zs
 have hzs : zs.size = n * esz := by rw [← hz0, hsz]; simp
 obtain ⟨cs', h6, h7⟩ := okRows_fill (V := V) (ρ := ρ) (a := a) (esz := esz) (n := 0) (cs := zs) (pre := []) h3 hA hl (by rw [hzs, h2, Nat.zero_add]) (by simp) (by simp [RepPL])
 refine ⟨cs'.toList, e, ?_, by simpa using h7⟩
 rw [execOp, ho]
 refine run_v ?_
 have h8 : (ps.map fun p => (p.1, a.eval p.2)).toList = ps.toList.map fun p => (p.1, a.eval p.2) := by simp
 have h9 : ¬ n * esz > 2 ^ 24 := by omega
 simp only [Instr.buildSlice, Sem.run_bind, run_und hu, Result.andThen_ok, run_size hi, he, Sem.run_ite, h9, if_false, Sem.run_pure]
 rw [hsz] at hz0
 have h11 : ∀ (cs : Array Value), cs = zs → Instr.fill (fun i => some (i * esz, esz)) cs (Array.map (fun (x : Nat × Operand) => match x with | (i, x) => (i, a.eval x)) ps).toList = some cs' := by
  intro cs hcs
  rw [hcs, show (Array.map (fun (x : Nat × Operand) => match x with | (i, x) => (i, a.eval x)) ps).toList = ps.toList.map fun p => (p.1, a.eval p.2) from h8, h6]
 by_cases h0 : n * esz = 0
 ·rw [if_pos h0]
  simp only [if_pos h0] at hz0
  have := h11 _ hz0
  rw [this]
  simp [newRow]
 ·rw [if_neg h0]
  simp only [if_neg h0] at hz0
  have := h11 _ hz0
  simp only [zeroValue, typeInfo, hi', hz, Sem.run_bind, run_program, Result.andThen_ok, Sem.run_pure]
  rw [this]
  simp [newRow]
theorem oneAL_flatten {rows : List Arg} (h : ∀ r ∈ rows, oneAL (cellsOf (ρ r)) = true) : oneAL (rows.map fun r => cellsOf (ρ r)).flatten = true := by
 have happ : ∀ x y : List AV, oneAL x = true → oneAL y = true → oneAL (x ++ y) = true := by
  intro x y hx hy
  induction x with
  | nil => exact hy
  | cons c x ih =>
   simp only [oneAL, List.cons_append, Bool.and_eq_true] at hx ⊢
   exact ⟨hx.1, ih hx.2⟩
 induction rows with
 | nil => rfl
 | cons r rows ih =>
  simp only [List.map_cons, List.flatten_cons]
  exact happ _ _ (h r List.mem_cons_self) (ih fun r hr => h r (List.mem_cons_of_mem _ hr))
theorem snd_bslp {d esz : Nat} {rows : List Arg} (hok : okOp' P o (.bslp d esz rows) = true) (h : opR P (.bslp d esz rows) ρ μ v u acc) (hA : ArgsOk V G ρ a (AOp.bslp d esz rows).args) (hs : Sat W0 V0 Own V G w μ) :
  Done W0 V0 Own P o a w V G μ v u := by
 obtain ⟨hp, rfl, rfl, rfl⟩ := h
 simp only [okOp'] at hok
 split at hok
 ·rename_i t n ps ho
  simp only [Bool.and_eq_true, decide_eq_true_eq] at hok
  obtain ⟨⟨⟨⟨h1, h2⟩, h3⟩, h4⟩, h5⟩ := hok
  have h2 := Nat.eq_of_beq_eq_true h2
  obtain ⟨us, T, hr, hu⟩ := run_bsl (V := V) (ρ := ρ) (a := a) (w := w) ho h1 h2 h3 h4 h5 (fun r hr y hy => (hA r (by simpa [AOp.args] using hr) y hy).pure (hp r hr).1) (fun r hr => (hp r hr).2.2)
  have hone := oneAL_get hu (oneAL_flatten fun r hr => (hp r hr).2.1)
  have hV := hs.viewNew_le us
  refine done_w (hs.frozen us T) hr ?_ hV (Ctx.le_refl _)
  simp only [Rep, RepP]
  refine ⟨some ⟨w.heap.size, 0, none⟩, n, by simp [h2], by simp [h2], .inr ⟨w.heap.size, 0, esz, rfl, RepR.of_flat (hu.mono hV) ?_ ?_⟩⟩
  ·intro c hc
   obtain ⟨r, hr, rfl⟩ := List.mem_map.1 hc
   exact (hp r hr).2.2
  ·intro j y hy
   rw [Nat.zero_add]
   unfold viewNew
   rw [if_pos rfl]
   exact ⟨hy, hone y (List.mem_of_getElem? hy)⟩
 ·cases hok
theorem snd_bslo {d key esz : Nat} {rows : List Arg} (hok : okOp' P o (.bslo d key esz rows) = true) (h : opR P (.bslo d key esz rows) ρ μ v u acc) (hA : ArgsOk V G ρ a (AOp.bslo d key esz rows).args) (hs : Sat W0 V0 Own V G w μ) :
  Done W0 V0 Own P o a w V G μ v u := by
 obtain ⟨hm, hp, rfl, rfl, rfl⟩ := h
 simp only [okOp'] at hok
 split at hok
 ·rename_i t n ps ho
  simp only [Bool.and_eq_true, decide_eq_true_eq] at hok
  obtain ⟨⟨⟨⟨h1, h2⟩, h3⟩, h4⟩, h5⟩ := hok
  have h2 := Nat.eq_of_beq_eq_true h2
  obtain ⟨us, T, hr, hu⟩ := run_bsl (V := V) (ρ := ρ) (a := a) (w := w) ho h1 h2 h3 h4 h5 (fun r hr y hy => (hA r (by simpa [AOp.args] using hr) y hy).pure (hp r hr).1) (fun r hr => (hp r hr).2.2)
  have hone := oneAL_get hu (oneAL_flatten fun r hr => (hp r hr).2.1)
  have hrow : ∀ c ∈ (rows.map fun r => cellsOf (ρ r)), c.length = esz := by
   intro c hc
   obtain ⟨r, hr, rfl⟩ := List.mem_map.1 hc
   exact (hp r hr).2.2
  have hul : us.length = n * esz := by
   rw [hu.length, h2]
   have flat : ∀ (xs : List (List AV)), (∀ c ∈ xs, c.length = esz) → xs.flatten.length = xs.length * esz := by
    intro xs hx
    induction xs with
    | nil => simp
    | cons c xs ih =>
     simp only [List.flatten_cons, List.length_append, List.length_cons, Nat.add_mul, Nat.one_mul]
     rw [hx _ List.mem_cons_self, ih (fun c hc => hx c (List.mem_cons_of_mem _ hc))]
     omega
   rw [flat _ hrow, List.length_map]
  have hul' : True := by
   cases rows with
   | nil => trivial
   | cons r rows => trivial
  have hle := Ctx.le_new (s := .arr 0 esz n (some (w.heap.size, 0, n * esz))) (hs.fresh hm)
  have hs' := hs.newOb (s := .arr 0 esz n (some (w.heap.size, 0, n * esz))) (ob := .arr 0 esz (rows.map fun r => cellsOf (ρ r))) (.cells us.toArray T) hm rfl (by
   simp only [ObOk]
   refine ⟨trivial, trivial, by simp [h2], (fun h => by cases h), fun b o tot h => ?_⟩
   cases h
   refine ⟨us, T, heap_alloc_new, hul, by omega, RepR.of_flat hu hrow fun j y hy => ?_⟩
   rw [Nat.zero_add]
   exact ⟨hy, hone y (List.mem_of_getElem? hy)⟩)
  refine done_w (μ := μ) (u := [(key, .arr 0 esz (rows.map fun r => cellsOf (ρ r)))]) hs' hr ?_ (View.le_refl _) hle
  simp only [Rep]
  refine ⟨⟨_, _, by rw [h2]⟩, 0, esz, n, _, if_pos trivial, Nat.le_refl _, fun _ => ⟨_, n, by rw [h2], by omega, by omega, by omega, ?_⟩⟩
  exact ⟨.inr (by simp), by simp⟩
 ·cases hok
end
end Go.AM
