/- The abstract machine's operations: what they do, and when one of them is one of the program's. -/
import Derived.Test.YtmmgdilhbkklpaaAOA
namespace Go.AM
open Go
set_option linter.unusedVariables false

/-- What lies in a cell that can be compared. -/
inductive LK where
  | i | b | s
  deriving DecidableEq
/-- Are two rows of numbers, truth values and texts one? -/
def eqC : List LK → List AV → List AV → Option Bool
  | [], [], [] => some true
  | .i :: ks, .int k a :: xs, .int k' b :: ys => if k = k' then (eqC ks xs ys).map fun r => (a == b) && r else none
  | .b :: ks, .bool a :: xs, .bool b :: ys => (eqC ks xs ys).map fun r => (a == b) && r
  | .s :: ks, .str a :: xs, .str b :: ys => (eqC ks xs ys).map fun r => (a == b) && r
  | _, _, _ => none

def intBin (op : BinOp) (k : IntKind) (x y : Int) : Option AV :=
  match op with
  | .add => some (.int k (k.wrap (x + y)))
  | .sub => some (.int k (k.wrap (x - y)))
  | .mul => some (.int k (k.wrap (x * y)))
  | .quo => if y = 0 then none else some (.int k (k.wrap (x.tdiv y)))
  | .rem => if y = 0 then none else some (.int k (x.tmod y))
  | .and => some (.int k (k.wrap (BitVec.ofInt k.bits x &&& BitVec.ofInt k.bits y).toNat))
  | .or => some (.int k (k.wrap (BitVec.ofInt k.bits x ||| BitVec.ofInt k.bits y).toNat))
  | .xor => some (.int k (k.wrap (BitVec.ofInt k.bits x ^^^ BitVec.ofInt k.bits y).toNat))
  | .andNot => some (.int k (k.wrap (BitVec.ofInt k.bits x &&& ~~~BitVec.ofInt k.bits y).toNat))
  | .eql => some (.bool (x == y))
  | .neq => some (.bool (x != y))
  | .lss => some (.bool (decide (x < y)))
  | .leq => some (.bool (decide (x ≤ y)))
  | .gtr => some (.bool (decide (x > y)))
  | .geq => some (.bool (decide (x ≥ y)))
  | _ => none
def shBin (op : BinOp) (k : IntKind) (x y : Int) : Option AV :=
  match op with
  | .shl => if y < 0 then none else some (.int k (k.wrap (x * 2 ^ min y.toNat k.bits)))
  | .shr => if y < 0 then none else some (.int k (x.fdiv (2 ^ min y.toNat k.bits)))
  | _ => none
def evBin (op : BinOp) : AV → AV → Option AV
  | .int k x, .int k' y =>
    match op with
    | .shl => shBin .shl k x y
    | .shr => shBin .shr k x y
    | op => if k = k' then intBin op k x y else none
  | .str a, .str b =>
    match op with
    | .eql => some (.bool (a == b))
    | .neq => some (.bool (!(a == b)))
    | .lss => some (.bool (Op.bytesLess a.toList b.toList))
    | .add => if a.size + b.size ≤ 9223372036854775807 then some (.str (a ++ b)) else none
    | _ => none
  | _, _ => none
def evNil : AV → AV → Option Bool
  | .ref _ _, .nilp => some false
  | .nilp, .ref _ _ => some false
  | .rp _, .nilp => some false
  | .nilp, .rp _ => some false
  | .nilp, .nilp => some true
  | _, _ => none
def evNilF : AV → AV → Option Bool
  | .fn _ _, .nilf => some false
  | .nilf, .fn _ _ => some false
  | .nilf, .nilf => some true
  | _, _ => none
inductive EqK where
  | bool
  | strct (ks : List LK)
  | nil
  | nilf
def evEq : EqK → AV → AV → Option Bool
  | .bool, .bool a, .bool b => some (a == b)
  | .strct ks, .agg x, .agg y => eqC ks x y
  | .nil, x, y => evNil x y
  | .nilf, x, y => evNilF x y
  | _, _, _ => none
def evUn (op : UnOp) : AV → Option AV
  | .int k n =>
    match op with
    | .neg => some (.int k (k.wrap (0 - n)))
    | .xor => some (.int k (k.wrap (BitVec.ofInt k.bits (if k.signed then -1 else k.max) ^^^ BitVec.ofInt k.bits n).toNat))
    | _ => none
  | .bool b =>
    match op with
    | .not => some (.bool !b)
    | _ => none
  | _ => none

inductive Cal where
  | st (f : Nat)
  | dy (a : Arg)
  | iv (a : Arg) (t : TypeId) (nm : String) (f : Nat)
inductive AOp where
  | mov (d : Nat) (a : Arg)
  | bin (d : Nat) (op : BinOp) (a b : Arg)
  | eq (d : Nat) (neg : Bool) (ks : EqK) (a b : Arg)
  | un (d : Nat) (op : UnOp) (a : Arg)
  | conv (d : Nat) (k : IntKind) (a : Arg)
  | len (d : Nat) (a : Arg)
  | slen (d : Nat) (a : Arg)
  | idx (d : Nat) (a i : Arg) (n : Nat)
  | aix (d : Nat) (a i : Arg) (n m : Nat)
  | fad (d : Nat) (a : Arg) (off : Nat)
  | load (d : Nat) (a : Arg) (n : Nat) (ag : Bool)
  | store (a x : Arg) (n : Nat)
  | boxp (d : Nat) (a : Arg)
  | boxo (d key : Nat) (a : Arg)
  | boxm (d key : Nat) (a : Arg)
  | alloc (d key : Nat) (cells : List AV)
  | alloca (d key key2 esz : Nat)
  | nilarr (d key esz : Nat)
  | build (d : Nat) (zero : List AV) (parts : List (Nat × Nat × Arg))
  | bslp (d esz : Nat) (rows : List Arg)
  | bslo (d key esz : Nat) (rows : List Arg)
  | slc (d : Nat) (a : Arg) (lo hi : Option Arg) (esz : Nat)
  | sslc (d : Nat) (a : Arg) (lo hi : Option Arg)
  | slc3 (d : Nat) (a : Arg) (lo : Option Arg) (hi mx : Arg) (esz : Nat)
  | sidx (d : Nat) (a i : Arg)
  | mkfn (d f : Nat) (caps : List Arg)
  | ext (d : Nat) (a : Arg) (i : Nat)
  | pick (d : Nat) (c a b : Arg)
  | callf (d : Option Nat) (c : Cal) (args : List Arg)
  | callb (d : Option Nat) (c : Cal) (args : List Arg)
  | appd (d : Nat) (a x : Arg) (esz bytes : Nat)
  | clear (a : Arg) (zero : List AV)
  | mxn (d : Nat) (max : Bool) (a b : Arg)
  | field (d : Nat) (a : Arg) (off n : Nat) (ag : Bool)
  | nilc (d : Nat) (a : Arg)
  | make (d key esz bytes : Nat) (zero : List AV) (n c : Arg)
  | buildm (d : Nat) (zero : List AV) (parts : List (Nat × Nat × Arg))
  | boxg (d key : Nat) (a : Arg)
  | mkif (d : Nat) (t : TypeId) (a : Arg)
  | tass (d : Nat) (t : TypeId) (a : Arg)
  | eqs (d : Nat) (neg : Bool) (a : Arg)
  | callo (d : Option Nat) (c : Cal) (args : List Arg) (pass new : List Nat)

def AOp.dst : AOp → Option Nat
  | .mov d _ | .bin d _ _ _ | .eq d _ _ _ _ | .un d _ _ | .conv d _ _ | .len d _ | .slen d _ | .idx d _ _ _ | .aix d _ _ _ _ | .fad d _ _ | .load d _ _ _ | .boxp d _ | .boxo d _ _ | .boxm d _ _
  | .alloc d _ _ | .alloca d _ _ _ | .nilarr d _ _ | .build d _ _ | .bslp d _ _ | .bslo d _ _ _ | .slc d _ _ _ _ | .sslc d _ _ _ | .slc3 d _ _ _ _ _ | .sidx d _ _ | .mkfn d _ _
  | .ext d _ _ | .pick d _ _ _ | .appd d _ _ _ _ | .mxn d _ _ _ | .field d _ _ _ _ | .nilc d _ | .make d _ _ _ _ _ _ | .buildm d _ _ | .boxg d _ _ | .mkif d _ _ | .tass d _ _ | .eqs d _ _ => some d
  | .callf d _ _ => d
  | .callb d _ _ => d
  | .callo d _ _ _ _ => d
  | .store _ _ _ | .clear _ _ => none
def AOp.args : AOp → List Arg
  | .mov _ a | .un _ _ a | .conv _ _ a | .len _ a | .slen _ a | .fad _ a _ | .load _ a _ _ | .boxp _ a | .boxo _ _ a | .boxm _ _ a | .ext _ a _ | .clear a _ | .field _ a _ _ _ | .nilc _ a | .boxg _ _ a | .mkif _ _ a | .tass _ _ a | .eqs _ _ a => [a]
  | .bin _ _ a b | .eq _ _ _ a b | .idx _ a b _ | .aix _ a b _ _ | .store a b _ | .sidx _ a b | .appd _ a b _ _ | .mxn _ _ a b => [a, b]
  | .alloc _ _ _ | .alloca _ _ _ _ | .nilarr _ _ _ => []
  | .build _ _ ps | .buildm _ _ ps => ps.map (·.2.2)
  | .bslp _ _ rs | .bslo _ _ _ rs | .mkfn _ _ rs => rs
  | .sslc _ a lo hi => a :: (lo.toList ++ hi.toList)
  | .slc _ a lo hi _ => a :: (lo.toList ++ hi.toList)
  | .slc3 _ a lo hi mx _ => a :: hi :: mx :: lo.toList
  | .pick _ c a b => [c, a, b]
  | .callf _ (.st _) as => as
  | .callf _ (.dy f) as => f :: as
  | .callf _ (.iv f _ _ _) as => f :: as
  | .callb _ (.st _) as => as
  | .callb _ (.dy f) as => f :: as
  | .callb _ (.iv f _ _ _) as => f :: as
  | .callo _ (.st _) as _ _ => as
  | .callo _ (.dy f) as _ _ => f :: as
  | .callo _ (.iv f _ _ _) as _ _ => f :: as
  | .make _ _ _ _ _ n c => [n, c]

def setAt (l : List AV) (o : Nat) (cs : List AV) : List AV := l.take o ++ cs ++ l.drop (o + cs.length)
def fillA (ρ : Arg → AV) : List (Nat × Nat × Arg) → List AV → List AV
  | [], z => z
  | (o, _, a) :: r, z => fillA ρ r (setAt z o (cellsOf (ρ a)))
def fillM (ρ : Arg → AV) : List (Nat × Nat × Arg) → List AV → List AV
  | [], z => z
  | (o, _, a) :: r, z => fillM ρ r (setAt z o (cellsM (ρ a)))
def loadV (ag : Bool) (n : Nat) (c : List AV) : Option AV :=
  match ag with
  | true => if n ≤ c.length then some (.agg (c.take n)) else none
  | false => match c with
    | x :: _ => some x
    | [] => none
def callee (ρ : Arg → AV) : Cal → Option (Nat × List AV)
  | .st f => some (f, [])
  | .dy a => match ρ a with
    | .fn f caps => some (f, caps)
    | _ => none
  | .iv _ _ _ f => some (f, [])
/-- What an interface value holds. -/
def unif : AV → AV
  | .mif _ x => x
  | .ifc _ x => x
  | _ => .dead
def ptrA : AV → Bool
  | .ref _ _ | .er _ _ _ _ | .rp _ => true
  | _ => false
/-- What a call's function is handed, but for what it has captured. -/
def calV (ρ : Arg → AV) (c : Cal) (args : List Arg) : List AV :=
  match c with
  | .iv a _ _ _ => unif (ρ a) :: args.map ρ
  | _ => args.map ρ
/-- A method of a pointer's type, found by its name. -/
def MethOk (P : Program) (t : TypeId) (nm : String) (f : Nat) : Prop := ∀ (a : Option Addr) (w : World), (method (P.types.size + Made.depth) t (.pointer a) nm).run P w = .ok (f, .pointer a) w
def ifOk (t : TypeId) : AV → Bool
  | .mif t' x => Nat.beq t t' && ptrA x
  | .ifc t' x => Nat.beq t t' && ptrA x
  | _ => false
def calOk (P : Program) (ρ : Arg → AV) : Cal → Prop
  | .iv a t nm f => ifOk t (ρ a) = true ∧ MethOk P t nm f
  | _ => True
def optI (ρ : Arg → AV) (d : Int) : Option Arg → Option Int
  | none => some d
  | some a => match ρ a with
    | .int _ n => some n
    | _ => none

abbrev Acc := List Nat × List Nat
/-- A value that is lent: what is the caller's own is as if no one wrote it. -/
def bor1 (μ : Nat → Option Ob) : AV → AV
  | .hs k ver off len => match μ k with
    | some (.arr ver' _ xs) => if ver' = ver then .sl ((xs.drop off).take len) else .dead
    | _ => .dead
  | .ref k off => match μ k with
    | some (.pbox cs) => .rp (cs.drop off)
    | _ => .dead
  | .er k ver i off => match μ k with
    | some (.arr ver' _ xs) => if ver' = ver then (match xs[i]? with | some c => .rp (c.drop off) | none => .dead) else .dead
    | _ => .dead
  | .fn f caps => bif isPL caps then .fn f caps else .dead
  | .tup _ => .dead
  | .mag _ => .dead
  | .mif _ _ => .dead
  | x => x
def borC (cs : List AV) (off : Nat) : AV := bif isPL cs && oneAL cs then .rp (cs.drop off) else .dead
def bor2 (μ : Nat → Option Ob) : AV → AV
  | .ref k off => match μ k with
    | some (.box cs) => borC (cs.map (bor1 μ)) off
    | some (.pbox cs) => .rp (cs.drop off)
    | _ => .dead
  | x => bor1 μ x
def borI (t : TypeId) (x : AV) : AV := bif isP x then .ifc t x else .dead
def bor0 (μ : Nat → Option Ob) : AV → AV
  | .mif t x => borI t (bor2 μ x)
  | x => bor2 μ x
def bor (μ : Nat → Option Ob) : AV → AV
  | .fn f caps => .fn f (caps.map (bor0 μ))
  | x => bor0 μ x
def key1 : AV → List Nat
  | .hs k _ _ _ | .ref k _ | .er k _ _ _ => [k]
  | _ => []
def key2 (μ : Nat → Option Ob) : AV → List Nat
  | .ref k off => match μ k with
    | some (.box cs) => k :: cs.flatMap key1
    | _ => [k]
  | x => key1 x
def key0 (μ : Nat → Option Ob) : AV → List Nat
  | .mif _ x => key2 μ x
  | x => key2 μ x
def keysA (μ : Nat → Option Ob) : AV → List Nat
  | .fn _ caps => caps.flatMap (key0 μ)
  | x => key0 μ x
def scal0 : AV → Bool
  | .int _ _ | .bool _ | .str _ => true
  | _ => false
def scalar : AV → Bool
  | .int _ _ | .bool _ | .str _ => true
  | .agg cs => cs.all scal0
  | _ => false
def getObsM (μ : Nat → Option Ob) : List Nat → Option (List Ob)
  | [] => some []
  | k :: r => match μ k with
    | some o => (getObsM μ r).map (o :: ·)
    | none => none
def allNoneM (μ : Nat → Option Ob) : List Nat → Bool
  | [] => true
  | k :: r => (match μ k with | none => true | some _ => false) && allNoneM μ r
def zipU : List Nat → List Ob → List (Nat × Ob)
  | k :: ks, o :: os => (k, o) :: zipU ks os
  | _, _ => []
/-- What an operation makes: the value, the objects that are others then, and which objects it reads and writes. -/
def opR (P : Program) (o : AOp) (ρ : Arg → AV) (μ : Nat → Option Ob) (v : AV) (u : List (Nat × Ob)) (acc : Acc) : Prop :=
  match o with
  | .mov _ a => v = ρ a ∧ u = [] ∧ acc = ([], [])
  | .bin _ op a b => evBin op (ρ a) (ρ b) = some v ∧ u = [] ∧ acc = ([], [])
  | .eq _ neg ks a b => (∃ r, evEq ks (ρ a) (ρ b) = some r ∧ v = .bool (bif neg then !r else r)) ∧ u = [] ∧ acc = ([], [])
  | .un _ op a => evUn op (ρ a) = some v ∧ u = [] ∧ acc = ([], [])
  | .conv _ k a => (∃ k' n, ρ a = .int k' n ∧ v = .int k (k.wrap n)) ∧ u = [] ∧ acc = ([], [])
  | .len _ a => ((∃ xs, ρ a = .sl xs ∧ v = .int .i64 xs.length) ∨ (∃ xs, ρ a = .fl xs ∧ v = .int .i64 xs.length) ∨ (∃ k ver off len, ρ a = .hs k ver off len ∧ v = .int .i64 len)) ∧ u = [] ∧ acc = ([], [])
  | .slen _ a => (∃ s, ρ a = .str s ∧ v = .int .i64 s.size) ∧ u = [] ∧ acc = ([], [])
  | .idx _ a i n => u = [] ∧ ∃ ik z, ρ i = .int ik z ∧ 0 ≤ z ∧
      ((∃ xs c, (ρ a = .sl xs ∨ ρ a = .fl xs) ∧ xs[z.toNat]? = some c ∧ c.length = n ∧ v = .rp c ∧ acc = ([], [])) ∨
       (∃ k ver off len xs, ρ a = .hs k ver off len ∧ z < len ∧ μ k = some (.arr ver n xs) ∧ v = .er k ver (off + z.toNat) 0 ∧ acc = ([k], [])))
  | .aix _ a i n m => u = [] ∧ ∃ ik z, ρ i = .int ik z ∧ 0 ≤ z ∧ z < m ∧ acc = ([], []) ∧
      ((∃ c, ρ a = .rp c ∧ v = .rp (c.drop (z.toNat * n))) ∨ (∃ k off, ρ a = .ref k off ∧ v = .ref k (off + z.toNat * n)) ∨ (∃ k ver j off, ρ a = .er k ver j off ∧ v = .er k ver j (off + z.toNat * n)))
  | .fad _ a off => u = [] ∧ acc = ([], []) ∧
      ((∃ c, ρ a = .rp c ∧ v = .rp (c.drop off)) ∨ (∃ k o, ρ a = .ref k o ∧ v = .ref k (o + off)) ∨ (∃ k ver i o, ρ a = .er k ver i o ∧ v = .er k ver i (o + off)))
  | .load _ a n ag => u = [] ∧
      ((∃ c, ρ a = .rp c ∧ loadV ag n c = some v ∧ acc = ([], [])) ∨
       (∃ k o c, ρ a = .ref k o ∧ μ k = some (.pbox c) ∧ loadV ag n (c.drop o) = some v ∧ acc = ([k], [])) ∨
       (∃ k o c, ρ a = .ref k o ∧ μ k = some (.box c) ∧ ag = false ∧ loadV false n (c.drop o) = some v ∧ acc = ([k], [])) ∨
       (∃ k ver i o esz xs c, ρ a = .er k ver i o ∧ μ k = some (.arr ver esz xs) ∧ xs[i]? = some c ∧ loadV ag n (c.drop o) = some v ∧ acc = ([k], [])))
  | .store a x n => v = .dead ∧ (cellsOf (ρ x)).length = n ∧
      ((∃ k o c, ρ a = .ref k o ∧ μ k = some (.pbox c) ∧ isP (ρ x) = true ∧ oneAL (cellsOf (ρ x)) = true ∧ o + (cellsOf (ρ x)).length ≤ c.length ∧ u = [(k, .pbox (setAt c o (cellsOf (ρ x))))] ∧ acc = ([], [k])) ∨
       (∃ k o c, ρ a = .ref k o ∧ μ k = some (.box c) ∧ oneA (ρ x) = true ∧ o + 1 ≤ c.length ∧ u = [(k, .box (c.set o (ρ x)))] ∧ acc = ([], [k])) ∨
       (∃ k ver i o esz xs c, ρ a = .er k ver i o ∧ μ k = some (.arr ver esz xs) ∧ xs[i]? = some c ∧ isP (ρ x) = true ∧ oneAL (cellsOf (ρ x)) = true ∧ o + (cellsOf (ρ x)).length ≤ c.length ∧ u = [(k, .arr ver esz (xs.set i (setAt c o (cellsOf (ρ x)))))] ∧ acc = ([], [k])))
  | .boxp _ a => isP (ρ a) = true ∧ oneAL (cellsOf (ρ a)) = true ∧ v = .rp (cellsOf (ρ a)) ∧ u = [] ∧ acc = ([], [])
  | .boxo _ key a => oneA (ρ a) = true ∧ μ key = none ∧ v = .ref key 0 ∧ u = [(key, .box [ρ a])] ∧ acc = ([], [key])
  | .boxm _ key a => isP (ρ a) = true ∧ oneAL (cellsOf (ρ a)) = true ∧ μ key = none ∧ v = .ref key 0 ∧ u = [(key, .pbox (cellsOf (ρ a)))] ∧ acc = ([], [key])
  | .alloc _ key cells => μ key = none ∧ v = .ref key 0 ∧ u = [(key, .pbox cells)] ∧ acc = ([], [key])
  | .alloca _ key key2 esz => μ key = none ∧ μ key2 = none ∧ key ≠ key2 ∧ v = .ref key 0 ∧ u = [(key2, .arr 0 esz []), (key, .box [.hs key2 0 0 0])] ∧ acc = ([], [key, key2])
  | .nilarr _ key esz => μ key = none ∧ v = .hs key 0 0 0 ∧ u = [(key, .arr 0 esz [])] ∧ acc = ([], [key])
  | .build _ zero parts => (∀ p ∈ parts, isP (ρ p.2.2) = true ∧ (cellsOf (ρ p.2.2)).length = p.2.1 ∧ p.1 + p.2.1 ≤ zero.length) ∧ v = .agg (fillA ρ parts zero) ∧ u = [] ∧ acc = ([], [])
  | .bslp _ esz rows => (∀ r ∈ rows, isP (ρ r) = true ∧ oneAL (cellsOf (ρ r)) = true ∧ (cellsOf (ρ r)).length = esz) ∧ v = .sl (rows.map fun r => cellsOf (ρ r)) ∧ u = [] ∧ acc = ([], [])
  | .bslo _ key esz rows => μ key = none ∧ (∀ r ∈ rows, isP (ρ r) = true ∧ oneAL (cellsOf (ρ r)) = true ∧ (cellsOf (ρ r)).length = esz) ∧ v = .hs key 0 0 rows.length ∧ u = [(key, .arr 0 esz (rows.map fun r => cellsOf (ρ r)))] ∧ acc = ([], [key])
  | .slc _ a lo hi esz => u = [] ∧
      ((∃ xs l h, (ρ a = .sl xs ∨ ρ a = .fl xs) ∧ (∀ c ∈ xs, c.length = esz) ∧ optI ρ 0 lo = some l ∧ optI ρ xs.length hi = some h ∧ 0 ≤ l ∧ l ≤ h ∧ h ≤ xs.length ∧ v = .sl ((xs.take h.toNat).drop l.toNat) ∧ acc = ([], [])) ∨
       (∃ k ver off len xs l h, ρ a = .hs k ver off len ∧ μ k = some (.arr ver esz xs) ∧ optI ρ 0 lo = some l ∧ optI ρ len hi = some h ∧ 0 ≤ l ∧ l ≤ h ∧ (h ≤ len ∨ off + h ≤ xs.length) ∧ v = .hs k ver (off + l.toNat) (h.toNat - l.toNat) ∧ acc = ([k], [])))
  | .sslc _ a lo hi => u = [] ∧ acc = ([], []) ∧
       (∃ s l h, ρ a = .str s ∧ optI ρ 0 lo = some l ∧ optI ρ s.size hi = some h ∧ 0 ≤ l ∧ l ≤ h ∧ h ≤ s.size ∧ v = .str (s.extract l.toNat h.toNat))
  | .slc3 _ a lo hi mx esz => u = [] ∧ ((acc = ([], []) ∧ ∃ xs l h m, (ρ a = .sl xs ∨ ρ a = .fl xs) ∧ (∀ c ∈ xs, c.length = esz) ∧ optI ρ 0 lo = some l ∧ optI ρ 0 (some hi) = some h ∧ optI ρ 0 (some mx) = some m ∧ 0 ≤ l ∧ l ≤ h ∧ h = m ∧ m ≤ xs.length ∧ v = .fl ((xs.take h.toNat).drop l.toNat)) ∨
       (∃ k ver off len e xs l h m, ρ a = .hs k ver off len ∧ μ k = some (.arr ver e xs) ∧ optI ρ 0 lo = some l ∧ optI ρ 0 (some hi) = some h ∧ optI ρ 0 (some mx) = some m ∧ 0 ≤ l ∧ l ≤ h ∧ h ≤ m ∧ m ≤ len ∧ v = .dead ∧ acc = ([k], [])))
  | .sidx _ a i => u = [] ∧ acc = ([], []) ∧ ∃ s ik z b, ρ a = .str s ∧ ρ i = .int ik z ∧ 0 ≤ z ∧ s[z.toNat]? = some b ∧ v = .int .u8 b.toNat
  | .mkfn _ f caps => v = .fn f (caps.map ρ) ∧ u = [] ∧ acc = ([], [])
  | .ext _ a i => (∃ xs, ρ a = .tup xs ∧ xs[i]? = some v) ∧ u = [] ∧ acc = ([], [])
  | .pick _ c a b => (∃ t, ρ c = .bool t ∧ v = bif t then ρ a else ρ b) ∧ u = [] ∧ acc = ([], [])
  | .callf _ c args => u = [] ∧ acc = ([], []) ∧ ∃ f caps res, callee ρ c = some (f, caps) ∧ calOk P ρ c ∧ isPL (calV ρ c args) = true ∧ isPL caps = true ∧ Ctr P f (calV ρ c args ++ caps) [] (fun r o => r = res ∧ o = []) ∧ v = resA res
  | .callb _ c args => u = [] ∧ ∃ f caps res, callee ρ c = some (f, caps) ∧ calOk P ρ c ∧ acc = ((calV ρ c args ++ caps).flatMap (keysA μ), []) ∧ isPL ((calV ρ c args ++ caps).map (bor μ)) = true ∧
      Ctr P f ((calV ρ c args ++ caps).map (bor μ)) [] (fun r o => r = res ∧ o = []) ∧ res.all scalar = true ∧ v = resA res
  | .appd _ a x esz bytes => ∃ k ver off len xs ys rd, ρ a = .hs k ver off len ∧ μ k = some (.arr ver esz xs) ∧
      (((ρ x = .sl ys ∨ ρ x = .fl ys) ∧ (∀ c ∈ ys, c.length = esz) ∧ rd = []) ∨ (∃ k2 ver2 off2 len2 xs2, ρ x = .hs k2 ver2 off2 len2 ∧ μ k2 = some (.arr ver2 esz xs2) ∧ ys = (xs2.drop off2).take len2 ∧ rd = [k2])) ∧
      ((off + len + ys.length ≤ xs.length ∧ v = .hs k ver off (len + ys.length) ∧ u = [(k, .arr ver esz (xs.take (off + len) ++ ys ++ xs.drop (off + len + ys.length)))]) ∨
       (off + len = xs.length ∧ ((len + ys.length : Nat) : Int) * bytes ≤ 70368744177664 ∧ v = .hs k (ver + 1) 0 (len + ys.length) ∧ u = [(k, .arr (ver + 1) esz (xs.drop off ++ ys))])) ∧ acc = (rd, [k])
  | .clear a zero => v = .dead ∧ ∃ k ver off len esz xs, ρ a = .hs k ver off len ∧ μ k = some (.arr ver esz xs) ∧ zero.length = esz ∧ isPL zero = true ∧ oneAL zero = true ∧ u = [(k, .arr ver esz (xs.take off ++ List.replicate len zero ++ xs.drop (off + len)))] ∧ acc = ([], [k])
  | .mxn _ max a b => (∃ k x y, ρ a = .int k x ∧ ρ b = .int k y ∧ v = .int k (if max then (if y > x then y else x) else (if y < x then y else x))) ∧ u = [] ∧ acc = ([], [])
  | .field _ a off n ag => (∃ c, ρ a = .agg c ∧ loadV ag n (c.drop off) = some v) ∧ u = [] ∧ acc = ([], [])
  | .nilc _ a => ((∃ c, ρ a = .rp c) ∨ (∃ k o, ρ a = .ref k o) ∨ (∃ k w i o, ρ a = .er k w i o) ∨ (∃ f c, ρ a = .fn f c)) ∧ v = ρ a ∧ u = [] ∧ acc = ([], [])
  | .make _ key esz bytes zero n c => ∃ nk ck z zc, ρ n = .int nk z ∧ ρ c = .int ck zc ∧ z = zc ∧ 0 ≤ z ∧ z * bytes ≤ 140737488355328 ∧ zero.length = esz ∧ μ key = none ∧ v = .hs key 0 0 z.toNat ∧ u = [(key, .arr 0 esz (List.replicate z.toNat zero))] ∧ acc = ([], [key])
  | .buildm _ zero parts => (∀ p ∈ parts, cellM (ρ p.2.2) = true ∧ (cellsM (ρ p.2.2)).length = p.2.1 ∧ p.1 + p.2.1 ≤ zero.length) ∧ v = .mag (fillM ρ parts zero) ∧ u = [] ∧ acc = ([], [])
  | .boxg _ key a => cellM (ρ a) = true ∧ oneAL (cellsM (ρ a)) = true ∧ μ key = none ∧ v = .ref key 0 ∧ u = [(key, .box (cellsM (ρ a)))] ∧ acc = ([], [key])
  | .mkif _ t a => v = (bif isP (ρ a) then .ifc t (ρ a) else .mif t (ρ a)) ∧ u = [] ∧ acc = ([], [])
  | .tass _ t a => (∃ x, ρ a = .ifc t x ∧ v = .tup [x, .bool true]) ∧ u = [] ∧ acc = ([], [])
  | .eqs _ neg a => ((∃ c xs, (ρ a = .sl (c :: xs) ∨ ρ a = .fl (c :: xs)) ∧ v = .bool neg) ∨ (∃ xs, (ρ a = .sl xs ∨ ρ a = .fl xs) ∧ v = .anyb) ∨ (∃ k ver off len, ρ a = .hs k ver off len ∧ v = .anyb)) ∧ u = [] ∧ acc = ([], [])
  | .callo _ c args pass new => ∃ f caps obs res obs', callee ρ c = some (f, caps) ∧ calOk P ρ c ∧ getObsM μ pass = some obs ∧ allNoneM μ new = true ∧
      Ctr P f (renL (idxM 0 pass) (calV ρ c args ++ caps)) (mapOb (idxM 0 pass) obs) (fun r o => r = res ∧ o = obs') ∧ obs'.length = pass.length + new.length ∧
      v = ren (invL (idxM 0 (pass ++ new))) (resA res) ∧ u = zipU (pass ++ new) (mapOb (invL (idxM 0 (pass ++ new))) obs') ∧ acc = ([], pass ++ new)

def St.puts (st : St) : List (Nat × Ob) → St
  | [] => st
  | (k, o) :: r => (st.put k o).puts r
/-- One operation, with what is to hold behind it. -/
def aop (P : Program) (o : AOp) (st : St) (K : St → Prop) : Prop :=
  ∃ v u acc, opR P o st.ev st.ob v u acc ∧ K ((st.puts u).setO o.dst v)
end Go.AM
