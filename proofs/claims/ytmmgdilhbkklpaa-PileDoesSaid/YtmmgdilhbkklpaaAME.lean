/- When an operation of the abstract machine is one of the program's; and that the simple ones do what they say. -/
import Derived.Test.YtmmgdilhbkklpaaAMD
namespace Go.AM
open Go
set_option linter.unusedVariables false
set_option linter.unusedSimpArgs false

mutual
def okC : AV → Value → Bool
  | .int k n, .int k' m => decide (k = k') && decide (n = m)
  | .bool a, .bool b => a == b
  | .str a, .string b => decide (a = b)
  | .nilp, .pointer none => true
  | .nilf, .nilFunc => true
  | .nili, .nilIface => true
  | .sl [], .slice none 0 0 => true
  | .fn f [], .func (.func g) a b => Nat.beq f g && a.toList.isEmpty && b.toList.isEmpty
  | .agg cs, .agg us => okCL cs us.toList
  | _, _ => false
def okCL : List AV → List Value → Bool
  | [], [] => true
  | x :: xs, v :: vs => okC x v && okCL xs vs
  | _, _ => false
end
mutual
theorem okC_rep (V : View) : ∀ {x : AV} {v : Value}, okC x v = true → RepP V x v
  | .int k n, .int k' m, h => by simp [okC] at h; simp [RepP, h.1, h.2]
  | .bool a, .bool b, h => by simp [okC] at h; simp [RepP, h]
  | .str a, .string b, h => by simp [okC] at h; simp [RepP, h]
  | .nilp, .pointer none, h => by simp [RepP]
  | .nilf, .nilFunc, h => by simp [RepP]
  | .nili, .nilIface, h => by simp [RepP]
  | .sl [], .slice none 0 0, h => by simp [RepP]
  | .fn f [], .func (.func g) a b, h => by
    simp only [okC, Bool.and_eq_true, List.isEmpty_iff, Array.toList_eq_nil_iff] at h
    have := Nat.eq_of_beq_eq_true h.1.1
    simp [RepP, RepPL, this, h.1.2, h.2]
  | .agg cs, .agg us, h => by
    simp only [okC] at h
    simp only [RepP]
    exact ⟨us.toList, rfl, okCL_rep V h⟩
theorem okCL_rep (V : View) : ∀ {x : List AV} {v : List Value}, okCL x v = true → RepPL V x v
  | [], [], h => by simp [RepPL]
  | x :: xs, v :: vs, h => by
    simp only [okCL, Bool.and_eq_true] at h
    simp only [RepPL]
    exact ⟨v, vs, rfl, okC_rep V h.1, okCL_rep V h.2⟩
end
def okA : Arg → Operand → Bool
  | .r i, .tmp j => Nat.beq i j
  | .c x, .const v => okC x v
  | .c (.fn f []), .func g => Nat.beq f g
  | _, _ => false
def okAs : List Arg → List Operand → Bool
  | [], [] => true
  | x :: xs, y :: ys => okA x y && okAs xs ys
  | _, _ => false


def leafGo (P : Program) (rec : TypeId → Option (List LK)) (acc : Nat) : List Field → Option (List LK)
  | [] => some []
  | f :: fs =>
    if f.name != "_" && Nat.beq f.offset acc then
      match rec f.type with
      | some k1 => if Nat.beq k1.length (P.cellsOf f.type) && !Nat.beq k1.length 0 then (leafGo P rec (acc + P.cellsOf f.type) fs).map (k1 ++ ·) else none
      | none => none
    else none
/-- What lies in a type's cells, where these are numbers, truth values and texts alone, without gaps. -/
def leafK (P : Program) : Nat → TypeId → Option (List LK)
  | 0, _ => none
  | d + 1, t =>
    match P.underlying t with
    | some .bool => some [.b]
    | some (.int _) => some [.i]
    | some .string => some [.s]
    | some (.struct fs) => if P.stoodInHeld t then none else leafGo P (leafK P d) 0 fs.toList
    | _ => none
def isAggT (P : Program) (t : TypeId) : Bool :=
  match P.underlying t with
  | some (.struct _) | some (.array _ _) => true
  | _ => false
def okEq (P : Program) (t : TypeId) : EqK → Bool
  | .bool => (match P.underlying t with | some .bool => true | _ => false)
  | .strct ks => decide (leafK P 20 t = some ks) && !P.eqGuardType P.depth t && isAggT P t
  | .nil => (match P.underlying t with | some (.pointer _) => true | _ => false)
  | .nilf => (match P.underlying t with | some (.func _ _ _) => true | _ => false)
def okOffs (P : Program) (fs : Array Field) : List (Nat × Operand) → List (Nat × Nat × Arg) → Bool
  | [], [] => true
  | (i, y) :: r, (o, n, x) :: r' => (match fs[i]? with | some f => Nat.beq f.offset o && Nat.beq (P.cellsOf f.type) n | none => false) && okA x y && okOffs P fs r r'
  | _, _ => false
def okRows : Nat → List (Nat × Operand) → List Arg → Bool
  | _, [], [] => true
  | n, (i, y) :: r, x :: r' => Nat.beq i n && okA x y && okRows (n + 1) r r'
  | _, _, _ => false
def okOpt : Option Arg → Option Operand → Bool
  | none, none => true
  | some x, some y => okA x y
  | _, _ => false
def okZero (P : Program) (t : TypeId) (zero : List AV) : Bool :=
  match P.info? t with
  | some i => match i.zero with
    | some z => okCL zero z.cells.toList && Nat.beq zero.length i.size && oneAL zero
    | none => false
  | none => false
def okSl (P : Program) (t : TypeId) (n : Nat) : Bool :=
  match P.underlying t with
  | some (.slice e) => Nat.beq (P.cellsOf e) n && (P.info? e).isSome
  | _ => false
def okBytes (P : Program) (t : TypeId) (b : Nat) : Bool :=
  match P.underlying t with
  | some (.slice e) => (match P.info? e with | some i => Nat.beq i.bytes b && !Nat.beq b 0 && (match i.zero with | some z => Nat.beq z.cells.size i.size | none => false) | none => false)
  | _ => false
def okZeroE (P : Program) (t : TypeId) : Bool :=
  match P.underlying t with
  | some (.slice e) => (match P.info? e with | some i => i.zero.isSome | none => false)
  | _ => false
def okCal (c : Cal) (y : Operand) (P : Program) : Bool :=
  match c, y with
  | .st f, .func g => Nat.beq f g
  | .dy x, y => okA x y
  | _, _ => false
def okCall (P : Program) (c : Cal) (args : List Arg) (o : Op) : Bool :=
  match c with
  | .iv a _ nm _ => match o with
    | .call { callee := .invoke y nm', args := as, .. } => okA a y && decide (nm = nm') && okAs args as.toList
    | _ => false
  | c => match o with
    | .call { callee := .value y, args := as, .. } => okCal c y P && okAs args as.toList
    | _ => false
def concT (P : Program) (t : TypeId) : Bool :=
  match P.underlying t with
  | some (.interface _) | none => false
  | _ => true
def okOp' (P : Program) (o : Oper) : AOp → Bool
  | .mov _ a => match o.op with | .move y | .assign y => okA a y | _ => false
  | .bin _ op a b => match o.op with | .binOp op' t y z _ => decide (op = op') && okA a y && okA b z | _ => false
  | .eq _ neg ks a b => match o.op with | .binOp op' t y z _ => decide (op' = bif neg then .neq else .eql) && okA a y && okA b z && okEq P t ks | _ => false
  | .un _ op a => match o.op with | .unOp op' t y => decide (op = op') && okA a y | _ => false
  | .conv _ k a => match o.op with | .convert s t y => okA a y && (match P.underlying t with | some (.int k') => decide (k = k') | _ => false) && (P.underlying s).isSome | _ => false
  | .len _ a => match o.op with
    | .call { callee := .builtin .len, args := as, argTypes := ts } => okAs [a] as.toList && (match ts.toList with | t :: _ => (match P.underlying t with | some (.slice _) => true | _ => false) | [] => false)
    | _ => false
  | .slen _ a => match o.op with
    | .call { callee := .builtin .len, args := as, argTypes := ts } => okAs [a] as.toList && (match ts.toList with | t :: _ => (match P.underlying t with | some .string => true | _ => false) | [] => false)
    | _ => false
  | .idx _ a i n => match o.op with | .indexAddr t y z => okA a y && okA i z && okSl P t n | _ => false
  | .aix _ a i n m => match o.op with
    | .indexAddr t y z => okA a y && okA i z && (match P.underlying t with | some (.array m' e) => Nat.beq m m' && Nat.beq (P.cellsOf e) n && (P.info? e).isSome | _ => false)
    | _ => false
  | .fad _ a off => match o.op with
    | .fieldAddr s y f => okA a y && (match P.underlying s with | some (.struct fs) => (match fs[f]? with | some fd => Nat.beq fd.offset off && (P.info? fd.type).isSome && !Nat.beq (P.cellsOf fd.type) 0 | none => false) | _ => false)
    | _ => false
  | .load _ a n ag => match o.op with | .load t y => okA a y && Nat.beq (P.cellsOf t) n && (P.info? t).isSome && (isAggT P t == ag) && (P.underlying t).isSome | _ => false
  | .store a x n => match o.op with | .store t y z => okA a y && okA x z && (P.info? t).isSome && Nat.beq (P.cellsOf t) n | _ => false
  | .boxp _ a => match o.op with | .box t y => okA a y | _ => false
  | .boxo _ _ a => match o.op with | .box t y => okA a y | _ => false
  | .boxm _ _ a => match o.op with | .box t y => okA a y | _ => false
  | .alloc _ _ cells => match o.op with | .alloc t => okZero P t cells | _ => false
  | .alloca _ _ _ esz => match o.op with | .alloc t => okZero P t [.sl []] && okSl P t esz | _ => false
  | .nilarr _ _ esz => match o.op with | .move y | .assign y => okA (.c (.sl [])) y | _ => false
  | .build _ zero parts => match o.op with
    | .build t ps => okZero P t zero && (match P.underlying t with | some (.struct fs) => fs.toList.all (fun f => (P.info? f.type).isSome) && okOffs P fs ps.toList parts | _ => false)
    | _ => false
  | .bslp _ esz rows => match o.op with | .buildSlice t n ps => okSl P t esz && Nat.beq n rows.length && okRows 0 ps.toList rows && okZeroE P t && decide (n * esz ≤ 16777216) | _ => false
  | .bslo _ _ esz rows => match o.op with | .buildSlice t n ps => okSl P t esz && Nat.beq n rows.length && okRows 0 ps.toList rows && okZeroE P t && decide (n * esz ≤ 16777216) | _ => false
  | .slc _ a lo hi esz => match o.op with
    | .slice t y l h none => okA a y && okOpt lo l && okOpt hi h && okSl P t esz
    | _ => false
  | .sslc _ a lo hi => match o.op with
    | .slice t y l h none => okA a y && okOpt lo l && okOpt hi h && (match P.underlying t with | some .string => true | _ => false)
    | _ => false
  | .slc3 _ a lo hi mx esz => match o.op with
    | .slice t y l (some h) (some m) => okA a y && okOpt lo l && okA hi h && okA mx m && okSl P t esz
    | _ => false
  | .sidx _ a i => match o.op with | .index t y z => okA a y && okA i z && (match P.underlying t with | some .string => true | _ => false) | _ => false
  | .mkfn _ f caps => match o.op with | .makeFunc (.func g) first cs => Nat.beq f g && first.toList.isEmpty && okAs caps cs.toList | _ => false
  | .ext _ a i => match o.op with | .extract y j => okA a y && Nat.beq i j | _ => false
  | .pick _ c a b => match o.op with | .pick x y z => okA c x && okA a y && okA b z | _ => false
  | .callf _ c args => okCall P c args o.op
  | .callb _ c args => okCall P c args o.op
  | .appd _ a x esz bytes => match o.op with
    | .call { callee := .builtin .append, args := as, argTypes := ts } => okAs [a, x] as.toList && (match ts.toList with | [t, t'] => okBytes P t bytes && okSl P t esz && Nat.beq t t' | _ => false)
    | _ => false
  | .clear a zero => match o.op with
    | .call { callee := .builtin .clear, args := as, argTypes := ts } => okAs [a] as.toList && (match ts.toList with | [t] => (match P.underlying t with | some (.slice e) => okZero P e zero | _ => false) | _ => false)
    | _ => false
  | .mxn _ mx a b => match o.op with
    | .call { callee := .builtin b', args := as, .. } => decide (b' = bif mx then .max else .min) && okAs [a, b] as.toList
    | _ => false
  | .field _ a off n ag => match o.op with
    | .field t y f => okA a y && (match P.underlying t with | some (.struct fs) => (match fs[f]? with | some fd => Nat.beq fd.offset off && Nat.beq (P.cellsOf fd.type) n && (P.info? fd.type).isSome && (isAggT P fd.type == ag) && (P.underlying fd.type).isSome | none => false) | _ => false)
    | _ => false
  | .nilc _ a => match o.op with | .nilCheck y => okA a y | _ => false
  | .make _ _ esz bytes zero n c => match o.op with
    | .makeSlice t y z => okA n y && okA c z && okSl P t esz && okBytes P t bytes && (match P.underlying t with | some (.slice e) => okZero P e zero | _ => false)
    | _ => false
  | .buildm _ zero parts => match o.op with
    | .build t ps => okZero P t zero && (match P.underlying t with | some (.struct fs) => fs.toList.all (fun f => (P.info? f.type).isSome) && okOffs P fs ps.toList parts | _ => false)
    | _ => false
  | .boxg _ _ a => match o.op with | .box t y => okA a y | _ => false
  | .mkif _ t a => match o.op with | .makeInterface t' y => Nat.beq t t' && okA a y && concT P t | _ => false
  | .tass _ t a => match o.op with | .typeAssert y xt as ok => Nat.beq t as && okA a y && ok && concT P t | _ => false
  | .eqs _ neg a => match o.op with | .binOp op' t y z _ => decide (op' = bif neg then .neq else .eql) && okA a y && okA (.c (.sl [])) z && (match P.underlying t with | some (.slice _) => true | _ => false) | _ => false
  | .callo _ c args pass new => okCall P c args o.op && keysOk (idxM 0 (pass ++ new)) && keysOk (idxM 0 pass)
def okOp (P : Program) (N : Nat) (o : Oper) (x : AOp) : Bool :=
  decide (o.dst = x.dst) && (match x.dst with | some d => decide (d < N) | none => true) && okOp' P o x
end Go.AM
