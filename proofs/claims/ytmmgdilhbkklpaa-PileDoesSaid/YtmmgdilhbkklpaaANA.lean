/- What the abstract machine says, in a form that is worked out head first. -/
import Derived.Test.YtmmgdilhbkklpaaAMZ
namespace Go.AM
open Go
set_option linter.unusedVariables false
set_option linter.unusedSimpArgs false
/-! Waiting: what stands here is not looked into before its head is known. -/
class BxT where p : Prop
class BxE where p : Prop
class BxF (α : Type) where f : α → Prop
class BxG (α β : Type) where f : α → β → Prop
class BxQ where q : AEx → St → Prop
def IfL (b : Bool) [t : BxT] [e : BxE] : Prop := (b = true → t.p) ∧ (b = false → e.p)
def CkL (p : Prop) [k : BxT] : Prop := p ∧ k.p
def OptL {α : Type} (o : Option α) [k : BxF α] : Prop := ∃ m, o = some m ∧ k.f m
def VL {α : Type} (x : α) [k : BxF α] : Prop := k.f x
def VL2 {α β : Type} (x : α) (y : β) [k : BxG α β] : Prop := k.f x y
def ret (res : List AV) : List AV → List Ob → Prop := fun r o => r = res ∧ o = []
def CallL (P : Program) (f : Nat) (args : List AV) [k : BxF (List AV)] : Prop := ∃ res, Ctr P f args [] (ret res) ∧ k.f res
def CallO (P : Program) (f : Nat) (args : List AV) (obs : List Ob) [k : BxG (List AV) (List Ob)] : Prop := ∃ R, Ctr P f args obs R ∧ ∀ res obs', R res obs' → k.f res obs'
def retO (res : List AV) (obs : List Ob) : List AV → List Ob → Prop := fun r o => r = res ∧ o = obs
def CallD (P : Program) (f : Nat) (args : List AV) (obs : List Ob) [k : BxG (List AV) (List Ob)] : Prop := ∃ res obs', Ctr P f args obs (retO res obs') ∧ k.f res obs'
def AccL (prec : List (List Nat)) (A : List Acc) [k : BxT] : Prop := accsOk prec A = true ∧ k.p
abbrev n0 : Acc := ([], [])
abbrev KO := AV → List (Nat × Ob) → Acc → Prop
def kBool (x : AV) (K : Bool → Prop) : Prop := match x with | .bool b => K b | _ => False
def kInt (x : AV) (K : IntKind → Int → Prop) : Prop := match x with | .int k n => K k n | _ => False
def kStr (x : AV) (K : ByteArray → Prop) : Prop := match x with | .str s => K s | _ => False
def kSome {α : Type} (x : Option α) (K : α → Prop) : Prop := match x with | some x => K x | none => False
def kBin (op : BinOp) (x y : AV) (K : AV → Prop) : Prop := kSome (evBin op x y) K
def kEq (ks : EqK) (x y : AV) (K : Bool → Prop) : Prop := kSome (evEq ks x y) K
def kUn (op : UnOp) (x : AV) (K : AV → Prop) : Prop := kSome (evUn op x) K
def kArr (o : Option Ob) (K : Nat → Nat → List (List AV) → Prop) : Prop := match o with | some (.arr v e xs) => K v e xs | _ => False
def kPbox (o : Option Ob) (K : List AV → Prop) : Prop := match o with | some (.pbox c) => K c | _ => False
def kNone (o : Option Ob) (K : Prop) : Prop := match o with | none => K | _ => False
def kLen (x : AV) (K : Nat → Prop) : Prop := match x with | .sl xs => K xs.length | .fl xs => K xs.length | .hs _ _ _ n => K n | _ => False
def kIdx (a : AV) (z : Int) (n : Nat) (μ : Nat → Option Ob) (K : KO) : Prop :=
  match a with
  | .sl xs => @CkL (0 ≤ z) ⟨@OptL _ xs[z.toNat]? ⟨fun c => @CkL (c.length = n) ⟨K (.rp c) [] n0⟩⟩⟩
  | .fl xs => @CkL (0 ≤ z) ⟨@OptL _ xs[z.toNat]? ⟨fun c => @CkL (c.length = n) ⟨K (.rp c) [] n0⟩⟩⟩
  | .hs k ver off len => @CkL (0 ≤ z) ⟨@CkL (z < len) ⟨@VL _ (μ k) ⟨fun o => kArr o fun v e xs => @CkL (v = ver ∧ e = n) ⟨K (.er k ver (off + z.toNat) 0) [] ([k], [])⟩⟩⟩⟩
  | _ => False
def kLd (n : Nat) (ag : Bool) (c : List AV) (K : AV → Prop) : Prop := @OptL _ (loadV ag n c) ⟨K⟩
def kLoad (a : AV) (n : Nat) (ag : Bool) (μ : Nat → Option Ob) (K : KO) : Prop :=
  match a with
  | .rp c => kLd n ag c fun v => K v [] n0
  | .ref k o => @VL _ (μ k) ⟨fun ob => match ob with
    | some (.pbox c) => kLd n ag (c.drop o) fun v => K v [] ([k], [])
    | some (.box c) => match ag with | false => kLd n false (c.drop o) fun v => K v [] ([k], []) | true => False
    | _ => False⟩
  | .er k ver i o => @VL _ (μ k) ⟨fun ob => kArr ob fun v e xs => @CkL (v = ver) ⟨@OptL _ xs[i]? ⟨fun c => kLd n ag (c.drop o) fun v => K v [] ([k], [])⟩⟩⟩
  | _ => False
def okSt (x : AV) (n : Nat) : Bool := isP x && oneAL (cellsOf x) && Nat.beq (cellsOf x).length n
def kStore (a x : AV) (n : Nat) (μ : Nat → Option Ob) (K : KO) : Prop :=
  match a with
  | .ref k o => @VL _ (μ k) ⟨fun ob => match ob with
    | some (.pbox c) => @CkL (okSt x n = true ∧ o + n ≤ c.length) ⟨K .dead [(k, .pbox (setAt c o (cellsOf x)))] ([], [k])⟩
    | some (.box c) => @CkL (oneA x = true ∧ (cellsOf x).length = n ∧ o + 1 ≤ c.length) ⟨K .dead [(k, .box (c.set o x))] ([], [k])⟩
    | _ => False⟩
  | .er k ver i o => @VL _ (μ k) ⟨fun ob => kArr ob fun v e xs => @CkL (v = ver) ⟨@OptL _ xs[i]? ⟨fun c => @CkL (okSt x n = true ∧ o + n ≤ c.length) ⟨K .dead [(k, .arr ver e (xs.set i (setAt c o (cellsOf x))))] ([], [k])⟩⟩⟩⟩
  | _ => False
def kRows (ρ : Arg → AV) (esz : Nat) : List Arg → Bool
  | [] => true
  | r :: l => okSt (ρ r) esz && kRows ρ esz l
def kParts (ρ : Arg → AV) (tot : Nat) : List (Nat × Nat × Arg) → Bool
  | [] => true
  | p :: l => isP (ρ p.2.2) && Nat.beq (cellsOf (ρ p.2.2)).length p.2.1 && decide (p.1 + p.2.1 ≤ tot) && kParts ρ tot l
def kOptI (ρ : Arg → AV) (d : Int) (a : Option Arg) (K : Int → Prop) : Prop :=
  match a with
  | none => K d
  | some a => @VL _ (ρ a) ⟨fun x => kInt x fun _ n => K n⟩
def kSlc (a : AV) (ρ : Arg → AV) (lo hi : Option Arg) (esz : Nat) (μ : Nat → Option Ob) (K : KO) : Prop :=
  match a with
  | .sl xs => kOptI ρ 0 lo fun l => kOptI ρ xs.length hi fun h => @CkL (0 ≤ l ∧ l ≤ h ∧ h ≤ xs.length ∧ ∀ c ∈ xs, c.length = esz) ⟨K (.sl ((xs.take h.toNat).drop l.toNat)) [] n0⟩
  | .fl xs => kOptI ρ 0 lo fun l => kOptI ρ xs.length hi fun h => @CkL (0 ≤ l ∧ l ≤ h ∧ h ≤ xs.length ∧ ∀ c ∈ xs, c.length = esz) ⟨K (.sl ((xs.take h.toNat).drop l.toNat)) [] n0⟩
  | .hs k ver off len => kOptI ρ 0 lo fun l => kOptI ρ len hi fun h => @VL _ (μ k) ⟨fun ob => kArr ob fun v e xs => @CkL (v = ver ∧ e = esz) ⟨@CkL (0 ≤ l ∧ l ≤ h ∧ (h ≤ len ∨ off + h ≤ xs.length)) ⟨K (.hs k ver (off + l.toNat) (h.toNat - l.toNat)) [] ([k], [])⟩⟩⟩
  | _ => False
def kSlc3 (a : AV) (ρ : Arg → AV) (lo : Option Arg) (hi mx : Arg) (esz : Nat) (μ : Nat → Option Ob) (K : KO) : Prop :=
  match a with
  | .sl xs => kOptI ρ 0 lo fun l => kOptI ρ 0 (some hi) fun h => kOptI ρ 0 (some mx) fun m => @CkL (0 ≤ l ∧ l ≤ h ∧ h = m ∧ m ≤ xs.length ∧ ∀ c ∈ xs, c.length = esz) ⟨K (.fl ((xs.take h.toNat).drop l.toNat)) [] n0⟩
  | .fl xs => kOptI ρ 0 lo fun l => kOptI ρ 0 (some hi) fun h => kOptI ρ 0 (some mx) fun m => @CkL (0 ≤ l ∧ l ≤ h ∧ h = m ∧ m ≤ xs.length ∧ ∀ c ∈ xs, c.length = esz) ⟨K (.fl ((xs.take h.toNat).drop l.toNat)) [] n0⟩
  | .hs k ver off len => kOptI ρ 0 lo fun l => kOptI ρ 0 (some hi) fun h => kOptI ρ 0 (some mx) fun m => @VL _ (μ k) ⟨fun ob => kArr ob fun v e xs => @CkL (v = ver) ⟨@CkL (0 ≤ l ∧ l ≤ h ∧ h ≤ m ∧ m ≤ len) ⟨K .dead [] ([k], [])⟩⟩⟩
  | _ => False
def kApp2 (k ver off len esz bytes : Nat) (ys : List (List AV)) (rd : List Nat) (μ : Nat → Option Ob) (K : KO) : Prop :=
  @VL _ (μ k) ⟨fun ob => kArr ob fun v e xs => @CkL (v = ver ∧ e = esz) ⟨@IfL (decide (off + len = xs.length))
    ⟨@CkL (((len + ys.length : Nat) : Int) * bytes ≤ 70368744177664) ⟨K (.hs k (ver + 1) 0 (len + ys.length)) [(k, .arr (ver + 1) esz (xs.drop off ++ ys))] (rd, [k])⟩⟩
    ⟨@CkL (off + len + ys.length ≤ xs.length) ⟨K (.hs k ver off (len + ys.length)) [(k, .arr ver esz (xs.take (off + len) ++ ys ++ xs.drop (off + len + ys.length)))] (rd, [k])⟩⟩⟩⟩
def kApp (a x : AV) (esz bytes : Nat) (μ : Nat → Option Ob) (K : KO) : Prop :=
  match a with
  | .hs k ver off len => match x with
    | .sl ys => @CkL (∀ c ∈ ys, c.length = esz) ⟨kApp2 k ver off len esz bytes ys [] μ K⟩
    | .fl ys => @CkL (∀ c ∈ ys, c.length = esz) ⟨kApp2 k ver off len esz bytes ys [] μ K⟩
    | .hs k2 ver2 off2 len2 => @VL _ (μ k2) ⟨fun ob => kArr ob fun v e xs2 => @CkL (v = ver2 ∧ e = esz) ⟨kApp2 k ver off len esz bytes ((xs2.drop off2).take len2) [k2] μ K⟩⟩
    | _ => False
  | _ => False
def kCal (P : Program) (ρ : Arg → AV) (c : Cal) (K : Nat → List AV → List AV → Prop) : Prop :=
  match c with
  | .st f => K f [] []
  | .dy a => @VL _ (ρ a) ⟨fun x => match x with | .fn f caps => K f [] caps | _ => False⟩
  | .iv a t nm f => @VL _ (ρ a) ⟨fun x => @CkL (ifOk t x = true) ⟨@CkL (MethOk P t nm f) ⟨K f [unif x] []⟩⟩⟩
def kCnd (x : AV) (K : Bool → Prop) : Prop := match x with | .bool b => K b | .anyb => K true ∧ K false | _ => False
def kEqs (neg : Bool) (x : AV) (K : AV → Prop) : Prop := match x with
  | .sl xs => (match xs with | [] => K .anyb | _ :: _ => K (.bool neg))
  | .fl xs => (match xs with | [] => K .anyb | _ :: _ => K (.bool neg))
  | .hs _ _ _ _ => K .anyb
  | _ => False
def kPartsM (ρ : Arg → AV) (tot : Nat) : List (Nat × Nat × Arg) → Bool
  | [] => true
  | p :: l => cellM (ρ p.2.2) && Nat.beq (cellsM (ρ p.2.2)).length p.2.1 && decide (p.1 + p.2.1 ≤ tot) && kPartsM ρ tot l
def kop (P : Program) (o : AOp) (ρ : Arg → AV) (μ : Nat → Option Ob) (K : KO) : Prop :=
  match o with
  | .mov _ a => @VL _ (ρ a) ⟨fun x => K x [] n0⟩
  | .bin _ op a b => @VL2 _ _ (ρ a) (ρ b) ⟨fun x y => kBin op x y fun v => K v [] n0⟩
  | .eq _ neg ks a b => @VL2 _ _ (ρ a) (ρ b) ⟨fun x y => kEq ks x y fun r => K (.bool (bif neg then !r else r)) [] n0⟩
  | .un _ op a => @VL _ (ρ a) ⟨fun x => kUn op x fun v => K v [] n0⟩
  | .conv _ k a => @VL _ (ρ a) ⟨fun x => kInt x fun _ n => K (.int k (k.wrap n)) [] n0⟩
  | .len _ a => @VL _ (ρ a) ⟨fun x => kLen x fun n => K (.int .i64 n) [] n0⟩
  | .slen _ a => @VL _ (ρ a) ⟨fun x => kStr x fun s => K (.int .i64 s.size) [] n0⟩
  | .idx _ a i n => @VL2 _ _ (ρ a) (ρ i) ⟨fun x y => kInt y fun _ z => kIdx x z n μ K⟩
  | .aix _ a i n m => @VL2 _ _ (ρ a) (ρ i) ⟨fun x y => kInt y fun _ z => @CkL (0 ≤ z ∧ z < m) ⟨match x with
    | .rp c => K (.rp (c.drop (z.toNat * n))) [] n0
    | .ref k off => K (.ref k (off + z.toNat * n)) [] n0
    | .er k ver j off => K (.er k ver j (off + z.toNat * n)) [] n0
    | _ => False⟩⟩
  | .fad _ a off => @VL _ (ρ a) ⟨fun x => match x with
    | .rp c => K (.rp (c.drop off)) [] n0
    | .ref k o => K (.ref k (o + off)) [] n0
    | .er k ver i o => K (.er k ver i (o + off)) [] n0
    | _ => False⟩
  | .load _ a n ag => @VL _ (ρ a) ⟨fun x => kLoad x n ag μ K⟩
  | .store a x n => @VL2 _ _ (ρ a) (ρ x) ⟨fun a x => kStore a x n μ K⟩
  | .boxp _ a => @VL _ (ρ a) ⟨fun x => @CkL (isP x = true ∧ oneAL (cellsOf x) = true) ⟨K (.rp (cellsOf x)) [] n0⟩⟩
  | .boxo _ key a => @VL2 _ _ (ρ a) (μ key) ⟨fun x o => kNone o (@CkL (oneA x = true) ⟨K (.ref key 0) [(key, .box [x])] ([], [key])⟩)⟩
  | .boxm _ key a => @VL2 _ _ (ρ a) (μ key) ⟨fun x o => kNone o (@CkL (isP x = true ∧ oneAL (cellsOf x) = true) ⟨K (.ref key 0) [(key, .pbox (cellsOf x))] ([], [key])⟩)⟩
  | .alloc _ key cells => @VL _ (μ key) ⟨fun o => kNone o (K (.ref key 0) [(key, .pbox cells)] ([], [key]))⟩
  | .alloca _ key key2 esz => @VL2 _ _ (μ key) (μ key2) ⟨fun o o2 => kNone o (kNone o2 (@CkL (key ≠ key2) ⟨K (.ref key 0) [(key2, .arr 0 esz []), (key, .box [.hs key2 0 0 0])] ([], [key, key2])⟩))⟩
  | .nilarr _ key esz => @VL _ (μ key) ⟨fun o => kNone o (K (.hs key 0 0 0) [(key, .arr 0 esz [])] ([], [key]))⟩
  | .build _ zero parts => @VL2 _ _ (kParts ρ zero.length parts) (fillA ρ parts zero) ⟨fun b cs => @CkL (b = true) ⟨K (.agg cs) [] n0⟩⟩
  | .bslp _ esz rows => @VL2 _ _ (kRows ρ esz rows) (rows.map fun r => cellsOf (ρ r)) ⟨fun b rs => @CkL (b = true) ⟨K (.sl rs) [] n0⟩⟩
  | .bslo _ key esz rows => @VL _ (μ key) ⟨fun o => kNone o (@VL2 _ _ (kRows ρ esz rows) (rows.map fun r => cellsOf (ρ r)) ⟨fun b rs => @CkL (b = true) ⟨K (.hs key 0 0 rows.length) [(key, .arr 0 esz rs)] ([], [key])⟩⟩)⟩
  | .slc _ a lo hi esz => @VL _ (ρ a) ⟨fun x => kSlc x ρ lo hi esz μ K⟩
  | .sslc _ a lo hi => @VL _ (ρ a) ⟨fun x => kStr x fun s => kOptI ρ 0 lo fun l => kOptI ρ s.size hi fun h => @CkL (0 ≤ l ∧ l ≤ h ∧ h ≤ s.size) ⟨K (.str (s.extract l.toNat h.toNat)) [] n0⟩⟩
  | .slc3 _ a lo hi mx esz => @VL _ (ρ a) ⟨fun x => kSlc3 x ρ lo hi mx esz μ K⟩
  | .sidx _ a i => @VL2 _ _ (ρ a) (ρ i) ⟨fun x y => kStr x fun s => kInt y fun _ z => @CkL (0 ≤ z) ⟨@OptL _ s[z.toNat]? ⟨fun b => K (.int .u8 b.toNat) [] n0⟩⟩⟩
  | .mkfn _ f caps => @VL _ (caps.map ρ) ⟨fun cs => K (.fn f cs) [] n0⟩
  | .ext _ a i => @VL _ (ρ a) ⟨fun x => match x with | .tup xs => @VL _ xs[i]? ⟨fun o => kSome o fun v => K v [] n0⟩ | _ => False⟩
  | .pick _ c a b => @VL _ (ρ c) ⟨fun x => kBool x fun t => @VL _ (bif t then ρ a else ρ b) ⟨fun v => K v [] n0⟩⟩
  | .callf _ c args => kCal P ρ c fun f pre caps => @VL _ (pre ++ args.map ρ ++ caps) ⟨fun xs => @CkL (isPL xs = true) ⟨@CallL P f xs ⟨fun res => K (resA res) [] n0⟩⟩⟩
  | .callb _ c args => kCal P ρ c fun f pre caps => @VL2 _ _ ((pre ++ args.map ρ ++ caps).map (bor μ)) ((pre ++ args.map ρ ++ caps).flatMap (keysA μ)) ⟨fun xs ks => @CkL (isPL xs = true) ⟨@CallL P f xs ⟨fun res => @CkL (res.all scalar = true) ⟨K (resA res) [] (ks, [])⟩⟩⟩⟩
  | .appd _ a x esz bytes => @VL2 _ _ (ρ a) (ρ x) ⟨fun a x => kApp a x esz bytes μ K⟩
  | .clear a zero => @VL _ (ρ a) ⟨fun x => match x with
    | .hs k ver off len => @VL _ (μ k) ⟨fun o => kArr o fun v e xs => @CkL (v = ver ∧ zero.length = e ∧ isPL zero = true ∧ oneAL zero = true) ⟨K .dead [(k, .arr ver e (xs.take off ++ List.replicate len zero ++ xs.drop (off + len)))] ([], [k])⟩⟩
    | _ => False⟩
  | .mxn _ max a b => @VL2 _ _ (ρ a) (ρ b) ⟨fun x y => kInt x fun k x => kInt y fun k' y => @CkL (k = k') ⟨K (.int k (if max then (if y > x then y else x) else (if y < x then y else x))) [] n0⟩⟩
  | .field _ a off n ag => @VL _ (ρ a) ⟨fun x => match x with | .agg c => kLd n ag (c.drop off) fun v => K v [] n0 | _ => False⟩
  | .nilc _ a => @VL _ (ρ a) ⟨fun x => match x with
    | .rp c => K (.rp c) [] n0
    | .ref k o => K (.ref k o) [] n0
    | .er k w i o => K (.er k w i o) [] n0
    | .fn f c => K (.fn f c) [] n0
    | _ => False⟩
  | .make _ key esz bytes zero n c => @VL2 _ _ (ρ n) (ρ c) ⟨fun n c => kInt n fun _ z => kInt c fun _ zc => @CkL (z = zc ∧ zero.length = esz) ⟨@CkL (0 ≤ z ∧ z * bytes ≤ 140737488355328) ⟨@VL _ (μ key) ⟨fun o => kNone o (K (.hs key 0 0 z.toNat) [(key, .arr 0 esz (List.replicate z.toNat zero))] ([], [key]))⟩⟩⟩⟩
  | .buildm _ zero parts => @VL2 _ _ (kPartsM ρ zero.length parts) (fillM ρ parts zero) ⟨fun b cs => @CkL (b = true) ⟨K (.mag cs) [] n0⟩⟩
  | .boxg _ key a => @VL2 _ _ (ρ a) (μ key) ⟨fun x o => kNone o (@CkL (cellM x = true ∧ oneAL (cellsM x) = true) ⟨K (.ref key 0) [(key, .box (cellsM x))] ([], [key])⟩)⟩
  | .mkif _ t a => @VL _ (ρ a) ⟨fun x => @VL _ (bif isP x then .ifc t x else .mif t x) ⟨fun v => K v [] n0⟩⟩
  | .tass _ t a => @VL _ (ρ a) ⟨fun x => match x with | .ifc t' y => @CkL (t' = t) ⟨K (.tup [y, .bool true]) [] n0⟩ | _ => False⟩
  | .eqs _ neg a => @VL _ (ρ a) ⟨fun x => kEqs neg x fun v => K v [] n0⟩
  | .callo _ c args pass new => kCal P ρ c fun f pre caps => @VL2 _ _ (renL (idxM 0 pass) (pre ++ args.map ρ ++ caps)) (getObsM μ pass) ⟨fun xs os => kSome os fun obs => @VL _ (mapOb (idxM 0 pass) obs) ⟨fun obs => @VL _ (allNoneM μ new) ⟨fun t => @CkL (t = true) ⟨@CallD P f xs obs ⟨fun res obs' => obs'.length = pass.length + new.length ∧
      @VL2 _ _ (ren (invL (idxM 0 (pass ++ new))) (resA res)) (zipU (pass ++ new) (mapOb (invL (idxM 0 (pass ++ new))) obs')) ⟨fun v u => K v u ([], pass ++ new)⟩⟩⟩⟩⟩⟩
theorem kSome_iff {α : Type} {x : Option α} {K : α → Prop} : kSome x K ↔ ∃ y, x = some y ∧ K y := by
  cases x <;> simp [kSome]
theorem kBool_iff {x : AV} {K : Bool → Prop} : kBool x K ↔ ∃ b, x = .bool b ∧ K b := by
  cases x <;> simp [kBool]
theorem kInt_iff {x : AV} {K : IntKind → Int → Prop} : kInt x K ↔ ∃ k n, x = .int k n ∧ K k n := by
  cases x <;> simp [kInt, and_assoc]
theorem kStr_iff {x : AV} {K : ByteArray → Prop} : kStr x K ↔ ∃ b, x = .str b ∧ K b := by
  cases x <;> simp [kStr]
theorem kNone_iff {o : Option Ob} {K : Prop} : kNone o K ↔ o = none ∧ K := by
  cases o <;> simp [kNone]
theorem kArr_iff {o : Option Ob} {K : Nat → Nat → List (List AV) → Prop} : kArr o K ↔ ∃ v e xs, o = some (.arr v e xs) ∧ K v e xs := by
  cases o with
  | none => simp [kArr]
  | some o => cases o <;> simp [kArr, and_assoc]
theorem kOptI_iff {ρ : Arg → AV} {d : Int} {a : Option Arg} {K : Int → Prop} : kOptI ρ d a K ↔ ∃ n, optI ρ d a = some n ∧ K n := by
  cases a with
  | none => simp [kOptI, optI]
  | some a =>
    simp only [kOptI, optI, VL]
    cases ρ a <;> simp [kInt]
theorem kCal_iff {P : Program} {ρ : Arg → AV} {c : Cal} {K : Nat → List AV → List AV → Prop} : kCal P ρ c K → ∃ f pre caps, callee ρ c = some (f, caps) ∧ calOk P ρ c ∧ (∀ args, calV ρ c args = pre ++ args.map ρ) ∧ K f pre caps := by
  intro h
  cases c with
  | st f => exact ⟨f, [], [], rfl, trivial, fun _ => rfl, h⟩
  | dy a =>
    simp only [kCal, VL] at h
    split at h
    · rename_i f caps he
      exact ⟨f, [], caps, by simp only [callee, he], trivial, fun _ => rfl, h⟩
    · exact h.elim
  | iv a t nm f =>
    simp only [kCal, VL, CkL] at h
    exact ⟨f, [unif (ρ a)], [], rfl, ⟨h.1, h.2.1⟩, fun _ => rfl, h.2.2⟩
theorem kPartsM_iff {ρ : Arg → AV} {tot : Nat} : ∀ {l : List (Nat × Nat × Arg)}, kPartsM ρ tot l = true ↔ ∀ p ∈ l, cellM (ρ p.2.2) = true ∧ (cellsM (ρ p.2.2)).length = p.2.1 ∧ p.1 + p.2.1 ≤ tot
  | [] => by simp [kPartsM]
  | p :: l => by
    simp only [kPartsM, Bool.and_eq_true, decide_eq_true_eq, kPartsM_iff (l := l), List.forall_mem_cons, Nat.beq_eq, and_assoc]
theorem okSt_iff {x : AV} {n : Nat} : okSt x n = true ↔ isP x = true ∧ oneAL (cellsOf x) = true ∧ (cellsOf x).length = n := by
  simp [okSt, Nat.beq_eq, and_assoc]
theorem kRows_iff {ρ : Arg → AV} {esz : Nat} : ∀ {l : List Arg}, kRows ρ esz l = true ↔ ∀ r ∈ l, isP (ρ r) = true ∧ oneAL (cellsOf (ρ r)) = true ∧ (cellsOf (ρ r)).length = esz
  | [] => by simp [kRows]
  | r :: l => by simp [kRows, okSt_iff, kRows_iff (l := l)]
theorem kParts_iff {ρ : Arg → AV} {tot : Nat} : ∀ {l : List (Nat × Nat × Arg)}, kParts ρ tot l = true ↔ ∀ p ∈ l, isP (ρ p.2.2) = true ∧ (cellsOf (ρ p.2.2)).length = p.2.1 ∧ p.1 + p.2.1 ≤ tot
  | [] => by simp [kParts]
  | p :: l => by
    simp only [kParts, Bool.and_eq_true, decide_eq_true_eq, kParts_iff (l := l), List.forall_mem_cons, Nat.beq_eq, and_assoc]
theorem kop_sound {P : Program} {o : AOp} {ρ : Arg → AV} {μ : Nat → Option Ob} {K : KO} (h : kop P o ρ μ K) : ∃ v u acc, opR P o ρ μ v u acc ∧ K v u acc := by
  cases o with
  | mov d a => exact ⟨_, _, _, ⟨rfl, rfl, rfl⟩, h⟩
  | bin d op a b =>
    simp only [kop, VL2, kBin, kSome_iff] at h
    obtain ⟨v, e, h⟩ := h
    exact ⟨_, _, _, ⟨e, rfl, rfl⟩, h⟩
  | eq d neg ks a b =>
    simp only [kop, VL2, kEq, kSome_iff] at h
    obtain ⟨v, e, h⟩ := h
    exact ⟨_, _, _, ⟨⟨_, e, rfl⟩, rfl, rfl⟩, h⟩
  | un d op a =>
    simp only [kop, VL, kUn, kSome_iff] at h
    obtain ⟨v, e, h⟩ := h
    exact ⟨_, _, _, ⟨e, rfl, rfl⟩, h⟩
  | conv d k a =>
    simp only [kop, VL, kInt_iff] at h
    obtain ⟨k', n, e, h⟩ := h
    exact ⟨_, _, _, ⟨⟨_, _, e, rfl⟩, rfl, rfl⟩, h⟩
  | len d a =>
    simp only [kop, VL] at h
    cases ha : ρ a <;> rw [ha] at h <;> simp only [kLen] at h
    · exact ⟨_, _, _, ⟨.inl ⟨_, ha, rfl⟩, rfl, rfl⟩, h⟩
    · exact ⟨_, _, _, ⟨.inr (.inl ⟨_, ha, rfl⟩), rfl, rfl⟩, h⟩
    · exact ⟨_, _, _, ⟨.inr (.inr ⟨_, _, _, _, ha, rfl⟩), rfl, rfl⟩, h⟩
  | slen d a =>
    simp only [kop, VL, kStr_iff] at h
    obtain ⟨s, e, h⟩ := h
    exact ⟨_, _, _, ⟨⟨_, e, rfl⟩, rfl, rfl⟩, h⟩
  | idx d a i n =>
    simp only [kop, VL2, kInt_iff] at h
    obtain ⟨ik, z, hz, h⟩ := h
    cases ha : ρ a <;> rw [ha] at h <;> simp only [kIdx, CkL, OptL, VL, kArr_iff] at h
    · obtain ⟨h0, c, hc, hn, h⟩ := h
      exact ⟨_, _, _, ⟨rfl, _, _, hz, h0, .inl ⟨_, _, .inl ha, hc, hn, rfl, rfl⟩⟩, h⟩
    · obtain ⟨h0, c, hc, hn, h⟩ := h
      exact ⟨_, _, _, ⟨rfl, _, _, hz, h0, .inl ⟨_, _, .inr ha, hc, hn, rfl, rfl⟩⟩, h⟩
    · obtain ⟨h0, hl, v, e, xs, hm, ⟨rfl, rfl⟩, h⟩ := h
      exact ⟨_, _, _, ⟨rfl, _, _, hz, h0, .inr ⟨_, _, _, _, _, ha, hl, hm, rfl, rfl⟩⟩, h⟩
  | aix d a i n m =>
    simp only [kop, VL2, kInt_iff] at h
    obtain ⟨ik, z, hz, ⟨h0, h1⟩, h⟩ := h
    cases ha : ρ a <;> rw [ha] at h <;> simp only at h
    · exact ⟨_, _, _, ⟨rfl, _, _, hz, h0, h1, rfl, .inl ⟨_, ha, rfl⟩⟩, h⟩
    · exact ⟨_, _, _, ⟨rfl, _, _, hz, h0, h1, rfl, .inr (.inl ⟨_, _, ha, rfl⟩)⟩, h⟩
    · exact ⟨_, _, _, ⟨rfl, _, _, hz, h0, h1, rfl, .inr (.inr ⟨_, _, _, _, ha, rfl⟩)⟩, h⟩
  | fad d a off =>
    simp only [kop, VL] at h
    cases ha : ρ a <;> rw [ha] at h <;> simp only at h
    · exact ⟨_, _, _, ⟨rfl, rfl, .inl ⟨_, ha, rfl⟩⟩, h⟩
    · exact ⟨_, _, _, ⟨rfl, rfl, .inr (.inl ⟨_, _, ha, rfl⟩)⟩, h⟩
    · exact ⟨_, _, _, ⟨rfl, rfl, .inr (.inr ⟨_, _, _, _, ha, rfl⟩)⟩, h⟩
  | load d a n ag =>
    simp only [kop, VL] at h
    cases ha : ρ a <;> rw [ha] at h <;> simp only [kLoad, VL] at h
    · obtain ⟨v, hv, h⟩ := h
      exact ⟨_, _, _, ⟨rfl, .inl ⟨_, ha, hv, rfl⟩⟩, h⟩
    · split at h
      · rename_i c hm
        obtain ⟨v, hv, h⟩ := h
        exact ⟨_, _, _, ⟨rfl, .inr (.inl ⟨_, _, _, ha, hm, hv, rfl⟩)⟩, h⟩
      · rename_i c hm
        cases ag with
        | true => exact h.elim
        | false =>
          obtain ⟨v, hv, h⟩ := h
          exact ⟨_, _, _, ⟨rfl, .inr (.inr (.inl ⟨_, _, _, ha, hm, rfl, hv, rfl⟩))⟩, h⟩
      · exact h.elim
    · simp only [kArr_iff] at h
      obtain ⟨v, e, xs, hm, rfl, c, hc, w, hv, h⟩ := h
      exact ⟨_, _, _, ⟨rfl, .inr (.inr (.inr ⟨_, _, _, _, _, _, _, ha, hm, hc, hv, rfl⟩))⟩, h⟩
  | store a x n =>
    simp only [kop, VL2] at h
    cases ha : ρ a <;> rw [ha] at h <;> simp only [kStore, VL] at h
    · split at h
      · rename_i c hm
        obtain ⟨⟨h1, h2⟩, h⟩ := h
        obtain ⟨p1, p2, rfl⟩ := okSt_iff.1 h1
        exact ⟨_, _, _, ⟨rfl, rfl, .inl ⟨_, _, _, ha, hm, p1, p2, h2, rfl, rfl⟩⟩, h⟩
      · rename_i c hm
        obtain ⟨⟨h1, h2, h3⟩, h⟩ := h
        exact ⟨_, _, _, ⟨rfl, h2, .inr (.inl ⟨_, _, _, ha, hm, h1, h3, rfl, rfl⟩)⟩, h⟩
      · exact h.elim
    · simp only [kArr_iff] at h
      obtain ⟨v, e, xs, hm, rfl, c, hc, ⟨h1, h2⟩, h⟩ := h
      obtain ⟨p1, p2, rfl⟩ := okSt_iff.1 h1
      exact ⟨_, _, _, ⟨rfl, rfl, .inr (.inr ⟨_, _, _, _, _, _, _, ha, hm, hc, p1, p2, h2, rfl, rfl⟩)⟩, h⟩
  | boxp d a =>
    simp only [kop, VL, CkL] at h
    exact ⟨_, _, _, ⟨h.1.1, h.1.2, rfl, rfl, rfl⟩, h.2⟩
  | boxo d key a =>
    simp only [kop, VL2, CkL, kNone_iff] at h
    exact ⟨_, _, _, ⟨h.2.1, h.1, rfl, rfl, rfl⟩, h.2.2⟩
  | boxm d key a =>
    simp only [kop, VL2, CkL, kNone_iff] at h
    exact ⟨_, _, _, ⟨h.2.1.1, h.2.1.2, h.1, rfl, rfl, rfl⟩, h.2.2⟩
  | alloc d key cells =>
    simp only [kop, VL, kNone_iff] at h
    exact ⟨_, _, _, ⟨h.1, rfl, rfl, rfl⟩, h.2⟩
  | alloca d key key2 esz =>
    simp only [kop, VL2, kNone_iff, CkL] at h
    exact ⟨_, _, _, ⟨h.1, h.2.1, h.2.2.1, rfl, rfl, rfl⟩, h.2.2.2⟩
  | nilarr d key esz =>
    simp only [kop, VL, kNone_iff] at h
    exact ⟨_, _, _, ⟨h.1, rfl, rfl, rfl⟩, h.2⟩
  | build d zero parts =>
    simp only [kop, VL2, CkL] at h
    exact ⟨_, _, _, ⟨kParts_iff.1 h.1, rfl, rfl, rfl⟩, h.2⟩
  | bslp d esz rows =>
    simp only [kop, VL2, CkL] at h
    exact ⟨_, _, _, ⟨kRows_iff.1 h.1, rfl, rfl, rfl⟩, h.2⟩
  | bslo d key esz rows =>
    simp only [kop, VL, VL2, CkL, kNone_iff] at h
    exact ⟨_, _, _, ⟨h.1, kRows_iff.1 h.2.1, rfl, rfl, rfl⟩, h.2.2⟩
  | slc d a lo hi esz =>
    simp only [kop, VL] at h
    cases ha : ρ a <;> rw [ha] at h <;> simp only [kSlc, VL, CkL, kOptI_iff, kArr_iff] at h
    · obtain ⟨l, hl, u, hu, ⟨h1, h2, h3, h4⟩, h⟩ := h
      exact ⟨_, _, _, ⟨rfl, .inl ⟨_, _, _, .inl ha, h4, hl, hu, h1, h2, h3, rfl, rfl⟩⟩, h⟩
    · obtain ⟨l, hl, u, hu, ⟨h1, h2, h3, h4⟩, h⟩ := h
      exact ⟨_, _, _, ⟨rfl, .inl ⟨_, _, _, .inr ha, h4, hl, hu, h1, h2, h3, rfl, rfl⟩⟩, h⟩
    · obtain ⟨l, hl, u, hu, v, e, xs, hm, ⟨rfl, rfl⟩, ⟨h1, h2, h3⟩, h⟩ := h
      exact ⟨_, _, _, ⟨rfl, .inr ⟨_, _, _, _, _, _, _, ha, hm, hl, hu, h1, h2, h3, rfl, rfl⟩⟩, h⟩
  | sslc d a lo hi =>
    simp only [kop, VL, kStr_iff, kOptI_iff, CkL] at h
    obtain ⟨s, hs, l, hl, u, hu, ⟨h1, h2, h3⟩, h⟩ := h
    exact ⟨_, _, _, ⟨rfl, rfl, _, _, _, hs, hl, hu, h1, h2, h3, rfl⟩, h⟩
  | slc3 d a lo hi mx esz =>
    simp only [kop, VL] at h
    cases ha : ρ a <;> rw [ha] at h <;> simp only [kSlc3, CkL, VL, kOptI_iff, kArr_iff] at h
    · obtain ⟨l, hl, u, hu, m, hm, ⟨h1, h2, h3, h4, h5⟩, h⟩ := h
      exact ⟨_, _, _, ⟨rfl, .inl ⟨rfl, _, _, _, _, .inl ha, h5, hl, hu, hm, h1, h2, h3, h4, rfl⟩⟩, h⟩
    · obtain ⟨l, hl, u, hu, m, hm, ⟨h1, h2, h3, h4, h5⟩, h⟩ := h
      exact ⟨_, _, _, ⟨rfl, .inl ⟨rfl, _, _, _, _, .inr ha, h5, hl, hu, hm, h1, h2, h3, h4, rfl⟩⟩, h⟩
    · obtain ⟨l, hl, u, hu, m, hm, v, e, xs, ho, rfl, ⟨h1, h2, h3, h4⟩, h⟩ := h
      exact ⟨_, _, _, ⟨rfl, .inr ⟨_, _, _, _, _, _, _, _, _, ha, ho, hl, hu, hm, h1, h2, h3, h4, rfl, rfl⟩⟩, h⟩
  | sidx d a i =>
    simp only [kop, VL2, kStr_iff, kInt_iff, CkL, OptL] at h
    obtain ⟨s, hs, ik, z, hz, h0, b, hb, h⟩ := h
    exact ⟨_, _, _, ⟨rfl, rfl, _, _, _, _, hs, hz, h0, hb, rfl⟩, h⟩
  | mkfn d f caps => exact ⟨_, _, _, ⟨rfl, rfl, rfl⟩, h⟩
  | ext d a i =>
    simp only [kop, VL] at h
    cases ha : ρ a <;> rw [ha] at h <;> simp only [kSome_iff] at h
    obtain ⟨v, hv, h⟩ := h
    exact ⟨_, _, _, ⟨⟨_, ha, hv⟩, rfl, rfl⟩, h⟩
  | pick d c a b =>
    simp only [kop, VL, kBool_iff] at h
    obtain ⟨t, ht, h⟩ := h
    exact ⟨_, _, _, ⟨⟨_, ht, rfl⟩, rfl, rfl⟩, h⟩
  | callf d c args =>
    simp only [kop] at h
    obtain ⟨f, pre, caps, hc, hco, hv, h⟩ := kCal_iff h
    simp only [VL, CkL, CallL] at h
    obtain ⟨hp, res, hres, h⟩ := h
    rw [← hv] at hp hres
    have hp : isPL (calV ρ c args) = true ∧ isPL caps = true := by
      have key : ∀ l m : List AV, isPL (l ++ m) = true → isPL l = true ∧ isPL m = true := by
        intro l m
        induction l with
        | nil => intro h; exact ⟨rfl, h⟩
        | cons x l ih =>
          intro h
          simp only [List.cons_append, isPL, Bool.and_eq_true] at h ⊢
          exact ⟨⟨h.1, (ih h.2).1⟩, (ih h.2).2⟩
      exact key _ _ hp
    exact ⟨_, _, _, ⟨rfl, rfl, f, caps, res, hc, hco, hp.1, hp.2, hres, rfl⟩, h⟩
  | callb d c args =>
    simp only [kop] at h
    obtain ⟨f, pre, caps, hc, hco, hv, h⟩ := kCal_iff h
    simp only [VL2, CkL, CallL] at h
    rw [← hv] at h
    obtain ⟨hp, res, hres, hs, h⟩ := h
    exact ⟨_, _, _, ⟨rfl, f, caps, res, hc, hco, rfl, hp, hres, hs, rfl⟩, h⟩
  | appd d a x esz bytes =>
    simp only [kop, VL2] at h
    have key : ∀ k ver off len ys rd, kApp2 k ver off len esz bytes ys rd μ K → ∃ xs v u, μ k = some (.arr ver esz xs) ∧ K v u (rd, [k]) ∧
        ((off + len + ys.length ≤ xs.length ∧ v = .hs k ver off (len + ys.length) ∧ u = [(k, .arr ver esz (xs.take (off + len) ++ ys ++ xs.drop (off + len + ys.length)))]) ∨
         (off + len = xs.length ∧ ((len + ys.length : Nat) : Int) * bytes ≤ 70368744177664 ∧ v = .hs k (ver + 1) 0 (len + ys.length) ∧ u = [(k, .arr (ver + 1) esz (xs.drop off ++ ys))])) := by
      intro k ver off len ys rd h
      simp only [kApp2, VL, kArr_iff, CkL, IfL] at h
      obtain ⟨v, e, xs, hm, ⟨rfl, rfl⟩, h1, h2⟩ := h
      by_cases hc : off + len = xs.length
      · obtain ⟨g1, g2⟩ := h1 (by simp [hc])
        exact ⟨_, _, _, hm, g2, .inr ⟨hc, g1, rfl, rfl⟩⟩
      · obtain ⟨g1, g2⟩ := h2 (by simp [hc])
        exact ⟨_, _, _, hm, g2, .inl ⟨g1, rfl, rfl⟩⟩
    cases ha : ρ a <;> rw [ha] at h <;> simp only [kApp] at h
    cases hx : ρ x <;> rw [hx] at h <;> simp only [CkL, VL, kArr_iff] at h
    · obtain ⟨hc, h⟩ := h
      obtain ⟨xs, v, u, hm, hK, hh⟩ := key _ _ _ _ _ _ h
      exact ⟨_, _, _, ⟨_, _, _, _, _, _, _, ha, hm, .inl ⟨.inl hx, hc, rfl⟩, hh, rfl⟩, hK⟩
    · obtain ⟨hc, h⟩ := h
      obtain ⟨xs, v, u, hm, hK, hh⟩ := key _ _ _ _ _ _ h
      exact ⟨_, _, _, ⟨_, _, _, _, _, _, _, ha, hm, .inl ⟨.inr hx, hc, rfl⟩, hh, rfl⟩, hK⟩
    · obtain ⟨v2, e2, xs2, hm2, ⟨rfl, rfl⟩, h⟩ := h
      obtain ⟨xs, v, u, hm, hK, hh⟩ := key _ _ _ _ _ _ h
      exact ⟨_, _, _, ⟨_, _, _, _, _, _, _, ha, hm, .inr ⟨_, _, _, _, _, hx, hm2, rfl, rfl⟩, hh, rfl⟩, hK⟩
  | clear a zero =>
    simp only [kop, VL] at h
    cases ha : ρ a <;> rw [ha] at h <;> simp only [kArr_iff, CkL] at h
    obtain ⟨v, e, xs, hm, ⟨rfl, h1, h2, h3⟩, h⟩ := h
    exact ⟨_, _, _, ⟨rfl, _, _, _, _, _, _, ha, hm, h1, h2, h3, rfl, rfl⟩, h⟩
  | mxn d max a b =>
    simp only [kop, VL2, kInt_iff, CkL] at h
    obtain ⟨k, x, hx, k', y, hy, rfl, h⟩ := h
    exact ⟨_, _, _, ⟨⟨_, _, _, hx, hy, rfl⟩, rfl, rfl⟩, h⟩
  | field d a off n ag =>
    simp only [kop, VL] at h
    cases ha : ρ a <;> rw [ha] at h <;> simp only [kLd, OptL] at h
    obtain ⟨v, hv, h⟩ := h
    exact ⟨_, _, _, ⟨⟨_, ha, hv⟩, rfl, rfl⟩, h⟩
  | nilc d a =>
    simp only [kop, VL] at h
    cases ha : ρ a <;> rw [ha] at h <;> simp only at h
    · exact ⟨_, _, _, ⟨.inl ⟨_, ha⟩, rfl, rfl, rfl⟩, by rw [ha]; exact h⟩
    · exact ⟨_, _, _, ⟨.inr (.inl ⟨_, _, ha⟩), rfl, rfl, rfl⟩, by rw [ha]; exact h⟩
    · exact ⟨_, _, _, ⟨.inr (.inr (.inl ⟨_, _, _, _, ha⟩)), rfl, rfl, rfl⟩, by rw [ha]; exact h⟩
    · exact ⟨_, _, _, ⟨.inr (.inr (.inr ⟨_, _, ha⟩)), rfl, rfl, rfl⟩, by rw [ha]; exact h⟩
  | make d key esz bytes zero n c =>
    simp only [kop, VL, VL2, kInt_iff, CkL, kNone_iff] at h
    obtain ⟨nk, z, hn, ck, zc, hc, ⟨rfl, h1⟩, ⟨h2, h3⟩, h4, h⟩ := h
    exact ⟨_, _, _, ⟨_, _, _, _, hn, hc, rfl, h2, h3, h1, h4, rfl, rfl, rfl⟩, h⟩
  | buildm d zero parts =>
    simp only [kop, VL2, CkL] at h
    exact ⟨_, _, _, ⟨kPartsM_iff.1 h.1, rfl, rfl, rfl⟩, h.2⟩
  | boxg d key a =>
    simp only [kop, VL2, CkL, kNone_iff] at h
    exact ⟨_, _, _, ⟨h.2.1.1, h.2.1.2, h.1, rfl, rfl, rfl⟩, h.2.2⟩
  | callo d c args pass new =>
    simp only [kop] at h
    obtain ⟨f, pre, caps, hc, hco, hv, h⟩ := kCal_iff h
    simp only [VL2, VL, kSome_iff, CkL, CallD] at h
    rw [← hv] at h
    obtain ⟨obs, h1, h2, res, obs', h3, h4, h5⟩ := h
    exact ⟨_, _, _, ⟨f, caps, obs, res, obs', hc, hco, h1, h2, h3, h4, rfl, rfl, rfl⟩, h5⟩
  | mkif d t a => exact ⟨_, _, _, ⟨rfl, rfl, rfl⟩, h⟩
  | tass d t a =>
    simp only [kop, VL] at h
    cases ha : ρ a <;> rw [ha] at h <;> simp only [CkL] at h
    obtain ⟨rfl, h⟩ := h
    exact ⟨_, _, _, ⟨⟨_, ha, rfl⟩, rfl, rfl⟩, h⟩
  | eqs d neg a =>
    simp only [kop, VL] at h
    cases ha : ρ a <;> rw [ha] at h <;> simp only [kEqs] at h
    · rename_i xs
      cases xs with
      | nil => exact ⟨_, _, _, ⟨.inr (.inl ⟨_, .inl ha, rfl⟩), rfl, rfl⟩, h⟩
      | cons c xs => exact ⟨_, _, _, ⟨.inl ⟨_, _, .inl ha, rfl⟩, rfl, rfl⟩, h⟩
    · rename_i xs
      cases xs with
      | nil => exact ⟨_, _, _, ⟨.inr (.inl ⟨_, .inr ha, rfl⟩), rfl, rfl⟩, h⟩
      | cons c xs => exact ⟨_, _, _, ⟨.inl ⟨_, _, .inr ha, rfl⟩, rfl, rfl⟩, h⟩
    · exact ⟨_, _, _, ⟨.inr (.inr ⟨_, _, _, _, ha, rfl⟩), rfl, rfl⟩, h⟩
end Go.AM
