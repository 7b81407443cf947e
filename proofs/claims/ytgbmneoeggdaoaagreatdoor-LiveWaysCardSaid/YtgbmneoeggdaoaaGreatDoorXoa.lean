/- The types of the arguments: what lies there stands for abstract values. -/
import Derived.Test.YtgbmneoeggdaoaaGreatDoorXq
import Derived.Test.YtgbmneoeggdaoaaGreatDoorXopena
namespace Go.Proofs.YtgbmneoeggdaoaaGreatDoor.X
open Go Go.AM Go.RowKit
set_option linter.unusedVariables false
theorem oa5 : OpA Tryz.prog 5 1 (fun n : Int => [AV.int .u8 n]) (fun _ : Int => 1) (fun n : Int => (Lit.int .u8 n).wf = true) := opa_int Tryz.underlying5 (by kernel_rfl)
theorem oa69 : OpA Tryz.prog 69 1 (fun n : Int => [AV.int .i16 n]) (fun _ : Int => 1) (fun n : Int => (Lit.int .i16 n).wf = true) := opa_int Tryz.underlying69 (by kernel_rfl)
def ma71 (x : DIn) : Nat := ((fun _ : Int => 1) x.op + ((fun _ : Int => 1) x.d + ((fun _ : Int => 1) x.a + ((fun _ : Int => 1) x.b + (fun _ : Int => 1) x.n)))) + 1
def Ia71 (x : DIn) : Prop := ((fun n : Int => (Lit.int .u8 n).wf = true) x.op ∧ ((fun n : Int => (Lit.int .u8 n).wf = true) x.d ∧ ((fun n : Int => (Lit.int .u8 n).wf = true) x.a ∧ ((fun n : Int => (Lit.int .u8 n).wf = true) x.b ∧ (fun n : Int => (Lit.int .i16 n).wf = true) x.n))))
theorem oa71 : OpA Tryz.prog 71 5 encDI ma71 Ia71 := by
  have h := opAt_cons (P := Tryz.prog) (f := ⟨ "Op", 5, 0, false, "", "", 0⟩) oa5 rfl rfl (opAt_cons (P := Tryz.prog) (f := ⟨ "D", 5, 1, false, "", "", 1⟩) oa5 rfl rfl (opAt_cons (P := Tryz.prog) (f := ⟨ "A", 5, 2, false, "", "", 2⟩) oa5 rfl rfl (opAt_cons (P := Tryz.prog) (f := ⟨ "B", 5, 3, false, "", "", 3⟩) oa5 rfl rfl (opAt_one (P := Tryz.prog) (f := ⟨ "N", 69, 4, false, "", "", 4⟩) oa69 rfl))))
  exact opa_struct (fun x => (⟨x.1, x.2.1, x.2.2.1, x.2.2.2.1, x.2.2.2.2⟩ : DIn)) (fun x : DIn => (x.op, x.d, x.a, x.b, x.n)) (fun _ => rfl) (fun _ => rfl) h Tryz.underlying71 (by kernel_rfl)
theorem oa54 : OpA Tryz.prog 54 1 (fun l : List DIn => [AV.sl (l.map encDI)]) (fun l : List DIn => sumA ma71 l + 1) (fun l : List DIn => (∀ x ∈ l, Ia71 x) ∧ l.length ≤ reachBytes) := opa_slice oa71 (by decide) Tryz.underlying54 (by kernel_rfl) (of_decide_eq_true (by kernel_rfl))
def ma56 (x : DBk) : Nat := ((fun l : List DIn => sumA ma71 l + 1) x.code + ((fun _ : Int => 1) x.term + ((fun _ : Int => 1) x.a + ((fun _ : Int => 1) x.b + (fun _ : Int => 1) x.v)))) + 1
def Ia56 (x : DBk) : Prop := ((fun l : List DIn => (∀ x ∈ l, Ia71 x) ∧ l.length ≤ reachBytes) x.code ∧ ((fun n : Int => (Lit.int .u8 n).wf = true) x.term ∧ ((fun n : Int => (Lit.int .u8 n).wf = true) x.a ∧ ((fun n : Int => (Lit.int .u8 n).wf = true) x.b ∧ (fun n : Int => (Lit.int .u8 n).wf = true) x.v))))
theorem oa56 : OpA Tryz.prog 56 5 encDB ma56 Ia56 := by
  have h := opAt_cons (P := Tryz.prog) (f := ⟨ "Code", 54, 0, false, "", "", 0⟩) oa54 rfl rfl (opAt_cons (P := Tryz.prog) (f := ⟨ "Term", 5, 1, false, "", "", 24⟩) oa5 rfl rfl (opAt_cons (P := Tryz.prog) (f := ⟨ "A", 5, 2, false, "", "", 25⟩) oa5 rfl rfl (opAt_cons (P := Tryz.prog) (f := ⟨ "B", 5, 3, false, "", "", 26⟩) oa5 rfl rfl (opAt_one (P := Tryz.prog) (f := ⟨ "V", 5, 4, false, "", "", 27⟩) oa5 rfl))))
  exact opa_struct (fun x => (⟨x.1, x.2.1, x.2.2.1, x.2.2.2.1, x.2.2.2.2⟩ : DBk)) (fun x : DBk => (x.code, x.term, x.a, x.b, x.v)) (fun _ => rfl) (fun _ => rfl) h Tryz.underlying56 (by kernel_rfl)
theorem oa22 : OpA Tryz.prog 22 1 (fun l : List DBk => [AV.sl (l.map encDB)]) (fun l : List DBk => sumA ma56 l + 1) (fun l : List DBk => (∀ x ∈ l, Ia56 x) ∧ l.length ≤ reachBytes) := opa_slice oa56 (by decide) Tryz.underlying22 (by kernel_rfl) (of_decide_eq_true (by kernel_rfl))
def ma24 (x : Drf) : Nat := ((fun _ : Int => 1) x.g + ((fun _ : Int => 1) x.x + ((fun _ : Int => 1) x.p + (fun l : List DBk => sumA ma56 l + 1) x.blocks))) + 1
def Ia24 (x : Drf) : Prop := ((fun n : Int => (Lit.int .u8 n).wf = true) x.g ∧ ((fun n : Int => (Lit.int .u8 n).wf = true) x.x ∧ ((fun n : Int => (Lit.int .u8 n).wf = true) x.p ∧ (fun l : List DBk => (∀ x ∈ l, Ia56 x) ∧ l.length ≤ reachBytes) x.blocks)))
theorem oa24 : OpA Tryz.prog 24 4 encDr ma24 Ia24 := by
  have h := opAt_cons (P := Tryz.prog) (f := ⟨ "G", 5, 0, false, "", "", 0⟩) oa5 rfl rfl (opAt_cons (P := Tryz.prog) (f := ⟨ "X", 5, 1, false, "", "", 1⟩) oa5 rfl rfl (opAt_cons (P := Tryz.prog) (f := ⟨ "Params", 5, 2, false, "", "", 2⟩) oa5 rfl rfl (opAt_one (P := Tryz.prog) (f := ⟨ "Blocks", 22, 3, false, "", "", 8⟩) oa22 rfl)))
  exact opa_struct (fun x => (⟨x.1, x.2.1, x.2.2.1, x.2.2.2⟩ : Drf)) (fun x : Drf => (x.g, x.x, x.p, x.blocks)) (fun _ => rfl) (fun _ => rfl) h Tryz.underlying24 (by kernel_rfl)
theorem oa52 : OpA Tryz.prog 52 1 (fun l : List Int => [AV.sl (l.map (fun n : Int => [AV.int .u8 n]))]) (fun l : List Int => sumA (fun _ : Int => 1) l + 1) (fun l : List Int => (∀ x ∈ l, (fun n : Int => (Lit.int .u8 n).wf = true) x) ∧ l.length ≤ reachBytes) := opa_slice oa5 (by decide) Tryz.underlying52 (by kernel_rfl) (of_decide_eq_true (by kernel_rfl))
end Go.Proofs.YtgbmneoeggdaoaaGreatDoor.X
