/- The types of the arguments: what lies there stands for abstract values. -/
import Derived.Test.YtmmgdilhbkklpaaM08L
import Derived.Test.YtmmgdilhbkklpaaXopena
namespace Go.Proofs.Ytmmgdilhbkklpaa.X
open Go Go.AM Go.RowKit
set_option linter.unusedVariables false
theorem oa3 : OpA Try.prog 3 1 (fun n : Int => [AV.int .i64 n]) (fun _ : Int => 1) (fun n : Int => (Lit.int .i64 n).wf = true) := opa_int Try.underlying3 (by kernel_rfl)
def ma29 (x : It) : Nat := ((fun _ : Int => 1) x.key + (fun _ : Int => 1) x.value) + 1
def Ia29 (x : It) : Prop := ((fun n : Int => (Lit.int .i64 n).wf = true) x.key ∧ (fun n : Int => (Lit.int .i64 n).wf = true) x.value)
theorem oa29 : OpA Try.prog 29 2 encIt ma29 Ia29 := by
  have h := opAt_cons (P := Try.prog) (f := ⟨ "Key", 3, 0, false, "", "", 0⟩) oa3 rfl rfl (opAt_one (P := Try.prog) (f := ⟨ "Value", 3, 1, false, "", "", 8⟩) oa3 rfl)
  exact opa_struct (fun x => (⟨x.1, x.2⟩ : It)) (fun x : It => (x.key, x.value)) (fun _ => rfl) (fun _ => rfl) h Try.underlying29 (by kernel_rfl)
theorem oa22 : OpA Try.prog 22 1 (fun l : List It => [AV.sl (l.map encIt)]) (fun l : List It => sumA ma29 l + 1) (fun l : List It => (∀ x ∈ l, Ia29 x) ∧ l.length ≤ maxLen) := opa_slice oa29 (by decide) Try.underlying22 (by kernel_rfl)
theorem oa5 : OpA Try.prog 5 1 (fun n : Int => [AV.int .u8 n]) (fun _ : Int => 1) (fun n : Int => (Lit.int .u8 n).wf = true) := opa_int Try.underlying5 (by kernel_rfl)
def ma33 (x : Deed) : Nat := ((fun _ : Int => 1) x.kind + (ma29 x.x + (fun _ : Int => 1) x.n)) + 1
def Ia33 (x : Deed) : Prop := ((fun n : Int => (Lit.int .u8 n).wf = true) x.kind ∧ (Ia29 x.x ∧ (fun n : Int => (Lit.int .i64 n).wf = true) x.n))
theorem oa33 : OpA Try.prog 33 4 encD ma33 Ia33 := by
  have h := opAt_cons (P := Try.prog) (f := ⟨ "Kind", 5, 0, false, "", "", 0⟩) oa5 rfl rfl (opAt_cons (P := Try.prog) (f := ⟨ "X", 29, 1, false, "", "", 8⟩) oa29 rfl rfl (opAt_one (P := Try.prog) (f := ⟨ "N", 3, 3, false, "", "", 24⟩) oa3 rfl))
  exact opa_struct (fun x => (⟨x.1, x.2.1, x.2.2⟩ : Deed)) (fun x : Deed => (x.kind, x.x, x.n)) (fun _ => rfl) (fun _ => rfl) h Try.underlying33 (by kernel_rfl)
theorem oa31 : OpA Try.prog 31 1 (fun l : List Deed => [AV.sl (l.map encD)]) (fun l : List Deed => sumA ma33 l + 1) (fun l : List Deed => (∀ x ∈ l, Ia33 x) ∧ l.length ≤ maxLen) := opa_slice oa33 (by decide) Try.underlying31 (by kernel_rfl)
end Go.Proofs.Ytmmgdilhbkklpaa.X
