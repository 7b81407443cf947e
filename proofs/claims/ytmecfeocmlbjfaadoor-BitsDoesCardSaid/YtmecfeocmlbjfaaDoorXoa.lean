/- The types of the arguments: what lies there stands for abstract values. -/
import Derived.Test.YtmecfeocmlbjfaaDoorXf
import Derived.Test.YtmecfeocmlbjfaaDoorXopena
namespace Go.Proofs.YtmecfeocmlbjfaaDoor.X
open Go Go.AM Go.RowKit
set_option linter.unusedVariables false
theorem oa3 : OpA Tryd.prog 3 1 (fun n : Int => [AV.int .i64 n]) (fun _ : Int => 1) (fun n : Int => (Lit.int .i64 n).wf = true) := opa_int Tryd.underlying3 (by kernel_rfl)
theorem oa22 : OpA Tryd.prog 22 1 (fun l : List Int => [AV.sl (l.map (fun n : Int => [AV.int .i64 n]))]) (fun l : List Int => sumA (fun _ : Int => 1) l + 1) (fun l : List Int => (∀ x ∈ l, (fun n : Int => (Lit.int .i64 n).wf = true) x) ∧ l.length ≤ maxLen) := opa_slice oa3 (by decide) Tryd.underlying22 (by kernel_rfl)
theorem oa5 : OpA Tryd.prog 5 1 (fun n : Int => [AV.int .u8 n]) (fun _ : Int => 1) (fun n : Int => (Lit.int .u8 n).wf = true) := opa_int Tryd.underlying5 (by kernel_rfl)
def ma42 (x : Deed) : Nat := ((fun _ : Int => 1) x.k + ((fun _ : Int => 1) x.n + (fun l : List Int => sumA (fun _ : Int => 1) l + 1) x.l)) + 1
def Ia42 (x : Deed) : Prop := ((fun n : Int => (Lit.int .u8 n).wf = true) x.k ∧ ((fun n : Int => (Lit.int .i64 n).wf = true) x.n ∧ (fun l : List Int => (∀ x ∈ l, (fun n : Int => (Lit.int .i64 n).wf = true) x) ∧ l.length ≤ maxLen) x.l))
theorem oa42 : OpA Tryd.prog 42 3 encD ma42 Ia42 := by
  have h := opAt_cons (P := Tryd.prog) (f := ⟨ "Kind", 5, 0, false, "", "", 0⟩) oa5 rfl rfl (opAt_cons (P := Tryd.prog) (f := ⟨ "N", 3, 1, false, "", "", 8⟩) oa3 rfl rfl (opAt_one (P := Tryd.prog) (f := ⟨ "L", 22, 2, false, "", "", 16⟩) oa22 rfl))
  exact opa_struct (fun x => (⟨x.1, x.2.1, x.2.2⟩ : Deed)) (fun x : Deed => (x.k, x.n, x.l)) (fun _ => rfl) (fun _ => rfl) h Tryd.underlying42 (by kernel_rfl)
theorem oa32 : OpA Tryd.prog 32 1 (fun l : List Deed => [AV.sl (l.map encD)]) (fun l : List Deed => sumA ma42 l + 1) (fun l : List Deed => (∀ x ∈ l, Ia42 x) ∧ l.length ≤ maxLen) := opa_slice oa42 (by decide) Tryd.underlying32 (by kernel_rfl)
end Go.Proofs.YtmecfeocmlbjfaaDoor.X
