/- The types of the arguments: what lies there stands for abstract values. -/
import Derived.Test.YtapfnhhedieebaaM29J
import Derived.Test.YtapfnhhedieebaaXopena
namespace Go.Proofs.Ytapfnhhedieebaa.X
open Go Go.AM Go.RowKit
set_option linter.unusedVariables false
theorem oa3 : OpA Try.prog 3 1 (fun n : Int => [AV.int .i64 n]) (fun _ : Int => 1) (fun n : Int => (Lit.int .i64 n).wf = true) := opa_int Try.underlying3 (by kernel_rfl)
def ma35 (x : Loc) : Nat := ((fun _ : Int => 1) x.kind + ((fun _ : Int => 1) x.cls + (fun _ : Int => 1) x.n)) + 1
def Ia35 (x : Loc) : Prop := ((fun n : Int => (Lit.int .i64 n).wf = true) x.kind ∧ ((fun n : Int => (Lit.int .i64 n).wf = true) x.cls ∧ (fun n : Int => (Lit.int .i64 n).wf = true) x.n))
theorem oa35 : OpA Try.prog 35 3 encL ma35 Ia35 := by
  have h := opAt_cons (P := Try.prog) (f := ⟨ "Kind", 3, 0, false, "", "", 0⟩) oa3 rfl rfl (opAt_cons (P := Try.prog) (f := ⟨ "Class", 3, 1, false, "", "", 8⟩) oa3 rfl rfl (opAt_one (P := Try.prog) (f := ⟨ "N", 3, 2, false, "", "", 16⟩) oa3 rfl))
  exact opa_struct (fun x => (⟨x.1, x.2.1, x.2.2⟩ : Loc)) (fun x : Loc => (x.kind, x.cls, x.n)) (fun _ => rfl) (fun _ => rfl) h Try.underlying35 (by kernel_rfl)
def ma37 (x : Move) : Nat := ((fun _ : Int => 1) x.v + (ma35 x.fr + ma35 x.to)) + 1
def Ia37 (x : Move) : Prop := ((fun n : Int => (Lit.int .i64 n).wf = true) x.v ∧ (Ia35 x.fr ∧ Ia35 x.to))
theorem oa37 : OpA Try.prog 37 7 encM ma37 Ia37 := by
  have h := opAt_cons (P := Try.prog) (f := ⟨ "V", 3, 0, false, "", "", 0⟩) oa3 rfl rfl (opAt_cons (P := Try.prog) (f := ⟨ "From", 35, 1, false, "", "", 8⟩) oa35 rfl rfl (opAt_one (P := Try.prog) (f := ⟨ "To", 35, 4, false, "", "", 32⟩) oa35 rfl))
  exact opa_struct (fun x => (⟨x.1, x.2.1, x.2.2⟩ : Move)) (fun x : Move => (x.v, x.fr, x.to)) (fun _ => rfl) (fun _ => rfl) h Try.underlying37 (by kernel_rfl)
theorem oa22 : OpA Try.prog 22 1 (fun l : List Move => [AV.sl (l.map encM)]) (fun l : List Move => sumA ma37 l + 1) (fun l : List Move => (∀ x ∈ l, Ia37 x) ∧ l.length ≤ maxLen) := opa_slice oa37 (by decide) Try.underlying22 (by kernel_rfl)
end Go.Proofs.Ytapfnhhedieebaa.X
