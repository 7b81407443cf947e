/- The types of the arguments: what lies there stands for abstract values. -/
import Derived.Test.YtpmabjkjolhilaaXt
import Derived.Test.YtpmabjkjolhilaaXopena
namespace Go.Proofs.Ytpmabjkjolhilaa.X
open Go Go.AM Go.RowKit
set_option linter.unusedVariables false
theorem oa3 : OpA Try.prog 3 1 (fun n : Int => [AV.int .i64 n]) (fun _ : Int => 1) (fun n : Int => (Lit.int .i64 n).wf = true) := opa_int Try.underlying3 (by kernel_rfl)
def ma26 (x : Loc) : Nat := ((fun _ : Int => 1) x.kind + ((fun _ : Int => 1) x.cls + (fun _ : Int => 1) x.n)) + 1
def Ia26 (x : Loc) : Prop := ((fun n : Int => (Lit.int .i64 n).wf = true) x.kind ∧ ((fun n : Int => (Lit.int .i64 n).wf = true) x.cls ∧ (fun n : Int => (Lit.int .i64 n).wf = true) x.n))
theorem oa26 : OpA Try.prog 26 3 encL ma26 Ia26 := by
  have h := opAt_cons (P := Try.prog) (f := ⟨ "Kind", 3, 0, false, "", "", 0⟩) oa3 rfl rfl (opAt_cons (P := Try.prog) (f := ⟨ "Class", 3, 1, false, "", "", 8⟩) oa3 rfl rfl (opAt_one (P := Try.prog) (f := ⟨ "N", 3, 2, false, "", "", 16⟩) oa3 rfl))
  exact opa_struct (fun x => (⟨x.1, x.2.1, x.2.2⟩ : Loc)) (fun x : Loc => (x.kind, x.cls, x.n)) (fun _ => rfl) (fun _ => rfl) h Try.underlying26 (by kernel_rfl)
def ma33 (x : Seg) : Nat := ((fun _ : Int => 1) x.v + ((fun _ : Int => 1) x.fr + ((fun _ : Int => 1) x.to + ma26 x.loc))) + 1
def Ia33 (x : Seg) : Prop := ((fun n : Int => (Lit.int .i64 n).wf = true) x.v ∧ ((fun n : Int => (Lit.int .i64 n).wf = true) x.fr ∧ ((fun n : Int => (Lit.int .i64 n).wf = true) x.to ∧ Ia26 x.loc)))
theorem oa33 : OpA Try.prog 33 6 encS ma33 Ia33 := by
  have h := opAt_cons (P := Try.prog) (f := ⟨ "V", 3, 0, false, "", "", 0⟩) oa3 rfl rfl (opAt_cons (P := Try.prog) (f := ⟨ "From", 3, 1, false, "", "", 8⟩) oa3 rfl rfl (opAt_cons (P := Try.prog) (f := ⟨ "To", 3, 2, false, "", "", 16⟩) oa3 rfl rfl (opAt_one (P := Try.prog) (f := ⟨ "At", 26, 3, false, "", "", 24⟩) oa26 rfl)))
  exact opa_struct (fun x => (⟨x.1, x.2.1, x.2.2.1, x.2.2.2⟩ : Seg)) (fun x : Seg => (x.v, x.fr, x.to, x.loc)) (fun _ => rfl) (fun _ => rfl) h Try.underlying33 (by kernel_rfl)
theorem oa22 : OpA Try.prog 22 1 (fun l : List Seg => [AV.sl (l.map encS)]) (fun l : List Seg => sumA ma33 l + 1) (fun l : List Seg => (∀ x ∈ l, Ia33 x) ∧ l.length ≤ maxLen) := opa_slice oa33 (by decide) Try.underlying22 (by kernel_rfl)
theorem oa31 : OpA Try.prog 31 1 (fun l : List Int => [AV.sl (l.map (fun n : Int => [AV.int .i64 n]))]) (fun l : List Int => sumA (fun _ : Int => 1) l + 1) (fun l : List Int => (∀ x ∈ l, (fun n : Int => (Lit.int .i64 n).wf = true) x) ∧ l.length ≤ maxLen) := opa_slice oa3 (by decide) Try.underlying31 (by kernel_rfl)
end Go.Proofs.Ytpmabjkjolhilaa.X
