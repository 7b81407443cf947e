/- The types of the arguments: what lies there stands for abstract values. -/
import Derived.Test.YticjemfgbfphdaaXj
import Derived.Test.YticjemfgbfphdaaXopena
namespace Go.Proofs.Yticjemfgbfphdaa.X
open Go Go.AM Go.RowKit
set_option linter.unusedVariables false
theorem oa5 : OpA Try.prog 5 1 (fun n : Int => [AV.int .u8 n]) (fun _ : Int => 1) (fun n : Int => (Lit.int .u8 n).wf = true) := opa_int Try.underlying5 (by kernel_rfl)
theorem oa92 : OpA Try.prog 92 1 (fun n : Int => [AV.int .i16 n]) (fun _ : Int => 1) (fun n : Int => (Lit.int .i16 n).wf = true) := opa_int Try.underlying92 (by kernel_rfl)
def ma94 (x : DIn) : Nat := ((fun _ : Int => 1) x.op + ((fun _ : Int => 1) x.d + ((fun _ : Int => 1) x.a + ((fun _ : Int => 1) x.b + (fun _ : Int => 1) x.n)))) + 1
def Ia94 (x : DIn) : Prop := ((fun n : Int => (Lit.int .u8 n).wf = true) x.op ∧ ((fun n : Int => (Lit.int .u8 n).wf = true) x.d ∧ ((fun n : Int => (Lit.int .u8 n).wf = true) x.a ∧ ((fun n : Int => (Lit.int .u8 n).wf = true) x.b ∧ (fun n : Int => (Lit.int .i16 n).wf = true) x.n))))
theorem oa94 : OpA Try.prog 94 5 encDI ma94 Ia94 := by
  have h := opAt_cons (P := Try.prog) (f := ⟨ "Op", 5, 0, false, "", "", 0⟩) oa5 rfl rfl (opAt_cons (P := Try.prog) (f := ⟨ "D", 5, 1, false, "", "", 1⟩) oa5 rfl rfl (opAt_cons (P := Try.prog) (f := ⟨ "A", 5, 2, false, "", "", 2⟩) oa5 rfl rfl (opAt_cons (P := Try.prog) (f := ⟨ "B", 5, 3, false, "", "", 3⟩) oa5 rfl rfl (opAt_one (P := Try.prog) (f := ⟨ "N", 92, 4, false, "", "", 4⟩) oa92 rfl))))
  exact opa_struct (fun x => (⟨x.1, x.2.1, x.2.2.1, x.2.2.2.1, x.2.2.2.2⟩ : DIn)) (fun x : DIn => (x.op, x.d, x.a, x.b, x.n)) (fun _ => rfl) (fun _ => rfl) h Try.underlying94 (by kernel_rfl)
theorem oa80 : OpA Try.prog 80 1 (fun l : List DIn => [AV.sl (l.map encDI)]) (fun l : List DIn => sumA ma94 l + 1) (fun l : List DIn => (∀ x ∈ l, Ia94 x) ∧ l.length ≤ maxLen) := opa_slice oa94 (by decide) Try.underlying80 (by kernel_rfl)
def ma82 (x : DBk) : Nat := ((fun l : List DIn => sumA ma94 l + 1) x.code + ((fun _ : Int => 1) x.term + ((fun _ : Int => 1) x.a + ((fun _ : Int => 1) x.b + (fun _ : Int => 1) x.v)))) + 1
def Ia82 (x : DBk) : Prop := ((fun l : List DIn => (∀ x ∈ l, Ia94 x) ∧ l.length ≤ maxLen) x.code ∧ ((fun n : Int => (Lit.int .u8 n).wf = true) x.term ∧ ((fun n : Int => (Lit.int .u8 n).wf = true) x.a ∧ ((fun n : Int => (Lit.int .u8 n).wf = true) x.b ∧ (fun n : Int => (Lit.int .u8 n).wf = true) x.v))))
theorem oa82 : OpA Try.prog 82 5 encDB ma82 Ia82 := by
  have h := opAt_cons (P := Try.prog) (f := ⟨ "Code", 80, 0, false, "", "", 0⟩) oa80 rfl rfl (opAt_cons (P := Try.prog) (f := ⟨ "Term", 5, 1, false, "", "", 24⟩) oa5 rfl rfl (opAt_cons (P := Try.prog) (f := ⟨ "A", 5, 2, false, "", "", 25⟩) oa5 rfl rfl (opAt_cons (P := Try.prog) (f := ⟨ "B", 5, 3, false, "", "", 26⟩) oa5 rfl rfl (opAt_one (P := Try.prog) (f := ⟨ "V", 5, 4, false, "", "", 27⟩) oa5 rfl))))
  exact opa_struct (fun x => (⟨x.1, x.2.1, x.2.2.1, x.2.2.2.1, x.2.2.2.2⟩ : DBk)) (fun x : DBk => (x.code, x.term, x.a, x.b, x.v)) (fun _ => rfl) (fun _ => rfl) h Try.underlying82 (by kernel_rfl)
theorem oa47 : OpA Try.prog 47 1 (fun l : List DBk => [AV.sl (l.map encDB)]) (fun l : List DBk => sumA ma82 l + 1) (fun l : List DBk => (∀ x ∈ l, Ia82 x) ∧ l.length ≤ maxLen) := opa_slice oa82 (by decide) Try.underlying47 (by kernel_rfl)
def ma49 (x : Drf) : Nat := ((fun _ : Int => 1) x.g + ((fun _ : Int => 1) x.x + ((fun _ : Int => 1) x.p + (fun l : List DBk => sumA ma82 l + 1) x.blocks))) + 1
def Ia49 (x : Drf) : Prop := ((fun n : Int => (Lit.int .u8 n).wf = true) x.g ∧ ((fun n : Int => (Lit.int .u8 n).wf = true) x.x ∧ ((fun n : Int => (Lit.int .u8 n).wf = true) x.p ∧ (fun l : List DBk => (∀ x ∈ l, Ia82 x) ∧ l.length ≤ maxLen) x.blocks)))
theorem oa49 : OpA Try.prog 49 4 encDr ma49 Ia49 := by
  have h := opAt_cons (P := Try.prog) (f := ⟨ "G", 5, 0, false, "", "", 0⟩) oa5 rfl rfl (opAt_cons (P := Try.prog) (f := ⟨ "X", 5, 1, false, "", "", 1⟩) oa5 rfl rfl (opAt_cons (P := Try.prog) (f := ⟨ "Params", 5, 2, false, "", "", 2⟩) oa5 rfl rfl (opAt_one (P := Try.prog) (f := ⟨ "Blocks", 47, 3, false, "", "", 8⟩) oa47 rfl)))
  exact opa_struct (fun x => (⟨x.1, x.2.1, x.2.2.1, x.2.2.2⟩ : Drf)) (fun x : Drf => (x.g, x.x, x.p, x.blocks)) (fun _ => rfl) (fun _ => rfl) h Try.underlying49 (by kernel_rfl)
theorem oa50 : OpA Try.prog 50 1 (fun l : List Int => [AV.sl (l.map (fun n : Int => [AV.int .u8 n]))]) (fun l : List Int => sumA (fun _ : Int => 1) l + 1) (fun l : List Int => (∀ x ∈ l, (fun n : Int => (Lit.int .u8 n).wf = true) x) ∧ l.length ≤ maxLen) := opa_slice oa5 (by decide) Try.underlying50 (by kernel_rfl)
end Go.Proofs.Yticjemfgbfphdaa.X
