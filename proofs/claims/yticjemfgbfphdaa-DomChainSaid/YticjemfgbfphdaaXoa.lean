/- The types of the arguments: what lies there stands for abstract values. -/
import Derived.Test.YticjemfgbfphdaaXg
import Derived.Test.YticjemfgbfphdaaXopena
namespace Go.Proofs.Yticjemfgbfphdaa.X
open Go Go.AM Go.RowKit
set_option linter.unusedVariables false
theorem oa4 : OpA Try.prog 4 1 (fun b : Bool => [AV.bool b]) (fun _ : Bool => 1) (fun _ : Bool => True) := opa_bool Try.underlying4 (by kernel_rfl)
theorem oa9 : OpA Try.prog 9 1 (fun s : ByteArray => [AV.str s]) (fun s : ByteArray => s.size + 1) (fun _ : ByteArray => True) := opa_string Try.underlying9 (by kernel_rfl)
theorem oa3 : OpA Try.prog 3 1 (fun n : Int => [AV.int .i64 n]) (fun _ : Int => 1) (fun n : Int => (Lit.int .i64 n).wf = true) := opa_int Try.underlying3 (by kernel_rfl)
def ma89 (x : Rg) : Nat := ((fun _ : Int => 1) x.id + (fun _ : Int => 1) x.cls) + 1
def Ia89 (x : Rg) : Prop := ((fun n : Int => (Lit.int .i64 n).wf = true) x.id ∧ (fun n : Int => (Lit.int .i64 n).wf = true) x.cls)
theorem oa89 : OpA Try.prog 89 2 encRg ma89 Ia89 := by
  have h := opAt_cons (P := Try.prog) (f := ⟨ "ID", 3, 0, false, "", "", 0⟩) oa3 rfl rfl (opAt_one (P := Try.prog) (f := ⟨ "Class", 3, 1, false, "", "", 8⟩) oa3 rfl)
  exact opa_struct (fun x => (⟨x.1, x.2⟩ : Rg)) (fun x : Rg => (x.id, x.cls)) (fun _ => rfl) (fun _ => rfl) h Try.underlying89 (by kernel_rfl)
theorem oa22 : OpA Try.prog 22 1 (fun l : List Rg => [AV.sl (l.map encRg)]) (fun l : List Rg => sumA ma89 l + 1) (fun l : List Rg => (∀ x ∈ l, Ia89 x) ∧ l.length ≤ maxLen) := opa_slice oa89 (by decide) Try.underlying22 (by kernel_rfl)
def ma59 (x : Opd) : Nat := ((fun _ : Int => 1) x.kind + ((fun _ : Int => 1) x.cls + ((fun _ : Int => 1) x.n + (fun _ : Int => 1) x.tag))) + 1
def Ia59 (x : Opd) : Prop := ((fun n : Int => (Lit.int .i64 n).wf = true) x.kind ∧ ((fun n : Int => (Lit.int .i64 n).wf = true) x.cls ∧ ((fun n : Int => (Lit.int .i64 n).wf = true) x.n ∧ (fun n : Int => (Lit.int .i64 n).wf = true) x.tag)))
theorem oa59 : OpA Try.prog 59 4 encO ma59 Ia59 := by
  have h := opAt_cons (P := Try.prog) (f := ⟨ "Kind", 3, 0, false, "", "", 0⟩) oa3 rfl rfl (opAt_cons (P := Try.prog) (f := ⟨ "Class", 3, 1, false, "", "", 8⟩) oa3 rfl rfl (opAt_cons (P := Try.prog) (f := ⟨ "N", 3, 2, false, "", "", 16⟩) oa3 rfl rfl (opAt_one (P := Try.prog) (f := ⟨ "Tag", 3, 3, false, "", "", 24⟩) oa3 rfl)))
  exact opa_struct (fun x => (⟨x.1, x.2.1, x.2.2.1, x.2.2.2⟩ : Opd)) (fun x : Opd => (x.kind, x.cls, x.n, x.tag)) (fun _ => rfl) (fun _ => rfl) h Try.underlying59 (by kernel_rfl)
theorem oa23 : OpA Try.prog 23 1 (fun l : List Opd => [AV.sl (l.map encO)]) (fun l : List Opd => sumA ma59 l + 1) (fun l : List Opd => (∀ x ∈ l, Ia59 x) ∧ l.length ≤ maxLen) := opa_slice oa59 (by decide) Try.underlying23 (by kernel_rfl)
theorem oa60 : OpA Try.prog 60 1 (fun l : List ByteArray => [AV.sl (l.map (fun s : ByteArray => [AV.str s]))]) (fun l : List ByteArray => sumA (fun s : ByteArray => s.size + 1) l + 1) (fun l : List ByteArray => (∀ x ∈ l, (fun _ : ByteArray => True) x) ∧ l.length ≤ maxLen) := opa_slice oa9 (by decide) Try.underlying60 (by kernel_rfl)
theorem oa39 : OpA Try.prog 39 1 (fun l : List Int => [AV.sl (l.map (fun n : Int => [AV.int .i64 n]))]) (fun l : List Int => sumA (fun _ : Int => 1) l + 1) (fun l : List Int => (∀ x ∈ l, (fun n : Int => (Lit.int .i64 n).wf = true) x) ∧ l.length ≤ maxLen) := opa_slice oa3 (by decide) Try.underlying39 (by kernel_rfl)
def ma62 (x : Ins) : Nat := ((fun _ : Int => 1) x.op + (ma59 x.dst + ((fun l : List Opd => sumA ma59 l + 1) x.args + ((fun s : ByteArray => s.size + 1) x.name + ((fun _ : Int => 1) x.off + ((fun l : List ByteArray => sumA (fun s : ByteArray => s.size + 1) l + 1) x.labels + (fun l : List Int => sumA (fun _ : Int => 1) l + 1) x.cases)))))) + 1
def Ia62 (x : Ins) : Prop := ((fun n : Int => (Lit.int .i64 n).wf = true) x.op ∧ (Ia59 x.dst ∧ ((fun l : List Opd => (∀ x ∈ l, Ia59 x) ∧ l.length ≤ maxLen) x.args ∧ ((fun _ : ByteArray => True) x.name ∧ ((fun n : Int => (Lit.int .i64 n).wf = true) x.off ∧ ((fun l : List ByteArray => (∀ x ∈ l, (fun _ : ByteArray => True) x) ∧ l.length ≤ maxLen) x.labels ∧ (fun l : List Int => (∀ x ∈ l, (fun n : Int => (Lit.int .i64 n).wf = true) x) ∧ l.length ≤ maxLen) x.cases))))))
theorem oa62 : OpA Try.prog 62 10 encIn ma62 Ia62 := by
  have h := opAt_cons (P := Try.prog) (f := ⟨ "Op", 3, 0, false, "", "", 0⟩) oa3 rfl rfl (opAt_cons (P := Try.prog) (f := ⟨ "Dst", 59, 1, false, "", "", 8⟩) oa59 rfl rfl (opAt_cons (P := Try.prog) (f := ⟨ "Args", 23, 5, false, "", "", 40⟩) oa23 rfl rfl (opAt_cons (P := Try.prog) (f := ⟨ "Name", 9, 6, false, "", "", 64⟩) oa9 rfl rfl (opAt_cons (P := Try.prog) (f := ⟨ "Off", 3, 7, false, "", "", 80⟩) oa3 rfl rfl (opAt_cons (P := Try.prog) (f := ⟨ "Labels", 60, 8, false, "", "", 88⟩) oa60 rfl rfl (opAt_one (P := Try.prog) (f := ⟨ "Cases", 39, 9, false, "", "", 112⟩) oa39 rfl))))))
  exact opa_struct (fun x => (⟨x.1, x.2.1, x.2.2.1, x.2.2.2.1, x.2.2.2.2.1, x.2.2.2.2.2.1, x.2.2.2.2.2.2⟩ : Ins)) (fun x : Ins => (x.op, x.dst, x.args, x.name, x.off, x.labels, x.cases)) (fun _ => rfl) (fun _ => rfl) h Try.underlying62 (by kernel_rfl)
theorem oa55 : OpA Try.prog 55 1 (fun l : List Ins => [AV.sl (l.map encIn)]) (fun l : List Ins => sumA ma62 l + 1) (fun l : List Ins => (∀ x ∈ l, Ia62 x) ∧ l.length ≤ maxLen) := opa_slice oa62 (by decide) Try.underlying55 (by kernel_rfl)
def ma57 (x : Blk) : Nat := ((fun s : ByteArray => s.size + 1) x.label + ((fun _ : Bool => 1) x.edge + ((fun l : List Opd => sumA ma59 l + 1) x.ins + (fun l : List Ins => sumA ma62 l + 1) x.code))) + 1
def Ia57 (x : Blk) : Prop := ((fun _ : ByteArray => True) x.label ∧ ((fun _ : Bool => True) x.edge ∧ ((fun l : List Opd => (∀ x ∈ l, Ia59 x) ∧ l.length ≤ maxLen) x.ins ∧ (fun l : List Ins => (∀ x ∈ l, Ia62 x) ∧ l.length ≤ maxLen) x.code)))
theorem oa57 : OpA Try.prog 57 4 encBk ma57 Ia57 := by
  have h := opAt_cons (P := Try.prog) (f := ⟨ "Label", 9, 0, false, "", "", 0⟩) oa9 rfl rfl (opAt_cons (P := Try.prog) (f := ⟨ "Edge", 4, 1, false, "", "", 16⟩) oa4 rfl rfl (opAt_cons (P := Try.prog) (f := ⟨ "In", 23, 2, false, "", "", 24⟩) oa23 rfl rfl (opAt_one (P := Try.prog) (f := ⟨ "Code", 55, 3, false, "", "", 48⟩) oa55 rfl)))
  exact opa_struct (fun x => (⟨x.1, x.2.1, x.2.2.1, x.2.2.2⟩ : Blk)) (fun x : Blk => (x.label, x.edge, x.ins, x.code)) (fun _ => rfl) (fun _ => rfl) h Try.underlying57 (by kernel_rfl)
theorem oa24 : OpA Try.prog 24 1 (fun l : List Blk => [AV.sl (l.map encBk)]) (fun l : List Blk => sumA ma57 l + 1) (fun l : List Blk => (∀ x ∈ l, Ia57 x) ∧ l.length ≤ maxLen) := opa_slice oa57 (by decide) Try.underlying24 (by kernel_rfl)
def ma26 (x : Fnc) : Nat := ((fun _ : Bool => 1) x.machine + ((fun s : ByteArray => s.size + 1) x.name + ((fun l : List Rg => sumA ma89 l + 1) x.regs + ((fun l : List Opd => sumA ma59 l + 1) x.params + (fun l : List Blk => sumA ma57 l + 1) x.blocks)))) + 1
def Ia26 (x : Fnc) : Prop := ((fun _ : Bool => True) x.machine ∧ ((fun _ : ByteArray => True) x.name ∧ ((fun l : List Rg => (∀ x ∈ l, Ia89 x) ∧ l.length ≤ maxLen) x.regs ∧ ((fun l : List Opd => (∀ x ∈ l, Ia59 x) ∧ l.length ≤ maxLen) x.params ∧ (fun l : List Blk => (∀ x ∈ l, Ia57 x) ∧ l.length ≤ maxLen) x.blocks))))
theorem oa26 : OpA Try.prog 26 5 encFn ma26 Ia26 := by
  have h := opAt_cons (P := Try.prog) (f := ⟨ "Machine", 4, 0, false, "", "", 0⟩) oa4 rfl rfl (opAt_cons (P := Try.prog) (f := ⟨ "Name", 9, 1, false, "", "", 8⟩) oa9 rfl rfl (opAt_cons (P := Try.prog) (f := ⟨ "Regs", 22, 2, false, "", "", 24⟩) oa22 rfl rfl (opAt_cons (P := Try.prog) (f := ⟨ "Params", 23, 3, false, "", "", 48⟩) oa23 rfl rfl (opAt_one (P := Try.prog) (f := ⟨ "Blocks", 24, 4, false, "", "", 72⟩) oa24 rfl))))
  exact opa_struct (fun x => (⟨x.1, x.2.1, x.2.2.1, x.2.2.2.1, x.2.2.2.2⟩ : Fnc)) (fun x : Fnc => (x.machine, x.name, x.regs, x.params, x.blocks)) (fun _ => rfl) (fun _ => rfl) h Try.underlying26 (by kernel_rfl)
end Go.Proofs.Yticjemfgbfphdaa.X
