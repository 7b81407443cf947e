/- The types of the arguments: what lies there stands for abstract values. -/
import Derived.Test.YtgbmneoeggdaoaaDoorXm
import Derived.Test.YtgbmneoeggdaoaaDoorXopena
namespace Go.Proofs.YtgbmneoeggdaoaaDoor.X
open Go Go.AM Go.RowKit
set_option linter.unusedVariables false
theorem oa4 : OpA Tryd.prog 4 1 (fun b : Bool => [AV.bool b]) (fun _ : Bool => 1) (fun _ : Bool => True) := opa_bool Tryd.underlying4 (by kernel_rfl)
theorem oa9 : OpA Tryd.prog 9 1 (fun s : ByteArray => [AV.str s]) (fun s : ByteArray => s.size + 1) (fun _ : ByteArray => True) := opa_string Tryd.underlying9 (by kernel_rfl)
theorem oa3 : OpA Tryd.prog 3 1 (fun n : Int => [AV.int .i64 n]) (fun _ : Int => 1) (fun n : Int => (Lit.int .i64 n).wf = true) := opa_int Tryd.underlying3 (by kernel_rfl)
def ma36 (x : Rg) : Nat := ((fun _ : Int => 1) x.id + (fun _ : Int => 1) x.cls) + 1
def Ia36 (x : Rg) : Prop := ((fun n : Int => (Lit.int .i64 n).wf = true) x.id ∧ (fun n : Int => (Lit.int .i64 n).wf = true) x.cls)
theorem oa36 : OpA Tryd.prog 36 2 encRg ma36 Ia36 := by
  have h := opAt_cons (P := Tryd.prog) (f := ⟨ "ID", 3, 0, false, "", "", 0⟩) oa3 rfl rfl (opAt_one (P := Tryd.prog) (f := ⟨ "Class", 3, 1, false, "", "", 8⟩) oa3 rfl)
  exact opa_struct (fun x => (⟨x.1, x.2⟩ : Rg)) (fun x : Rg => (x.id, x.cls)) (fun _ => rfl) (fun _ => rfl) h Tryd.underlying36 (by kernel_rfl)
theorem oa22 : OpA Tryd.prog 22 1 (fun l : List Rg => [AV.sl (l.map encRg)]) (fun l : List Rg => sumA ma36 l + 1) (fun l : List Rg => (∀ x ∈ l, Ia36 x) ∧ l.length ≤ maxLen) := opa_slice oa36 (by decide) Tryd.underlying22 (by kernel_rfl)
def ma43 (x : Opd) : Nat := ((fun _ : Int => 1) x.kind + ((fun _ : Int => 1) x.cls + ((fun _ : Int => 1) x.n + (fun _ : Int => 1) x.tag))) + 1
def Ia43 (x : Opd) : Prop := ((fun n : Int => (Lit.int .i64 n).wf = true) x.kind ∧ ((fun n : Int => (Lit.int .i64 n).wf = true) x.cls ∧ ((fun n : Int => (Lit.int .i64 n).wf = true) x.n ∧ (fun n : Int => (Lit.int .i64 n).wf = true) x.tag)))
theorem oa43 : OpA Tryd.prog 43 4 encO ma43 Ia43 := by
  have h := opAt_cons (P := Tryd.prog) (f := ⟨ "Kind", 3, 0, false, "", "", 0⟩) oa3 rfl rfl (opAt_cons (P := Tryd.prog) (f := ⟨ "Class", 3, 1, false, "", "", 8⟩) oa3 rfl rfl (opAt_cons (P := Tryd.prog) (f := ⟨ "N", 3, 2, false, "", "", 16⟩) oa3 rfl rfl (opAt_one (P := Tryd.prog) (f := ⟨ "Tag", 3, 3, false, "", "", 24⟩) oa3 rfl)))
  exact opa_struct (fun x => (⟨x.1, x.2.1, x.2.2.1, x.2.2.2⟩ : Opd)) (fun x : Opd => (x.kind, x.cls, x.n, x.tag)) (fun _ => rfl) (fun _ => rfl) h Tryd.underlying43 (by kernel_rfl)
theorem oa23 : OpA Tryd.prog 23 1 (fun l : List Opd => [AV.sl (l.map encO)]) (fun l : List Opd => sumA ma43 l + 1) (fun l : List Opd => (∀ x ∈ l, Ia43 x) ∧ l.length ≤ maxLen) := opa_slice oa43 (by decide) Tryd.underlying23 (by kernel_rfl)
theorem oa44 : OpA Tryd.prog 44 1 (fun l : List ByteArray => [AV.sl (l.map (fun s : ByteArray => [AV.str s]))]) (fun l : List ByteArray => sumA (fun s : ByteArray => s.size + 1) l + 1) (fun l : List ByteArray => (∀ x ∈ l, (fun _ : ByteArray => True) x) ∧ l.length ≤ maxLen) := opa_slice oa9 (by decide) Tryd.underlying44 (by kernel_rfl)
theorem oa33 : OpA Tryd.prog 33 1 (fun l : List Int => [AV.sl (l.map (fun n : Int => [AV.int .i64 n]))]) (fun l : List Int => sumA (fun _ : Int => 1) l + 1) (fun l : List Int => (∀ x ∈ l, (fun n : Int => (Lit.int .i64 n).wf = true) x) ∧ l.length ≤ maxLen) := opa_slice oa3 (by decide) Tryd.underlying33 (by kernel_rfl)
def ma46 (x : Ins) : Nat := ((fun _ : Int => 1) x.op + (ma43 x.dst + ((fun l : List Opd => sumA ma43 l + 1) x.args + ((fun s : ByteArray => s.size + 1) x.name + ((fun _ : Int => 1) x.off + ((fun l : List ByteArray => sumA (fun s : ByteArray => s.size + 1) l + 1) x.labels + (fun l : List Int => sumA (fun _ : Int => 1) l + 1) x.cases)))))) + 1
def Ia46 (x : Ins) : Prop := ((fun n : Int => (Lit.int .i64 n).wf = true) x.op ∧ (Ia43 x.dst ∧ ((fun l : List Opd => (∀ x ∈ l, Ia43 x) ∧ l.length ≤ maxLen) x.args ∧ ((fun _ : ByteArray => True) x.name ∧ ((fun n : Int => (Lit.int .i64 n).wf = true) x.off ∧ ((fun l : List ByteArray => (∀ x ∈ l, (fun _ : ByteArray => True) x) ∧ l.length ≤ maxLen) x.labels ∧ (fun l : List Int => (∀ x ∈ l, (fun n : Int => (Lit.int .i64 n).wf = true) x) ∧ l.length ≤ maxLen) x.cases))))))
theorem oa46 : OpA Tryd.prog 46 10 encIn ma46 Ia46 := by
  have h := opAt_cons (P := Tryd.prog) (f := ⟨ "Op", 3, 0, false, "", "", 0⟩) oa3 rfl rfl (opAt_cons (P := Tryd.prog) (f := ⟨ "Dst", 43, 1, false, "", "", 8⟩) oa43 rfl rfl (opAt_cons (P := Tryd.prog) (f := ⟨ "Args", 23, 5, false, "", "", 40⟩) oa23 rfl rfl (opAt_cons (P := Tryd.prog) (f := ⟨ "Name", 9, 6, false, "", "", 64⟩) oa9 rfl rfl (opAt_cons (P := Tryd.prog) (f := ⟨ "Off", 3, 7, false, "", "", 80⟩) oa3 rfl rfl (opAt_cons (P := Tryd.prog) (f := ⟨ "Labels", 44, 8, false, "", "", 88⟩) oa44 rfl rfl (opAt_one (P := Tryd.prog) (f := ⟨ "Cases", 33, 9, false, "", "", 112⟩) oa33 rfl))))))
  exact opa_struct (fun x => (⟨x.1, x.2.1, x.2.2.1, x.2.2.2.1, x.2.2.2.2.1, x.2.2.2.2.2.1, x.2.2.2.2.2.2⟩ : Ins)) (fun x : Ins => (x.op, x.dst, x.args, x.name, x.off, x.labels, x.cases)) (fun _ => rfl) (fun _ => rfl) h Tryd.underlying46 (by kernel_rfl)
theorem oa39 : OpA Tryd.prog 39 1 (fun l : List Ins => [AV.sl (l.map encIn)]) (fun l : List Ins => sumA ma46 l + 1) (fun l : List Ins => (∀ x ∈ l, Ia46 x) ∧ l.length ≤ maxLen) := opa_slice oa46 (by decide) Tryd.underlying39 (by kernel_rfl)
def ma41 (x : Blk) : Nat := ((fun s : ByteArray => s.size + 1) x.label + ((fun _ : Bool => 1) x.edge + ((fun l : List Opd => sumA ma43 l + 1) x.ins + (fun l : List Ins => sumA ma46 l + 1) x.code))) + 1
def Ia41 (x : Blk) : Prop := ((fun _ : ByteArray => True) x.label ∧ ((fun _ : Bool => True) x.edge ∧ ((fun l : List Opd => (∀ x ∈ l, Ia43 x) ∧ l.length ≤ maxLen) x.ins ∧ (fun l : List Ins => (∀ x ∈ l, Ia46 x) ∧ l.length ≤ maxLen) x.code)))
theorem oa41 : OpA Tryd.prog 41 4 encBk ma41 Ia41 := by
  have h := opAt_cons (P := Tryd.prog) (f := ⟨ "Label", 9, 0, false, "", "", 0⟩) oa9 rfl rfl (opAt_cons (P := Tryd.prog) (f := ⟨ "Edge", 4, 1, false, "", "", 16⟩) oa4 rfl rfl (opAt_cons (P := Tryd.prog) (f := ⟨ "In", 23, 2, false, "", "", 24⟩) oa23 rfl rfl (opAt_one (P := Tryd.prog) (f := ⟨ "Code", 39, 3, false, "", "", 48⟩) oa39 rfl)))
  exact opa_struct (fun x => (⟨x.1, x.2.1, x.2.2.1, x.2.2.2⟩ : Blk)) (fun x : Blk => (x.label, x.edge, x.ins, x.code)) (fun _ => rfl) (fun _ => rfl) h Tryd.underlying41 (by kernel_rfl)
theorem oa24 : OpA Tryd.prog 24 1 (fun l : List Blk => [AV.sl (l.map encBk)]) (fun l : List Blk => sumA ma41 l + 1) (fun l : List Blk => (∀ x ∈ l, Ia41 x) ∧ l.length ≤ maxLen) := opa_slice oa41 (by decide) Tryd.underlying24 (by kernel_rfl)
def ma26 (x : Fnc) : Nat := ((fun _ : Bool => 1) x.machine + ((fun s : ByteArray => s.size + 1) x.name + ((fun l : List Rg => sumA ma36 l + 1) x.regs + ((fun l : List Opd => sumA ma43 l + 1) x.params + (fun l : List Blk => sumA ma41 l + 1) x.blocks)))) + 1
def Ia26 (x : Fnc) : Prop := ((fun _ : Bool => True) x.machine ∧ ((fun _ : ByteArray => True) x.name ∧ ((fun l : List Rg => (∀ x ∈ l, Ia36 x) ∧ l.length ≤ maxLen) x.regs ∧ ((fun l : List Opd => (∀ x ∈ l, Ia43 x) ∧ l.length ≤ maxLen) x.params ∧ (fun l : List Blk => (∀ x ∈ l, Ia41 x) ∧ l.length ≤ maxLen) x.blocks))))
theorem oa26 : OpA Tryd.prog 26 5 encFn ma26 Ia26 := by
  have h := opAt_cons (P := Tryd.prog) (f := ⟨ "Machine", 4, 0, false, "", "", 0⟩) oa4 rfl rfl (opAt_cons (P := Tryd.prog) (f := ⟨ "Name", 9, 1, false, "", "", 8⟩) oa9 rfl rfl (opAt_cons (P := Tryd.prog) (f := ⟨ "Regs", 22, 2, false, "", "", 24⟩) oa22 rfl rfl (opAt_cons (P := Tryd.prog) (f := ⟨ "Params", 23, 3, false, "", "", 48⟩) oa23 rfl rfl (opAt_one (P := Tryd.prog) (f := ⟨ "Blocks", 24, 4, false, "", "", 72⟩) oa24 rfl))))
  exact opa_struct (fun x => (⟨x.1, x.2.1, x.2.2.1, x.2.2.2.1, x.2.2.2.2⟩ : Fnc)) (fun x : Fnc => (x.machine, x.name, x.regs, x.params, x.blocks)) (fun _ => rfl) (fun _ => rfl) h Tryd.underlying26 (by kernel_rfl)
end Go.Proofs.YtgbmneoeggdaoaaDoor.X
