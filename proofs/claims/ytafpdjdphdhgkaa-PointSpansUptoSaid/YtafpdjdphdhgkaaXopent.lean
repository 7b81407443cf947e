/- The arguments' types of this seat, opened. -/
import Derived.Test.YtafpdjdphdhgkaaPx0
import Derived.Test.YtafpdjdphdhgkaaXopens
namespace Go.Proofs.Ytafpdjdphdhgkaa.X
open Go.RowKit Go.Proofs.Ytafpdjdphdhgkaa.P Go.Proofs.YtafpdjdphdhgkaaW.PrintWords
set_option linter.unusedVariables false
theorem opens4 : Opens Try.prog 4 Kd.bool (fun _ : Bool => 1) (fun _ : Bool => True) := opens_bool Try.underlying4 (by kernel_rfl)
theorem opens9 : Opens Try.prog 9 Kd.string (fun s : ByteArray => s.size + 1) (fun _ : ByteArray => True) := opens_string Try.underlying9 (by kernel_rfl)
theorem opens3 : Opens Try.prog 3 (Kd.int .i64) (fun _ : Int => 1) (fun n : Int => (Lit.int .i64 n).wf = true) := opens_int Try.underlying3 (by kernel_rfl)
def m74 (x : S74) : Nat := ((fun _ : Int => 1) x.f0 + (fun _ : Int => 1) x.f1) + 1
def I74 (x : S74) : Prop := ((fun n : Int => (Lit.int .i64 n).wf = true) x.f0 ∧ (fun n : Int => (Lit.int .i64 n).wf = true) x.f1)
theorem opens74 : Opens Try.prog 74 k74 m74 I74 := by
  have h := opensAt_cons (P := Try.prog) (f := ⟨ "ID", 3, 0, false, "", "", 0⟩) opens3 rfl rfl (opensAt_one (P := Try.prog) (f := ⟨ "Class", 3, 1, false, "", "", 8⟩) opens3 rfl)
  exact opens_struct (fun x : S74 => (x.f0, x.f1)) (fun x => (⟨x.1, x.2⟩ : S74)) (fun _ => rfl) h Try.underlying74 (by kernel_rfl)
theorem opens22 : Opens Try.prog 22 (Kd.slice 74 k74) (fun l : List S74 => sumM m74 l + 1) (fun l : List S74 => ∀ x ∈ l, I74 x) := opens_slice opens74 Try.underlying22 (by kernel_rfl)
def m45 (x : S45) : Nat := ((fun _ : Int => 1) x.f0 + ((fun _ : Int => 1) x.f1 + ((fun _ : Int => 1) x.f2 + (fun _ : Int => 1) x.f3))) + 1
def I45 (x : S45) : Prop := ((fun n : Int => (Lit.int .i64 n).wf = true) x.f0 ∧ ((fun n : Int => (Lit.int .i64 n).wf = true) x.f1 ∧ ((fun n : Int => (Lit.int .i64 n).wf = true) x.f2 ∧ (fun n : Int => (Lit.int .i64 n).wf = true) x.f3)))
theorem opens45 : Opens Try.prog 45 k45 m45 I45 := by
  have h := opensAt_cons (P := Try.prog) (f := ⟨ "Kind", 3, 0, false, "", "", 0⟩) opens3 rfl rfl (opensAt_cons (P := Try.prog) (f := ⟨ "Class", 3, 1, false, "", "", 8⟩) opens3 rfl rfl (opensAt_cons (P := Try.prog) (f := ⟨ "N", 3, 2, false, "", "", 16⟩) opens3 rfl rfl (opensAt_one (P := Try.prog) (f := ⟨ "Tag", 3, 3, false, "", "", 24⟩) opens3 rfl)))
  exact opens_struct (fun x : S45 => (x.f0, x.f1, x.f2, x.f3)) (fun x => (⟨x.1, x.2.1, x.2.2.1, x.2.2.2⟩ : S45)) (fun _ => rfl) h Try.underlying45 (by kernel_rfl)
theorem opens23 : Opens Try.prog 23 (Kd.slice 45 k45) (fun l : List S45 => sumM m45 l + 1) (fun l : List S45 => ∀ x ∈ l, I45 x) := opens_slice opens45 Try.underlying23 (by kernel_rfl)
theorem opens46 : Opens Try.prog 46 (Kd.slice 9 Kd.string) (fun l : List ByteArray => sumM (fun s : ByteArray => s.size + 1) l + 1) (fun l : List ByteArray => ∀ x ∈ l, (fun _ : ByteArray => True) x) := opens_slice opens9 Try.underlying46 (by kernel_rfl)
theorem opens47 : Opens Try.prog 47 (Kd.slice 3 (Kd.int .i64)) (fun l : List Int => sumM (fun _ : Int => 1) l + 1) (fun l : List Int => ∀ x ∈ l, (fun n : Int => (Lit.int .i64 n).wf = true) x) := opens_slice opens3 Try.underlying47 (by kernel_rfl)
def m49 (x : S49) : Nat := ((fun _ : Int => 1) x.f0 + (m45 x.f1 + ((fun l : List S45 => sumM m45 l + 1) x.f2 + ((fun s : ByteArray => s.size + 1) x.f3 + ((fun _ : Int => 1) x.f4 + ((fun l : List ByteArray => sumM (fun s : ByteArray => s.size + 1) l + 1) x.f5 + (fun l : List Int => sumM (fun _ : Int => 1) l + 1) x.f6)))))) + 1
def I49 (x : S49) : Prop := ((fun n : Int => (Lit.int .i64 n).wf = true) x.f0 ∧ (I45 x.f1 ∧ ((fun l : List S45 => ∀ x ∈ l, I45 x) x.f2 ∧ ((fun _ : ByteArray => True) x.f3 ∧ ((fun n : Int => (Lit.int .i64 n).wf = true) x.f4 ∧ ((fun l : List ByteArray => ∀ x ∈ l, (fun _ : ByteArray => True) x) x.f5 ∧ (fun l : List Int => ∀ x ∈ l, (fun n : Int => (Lit.int .i64 n).wf = true) x) x.f6))))))
theorem opens49 : Opens Try.prog 49 k49 m49 I49 := by
  have h := opensAt_cons (P := Try.prog) (f := ⟨ "Op", 3, 0, false, "", "", 0⟩) opens3 rfl rfl (opensAt_cons (P := Try.prog) (f := ⟨ "Dst", 45, 1, false, "", "", 8⟩) opens45 rfl rfl (opensAt_cons (P := Try.prog) (f := ⟨ "Args", 23, 5, false, "", "", 40⟩) opens23 rfl rfl (opensAt_cons (P := Try.prog) (f := ⟨ "Name", 9, 6, false, "", "", 64⟩) opens9 rfl rfl (opensAt_cons (P := Try.prog) (f := ⟨ "Off", 3, 7, false, "", "", 80⟩) opens3 rfl rfl (opensAt_cons (P := Try.prog) (f := ⟨ "Labels", 46, 8, false, "", "", 88⟩) opens46 rfl rfl (opensAt_one (P := Try.prog) (f := ⟨ "Cases", 47, 9, false, "", "", 112⟩) opens47 rfl))))))
  exact opens_struct (fun x : S49 => (x.f0, x.f1, x.f2, x.f3, x.f4, x.f5, x.f6)) (fun x => (⟨x.1, x.2.1, x.2.2.1, x.2.2.2.1, x.2.2.2.2.1, x.2.2.2.2.2.1, x.2.2.2.2.2.2⟩ : S49)) (fun _ => rfl) h Try.underlying49 (by kernel_rfl)
theorem opens33 : Opens Try.prog 33 (Kd.slice 49 k49) (fun l : List S49 => sumM m49 l + 1) (fun l : List S49 => ∀ x ∈ l, I49 x) := opens_slice opens49 Try.underlying33 (by kernel_rfl)
def m35 (x : S35) : Nat := ((fun s : ByteArray => s.size + 1) x.f0 + ((fun _ : Bool => 1) x.f1 + ((fun l : List S45 => sumM m45 l + 1) x.f2 + (fun l : List S49 => sumM m49 l + 1) x.f3))) + 1
def I35 (x : S35) : Prop := ((fun _ : ByteArray => True) x.f0 ∧ ((fun _ : Bool => True) x.f1 ∧ ((fun l : List S45 => ∀ x ∈ l, I45 x) x.f2 ∧ (fun l : List S49 => ∀ x ∈ l, I49 x) x.f3)))
theorem opens35 : Opens Try.prog 35 k35 m35 I35 := by
  have h := opensAt_cons (P := Try.prog) (f := ⟨ "Label", 9, 0, false, "", "", 0⟩) opens9 rfl rfl (opensAt_cons (P := Try.prog) (f := ⟨ "Edge", 4, 1, false, "", "", 16⟩) opens4 rfl rfl (opensAt_cons (P := Try.prog) (f := ⟨ "In", 23, 2, false, "", "", 24⟩) opens23 rfl rfl (opensAt_one (P := Try.prog) (f := ⟨ "Code", 33, 3, false, "", "", 48⟩) opens33 rfl)))
  exact opens_struct (fun x : S35 => (x.f0, x.f1, x.f2, x.f3)) (fun x => (⟨x.1, x.2.1, x.2.2.1, x.2.2.2⟩ : S35)) (fun _ => rfl) h Try.underlying35 (by kernel_rfl)
theorem opens24 : Opens Try.prog 24 (Kd.slice 35 k35) (fun l : List S35 => sumM m35 l + 1) (fun l : List S35 => ∀ x ∈ l, I35 x) := opens_slice opens35 Try.underlying24 (by kernel_rfl)
structure S26 where
  f0 : Bool
  f1 : ByteArray
  f2 : (List S74)
  f3 : (List S45)
  f4 : (List S35)
def k26 : Kd S26 := Kd.iso (Kd.pair Kd.bool (Kd.pair Kd.string (Kd.pair (Kd.slice 74 k74) (Kd.pair (Kd.slice 45 k45) (Kd.slice 35 k35))))) (fun x : S26 => (x.f0, x.f1, x.f2, x.f3, x.f4))
def m26 (x : S26) : Nat := ((fun _ : Bool => 1) x.f0 + ((fun s : ByteArray => s.size + 1) x.f1 + ((fun l : List S74 => sumM m74 l + 1) x.f2 + ((fun l : List S45 => sumM m45 l + 1) x.f3 + (fun l : List S35 => sumM m35 l + 1) x.f4)))) + 1
def I26 (x : S26) : Prop := ((fun _ : Bool => True) x.f0 ∧ ((fun _ : ByteArray => True) x.f1 ∧ ((fun l : List S74 => ∀ x ∈ l, I74 x) x.f2 ∧ ((fun l : List S45 => ∀ x ∈ l, I45 x) x.f3 ∧ (fun l : List S35 => ∀ x ∈ l, I35 x) x.f4))))
theorem opens26 : Opens Try.prog 26 k26 m26 I26 := by
  have h := opensAt_cons (P := Try.prog) (f := ⟨ "Machine", 4, 0, false, "", "", 0⟩) opens4 rfl rfl (opensAt_cons (P := Try.prog) (f := ⟨ "Name", 9, 1, false, "", "", 8⟩) opens9 rfl rfl (opensAt_cons (P := Try.prog) (f := ⟨ "Regs", 22, 2, false, "", "", 24⟩) opens22 rfl rfl (opensAt_cons (P := Try.prog) (f := ⟨ "Params", 23, 3, false, "", "", 48⟩) opens23 rfl rfl (opensAt_one (P := Try.prog) (f := ⟨ "Blocks", 24, 4, false, "", "", 72⟩) opens24 rfl))))
  exact opens_struct (fun x : S26 => (x.f0, x.f1, x.f2, x.f3, x.f4)) (fun x => (⟨x.1, x.2.1, x.2.2.1, x.2.2.2.1, x.2.2.2.2⟩ : S26)) (fun _ => rfl) h Try.underlying26 (by kernel_rfl)
end Go.Proofs.Ytafpdjdphdhgkaa.X
