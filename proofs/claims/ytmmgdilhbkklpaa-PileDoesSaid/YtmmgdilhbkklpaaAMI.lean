/- The abstract machine's operations are the program's: those that make values, and new memory that no one writes. -/
import Derived.Test.YtmmgdilhbkklpaaAMH
import Derived.Laws.CopyRow
namespace Go.AM
open Go
set_option linter.unusedVariables false
set_option linter.unusedSimpArgs false
section
variable {W0 : World} {V0 : View} {Own : Fra} {P : Program} {o : Oper} {a : Act} {w : World} {V : View} {G : Ctx} {μ : Nat → Option Ob} {ρ : Arg → AV} {v : AV} {u : List (Nat × Ob)} {acc : Acc}
theorem done_w {val : Value} {w' : World} {V' : View} {G' : Ctx} (hs : Sat W0 V0 Own V' G' w' (updO μ u)) (hr : (execOp a.eval o).run P w = .ok (.value val) w') (hv : Rep V' G' v val) (hV : V.le V') (hG : G.le G') :
    Done W0 V0 Own P o a w V G μ v u := by
  intro next Q hn
  unfold Oper.wp
  rw [hr, Oper.upon_value]
  exact hn val w' V' G' hv hV hG hs
theorem run_newVar (t : TypeId) (x : Value) : (newVar t x).run P w = .ok ⟨w.heap.size, 0, none⟩ (w.alloc (.cells x.cells t)) := by
  simp [newVar, newRow]
theorem oneAL_get {cs : List AV} {us : List Value} (h : RepPL V cs us) (ho : oneAL cs = true) : ∀ x ∈ us, x.oneCell' = true := by
  induction cs generalizing us with
  | nil => simp only [RepPL] at h; subst h; intro x hx; cases hx
  | cons c cs ih =>
    simp only [RepPL] at h
    obtain ⟨y, r, rfl, p, q⟩ := h
    simp only [oneAL, Bool.and_eq_true] at ho
    intro x hx
    rcases List.mem_cons.1 hx with rfl | hx
    · exact p.one ho.1
    · exact ih q ho.2 x hx
theorem snd_boxp {d : Nat} {x : Arg} (hok : okOp' P o (.boxp d x) = true) (h : opR P (.boxp d x) ρ μ v u acc) (hA : ArgsOk V G ρ a (AOp.boxp d x).args) (hs : Sat W0 V0 Own V G w μ) :
    Done W0 V0 Own P o a w V G μ v u := by
  obtain ⟨hp, h1, rfl, rfl, rfl⟩ := h
  simp only [okOp'] at hok
  split at hok
  · rename_i t px ho
    have hx := (hA _ (by simp [AOp.args]) _ hok).pure hp
    have hc := hx.cells
    have hs' := hs.frozen (a.eval px).cells.toList t
    have hV := hs.viewNew_le (a.eval px).cells.toList
    refine done_w hs' (val := .pointer (some ⟨w.heap.size, 0, none⟩)) ?_ ?_ hV (Ctx.le_refl _)
    · rw [execOp, ho]
      refine run_v ?_
      simp only [Instr.box, Sem.run_bind, run_newVar, Result.andThen_ok, Sem.run_pure]
    · simp only [Rep, RepP]
      exact ⟨_, _, rfl, viewNew_rep hc hV (oneAL_get hc h1)⟩
  · cases hok
theorem snd_boxo {d key : Nat} {x : Arg} (hok : okOp' P o (.boxo d key x) = true) (h : opR P (.boxo d key x) ρ μ v u acc) (hA : ArgsOk V G ρ a (AOp.boxo d key x).args) (hs : Sat W0 V0 Own V G w μ) :
    Done W0 V0 Own P o a w V G μ v u := by
  obtain ⟨h1, hm, rfl, rfl, rfl⟩ := h
  simp only [okOp'] at hok
  split at hok
  · rename_i t px ho
    have hx := hA _ (by simp [AOp.args]) _ hok
    have h1c := hx.one h1
    have hcl : (a.eval px).cells = #[a.eval px] := by
      cases hv : a.eval px <;> simp [Value.cells, hv, Value.oneCell'] at h1c ⊢
    have hle := Ctx.le_new (s := .box w.heap.size) (hs.fresh hm)
    have hs' := hs.newOb (s := .box w.heap.size) (ob := .box [ρ x]) (.cells #[a.eval px] t) hm rfl (by
      simp only [ObOk]
      refine ⟨[a.eval px], t, heap_alloc_new, ?_, ?_⟩
      · simp only [RepL]
        exact ⟨_, [], rfl, hx.mono (View.le_refl _) hle, rfl⟩
      · intro y hy
        rw [List.mem_singleton] at hy
        subst hy
        exact h1c)
    refine done_w (μ := μ) (u := [(key, .box [ρ x])]) hs' (val := .pointer (some ⟨w.heap.size, 0, none⟩)) ?_ ?_ (View.le_refl _) hle
    · rw [execOp, ho]
      refine run_v ?_
      simp only [Instr.box, Sem.run_bind, run_newVar, Result.andThen_ok, Sem.run_pure, hcl]
    · simp only [Rep]
      exact ⟨_, if_pos trivial, rfl⟩
  · cases hok
theorem snd_boxm {d key : Nat} {x : Arg} (hok : okOp' P o (.boxm d key x) = true) (h : opR P (.boxm d key x) ρ μ v u acc) (hA : ArgsOk V G ρ a (AOp.boxm d key x).args) (hs : Sat W0 V0 Own V G w μ) :
    Done W0 V0 Own P o a w V G μ v u := by
  obtain ⟨hp, h1, hm, rfl, rfl, rfl⟩ := h
  simp only [okOp'] at hok
  split at hok
  · rename_i t px ho
    have hx := (hA _ (by simp [AOp.args]) _ hok).pure hp
    have hc := hx.cells
    have hle := Ctx.le_new (s := .box w.heap.size) (hs.fresh hm)
    have hs' := hs.newOb (s := .box w.heap.size) (ob := .pbox (cellsOf (ρ x))) (.cells (a.eval px).cells t) hm rfl (by
      simp only [ObOk]
      exact ⟨(a.eval px).cells.toList, t, heap_alloc_new, hc, oneAL_get hc h1⟩)
    refine done_w (μ := μ) (u := [(key, .pbox (cellsOf (ρ x)))]) hs' (val := .pointer (some ⟨w.heap.size, 0, none⟩)) ?_ ?_ (View.le_refl _) hle
    · rw [execOp, ho]
      refine run_v ?_
      simp only [Instr.box, Sem.run_bind, run_newVar, Result.andThen_ok, Sem.run_pure]
    · simp only [Rep]
      exact ⟨_, if_pos trivial, rfl⟩
  · cases hok
theorem okZero_spec {t : TypeId} {zero : List AV} (h : okZero P t zero = true) : ∃ i z, P.info? t = some i ∧ i.zero = some z ∧ okCL zero z.cells.toList = true ∧ zero.length = i.size ∧ oneAL zero = true := by
  unfold okZero at h
  split at h
  · rename_i i hi
    split at h
    · rename_i z hz
      simp only [Bool.and_eq_true] at h
      exact ⟨i, z, hi, hz, h.1.1, Nat.eq_of_beq_eq_true h.1.2, h.2⟩
    · cases h
  · cases h
theorem run_alloc {t : TypeId} {i : TypeInfo} {z : Value} (hi : P.info? t = some i) (hz : i.zero = some z) :
    (Instr.alloc t true (.tuple #[])).run P w = .ok (.pointer (some ⟨w.heap.size, 0, none⟩)) (w.alloc (.cells z.cells t)) := by
  simp only [Instr.alloc, zeroValue, typeInfo, Sem.run_bind, run_program, Result.andThen_ok, hi, Sem.run_pure, hz, run_newVar]
theorem snd_alloc {d key : Nat} {cells : List AV} (hok : okOp' P o (.alloc d key cells) = true) (h : opR P (.alloc d key cells) ρ μ v u acc) (hA : ArgsOk V G ρ a (AOp.alloc d key cells).args) (hs : Sat W0 V0 Own V G w μ) :
    Done W0 V0 Own P o a w V G μ v u := by
  obtain ⟨hm, rfl, rfl, rfl⟩ := h
  simp only [okOp'] at hok
  split at hok
  · rename_i t ho
    obtain ⟨i, z, hi, hz, hc, hl, h1⟩ := okZero_spec hok
    have hr := okCL_rep V hc
    have hle := Ctx.le_new (s := .box w.heap.size) (hs.fresh hm)
    have hs' := hs.newOb (s := .box w.heap.size) (ob := .pbox cells) (.cells z.cells t) hm rfl (by
      simp only [ObOk]
      exact ⟨z.cells.toList, t, heap_alloc_new, hr, oneAL_get hr h1⟩)
    refine done_w (μ := μ) (u := [(key, .pbox cells)]) hs' (val := .pointer (some ⟨w.heap.size, 0, none⟩)) ?_ ?_ (View.le_refl _) hle
    · rw [execOp, ho]
      exact run_v (run_alloc hi hz)
    · simp only [Rep]
      exact ⟨_, if_pos trivial, rfl⟩
  · cases hok
theorem hsOk_none (esz : Nat) : HsOk esz 0 none 0 0 (.slice none 0 0) := ⟨none, 0, rfl, Nat.le_refl _, Nat.le_refl _, Nat.le_refl _, rfl, rfl, rfl⟩
theorem snd_nilarr {d key esz : Nat} (hok : okOp' P o (.nilarr d key esz) = true) (h : opR P (.nilarr d key esz) ρ μ v u acc) (hA : ArgsOk V G ρ a (AOp.nilarr d key esz).args) (hs : Sat W0 V0 Own V G w μ) :
    Done W0 V0 Own P o a w V G μ v u := by
  obtain ⟨hm, rfl, rfl, rfl⟩ := h
  have hs' := hs.newNone (s := .arr 0 esz 0 none) (ob := .arr 0 esz []) hm rfl (by
    simp only [ObOk]
    exact ⟨trivial, trivial, rfl, fun _ => trivial, fun b o tot h => by cases h⟩)
  have hle := Ctx.le_new (s := .arr 0 esz 0 none) (hs.fresh hm)
  have key0 : ∀ y, okA (.c (.sl [])) y = true → a.eval y = .slice none 0 0 := by
    intro y hy
    cases y with
    | const c =>
      simp only [okA] at hy
      cases c with
      | slice b l c =>
        cases b <;> cases l <;> cases c <;> simp [okC] at hy
        rfl
      | _ => simp [okC] at hy
    | _ => simp [okA] at hy
  have fin : ∀ y, okA (.c (.sl [])) y = true → (execOp a.eval o = pure (.value (a.eval y))) → Done W0 V0 Own P o a w V G μ (.hs key 0 0 0) [(key, .arr 0 esz [])] := by
    intro y hy he
    refine done_w (μ := μ) (u := [(key, .arr 0 esz [])]) hs' (val := .slice none 0 0) (by rw [he, key0 y hy]; rfl) ?_ (View.le_refl _) hle
    simp only [Rep]
    exact ⟨⟨_, _, rfl⟩, _, _, _, _, if_pos trivial, Nat.le_refl _, fun _ => hsOk_none _⟩
  simp only [okOp'] at hok
  split at hok
  · rename_i y hy
    exact fin y hok (by rw [execOp, hy])
  · rename_i y hy
    exact fin y hok (by rw [execOp, hy])
  · cases hok
theorem snd_alloca {d key key2 esz : Nat} (hok : okOp' P o (.alloca d key key2 esz) = true) (h : opR P (.alloca d key key2 esz) ρ μ v u acc) (hA : ArgsOk V G ρ a (AOp.alloca d key key2 esz).args) (hs : Sat W0 V0 Own V G w μ) :
    Done W0 V0 Own P o a w V G μ v u := by
  obtain ⟨hm, hm2, hne, rfl, rfl, rfl⟩ := h
  simp only [okOp'] at hok
  split at hok
  · rename_i t ho
    simp only [Bool.and_eq_true] at hok
    obtain ⟨i, z, hi, hz, hc, hl, h1⟩ := okZero_spec hok.1
    have hs1 := hs.newNone (s := .arr 0 esz 0 none) (ob := .arr 0 esz []) hm2 rfl (by
      simp only [ObOk]
      exact ⟨trivial, trivial, rfl, fun _ => trivial, fun b o tot h => by cases h⟩)
    have hle1 := Ctx.le_new (s := .arr 0 esz 0 none) (hs.fresh hm2)
    have hm' : (fun j => if j = key2 then some (Ob.arr 0 esz []) else μ j) key = none := by
      simp only
      rw [if_neg hne]
      exact hm
    have hz0 : z.cells = #[.slice none 0 0] := by
      have h2 : z.cells.toList = [.slice none 0 0] := by
        revert hc
        generalize z.cells.toList = l
        intro hc
        cases l with
        | nil => simp [okCL] at hc
        | cons c r =>
          simp only [okCL, Bool.and_eq_true] at hc
          cases r with
          | nil =>
            have hc := hc.1
            cases c with
            | slice b l c => cases b <;> cases l <;> cases c <;> simp [okC] at hc; rfl
            | _ => simp [okC] at hc
          | cons c2 r => simp [okCL] at hc
      rw [← Array.toList_inj, h2]
    have hle2 := Ctx.le_new (G := fun j => if j = key2 then some (Sh.arr 0 esz 0 none) else G j) (k := key) (s := .box w.heap.size) (hs1.fresh hm')
    have hs' := hs1.newOb (s := .box w.heap.size) (ob := .box [.hs key2 0 0 0]) (.cells z.cells t) hm' rfl (by
      simp only [ObOk]
      refine ⟨[.slice none 0 0], t, by rw [heap_alloc_new, hz0], ?_, ?_⟩
      · simp only [RepL, Rep]
        exact ⟨_, [], rfl, ⟨⟨_, _, rfl⟩, 0, esz, 0, none, by rw [if_neg (Ne.symm hne), if_pos trivial], Nat.le_refl _, fun _ => hsOk_none _⟩, rfl⟩
      · intro y hy
        rw [List.mem_singleton] at hy
        subst hy
        rfl)
    refine done_w (μ := μ) (u := [(key2, .arr 0 esz []), (key, .box [.hs key2 0 0 0])]) hs' (val := .pointer (some ⟨w.heap.size, 0, none⟩)) ?_ ?_ (View.le_refl _) (Ctx.le_trans hle1 hle2)
    · rw [execOp, ho]
      exact run_v (run_alloc hi hz)
    · simp only [Rep]
      exact ⟨_, if_pos trivial, rfl⟩
  · cases hok
end
end Go.AM
