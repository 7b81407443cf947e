/- The abstract machine's operations are the program's: those that leave memory alone. -/
import Derived.Test.YtmmgdilhbkklpaaAME
namespace Go.AM
open Go
set_option linter.unusedVariables false
set_option linter.unusedSimpArgs false

def updO (μ : Nat → Option Ob) : List (Nat × Ob) → Nat → Option Ob
  | [] => μ
  | (k, o) :: r => updO (fun j => if j = k then some o else μ j) r
def Done (W0 : World) (V0 : View) (Own : Fra) (P : Program) (o : Oper) (a : Act) (w : World) (V : View) (G : Ctx) (μ : Nat → Option Ob) (v : AV) (u : List (Nat × Ob)) : Prop :=
  ∀ (next : Act → World → Prop) (Q : Exit → Act → World → Prop),
    (∀ (val : Value) (w' : World) (V' : View) (G' : Ctx), Rep V' G' v val → V.le V' → G.le G' → Sat W0 V0 Own V' G' w' (updO μ u) → next (a.put o.dst val) w') → o.wp P a w next Q
section
variable {W0 : World} {V0 : View} {Own : Fra} {P : Program} {o : Oper} {a : Act} {w : World} {V : View} {G : Ctx} {μ : Nat → Option Ob} {ρ : Arg → AV} {v : AV} {u : List (Nat × Ob)} {acc : Acc}
theorem done_pure {val : Value} (hs : Sat W0 V0 Own V G w μ) (hr : (execOp a.eval o).run P w = .ok (.value val) w) (hv : Rep V G v val) : Done W0 V0 Own P o a w V G μ v [] := by
  intro next Q hn
  unfold Oper.wp
  rw [hr, Oper.upon_value]
  exact hn val w V G hv (View.le_refl _) (Ctx.le_refl _) hs
theorem run_v {s : Sem Value} {val : Value} {w' : World} (h : s.run P w = .ok val w') : (do pure (Next.value (← s)) : Sem Next).run P w = .ok (.value val) w' := by
  simp only [Sem.run_bind, h, Result.andThen_ok, Sem.run_pure]
theorem run_und {t : TypeId} {d : TypeDesc} (h : P.underlying t = some d) : (underlying t).run P w = .ok d w := by
  simp [underlying, h]
theorem run_size {t : TypeId} (h : (P.info? t).isSome = true) : (sizeOf t).run P w = .ok (P.cellsOf t) w := by
  obtain ⟨i, hi⟩ := Option.isSome_iff_exists.1 h
  simp [sizeOf, typeInfo, hi, Program.cellsOf]
theorem run_isAgg {t : TypeId} (h : (P.underlying t).isSome = true) : (isAgg t).run P w = .ok (isAggT P t) w := by
  obtain ⟨d, hd⟩ := Option.isSome_iff_exists.1 h
  unfold isAgg isAggT
  simp only [Sem.run_bind, run_und hd, Result.andThen_ok, hd]
  cases d <;> rfl
def ArgsOk (V : View) (G : Ctx) (ρ : Arg → AV) (a : Act) (xs : List Arg) : Prop := ∀ x ∈ xs, ∀ y, okA x y = true → Rep V G (ρ x) (a.eval y)

theorem snd_mov {d : Nat} {x : Arg} (hok : okOp' P o (.mov d x) = true) (h : opR P (.mov d x) ρ μ v u acc) (hA : ArgsOk V G ρ a (AOp.mov d x).args) (hs : Sat W0 V0 Own V G w μ) :
    Done W0 V0 Own P o a w V G μ v u := by
  obtain ⟨rfl, rfl, rfl⟩ := h
  simp only [okOp'] at hok
  split at hok
  · rename_i y hy
    exact done_pure hs (val := a.eval y) (by rw [execOp, hy]; rfl) (hA _ (by simp [AOp.args]) _ hok)
  · rename_i y hy
    exact done_pure hs (val := a.eval y) (by rw [execOp, hy]; rfl) (hA _ (by simp [AOp.args]) _ hok)
  · cases hok
theorem rep_int {k : IntKind} {n : Int} {x : Value} (h : Rep V G (.int k n) x) : x = .int k n := h
theorem rep_str {s : ByteArray} {x : Value} (h : Rep V G (.str s) x) : x = .string s := h
theorem rep_bool {s : Bool} {x : Value} (h : Rep V G (.bool s) x) : x = .bool s := h
theorem beq_bytes (a b : ByteArray) : (a == b) = (a.toList == b.toList) := beq_toListBytes a b
theorem eqGuard_int (op : BinOp) (t : TypeId) (x y : Operand) (k k' : IntKind) (n m : Int) : (eqGuard op t x y (.int k n) (.int k' m)).run P w = .ok () w := by
  unfold eqGuard
  cases op <;> rfl
theorem eqGuard_str (op : BinOp) (t : TypeId) (x y : Operand) (n m : ByteArray) : (eqGuard op t x y (.string n) (.string m)).run P w = .ok () w := by
  unfold eqGuard
  cases op <;> rfl
theorem run_bin {op : BinOp} {t : TypeId} {x y : AV} {xv yv : Value} {px py : Operand} (h : evBin op x y = some v) (hx : Rep V G x xv) (hy : Rep V G y yv) :
    ∃ val, (do eqGuard op t px py xv yv; binOp op t xv yv : Sem Value).run P w = .ok val w ∧ Rep V G v val := by
  unfold evBin at h
  split at h
  · rename_i k x k' y
    cases rep_int hx
    cases rep_int hy
    simp only [Sem.run_bind, eqGuard_int, Result.andThen_ok]
    split at h
    · simp only [shBin] at h
      split at h
      · cases h
      · rename_i hn
        cases h
        exact ⟨_, by simp only [binOp, Op.shift, hn, if_false]; rfl, rfl⟩
    · simp only [shBin] at h
      split at h
      · cases h
      · rename_i hn
        cases h
        exact ⟨_, by simp only [binOp, Op.shift, hn, if_false]; rfl, rfl⟩
    · rename_i h1 h2
      split at h
      · rename_i hk
        subst hk
        cases op <;> simp only [intBin] at h
        case add => cases h; exact ⟨_, by simp only [binOp, Op.intArith, ne_eq, not_true, if_false]; rfl, rfl⟩
        case sub => cases h; exact ⟨_, by simp only [binOp, Op.intArith, ne_eq, not_true, if_false]; rfl, rfl⟩
        case mul => cases h; exact ⟨_, by simp only [binOp, Op.intArith, ne_eq, not_true, if_false]; rfl, rfl⟩
        case quo =>
          split at h
          · cases h
          · rename_i hn; cases h; exact ⟨_, by simp only [binOp, Op.intDiv, hn, ne_eq, not_true, if_false]; rfl, rfl⟩
        case rem =>
          split at h
          · cases h
          · rename_i hn; cases h; exact ⟨_, by simp only [binOp, Op.intDiv, hn, ne_eq, not_true, if_false]; rfl, rfl⟩
        all_goals first
          | (cases h; done)
          | (cases h; exact ⟨_, by simp only [binOp, Op.intBits, Op.intCmp, ne_eq, not_true, if_false]; rfl, rfl⟩)
      · cases h
  · rename_i x y
    cases rep_str hx
    cases rep_str hy
    simp only [Sem.run_bind, eqGuard_str, Result.andThen_ok]
    cases op <;> simp only at h
    case add =>
      split at h
      · rename_i hn
        cases h
        exact ⟨_, by simp only [binOp, Op.stringOp]; rw [if_neg (by simp only [IntKind.max, IntKind.signed, IntKind.bits]; simp; omega)]; rfl, rfl⟩
      · cases h
    all_goals first
      | (cases h; done)
      | (cases h; exact ⟨_, by simp only [binOp, Op.stringOp]; rfl, by first | rfl | (simp only [beq_bytes]; rfl)⟩)
  · cases h
theorem snd_bin {d : Nat} {op : BinOp} {x y : Arg} (hok : okOp' P o (.bin d op x y) = true) (h : opR P (.bin d op x y) ρ μ v u acc) (hA : ArgsOk V G ρ a (AOp.bin d op x y).args) (hs : Sat W0 V0 Own V G w μ) :
    Done W0 V0 Own P o a w V G μ v u := by
  obtain ⟨h, rfl, rfl⟩ := h
  simp only [okOp'] at hok
  split at hok
  · rename_i op' t px py yt ho
    simp only [Bool.and_eq_true, decide_eq_true_eq] at hok
    obtain ⟨⟨rfl, h1⟩, h2⟩ := hok
    obtain ⟨val, hr, hv⟩ := run_bin (t := t) (P := P) (w := w) (px := px) (py := py) h (hA _ (by simp [AOp.args]) _ h1) (hA _ (by simp [AOp.args]) _ h2)
    exact done_pure hs (by rw [execOp, ho]; exact run_v hr) hv
  · cases hok
theorem snd_un {d : Nat} {op : UnOp} {x : Arg} (hok : okOp' P o (.un d op x) = true) (h : opR P (.un d op x) ρ μ v u acc) (hA : ArgsOk V G ρ a (AOp.un d op x).args) (hs : Sat W0 V0 Own V G w μ) :
    Done W0 V0 Own P o a w V G μ v u := by
  obtain ⟨h, rfl, rfl⟩ := h
  simp only [okOp'] at hok
  split at hok
  · rename_i op' t px ho
    simp only [Bool.and_eq_true, decide_eq_true_eq] at hok
    obtain ⟨rfl, h1⟩ := hok
    have hx := hA _ (by simp [AOp.args]) _ h1
    unfold evUn at h
    split at h
    · rename_i k n hn
      rw [hn] at hx
      have hx := rep_int hx
      cases op <;> simp only at h <;> first
        | (cases h; done)
        | (cases h; exact done_pure hs (by rw [execOp, ho]; exact run_v (by rw [hx]; simp only [Op.unary, Op.intArith, Op.intBits]; rfl)) rfl)
    · rename_i b hn
      rw [hn] at hx
      have hx := rep_bool hx
      cases op <;> simp only at h <;> first
        | (cases h; done)
        | (cases h; exact done_pure hs (by rw [execOp, ho]; exact run_v (by rw [hx]; rfl)) rfl)
    · cases h
  · cases hok
theorem snd_conv {d : Nat} {k : IntKind} {x : Arg} (hok : okOp' P o (.conv d k x) = true) (h : opR P (.conv d k x) ρ μ v u acc) (hA : ArgsOk V G ρ a (AOp.conv d k x).args) (hs : Sat W0 V0 Own V G w μ) :
    Done W0 V0 Own P o a w V G μ v u := by
  obtain ⟨⟨k', n, hn, rfl⟩, rfl, rfl⟩ := h
  simp only [okOp'] at hok
  split at hok
  · rename_i s t px ho
    simp only [Bool.and_eq_true] at hok
    obtain ⟨⟨h1, h2⟩, h3⟩ := hok
    obtain ⟨ds, hds⟩ := Option.isSome_iff_exists.1 h3
    have hx := hA _ (by simp [AOp.args]) _ h1
    rw [hn] at hx
    have hx := rep_int hx
    split at h2
    · rename_i k2 hk2
      obtain rfl := of_decide_eq_true h2
      exact done_pure hs (by rw [execOp, ho]; exact run_v (by rw [hx]; simp only [convert, Sem.run_bind, run_und hk2, run_und hds, Conv.intToInt, Result.andThen_ok]; rfl)) rfl
    · cases h2
  · cases hok
theorem okAs_one {x : Arg} {ys : List Operand} (h : okAs [x] ys = true) : ∃ y, ys = [y] ∧ okA x y = true := by
  match ys, h with
  | [y], h => simp [okAs] at h; exact ⟨y, rfl, h⟩
  | [], h => simp [okAs] at h
  | y :: z :: r, h => simp [okAs] at h
theorem okAs_two {x x' : Arg} {ys : List Operand} (h : okAs [x, x'] ys = true) : ∃ y y', ys = [y, y'] ∧ okA x y = true ∧ okA x' y' = true := by
  match ys, h with
  | [y, y'], h => simp [okAs] at h; exact ⟨y, y', rfl, h⟩
  | [], h => simp [okAs] at h
  | [y], h => simp [okAs] at h
  | y :: z :: t :: r, h => simp [okAs] at h
theorem run_len {as : Array Operand} {ts : Array TypeId} {y : Operand} {t : TypeId} {val : Value} (ho : o.op = .call { callee := .builtin .len, args := as, argTypes := ts }) (hy : as.toList = [y])
    (h : (Builtin.len_ ts o.type #[a.eval y]).run P w = .ok val w) : (execOp a.eval o).run P w = .ok (.value val) w := by
  obtain rfl : as = #[y] := by rw [← Array.toList_inj, hy]
  rw [execOp, ho]
  simp [resolve, invoke, builtin, h]
theorem snd_len {d : Nat} {x : Arg} (hok : okOp' P o (.len d x) = true) (h : opR P (.len d x) ρ μ v u acc) (hA : ArgsOk V G ρ a (AOp.len d x).args) (hs : Sat W0 V0 Own V G w μ) :
    Done W0 V0 Own P o a w V G μ v u := by
  obtain ⟨h, rfl, rfl⟩ := h
  simp only [okOp'] at hok
  split at hok
  · rename_i as ts ho
    simp only [Bool.and_eq_true] at hok
    obtain ⟨h1, h2⟩ := hok
    obtain ⟨y, hy, h1⟩ := okAs_one h1
    have hx := hA _ (by simp [AOp.args]) _ h1
    split at h2
    · rename_i t r ht
      have ht0 : ts[0]? = some t := by rw [← Array.getElem?_toList, ht]; rfl
      split at h2
      · rename_i e hu
        rcases h with ⟨xs, he, rfl⟩ | ⟨xs, he, rfl⟩ | ⟨k, ver, off, len, he, rfl⟩
        all_goals rw [he] at hx; simp only [Rep, RepP] at hx
        · obtain ⟨b, c, hv, _⟩ := hx
          exact done_pure hs (run_len (t := t) ho hy (by simp only [Builtin.len_, ht0, hv]; simp [run_und hu]; rfl)) rfl
        · obtain ⟨b, hv, _⟩ := hx
          exact done_pure hs (run_len (t := t) ho hy (by simp only [Builtin.len_, ht0, hv]; simp [run_und hu]; rfl)) rfl
        · obtain ⟨⟨b, c, hv⟩, _⟩ := hx
          exact done_pure hs (run_len (t := t) ho hy (by simp only [Builtin.len_, ht0, hv]; simp [run_und hu]; rfl)) rfl
      · cases h2
    · cases h2
  · cases hok
theorem snd_slen {d : Nat} {x : Arg} (hok : okOp' P o (.slen d x) = true) (h : opR P (.slen d x) ρ μ v u acc) (hA : ArgsOk V G ρ a (AOp.slen d x).args) (hs : Sat W0 V0 Own V G w μ) :
    Done W0 V0 Own P o a w V G μ v u := by
  obtain ⟨⟨s, he, rfl⟩, rfl, rfl⟩ := h
  simp only [okOp'] at hok
  split at hok
  · rename_i as ts ho
    simp only [Bool.and_eq_true] at hok
    obtain ⟨h1, h2⟩ := hok
    obtain ⟨y, hy, h1⟩ := okAs_one h1
    have hx := hA _ (by simp [AOp.args]) _ h1
    rw [he] at hx
    have hx := rep_str hx
    split at h2
    · rename_i t r ht
      have ht0 : ts[0]? = some t := by rw [← Array.getElem?_toList, ht]; rfl
      split at h2
      · rename_i hu
        exact done_pure hs (run_len (t := t) ho hy (by simp only [Builtin.len_, ht0, hx]; simp [run_und hu]; rfl)) rfl
      · cases h2
    · cases h2
  · cases hok
end
end Go.AM
