/- The abstract machine's operations are the program's: clear, make, calls; and all of them together. -/
import Derived.Test.YtapfnhhedieebaaAMO
namespace Go.AM
open Go
set_option linter.unusedVariables false
set_option linter.unusedSimpArgs false
section
variable {W0 : World} {V0 : View} {Own : Fra} {P : Program} {o : Oper} {a : Act} {w : World} {V : View} {G : Ctx} {μ : Nat → Option Ob} {ρ : Arg → AV} {v : AV} {u : List (Nat × Ob)} {acc : Acc}
theorem flatten_rep {zs : List AV} {us : List Value} (h : RepPL V zs us) (n : Nat) : RepPL V (List.replicate n zs).flatten (List.replicate n us).flatten := by
  induction n with
  | zero => simp [RepPL]
  | succ n ih =>
    rw [List.replicate_succ, List.replicate_succ, List.flatten_cons, List.flatten_cons]
    exact h.append ih
theorem get_flatten_replicate {us : List Value} : ∀ (n i : Nat), i < n * us.length → (List.replicate n us).flatten[i]? = us[i % us.length]?
  | 0, i, h => by simp at h
  | n + 1, i, h => by
    rw [List.replicate_succ, List.flatten_cons]
    rcases Nat.lt_or_ge i us.length with h1 | h1
    · rw [List.getElem?_append_left h1, Nat.mod_eq_of_lt h1]
    · rw [List.getElem?_append_right h1, get_flatten_replicate n (i - us.length) (by rw [Nat.add_mul] at h; omega)]
      rw [Nat.mod_eq_sub_mod h1]
theorem zeros_eq (z : Array Value) (n : Nat) : (Array.range (n * z.size)).map (z[· % z.size]!) = (List.replicate n z.toList).flatten.toArray := by
  rw [← Array.toList_inj]
  apply List.ext_getElem?
  intro i
  have hlen : (List.replicate n z.toList).flatten.length = n * z.size := by simp
  rcases Nat.lt_or_ge i (n * z.size) with h | h
  · have hz : 0 < z.size := by
      rcases Nat.eq_zero_or_pos z.size with h0 | h0
      · rw [h0] at h; simp at h
      · exact h0
    rw [show (List.replicate n z.toList).flatten.toArray.toList = (List.replicate n z.toList).flatten from rfl, get_flatten_replicate n i (by simpa using h)]
    have hm := Nat.mod_lt i hz
    simp [h, hm]
  · rw [List.getElem?_eq_none (by simpa using h), List.getElem?_eq_none (by simpa using h)]
theorem snd_clear {x : Arg} {zero : List AV} (hd : o.dst = none) (hok : okOp' P o (.clear x zero) = true) (h : opR P (.clear x zero) ρ μ v u acc) (hA : ArgsOk V G ρ a (AOp.clear x zero).args) (hs : Sat W0 V0 Own V G w μ) :
    Done W0 V0 Own P o a w V G μ v u := by
  obtain ⟨rfl, k, ver, off, len, esz, xs, he, hm, hze, hzp, hzo, rfl, rfl⟩ := h
  simp only [okOp'] at hok
  split at hok
  · rename_i as ts ho
    simp only [Bool.and_eq_true] at hok
    obtain ⟨h1, h2⟩ := hok
    obtain ⟨y1, hy, h3⟩ := okAs_one h1
    obtain rfl : as = #[y1] := by rw [← Array.toList_inj, hy]
    split at h2
    · rename_i t hts
      obtain rfl : ts = #[t] := by rw [← Array.toList_inj, hts]
      split at h2
      · rename_i e hu
        obtain ⟨i, z, hi, hz, hc, hl, hone⟩ := okZero_spec h2
        have hx := hA x (by simp [AOp.args]) _ h3
        rw [he] at hx
        obtain ⟨loc, A, cap, hg, hv, hlc, hol, hnc, hq⟩ := hs_open hs hx hm
        have hrz := okCL_rep V hc
        have hzl : z.cells.size = esz := by
          have := hrz.length
          rw [Array.length_toList] at this
          omega
        have hdst : ∀ (next : Act → World → Prop) (val : Value) (w' : World), next a w' → next (a.put o.dst val) w' := fun next val w' h => by rw [hd]; exact h
        have fin : ∀ (w' : World) (G' : Ctx), (Builtin.clear_ #[t] o.type #[.slice A len cap]).run P w = .ok (.tuple #[]) w' → Sat W0 V0 Own V G' w' (updO μ [(k, .arr ver esz (xs.take off ++ List.replicate len zero ++ xs.drop (off + len)))]) → G.le G' →
            Done W0 V0 Own P o a w V G μ .dead [(k, .arr ver esz (xs.take off ++ List.replicate len zero ++ xs.drop (off + len)))] := by
          intro w' G' hr hs' hle
          refine done_w hs' (val := .tuple #[]) ?_ (by simp only [Rep]) (View.le_refl _) hle
          rw [execOp, ho]
          simp [resolve, invoke, builtin, hv, hr]
        by_cases hl0 : len = 0
        · subst hl0
          have hsame : xs.take off ++ List.replicate 0 zero ++ xs.drop (off + 0) = xs := by simp
          have hupd : updO μ [(k, .arr ver esz (xs.take off ++ List.replicate 0 zero ++ xs.drop (off + 0)))] = μ := by
            funext j
            simp only [updO, hsame]
            by_cases hj : j = k
            · rw [if_pos hj, hj, hm]
            · rw [if_neg hj]
          refine fin w G ?_ (by rw [hupd]; exact hs) (Ctx.le_refl _)
          cases A with
          | none => simp [Builtin.clear_, run_und hu]
          | some A => simp [Builtin.clear_, run_und hu]
        · rcases hq with ⟨rfl, rfl, rfl, rfl⟩ | ⟨b, of, tot, us, T, rfl, hA', htot, hh, ht, hle, hr⟩
          · omega
          · have hA' := hA'.resolve_left (by omega)
            subst hA'
            have hmul : (off + len) * esz ≤ xs.length * esz := Nat.mul_le_mul_right _ hol
            rw [Nat.add_mul] at hmul
            have hnews : RepPL V (List.replicate len zero).flatten (List.replicate len z.cells.toList).flatten := flatten_rep hrz len
            have hnl : (List.replicate len z.cells.toList).flatten.length = len * esz := by simp [hzl]
            have h1n : ∀ y ∈ (List.replicate len z.cells.toList).flatten, y.oneCell' = true := by
              intro y hy
              obtain ⟨l, hl, hy⟩ := List.mem_flatten.1 hy
              rw [List.eq_of_mem_replicate hl] at hy
              exact oneAL_get hrz hone y hy
            have hover := hr.over hnews (fun c hc => by rw [List.eq_of_mem_replicate hc]; exact hze) h1n (i := off) (by omega) (by rw [List.length_replicate, Nat.add_mul]; omega)
            rw [List.length_replicate] at hover
            have hst := run_storeCells_at (P := P) b (of + off * esz) T (List.replicate len z.cells.toList).flatten 0 us.toArray w hh (by rw [hnl]; simp; omega) h1n
            simp only [Nat.add_zero] at hst
            have hw := hs.rearr (ver' := ver) (n' := xs.length) (loc' := some (b, of, tot)) (w' := w.setRow b (splice us (of + off * esz) (List.replicate len z.cells.toList).flatten).toArray) (ob := .arr ver esz (xs.take off ++ List.replicate len zero ++ xs.drop (off + len))) hg (.inr ⟨rfl, rfl, rfl⟩)
              (setRow_keep hs.keep (hs.priv k _ b hg rfl).2.1) (by rw [setRow_size]; exact Nat.le_refl _) (fun b' hne _ => setRow_other w b b' _ (fun e => hne (by rw [e]; rfl))) (fun b' hb' => .inl hb') (by
                simp only [ObOk]
                refine ⟨trivial, trivial, by simp; omega, (fun h => by cases h), fun b2 o2 tot2 h => ?_⟩
                cases h
                exact ⟨_, T, setRow_heap w b _ _ T _ hh, by rw [splice_length (by rw [hnl]; omega), ht], hle, hover⟩)
            refine fin _ _ ?_ hw.1 hw.2
            simp only [splice]
            obtain ⟨n, rfl⟩ : ∃ n, len = n + 1 := ⟨len - 1, by omega⟩
            simp only [Builtin.clear_]
            simp [run_und hu, zeroValue, typeInfo, hi, hz, Builtin.zeroCells, zeros_eq, hst]
      · cases h2
    · cases h2
  · cases hok
theorem wrap_in {n : Int} (h1 : -9223372036854775808 ≤ n) (h2 : n ≤ 9223372036854775807) : IntKind.i64.wrap n = n := by
  simp only [IntKind.wrap, IntKind.bits, IntKind.signed]
  simp
  omega
theorem snd_make {d key esz bytes : Nat} {zero : List AV} {x y : Arg} (hok : okOp' P o (.make d key esz bytes zero x y) = true) (h : opR P (.make d key esz bytes zero x y) ρ μ v u acc) (hA : ArgsOk V G ρ a (AOp.make d key esz bytes zero x y).args) (hs : Sat W0 V0 Own V G w μ) :
    Done W0 V0 Own P o a w V G μ v u := by
  obtain ⟨nk, ck, z, zc, he, he', rfl, h0, hb, hze, hm, rfl, rfl, rfl⟩ := h
  simp only [okOp'] at hok
  split at hok
  · rename_i t px py ho
    simp only [Bool.and_eq_true] at hok
    obtain ⟨⟨⟨⟨h1, h2⟩, h3⟩, h4⟩, h5⟩ := hok
    obtain ⟨e, hu, hn, hi'⟩ := okSl_spec h3
    obtain ⟨e', i, zv, hu', hi, hby, hz, hzs, hbpos⟩ := okBytes_spec h4
    rw [hu] at hu'
    cases hu'
    rw [hu] at h5
    obtain ⟨i2, z2, hi2, hz2, hc, hl, hone⟩ := okZero_spec h5
    rw [hi] at hi2
    cases hi2
    rw [hz] at hz2
    cases hz2
    have hx := hA x (by simp [AOp.args]) _ h1
    have hy := hA y (by simp [AOp.args]) _ h2
    rw [he] at hx
    rw [he'] at hy
    have hx := rep_int hx
    have hy := rep_int hy
    have hisz : i.size = esz := by rw [← hn]; simp [Program.cellsOf, hi]
    have hbz : z ≤ 140737488355328 := by
      have h6 : z * 1 ≤ z * (bytes : Int) := Int.mul_le_mul_of_nonneg_left (by omega) h0
      omega
    have hw : IntKind.i64.wrap z = z := wrap_in (by omega) (by omega)
    have hrz := okCL_rep V hc
    have hrun : (execOp a.eval o).run P w = .ok (.value (.slice (some ⟨w.heap.size, 0, none⟩) z.toNat z.toNat)) (w.alloc (.cells (List.replicate z.toNat zv.cells.toList).flatten.toArray e)) := by
      rw [execOp, ho]
      refine run_v ?_
      have hneg : ¬ z < 0 := by omega
      have hnl : ¬ ((bytes : Int) * z > 2 ^ 48) := by
        rw [Int.mul_comm]
        omega
      simp only [Instr.makeSlice, Sem.run_bind, run_und hu, Result.andThen_ok, hx, hy, asInt, asIntOf, Sem.run_pure, typeInfo, run_program, hi, hw, hby]
      simp only [hneg, hnl, decide_false, Bool.or_self, Bool.false_eq_true, if_false, show ¬ z > z by omega, Sem.run_pure, Result.andThen_ok, run_askRoom, Sem.run_bind, run_size hi', hn]
      have hz0 : (if z.toNat * esz = 0 then Pure.pure #[] else (do Pure.pure (← zeroValue e).cells) : Sem (Array Value)).run P w = .ok (if z.toNat * esz = 0 then #[] else zv.cells) w := by
        split
        · rfl
        · simp [zeroValue, typeInfo, hi, hz]
      by_cases hzz : z.toNat * esz = 0
      · simp only [hzz, if_true, Sem.run_pure, Result.andThen_ok]
        have : (List.replicate z.toNat zv.cells.toList).flatten = [] := by
          apply List.eq_nil_of_length_eq_zero
          simp [hzs, hisz, hzz]
        rw [this]
        have hr0 : Array.range 0 = #[] := Array.eq_empty_of_size_eq_zero (by simp)
        simp [newRow, hr0]
      · simp only [hzz, if_false, Sem.run_bind, zeroValue, typeInfo, run_program, Result.andThen_ok, hi, Sem.run_pure, hz]
        rw [show z.toNat * esz = z.toNat * zv.cells.size by rw [hzs, hisz], zeros_eq]
        simp [newRow]
    have hone' : ∀ y ∈ (List.replicate z.toNat zv.cells.toList).flatten, y.oneCell' = true := by
      intro y hy
      obtain ⟨l, hl, hy⟩ := List.mem_flatten.1 hy
      rw [List.eq_of_mem_replicate hl] at hy
      exact oneAL_get hrz hone y hy
    have hlen : (List.replicate z.toNat zv.cells.toList).flatten.length = z.toNat * esz := by simp [hzs, hisz]
    have hle := Ctx.le_new (s := .arr 0 esz z.toNat (some (w.heap.size, 0, z.toNat * esz))) (hs.fresh hm)
    have hs' := hs.newOb (s := .arr 0 esz z.toNat (some (w.heap.size, 0, z.toNat * esz))) (ob := .arr 0 esz (List.replicate z.toNat zero)) (.cells (List.replicate z.toNat zv.cells.toList).flatten.toArray e) hm rfl (by
      simp only [ObOk]
      refine ⟨trivial, trivial, by simp, (fun h => by cases h), fun b o tot h => ?_⟩
      cases h
      refine ⟨_, e, heap_alloc_new, hlen, by omega, RepR.of_flat (flatten_rep hrz _) (fun c hc => by rw [List.eq_of_mem_replicate hc]; exact hze) fun j y hy => ?_⟩
      rw [Nat.zero_add]
      exact ⟨hy, hone' y (List.mem_of_getElem? hy)⟩)
    refine done_w (μ := μ) (u := [(key, .arr 0 esz (List.replicate z.toNat zero))]) hs' hrun ?_ (View.le_refl _) hle
    exact rep_hs_new ⟨_, z.toNat, rfl, Nat.le_refl _, by omega, by omega, .inr (by simp), by simp⟩
  · cases hok
/-! Calls of functions that write nothing that is there. -/
theorem Sat.callee0 (hs : Sat W0 V0 Own V G w μ) : Sat w V (Ctx.owns fun _ => none) V (fun _ => none) w (fun k => ([] : List Ob)[k]?) where
  keep := ⟨rfl, rfl, rfl, Nat.le_refl _, fun _ _ _ => rfl⟩
  view := hs.view
  vle := View.le_refl _
  vnew := fun _ _ _ => rfl
  obs := fun k ob e => by simp at e
  dom := fun k s e => by cases e
  priv := fun k s b e => by cases e
  inj := fun k k' s s' b e => by cases e
  loc := fun k s b e => by cases e
theorem Sat.after0 (hs : Sat W0 V0 Own V G w μ) {V' : View} {G' : Ctx} {w' : World} (h : Sat w V (Ctx.owns fun _ => none) V' G' w' (fun k => ([] : List Ob)[k]?)) :
    Sat W0 V0 Own V' G w' μ ∧ G'.le G := by
  have hown : ∀ b, ¬ (Ctx.owns (fun _ => none)).own b := fun b ⟨k, s, e, _⟩ => by cases e
  have hblk : ∀ b, b < w.heap.size → w'.heap[b]? = w.heap[b]? := fun b hb => h.keep.block b hb (hown b)
  refine ⟨⟨?_, h.view, View.le_trans hs.vle h.vle, fun b o hb => ?_, fun k ob e => ?_, hs.dom, fun k s b e hb => ?_, hs.inj, hs.loc⟩, fun k s e => ?_⟩
  · exact hs.keep.of_le h.keep.os h.keep.tape h.keep.output h.keep.size fun b h1 _ => hblk b (Nat.lt_of_lt_of_le h1 hs.keep.size)
  · rw [h.vnew b o (Nat.lt_of_lt_of_le hb hs.keep.size)]
    exact hs.vnew b o hb
  · obtain ⟨s, e', q⟩ := hs.obs k ob e
    exact ⟨s, e', q.mono h.vle (Ctx.le_refl _) fun b hb => hblk b (hs.priv k s b e' hb).1⟩
  · obtain ⟨p1, p2, p3⟩ := hs.priv k s b e hb
    refine ⟨Nat.lt_of_lt_of_le p1 h.keep.size, p2, fun o => ?_⟩
    rw [h.vnew b o p1]
    exact p3 o
  · obtain ⟨ob, e'⟩ := h.dom k s e
    simp at e'
theorem run_enter {f : Nat} {args : Array Value} (hf : okFn P f = true) : (callFunc f args).run P w = .ok (.enter f args) w := by
  unfold okFn at hf
  split at hf
  · rename_i fn hfn
    simp only [Bool.and_eq_true, bne_iff_ne, ne_eq] at hf
    have hb : fn.body.isNone = false := by cases hx : fn.body <;> simp [hx] at hf ⊢
    have hn : (fn.name == "runtime.NumGoroutine") = false := by simp [hf.2]
    unfold callFunc
    simp only [Sem.run_bind, run_program, Result.andThen_ok, hfn, hn, hb, Bool.false_eq_true, if_false, Sem.run_pure]
  · cases hf
def calArgs : Cal → List Arg → List Arg
  | .st _, args => args
  | .dy x, args => x :: args
theorem run_call {c : Cal} {y : Operand} {as : Array Operand} {ts : Array TypeId} {f : Nat} {caps : List AV} {args : List Arg} (ho : o.op = .call { callee := .value y, args := as, argTypes := ts }) (hc : okCal c y P = true) (hf : okFn P f = true) (hcal : callee ρ c = some (f, caps))
    (hA : ArgsOk V G ρ a (calArgs c args)) (has : okAs args as.toList = true) :
    ∃ vs : List Value, (execOp a.eval o).run P w = .ok (.enter f vs.toArray) w ∧ RepL V G (args.map ρ ++ caps) vs := by
  cases c with
  | st g =>
    cases y with
    | func g' =>
      simp only [okCal] at hc
      obtain rfl := Nat.eq_of_beq_eq_true hc
      simp only [callee, Option.some.injEq, Prod.mk.injEq] at hcal
      obtain ⟨rfl, rfl⟩ := hcal
      refine ⟨as.toList.map a.eval, ?_, by rw [List.append_nil]; exact okAs_rep has hA⟩
      rw [execOp, ho]
      simp only [resolve, Act.eval, Deferred.ofValue, Sem.run_bind, Sem.run_pure, Result.andThen_ok, invoke]
      rw [show (#[] ++ Array.map a.eval as ++ #[] : Array Value) = (as.toList.map a.eval).toArray by rw [← Array.toList_inj]; simp]
      exact run_enter hf
    | _ => simp [okCal] at hc
  | dy x =>
    simp only [okCal] at hc
    have hx := hA x List.mem_cons_self y hc
    simp only [callee] at hcal
    split at hcal
    · rename_i f' caps' he
      cases hcal
      rw [he] at hx
      simp only [Rep] at hx
      obtain ⟨cv, hv, hr⟩ := hx
      refine ⟨as.toList.map a.eval ++ cv, ?_, (okAs_rep has fun z hz => hA z (List.mem_cons_of_mem _ hz)).append hr⟩
      rw [execOp, ho]
      simp only [resolve, hv, Deferred.ofValue, Sem.run_bind, Sem.run_pure, Result.andThen_ok, invoke]
      rw [show (#[] ++ Array.map a.eval as ++ cv.toArray : Array Value) = (as.toList.map a.eval ++ cv).toArray by rw [← Array.toList_inj]; simp]
      exact run_enter hf
    · cases hcal
theorem isPL_append : ∀ {x y : List AV}, isPL x = true → isPL y = true → isPL (x ++ y) = true
  | [], y, _, h => h
  | c :: x, y, h, h' => by
    simp only [isPL, List.cons_append, Bool.and_eq_true] at h ⊢
    exact ⟨h.1, isPL_append h.2 h'⟩
theorem snd_callf {d : Option Nat} {c : Cal} {args : List Arg} (hd : o.dst = d) (hok : okOp' P o (.callf d c args) = true) (h : opR P (.callf d c args) ρ μ v u acc) (hA : ArgsOk V G ρ a (AOp.callf d c args).args) (hs : Sat W0 V0 Own V G w μ) :
    Done W0 V0 Own P o a w V G μ v u := by
  obtain ⟨rfl, rfl, f, caps, res, hcal, hp1, hp2, ⟨hf, hctr⟩, rfl⟩ := h
  simp only [okOp'] at hok
  split at hok
  · rename_i y as ts ho
    simp only [Bool.and_eq_true] at hok
    have hA' : ArgsOk V G ρ a (calArgs c args) := by cases c <;> exact hA
    obtain ⟨vs, hr, hrep⟩ := run_call (w := w) (args := args) ho hok.1 hf hcal hA' hok.2
    intro next Q hn
    unfold Oper.wp
    rw [hr, Oper.upon_enter]
    refine (hctr V (fun _ => none) w vs hs.callee0 ((hrep.pure (isPL_append hp1 hp2)).rep _)).mono ?_
    rintro e w' ⟨V', G', val, res', obs', ⟨rfl, rfl⟩, rfl, hres, hle, hs'⟩
    obtain ⟨hs2, hle2⟩ := hs.after0 hs'
    exact hn val w' V' G (hres.rep.mono (View.le_refl _) hle2) hs'.vle (Ctx.le_refl _) hs2
  · cases hok
theorem bor0_rep {x : AV} {val : Value} (hs : Sat W0 V0 Own V G w μ) (h : Rep V G x val) : Rep (fun b o => w.cell? ⟨b, o, none⟩) (fun _ => none) (bor0 μ x) val := by
  have hV : V.le (fun b o => w.cell? ⟨b, o, none⟩) := hs.view
  cases x
  case hs k ver off len =>
    simp only [bor0]
    split
    · rename_i ver' esz xs hm
      split
      · rename_i e
        subst e
        obtain ⟨loc, A, cap, hg, hv, hlc, hol, hnc, hq⟩ := hs_open hs h hm
        have hlen : ((xs.drop off).take len).length = len := by simp; omega
        simp only [Rep, RepP]
        refine ⟨A, cap, by rw [hlen]; exact hv, by rw [hlen]; exact hlc, ?_⟩
        rcases hq with ⟨rfl, rfl, rfl, rfl⟩ | ⟨b, of, tot, us, T, rfl, hA, htot, hh, ht, hle, hr⟩
        · left; simp
        · by_cases h0 : (xs.drop off).take len = []
          · exact .inl h0
          · right
            have hl0 : len ≠ 0 := fun e => h0 (by rw [e]; simp)
            refine ⟨b, _, esz, hA.resolve_left (by omega), ?_⟩
            exact ((hr.drop off).take len).mono hV fun i y hy => cell_of hh hy
      · simp only [Rep]
    · simp only [Rep]
  case ref k off =>
    simp only [bor0]
    split
    · rename_i cs hm
      simp only [Rep] at h
      obtain ⟨b, hg, hv⟩ := h
      obtain ⟨s, hgs, hob⟩ := hs.obs _ _ hm
      rw [hg] at hgs
      cases hgs
      obtain ⟨us, T, hh, hr, h1⟩ := hob
      simp only [Rep, RepP]
      refine ⟨b, off, hv, ?_⟩
      have hc : RepC (fun b o => w.cell? ⟨b, o, none⟩) (fun o => w.cell? ⟨b, o, none⟩) 0 cs := RepC.of_vals (hr.mono hV) fun j y hy => by
        rw [Nat.zero_add]
        exact ⟨cell_of hh hy, h1 y (List.mem_of_getElem? hy)⟩
      have := hc.drop off
      rwa [Nat.zero_add] at this
    · simp only [Rep]
  case er k ver i off =>
    simp only [bor0]
    split
    · rename_i ver' esz xs hm
      split
      · rename_i e
        subst e
        split
        · rename_i c hc
          simp only [Rep] at h
          obtain ⟨_, ver2, esz', nn, loc, hg, hle', hq⟩ := h
          obtain ⟨s, hgs, hob⟩ := hs.obs _ _ hm
          rw [hg] at hgs
          cases hgs
          obtain ⟨rfl, rfl, rfl, hnone, hloc⟩ := hob
          obtain ⟨b, o', tot, rfl, hin, hv⟩ := hq rfl
          obtain ⟨us, T, hh, ht, hle, hr⟩ := hloc b o' tot rfl
          simp only [Rep, RepP]
          exact ⟨b, _, hv, ((hr.get hc).2.drop off).mono hV fun i y hy => cell_of hh hy⟩
        · simp only [Rep]
      · simp only [Rep]
    · simp only [Rep]
  case fn f caps =>
    simp only [bor0]
    cases hp : isPL caps with
    | true =>
      simp only [cond_true]
      have hp' : isP (.fn f caps) = true := hp
      exact ((h.pure hp').mono hV).rep _
    | false => simp only [cond_false, Rep]
  case tup xs => simp only [bor0, Rep]
  case dead => simp only [bor0, Rep]
  all_goals simp only [bor0, Rep] at h ⊢; exact h.mono hV
theorem bor0_repL (hs : Sat W0 V0 Own V G w μ) : ∀ {xs : List AV} {us : List Value}, RepL V G xs us → RepL (fun b o => w.cell? ⟨b, o, none⟩) (fun _ => none) (xs.map (bor0 μ)) us
  | [], us, h => by simpa [RepL] using h
  | x :: xs, us, h => by
    simp only [List.map_cons, RepL] at h ⊢
    obtain ⟨y, r, e, p, q⟩ := h
    exact ⟨y, r, e, bor0_rep hs p, bor0_repL hs q⟩
theorem bor_rep {x : AV} {val : Value} (hs : Sat W0 V0 Own V G w μ) (h : Rep V G x val) : Rep (fun b o => w.cell? ⟨b, o, none⟩) (fun _ => none) (bor μ x) val := by
  cases x
  case fn f caps =>
    simp only [bor, Rep] at h ⊢
    obtain ⟨cv, e, r⟩ := h
    exact ⟨cv, e, bor0_repL hs r⟩
  all_goals exact bor0_rep hs h
theorem bor_repL (hs : Sat W0 V0 Own V G w μ) : ∀ {xs : List AV} {us : List Value}, RepL V G xs us → RepL (fun b o => w.cell? ⟨b, o, none⟩) (fun _ => none) (xs.map (bor μ)) us
  | [], us, h => by simpa [RepL] using h
  | x :: xs, us, h => by
    simp only [List.map_cons, RepL] at h ⊢
    obtain ⟨y, r, e, p, q⟩ := h
    exact ⟨y, r, e, bor_rep hs p, bor_repL hs q⟩
theorem scalar_rep {V' : View} {G' : Ctx} {x : AV} {val : Value} (hx : scalar x = true) (h : Rep V G x val) : Rep V' G' x val := by
  cases x <;> simp [scalar] at hx <;> exact h
theorem scalars_rep {V' : View} {G' : Ctx} : ∀ {xs : List AV} {us : List Value}, xs.all scalar = true → RepL V G xs us → RepL V' G' xs us
  | [], us, _, h => by simpa [RepL] using h
  | x :: xs, us, hx, h => by
    simp only [List.all_cons, Bool.and_eq_true] at hx
    simp only [RepL] at h ⊢
    obtain ⟨y, r, e, p, q⟩ := h
    exact ⟨y, r, e, scalar_rep hx.1 p, scalars_rep hx.2 q⟩
theorem scalars_res {V' : View} {G' : Ctx} {res : List AV} {val : Value} (hx : res.all scalar = true) (h : RepRes V G res val) : RepRes V' G' res val := by
  match res, h with
  | [], h => exact h
  | [x], h =>
    simp only [List.all_cons, List.all_nil, Bool.and_true] at hx
    exact scalar_rep hx h
  | x :: y :: r, h =>
    obtain ⟨us, e, p⟩ := h
    exact ⟨us, e, scalars_rep hx p⟩
theorem Sat.lent (hs : Sat W0 V0 Own V G w μ) : Sat w (fun b o => w.cell? ⟨b, o, none⟩) (Ctx.owns fun _ => none) (fun b o => w.cell? ⟨b, o, none⟩) (fun _ => none) w (fun k => ([] : List Ob)[k]?) where
  keep := ⟨rfl, rfl, rfl, Nat.le_refl _, fun _ _ _ => rfl⟩
  view := fun b o v h => h
  vle := View.le_refl _
  vnew := fun _ _ _ => rfl
  obs := fun k ob e => by simp at e
  dom := fun k s e => by cases e
  priv := fun k s b e => by cases e
  inj := fun k k' s s' b e => by cases e
  loc := fun k s b e => by cases e
theorem Sat.back (hs : Sat W0 V0 Own V G w μ) {V' : View} {G' : Ctx} {w' : World} (h : Sat w (fun b o => w.cell? ⟨b, o, none⟩) (Ctx.owns fun _ => none) V' G' w' (fun k => ([] : List Ob)[k]?)) : Sat W0 V0 Own V G w' μ := by
  have hown : ∀ b, ¬ (Ctx.owns (fun _ => none)).own b := fun b ⟨k, s, e, _⟩ => by cases e
  have hblk : ∀ b, b < w.heap.size → w'.heap[b]? = w.heap[b]? := fun b hb => h.keep.block b hb (hown b)
  refine ⟨?_, fun b o v e => ?_, hs.vle, hs.vnew, fun k ob e => ?_, hs.dom, fun k s b e hb => ?_, hs.inj, hs.loc⟩
  · exact hs.keep.of_le h.keep.os h.keep.tape h.keep.output h.keep.size fun b h1 _ => hblk b (Nat.lt_of_lt_of_le h1 hs.keep.size)
  · exact h.view b o v (h.vle b o v (hs.view b o v e))
  · obtain ⟨s, e', q⟩ := hs.obs k ob e
    exact ⟨s, e', q.mono (View.le_refl _) (Ctx.le_refl _) fun b hb => hblk b (hs.priv k s b e' hb).1⟩
  · obtain ⟨p1, p2, p3⟩ := hs.priv k s b e hb
    exact ⟨Nat.lt_of_lt_of_le p1 h.keep.size, p2, p3⟩
theorem snd_callb {d : Option Nat} {c : Cal} {args : List Arg} (hd : o.dst = d) (hok : okOp' P o (.callb d c args) = true) (h : opR P (.callb d c args) ρ μ v u acc) (hA : ArgsOk V G ρ a (AOp.callb d c args).args) (hs : Sat W0 V0 Own V G w μ) :
    Done W0 V0 Own P o a w V G μ v u := by
  obtain ⟨rfl, f, caps, res, hcal, rfl, hp, ⟨hf, hctr⟩, hsc, rfl⟩ := h
  simp only [okOp'] at hok
  split at hok
  · rename_i y as ts ho
    simp only [Bool.and_eq_true] at hok
    have hA' : ArgsOk V G ρ a (calArgs c args) := by cases c <;> exact hA
    obtain ⟨vs, hr, hrep⟩ := run_call (w := w) (args := args) ho hok.1 hf hcal hA' hok.2
    intro next Q hn
    unfold Oper.wp
    rw [hr, Oper.upon_enter]
    refine (hctr _ (fun _ => none) w vs hs.lent (bor_repL hs hrep)).mono ?_
    rintro e w' ⟨V', G', val, res', obs', ⟨rfl, rfl⟩, rfl, hres, hle, hs'⟩
    exact hn val w' V G (scalars_res hsc hres).rep (View.le_refl _) (Ctx.le_refl _) (hs.back hs')
  · cases hok
/-- All operations. -/
theorem op_sound {N : Nat} {x : AOp} (hok : okOp P N o x = true) (h : opR P x ρ μ v u acc) (hA : ArgsOk V G ρ a x.args) (hs : Sat W0 V0 Own V G w μ) : Done W0 V0 Own P o a w V G μ v u := by
  simp only [okOp, Bool.and_eq_true, decide_eq_true_eq] at hok
  obtain ⟨⟨hd, hN⟩, hok⟩ := hok
  cases x
  case mov => exact snd_mov hok h hA hs
  case bin => exact snd_bin hok h hA hs
  case eq => exact snd_eq hok h hA hs
  case un => exact snd_un hok h hA hs
  case conv => exact snd_conv hok h hA hs
  case len => exact snd_len hok h hA hs
  case slen => exact snd_slen hok h hA hs
  case idx => exact snd_idx hok h hA hs
  case aix => exact snd_aix hok h hA hs
  case fad => exact snd_fad hok h hA hs
  case load => exact snd_load hok h hA hs
  case store => exact snd_store hd hok h hA hs
  case boxp => exact snd_boxp hok h hA hs
  case boxo => exact snd_boxo hok h hA hs
  case boxm => exact snd_boxm hok h hA hs
  case alloc => exact snd_alloc hok h hA hs
  case alloca => exact snd_alloca hok h hA hs
  case nilarr => exact snd_nilarr hok h hA hs
  case build => exact snd_build hok h hA hs
  case bslp => exact snd_bslp hok h hA hs
  case bslo => exact snd_bslo hok h hA hs
  case slc => exact snd_slc hok h hA hs
  case sslc => exact snd_sslc hok h hA hs
  case slc3 => exact snd_slc3 hok h hA hs
  case sidx => exact snd_sidx hok h hA hs
  case mkfn => exact snd_mkfn hok h hA hs
  case ext => exact snd_ext hok h hA hs
  case pick => exact snd_pick hok h hA hs
  case callf => exact snd_callf hd hok h hA hs
  case callb => exact snd_callb hd hok h hA hs
  case appd => exact snd_appd hok h hA hs
  case clear => exact snd_clear hd hok h hA hs
  case mxn => exact snd_mxn hok h hA hs
  case field => exact snd_field hok h hA hs
  case nilc => exact snd_nilc hok h hA hs
  case make => exact snd_make hok h hA hs
end
end Go.AM
