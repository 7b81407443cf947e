/- The abstract machine's operations are the program's: clear, make, calls; and all of them together. -/
import Derived.Test.YtmmgdilhbkklpaaAMO
namespace Go.AM
open Go
set_option linter.unusedVariables false
set_option linter.unusedSimpArgs false
section
variable {W0 : World} {V0 : View} {Own : Fra} {P : Program} {o : Oper} {a : Act} {w : World} {V : View} {G : Ctx} {μ : Nat → Option Ob} {ρ : Arg → AV} {v : AV} {u : List (Nat × Ob)} {acc : Acc}
theorem flatten_rep {zs : List AV} {us : List Value} (h : RepPL V zs us) (n : Nat) : RepPL V (List.replicate n zs).flatten (List.replicate n us).flatten := by
  induction n with
  | zero => simp [RepPL]
  | succ n ih =>
    rw [List.replicate_succ, List.replicate_succ, List.flatten_cons, List.flatten_cons]
    exact h.append ih
theorem get_flatten_replicate {us : List Value} : ∀ (n i : Nat), i < n * us.length → (List.replicate n us).flatten[i]? = us[i % us.length]?
  | 0, i, h => by simp at h
  | n + 1, i, h => by
    rw [List.replicate_succ, List.flatten_cons]
    rcases Nat.lt_or_ge i us.length with h1 | h1
    · rw [List.getElem?_append_left h1, Nat.mod_eq_of_lt h1]
    · rw [List.getElem?_append_right h1, get_flatten_replicate n (i - us.length) (by rw [Nat.add_mul] at h; omega)]
      rw [Nat.mod_eq_sub_mod h1]
theorem zeros_eq (z : Array Value) (n : Nat) : (Array.range (n * z.size)).map (z[· % z.size]!) = (List.replicate n z.toList).flatten.toArray := by
  rw [← Array.toList_inj]
  apply List.ext_getElem?
  intro i
  have hlen : (List.replicate n z.toList).flatten.length = n * z.size := by simp
  rcases Nat.lt_or_ge i (n * z.size) with h | h
  · have hz : 0 < z.size := by
      rcases Nat.eq_zero_or_pos z.size with h0 | h0
      · rw [h0] at h; simp at h
      · exact h0
    rw [show (List.replicate n z.toList).flatten.toArray.toList = (List.replicate n z.toList).flatten from rfl, get_flatten_replicate n i (by simpa using h)]
    have hm := Nat.mod_lt i hz
    simp [h, hm]
  · rw [List.getElem?_eq_none (by simpa using h), List.getElem?_eq_none (by simpa using h)]
theorem snd_clear {x : Arg} {zero : List AV} (hd : o.dst = none) (hok : okOp' P o (.clear x zero) = true) (h : opR P (.clear x zero) ρ μ v u acc) (hA : ArgsOk V G ρ a (AOp.clear x zero).args) (hs : Sat W0 V0 Own V G w μ) :
    Done W0 V0 Own P o a w V G μ v u := by
  obtain ⟨rfl, k, ver, off, len, esz, xs, he, hm, hze, hzp, hzo, rfl, rfl⟩ := h
  simp only [okOp'] at hok
  split at hok
  · rename_i as ts ho
    simp only [Bool.and_eq_true] at hok
    obtain ⟨h1, h2⟩ := hok
    obtain ⟨y1, hy, h3⟩ := okAs_one h1
    obtain rfl : as = #[y1] := by rw [← Array.toList_inj, hy]
    split at h2
    · rename_i t hts
      obtain rfl : ts = #[t] := by rw [← Array.toList_inj, hts]
      split at h2
      · rename_i e hu
        obtain ⟨i, z, hi, hz, hc, hl, hone⟩ := okZero_spec h2
        have hx := hA x (by simp [AOp.args]) _ h3
        rw [he] at hx
        obtain ⟨loc, A, cap, hg, hv, hlc, hol, hnc, hq⟩ := hs_open hs hx hm
        have hrz := okCL_rep V hc
        have hzl : z.cells.size = esz := by
          have := hrz.length
          rw [Array.length_toList] at this
          omega
        have hdst : ∀ (next : Act → World → Prop) (val : Value) (w' : World), next a w' → next (a.put o.dst val) w' := fun next val w' h => by rw [hd]; exact h
        have fin : ∀ (w' : World) (G' : Ctx), (Builtin.clear_ #[t] o.type #[.slice A len cap]).run P w = .ok (.tuple #[]) w' → Sat W0 V0 Own V G' w' (updO μ [(k, .arr ver esz (xs.take off ++ List.replicate len zero ++ xs.drop (off + len)))]) → G.le G' →
            Done W0 V0 Own P o a w V G μ .dead [(k, .arr ver esz (xs.take off ++ List.replicate len zero ++ xs.drop (off + len)))] := by
          intro w' G' hr hs' hle
          refine done_w hs' (val := .tuple #[]) ?_ (by simp only [Rep]) (View.le_refl _) hle
          rw [execOp, ho]
          simp [resolve, invoke, builtin, hv, hr]
        by_cases hl0 : len = 0
        · subst hl0
          have hsame : xs.take off ++ List.replicate 0 zero ++ xs.drop (off + 0) = xs := by simp
          have hupd : updO μ [(k, .arr ver esz (xs.take off ++ List.replicate 0 zero ++ xs.drop (off + 0)))] = μ := by
            funext j
            simp only [updO, hsame]
            by_cases hj : j = k
            · rw [if_pos hj, hj, hm]
            · rw [if_neg hj]
          refine fin w G ?_ (by rw [hupd]; exact hs) (Ctx.le_refl _)
          cases A with
          | none => simp [Builtin.clear_, run_und hu]
          | some A => simp [Builtin.clear_, run_und hu]
        · rcases hq with ⟨rfl, rfl, rfl, rfl⟩ | ⟨b, of, tot, us, T, rfl, hA', htot, hh, ht, hle, hr⟩
          · omega
          · have hA' := hA'.resolve_left (by omega)
            subst hA'
            have hmul : (off + len) * esz ≤ xs.length * esz := Nat.mul_le_mul_right _ hol
            rw [Nat.add_mul] at hmul
            have hnews : RepPL V (List.replicate len zero).flatten (List.replicate len z.cells.toList).flatten := flatten_rep hrz len
            have hnl : (List.replicate len z.cells.toList).flatten.length = len * esz := by simp [hzl]
            have h1n : ∀ y ∈ (List.replicate len z.cells.toList).flatten, y.oneCell' = true := by
              intro y hy
              obtain ⟨l, hl, hy⟩ := List.mem_flatten.1 hy
              rw [List.eq_of_mem_replicate hl] at hy
              exact oneAL_get hrz hone y hy
            have hover := hr.over hnews (fun c hc => by rw [List.eq_of_mem_replicate hc]; exact hze) h1n (i := off) (by omega) (by rw [List.length_replicate, Nat.add_mul]; omega)
            rw [List.length_replicate] at hover
            have hst := run_storeCells_at (P := P) b (of + off * esz) T (List.replicate len z.cells.toList).flatten 0 us.toArray w hh (by rw [hnl]; simp; omega) h1n
            simp only [Nat.add_zero] at hst
            have hw := hs.rearr (ver' := ver) (n' := xs.length) (loc' := some (b, of, tot)) (w' := w.setRow b (splice us (of + off * esz) (List.replicate len z.cells.toList).flatten).toArray) (ob := .arr ver esz (xs.take off ++ List.replicate len zero ++ xs.drop (off + len))) hg (.inr ⟨rfl, rfl, rfl⟩)
              (setRow_keep hs.keep (hs.priv k _ b hg rfl).2.1) (by rw [setRow_size]; exact Nat.le_refl _) (fun b' hne _ => setRow_other w b b' _ (fun e => hne (by rw [e]; rfl))) (fun b' hb' => .inl hb') (by
                simp only [ObOk]
                refine ⟨trivial, trivial, by simp; omega, (fun h => by cases h), fun b2 o2 tot2 h => ?_⟩
                cases h
                exact ⟨_, T, setRow_heap w b _ _ T _ hh, by rw [splice_length (by rw [hnl]; omega), ht], hle, hover⟩)
            refine fin _ _ ?_ hw.1 hw.2
            simp only [splice]
            obtain ⟨n, rfl⟩ : ∃ n, len = n + 1 := ⟨len - 1, by omega⟩
            simp only [Builtin.clear_]
            simp [run_und hu, zeroValue, typeInfo, hi, hz, Builtin.zeroCells, zeros_eq, hst]
      · cases h2
    · cases h2
  · cases hok
theorem wrap_in {n : Int} (h1 : -9223372036854775808 ≤ n) (h2 : n ≤ 9223372036854775807) : IntKind.i64.wrap n = n := by
  simp only [IntKind.wrap, IntKind.bits, IntKind.signed]
  simp
  omega
theorem snd_make {d key esz bytes : Nat} {zero : List AV} {x y : Arg} (hok : okOp' P o (.make d key esz bytes zero x y) = true) (h : opR P (.make d key esz bytes zero x y) ρ μ v u acc) (hA : ArgsOk V G ρ a (AOp.make d key esz bytes zero x y).args) (hs : Sat W0 V0 Own V G w μ) :
    Done W0 V0 Own P o a w V G μ v u := by
  obtain ⟨nk, ck, z, zc, he, he', rfl, h0, hb, hze, hm, rfl, rfl, rfl⟩ := h
  simp only [okOp'] at hok
  split at hok
  · rename_i t px py ho
    simp only [Bool.and_eq_true] at hok
    obtain ⟨⟨⟨⟨h1, h2⟩, h3⟩, h4⟩, h5⟩ := hok
    obtain ⟨e, hu, hn, hi'⟩ := okSl_spec h3
    obtain ⟨e', i, zv, hu', hi, hby, hz, hzs, hbpos⟩ := okBytes_spec h4
    rw [hu] at hu'
    cases hu'
    rw [hu] at h5
    obtain ⟨i2, z2, hi2, hz2, hc, hl, hone⟩ := okZero_spec h5
    rw [hi] at hi2
    cases hi2
    rw [hz] at hz2
    cases hz2
    have hx := hA x (by simp [AOp.args]) _ h1
    have hy := hA y (by simp [AOp.args]) _ h2
    rw [he] at hx
    rw [he'] at hy
    have hx := rep_int hx
    have hy := rep_int hy
    have hisz : i.size = esz := by rw [← hn]; simp [Program.cellsOf, hi]
    have hbz : z ≤ 140737488355328 := by
      have h6 : z * 1 ≤ z * (bytes : Int) := Int.mul_le_mul_of_nonneg_left (by omega) h0
      omega
    have hw : IntKind.i64.wrap z = z := wrap_in (by omega) (by omega)
    have hrz := okCL_rep V hc
    have hrun : (execOp a.eval o).run P w = .ok (.value (.slice (some ⟨w.heap.size, 0, none⟩) z.toNat z.toNat)) (w.alloc (.cells (List.replicate z.toNat zv.cells.toList).flatten.toArray e)) := by
      rw [execOp, ho]
      refine run_v ?_
      have hneg : ¬ z < 0 := by omega
      have hnl : ¬ ((bytes : Int) * z > 2 ^ 48) := by
        rw [Int.mul_comm]
        omega
      simp only [Instr.makeSlice, Sem.run_bind, run_und hu, Result.andThen_ok, hx, hy, asInt, asIntOf, Sem.run_pure, typeInfo, run_program, hi, hw, hby]
      simp only [hneg, hnl, decide_false, Bool.or_self, Bool.false_eq_true, if_false, show ¬ z > z by omega, Sem.run_pure, Result.andThen_ok, run_askRoom, Sem.run_bind, run_size hi', hn]
      have hz0 : (if z.toNat * esz = 0 then Pure.pure #[] else (do Pure.pure (← zeroValue e).cells) : Sem (Array Value)).run P w = .ok (if z.toNat * esz = 0 then #[] else zv.cells) w := by
        split
        · rfl
        · simp [zeroValue, typeInfo, hi, hz]
      by_cases hzz : z.toNat * esz = 0
      · simp only [hzz, if_true, Sem.run_pure, Result.andThen_ok]
        have : (List.replicate z.toNat zv.cells.toList).flatten = [] := by
          apply List.eq_nil_of_length_eq_zero
          simp [hzs, hisz, hzz]
        rw [this]
        have hr0 : Array.range 0 = #[] := Array.eq_empty_of_size_eq_zero (by simp)
        simp [newRow, hr0]
      · simp only [hzz, if_false, Sem.run_bind, zeroValue, typeInfo, run_program, Result.andThen_ok, hi, Sem.run_pure, hz]
        rw [show z.toNat * esz = z.toNat * zv.cells.size by rw [hzs, hisz], zeros_eq]
        simp [newRow]
    have hone' : ∀ y ∈ (List.replicate z.toNat zv.cells.toList).flatten, y.oneCell' = true := by
      intro y hy
      obtain ⟨l, hl, hy⟩ := List.mem_flatten.1 hy
      rw [List.eq_of_mem_replicate hl] at hy
      exact oneAL_get hrz hone y hy
    have hlen : (List.replicate z.toNat zv.cells.toList).flatten.length = z.toNat * esz := by simp [hzs, hisz]
    have hle := Ctx.le_new (s := .arr 0 esz z.toNat (some (w.heap.size, 0, z.toNat * esz))) (hs.fresh hm)
    have hs' := hs.newOb (s := .arr 0 esz z.toNat (some (w.heap.size, 0, z.toNat * esz))) (ob := .arr 0 esz (List.replicate z.toNat zero)) (.cells (List.replicate z.toNat zv.cells.toList).flatten.toArray e) hm rfl (by
      simp only [ObOk]
      refine ⟨trivial, trivial, by simp, (fun h => by cases h), fun b o tot h => ?_⟩
      cases h
      refine ⟨_, e, heap_alloc_new, hlen, by omega, RepR.of_flat (flatten_rep hrz _) (fun c hc => by rw [List.eq_of_mem_replicate hc]; exact hze) fun j y hy => ?_⟩
      rw [Nat.zero_add]
      exact ⟨hy, hone' y (List.mem_of_getElem? hy)⟩)
    refine done_w (μ := μ) (u := [(key, .arr 0 esz (List.replicate z.toNat zero))]) hs' hrun ?_ (View.le_refl _) hle
    exact rep_hs_new ⟨_, z.toNat, rfl, Nat.le_refl _, by omega, by omega, .inr (by simp), by simp⟩
  · cases hok
/-! Calls of functions that write nothing that is there. -/
theorem Sat.callee0 (hs : Sat W0 V0 Own V G w μ) : Sat w V (Ctx.owns fun _ => none) V (fun _ => none) w (fun k => ([] : List Ob)[k]?) where
  keep := ⟨rfl, rfl, rfl, Nat.le_refl _, fun _ _ _ => rfl⟩
  view := hs.view
  vle := View.le_refl _
  vnew := fun _ _ _ => rfl
  obs := fun k ob e => by simp at e
  dom := fun k s e => by cases e
  priv := fun k s b e => by cases e
  inj := fun k k' s s' b e => by cases e
  loc := fun k s b e => by cases e
theorem Sat.after0 (hs : Sat W0 V0 Own V G w μ) {V' : View} {G' : Ctx} {w' : World} (h : Sat w V (Ctx.owns fun _ => none) V' G' w' (fun k => ([] : List Ob)[k]?)) :
    Sat W0 V0 Own V' G w' μ ∧ G'.le G := by
  have hown : ∀ b, ¬ (Ctx.owns (fun _ => none)).own b := fun b ⟨k, s, e, _⟩ => by cases e
  have hblk : ∀ b, b < w.heap.size → w'.heap[b]? = w.heap[b]? := fun b hb => h.keep.block b hb (hown b)
  refine ⟨⟨?_, h.view, View.le_trans hs.vle h.vle, fun b o hb => ?_, fun k ob e => ?_, hs.dom, fun k s b e hb => ?_, hs.inj, hs.loc⟩, fun k s e => ?_⟩
  · exact hs.keep.of_le h.keep.os h.keep.tape h.keep.output h.keep.size fun b h1 _ => hblk b (Nat.lt_of_lt_of_le h1 hs.keep.size)
  · rw [h.vnew b o (Nat.lt_of_lt_of_le hb hs.keep.size)]
    exact hs.vnew b o hb
  · obtain ⟨s, e', q⟩ := hs.obs k ob e
    exact ⟨s, e', q.mono h.vle (Ctx.le_refl _) fun b hb => hblk b (hs.priv k s b e' hb).1⟩
  · obtain ⟨p1, p2, p3⟩ := hs.priv k s b e hb
    refine ⟨Nat.lt_of_lt_of_le p1 h.keep.size, p2, fun o => ?_⟩
    rw [h.vnew b o p1]
    exact p3 o
  · obtain ⟨ob, e'⟩ := h.dom k s e
    simp at e'
theorem run_enter {f : Nat} {args : Array Value} (hf : okFn P f = true) : (callFunc f args).run P w = .ok (.enter f args) w := by
  unfold okFn at hf
  split at hf
  · rename_i fn hfn
    simp only [Bool.and_eq_true, bne_iff_ne, ne_eq] at hf
    have hb : fn.body.isNone = false := by cases hx : fn.body <;> simp [hx] at hf ⊢
    have hn : (fn.name == "runtime.NumGoroutine") = false := by simp [hf.2]
    unfold callFunc
    simp only [Sem.run_bind, run_program, Result.andThen_ok, hfn, hn, hb, Bool.false_eq_true, if_false, Sem.run_pure]
  · cases hf
def calArgs : Cal → List Arg → List Arg
  | .st _, args => args
  | .dy x, args => x :: args
  | .iv x _ _ _, args => x :: args
theorem run_call {c : Cal} {f : Nat} {caps : List AV} {args : List Arg} (hc : okCall P c args o.op = true) (hf : okFn P f = true) (hcal : callee ρ c = some (f, caps)) (hco : calOk P ρ c)
    (hA : ArgsOk V G ρ a (calArgs c args)) :
    ∃ vs : List Value, (execOp a.eval o).run P w = .ok (.enter f vs.toArray) w ∧ RepL V G (calV ρ c args ++ caps) vs := by
  cases c with
  | st g =>
    simp only [okCall] at hc
    split at hc
    · rename_i y as ts ho
      simp only [Bool.and_eq_true] at hc
      obtain ⟨hc, has⟩ := hc
      cases y with
      | func g' =>
        simp only [okCal] at hc
        obtain rfl := Nat.eq_of_beq_eq_true hc
        simp only [callee, Option.some.injEq, Prod.mk.injEq] at hcal
        obtain ⟨rfl, rfl⟩ := hcal
        refine ⟨as.toList.map a.eval, ?_, by rw [List.append_nil]; exact okAs_rep has hA⟩
        rw [execOp, ho]
        simp only [resolve, Act.eval, Deferred.ofValue, Sem.run_bind, Sem.run_pure, Result.andThen_ok, invoke]
        rw [show (#[] ++ Array.map a.eval as ++ #[] : Array Value) = (as.toList.map a.eval).toArray by rw [← Array.toList_inj]; simp]
        exact run_enter hf
      | _ => simp [okCal] at hc
    · cases hc
  | dy x =>
    simp only [okCall] at hc
    split at hc
    · rename_i y as ts ho
      simp only [Bool.and_eq_true] at hc
      obtain ⟨hc, has⟩ := hc
      simp only [okCal] at hc
      have hx := hA x List.mem_cons_self y hc
      simp only [callee] at hcal
      split at hcal
      · rename_i f' caps' he
        cases hcal
        rw [he] at hx
        simp only [Rep] at hx
        obtain ⟨cv, hv, hr⟩ := hx
        refine ⟨as.toList.map a.eval ++ cv, ?_, (okAs_rep has fun z hz => hA z (List.mem_cons_of_mem _ hz)).append hr⟩
        rw [execOp, ho]
        simp only [resolve, hv, Deferred.ofValue, Sem.run_bind, Sem.run_pure, Result.andThen_ok, invoke]
        rw [show (#[] ++ Array.map a.eval as ++ cv.toArray : Array Value) = (as.toList.map a.eval ++ cv).toArray by rw [← Array.toList_inj]; simp]
        exact run_enter hf
      · cases hcal
    · cases hc
  | iv x t nm g =>
    simp only [okCall] at hc
    split at hc
    · rename_i y nm' as ts ho
      simp only [Bool.and_eq_true, decide_eq_true_eq] at hc
      obtain ⟨⟨hc, rfl⟩, has⟩ := hc
      have hx := hA x List.mem_cons_self y hc
      simp only [callee, Option.some.injEq, Prod.mk.injEq] at hcal
      obtain ⟨rfl, rfl⟩ := hcal
      obtain ⟨hif, hm⟩ := hco
      obtain ⟨q, hv, hr⟩ : ∃ q : Option Addr, a.eval y = .iface t (.pointer q) ∧ Rep V G (unif (ρ x)) (.pointer q) := by
        cases hz : ρ x <;> rw [hz] at hif hx <;> simp only [ifOk, Bool.and_eq_true] at hif <;> try (cases hif; done)
        case mif t' z =>
          obtain ⟨h1, h2⟩ := hif
          have := Nat.eq_of_beq_eq_true h1
          subst this
          simp only [Rep] at hx
          obtain ⟨u, hu, hzr⟩ := hx
          cases z <;> simp [ptrA] at h2
          case rp cs =>
            have hzr' := hzr
            simp only [Rep, RepP] at hzr'
            obtain ⟨b, o', rfl, _⟩ := hzr'
            exact ⟨_, hu, hzr⟩
          case ref k off =>
            have hzr' := hzr
            simp only [Rep] at hzr'
            obtain ⟨b, _, rfl⟩ := hzr'
            exact ⟨_, hu, hzr⟩
          case er =>
            have hzr' := hzr
            simp only [Rep] at hzr'
            obtain ⟨⟨b, o', rfl⟩, _⟩ := hzr'
            exact ⟨_, hu, hzr⟩
        case ifc t' z =>
          obtain ⟨h1, h2⟩ := hif
          have := Nat.eq_of_beq_eq_true h1
          subst this
          simp only [Rep, RepP] at hx
          obtain ⟨u, hu, hzr⟩ := hx
          cases z <;> simp [ptrA] at h2
          case rp cs =>
            have hzr' := hzr
            simp only [RepP] at hzr'
            obtain ⟨b, o', rfl, _⟩ := hzr'
            exact ⟨_, hu, hzr.rep G⟩
          case ref => simp only [RepP] at hzr
          case er => simp only [RepP] at hzr
      refine ⟨.pointer q :: as.toList.map a.eval, ?_, ?_⟩
      · rw [execOp, ho]
        simp only [resolve, Sem.run_bind, Sem.run_pure, Result.andThen_ok, invoke, hv]
        have e0 : (#[Value.iface t (.pointer q)] ++ Array.map a.eval as)[0]? = some (Value.iface t (.pointer q)) := by rw [Array.getElem?_append_left (by simp)]; rfl
        have e1 : (#[Value.iface t (.pointer q)] ++ Array.map a.eval as).extract 1 (#[Value.iface t (.pointer q)] ++ Array.map a.eval as).size = Array.map a.eval as := by
          rw [← Array.toList_inj]; simp [List.take_of_length_le]
        simp only [e0, e1, callMethod, Sem.run_bind, run_program, Result.andThen_ok, hm q w]
        rw [show (#[Value.pointer q] ++ Array.map a.eval as : Array Value) = (Value.pointer q :: as.toList.map a.eval).toArray by rw [← Array.toList_inj]; simp]
        exact run_enter hf
      · rw [List.append_nil]
        simp only [calV, RepL]
        exact ⟨_, _, rfl, hr, okAs_rep has fun z hz => hA z (List.mem_cons_of_mem _ hz)⟩
    · cases hc
theorem isPL_append : ∀ {x y : List AV}, isPL x = true → isPL y = true → isPL (x ++ y) = true
  | [], y, _, h => h
  | c :: x, y, h, h' => by
    simp only [isPL, List.cons_append, Bool.and_eq_true] at h ⊢
    exact ⟨h.1, isPL_append h.2 h'⟩
theorem snd_callf {d : Option Nat} {c : Cal} {args : List Arg} (hd : o.dst = d) (hok : okOp' P o (.callf d c args) = true) (h : opR P (.callf d c args) ρ μ v u acc) (hA : ArgsOk V G ρ a (AOp.callf d c args).args) (hs : Sat W0 V0 Own V G w μ) :
    Done W0 V0 Own P o a w V G μ v u := by
  obtain ⟨rfl, rfl, f, caps, res, hcal, hco, hp1, hp2, ⟨hf, hctr⟩, rfl⟩ := h
  simp only [okOp'] at hok
  have hA' : ArgsOk V G ρ a (calArgs c args) := by cases c <;> exact hA
  obtain ⟨vs, hr, hrep⟩ := run_call (w := w) (args := args) hok hf hcal hco hA'
  intro next Q hn
  unfold Oper.wp
  rw [hr, Oper.upon_enter]
  refine (hctr V (fun _ => none) w vs hs.callee0 ((hrep.pure (isPL_append hp1 hp2)).rep _)).mono ?_
  rintro e w' ⟨V', G', val, res', obs', ⟨rfl, rfl⟩, rfl, hres, hle, hs'⟩
  obtain ⟨hs2, hle2⟩ := hs.after0 hs'
  exact hn val w' V' G (hres.rep.mono (View.le_refl _) hle2) hs'.vle (Ctx.le_refl _) hs2
theorem bor1_rep {x : AV} {val : Value} (hs : Sat W0 V0 Own V G w μ) (h : Rep V G x val) : Rep (fun b o => w.cell? ⟨b, o, none⟩) (fun _ => none) (bor1 μ x) val := by
  have hV : V.le (fun b o => w.cell? ⟨b, o, none⟩) := hs.view
  cases x
  case hs k ver off len =>
    simp only [bor1]
    split
    · rename_i ver' esz xs hm
      split
      · rename_i e
        subst e
        obtain ⟨loc, A, cap, hg, hv, hlc, hol, hnc, hq⟩ := hs_open hs h hm
        have hlen : ((xs.drop off).take len).length = len := by simp; omega
        simp only [Rep, RepP]
        refine ⟨A, cap, by rw [hlen]; exact hv, by rw [hlen]; exact hlc, ?_⟩
        rcases hq with ⟨rfl, rfl, rfl, rfl⟩ | ⟨b, of, tot, us, T, rfl, hA, htot, hh, ht, hle, hr⟩
        · left; simp
        · by_cases h0 : (xs.drop off).take len = []
          · exact .inl h0
          · right
            have hl0 : len ≠ 0 := fun e => h0 (by rw [e]; simp)
            refine ⟨b, _, esz, hA.resolve_left (by omega), ?_⟩
            exact ((hr.drop off).take len).mono hV fun i y hy => cell_of hh hy
      · simp only [Rep]
    · simp only [Rep]
  case ref k off =>
    simp only [bor1]
    split
    · rename_i cs hm
      simp only [Rep] at h
      obtain ⟨b, hg, hv⟩ := h
      obtain ⟨s, hgs, hob⟩ := hs.obs _ _ hm
      rw [hg] at hgs
      cases hgs
      obtain ⟨us, T, hh, hr, h1⟩ := hob
      simp only [Rep, RepP]
      refine ⟨b, off, hv, ?_⟩
      have hc : RepC (fun b o => w.cell? ⟨b, o, none⟩) (fun o => w.cell? ⟨b, o, none⟩) 0 cs := RepC.of_vals (hr.mono hV) fun j y hy => by
        rw [Nat.zero_add]
        exact ⟨cell_of hh hy, h1 y (List.mem_of_getElem? hy)⟩
      have := hc.drop off
      rwa [Nat.zero_add] at this
    · simp only [Rep]
  case er k ver i off =>
    simp only [bor1]
    split
    · rename_i ver' esz xs hm
      split
      · rename_i e
        subst e
        split
        · rename_i c hc
          simp only [Rep] at h
          obtain ⟨_, ver2, esz', nn, loc, hg, hle', hq⟩ := h
          obtain ⟨s, hgs, hob⟩ := hs.obs _ _ hm
          rw [hg] at hgs
          cases hgs
          obtain ⟨rfl, rfl, rfl, hnone, hloc⟩ := hob
          obtain ⟨b, o', tot, rfl, hin, hv⟩ := hq rfl
          obtain ⟨us, T, hh, ht, hle, hr⟩ := hloc b o' tot rfl
          simp only [Rep, RepP]
          exact ⟨b, _, hv, ((hr.get hc).2.drop off).mono hV fun i y hy => cell_of hh hy⟩
        · simp only [Rep]
      · simp only [Rep]
    · simp only [Rep]
  case fn f caps =>
    simp only [bor1]
    cases hp : isPL caps with
    | true =>
      simp only [cond_true]
      have hp' : isP (.fn f caps) = true := hp
      exact ((h.pure hp').mono hV).rep _
    | false => simp only [cond_false, Rep]
  case tup xs => simp only [bor1, Rep]
  case mag xs => simp only [bor1, Rep]
  case mif t x => simp only [bor1, Rep]
  case dead => simp only [bor1, Rep]
  all_goals simp only [bor1, Rep] at h ⊢; exact h.mono hV
theorem bor1_repL (hs : Sat W0 V0 Own V G w μ) : ∀ {xs : List AV} {us : List Value}, RepL V G xs us → RepL (fun b o => w.cell? ⟨b, o, none⟩) (fun _ => none) (xs.map (bor1 μ)) us
  | [], us, h => by simpa [RepL] using h
  | x :: xs, us, h => by
    simp only [List.map_cons, RepL] at h ⊢
    obtain ⟨y, r, e, p, q⟩ := h
    exact ⟨y, r, e, bor1_rep hs p, bor1_repL hs q⟩
theorem bor2_rep {x : AV} {val : Value} (hs : Sat W0 V0 Own V G w μ) (h : Rep V G x val) : Rep (fun b o => w.cell? ⟨b, o, none⟩) (fun _ => none) (bor2 μ x) val := by
  cases x
  case ref k off =>
    simp only [bor2]
    split
    · rename_i cs hm
      unfold borC
      cases hp : isPL (cs.map (bor1 μ)) && oneAL (cs.map (bor1 μ)) with
      | false => simp only [cond_false, Rep]
      | true =>
        simp only [Bool.and_eq_true] at hp
        simp only [cond_true, Rep, RepP]
        simp only [Rep] at h
        obtain ⟨b, hg, hv⟩ := h
        obtain ⟨s, hgs, hob⟩ := hs.obs _ _ hm
        rw [hg] at hgs
        cases hgs
        obtain ⟨us, T, hh, hr, h1⟩ := hob
        refine ⟨b, off, hv, ?_⟩
        have hr' := (bor1_repL hs hr).pure hp.1
        have hc : RepC (fun b o => w.cell? ⟨b, o, none⟩) (fun o => w.cell? ⟨b, o, none⟩) 0 (cs.map (bor1 μ)) := RepC.of_vals hr' fun j y hy => by
          rw [Nat.zero_add]
          exact ⟨cell_of hh hy, h1 y (List.mem_of_getElem? hy)⟩
        have := hc.drop off
        rwa [Nat.zero_add] at this
    · rename_i cs hm
      have := bor1_rep hs h
      simpa only [bor1, hm] using this
    · simp only [Rep]
  all_goals (simp only [bor2]; exact bor1_rep hs h)
theorem bor0_rep {x : AV} {val : Value} (hs : Sat W0 V0 Own V G w μ) (h : Rep V G x val) : Rep (fun b o => w.cell? ⟨b, o, none⟩) (fun _ => none) (bor0 μ x) val := by
  cases x
  case mif t x =>
    simp only [Rep] at h
    obtain ⟨u, e, hx⟩ := h
    have := bor2_rep hs hx
    simp only [bor0]
    unfold borI
    cases hp : isP (bor2 μ x) with
    | false => simp only [cond_false, Rep]
    | true =>
      simp only [cond_true, Rep, RepP]
      exact ⟨u, e, this.pure hp⟩
  all_goals (simp only [bor0]; exact bor2_rep hs h)
theorem bor0_repL (hs : Sat W0 V0 Own V G w μ) : ∀ {xs : List AV} {us : List Value}, RepL V G xs us → RepL (fun b o => w.cell? ⟨b, o, none⟩) (fun _ => none) (xs.map (bor0 μ)) us
  | [], us, h => by simpa [RepL] using h
  | x :: xs, us, h => by
    simp only [List.map_cons, RepL] at h ⊢
    obtain ⟨y, r, e, p, q⟩ := h
    exact ⟨y, r, e, bor0_rep hs p, bor0_repL hs q⟩
theorem bor_rep {x : AV} {val : Value} (hs : Sat W0 V0 Own V G w μ) (h : Rep V G x val) : Rep (fun b o => w.cell? ⟨b, o, none⟩) (fun _ => none) (bor μ x) val := by
  cases x
  case fn f caps =>
    simp only [bor, Rep] at h ⊢
    obtain ⟨cv, e, r⟩ := h
    exact ⟨cv, e, bor0_repL hs r⟩
  all_goals exact bor0_rep hs h
theorem bor_repL (hs : Sat W0 V0 Own V G w μ) : ∀ {xs : List AV} {us : List Value}, RepL V G xs us → RepL (fun b o => w.cell? ⟨b, o, none⟩) (fun _ => none) (xs.map (bor μ)) us
  | [], us, h => by simpa [RepL] using h
  | x :: xs, us, h => by
    simp only [List.map_cons, RepL] at h ⊢
    obtain ⟨y, r, e, p, q⟩ := h
    exact ⟨y, r, e, bor_rep hs p, bor_repL hs q⟩
theorem scal0_rep {V' : View} : ∀ {cs : List AV} {us : List Value}, cs.all scal0 = true → RepPL V cs us → RepPL V' cs us
  | [], us, _, h => by simpa [RepPL] using h
  | x :: xs, us, hx, h => by
    simp only [List.all_cons, Bool.and_eq_true] at hx
    simp only [RepPL] at h ⊢
    obtain ⟨y, r, e, p, q⟩ := h
    exact ⟨y, r, e, by cases x <;> simp [scal0] at hx <;> exact p, scal0_rep hx.2 q⟩
theorem scalar_rep {V' : View} {G' : Ctx} {x : AV} {val : Value} (hx : scalar x = true) (h : Rep V G x val) : Rep V' G' x val := by
  cases x
  case agg cs =>
    simp only [scalar] at hx
    simp only [Rep, RepP] at h ⊢
    obtain ⟨us, e, p⟩ := h
    exact ⟨us, e, scal0_rep hx p⟩
  all_goals (simp [scalar] at hx <;> exact h)
theorem scalars_rep {V' : View} {G' : Ctx} : ∀ {xs : List AV} {us : List Value}, xs.all scalar = true → RepL V G xs us → RepL V' G' xs us
  | [], us, _, h => by simpa [RepL] using h
  | x :: xs, us, hx, h => by
    simp only [List.all_cons, Bool.and_eq_true] at hx
    simp only [RepL] at h ⊢
    obtain ⟨y, r, e, p, q⟩ := h
    exact ⟨y, r, e, scalar_rep hx.1 p, scalars_rep hx.2 q⟩
theorem scalars_res {V' : View} {G' : Ctx} {res : List AV} {val : Value} (hx : res.all scalar = true) (h : RepRes V G res val) : RepRes V' G' res val := by
  match res, h with
  | [], h => exact h
  | [x], h =>
    simp only [List.all_cons, List.all_nil, Bool.and_true] at hx
    exact scalar_rep hx h
  | x :: y :: r, h =>
    obtain ⟨us, e, p⟩ := h
    exact ⟨us, e, scalars_rep hx p⟩
theorem Sat.lent (hs : Sat W0 V0 Own V G w μ) : Sat w (fun b o => w.cell? ⟨b, o, none⟩) (Ctx.owns fun _ => none) (fun b o => w.cell? ⟨b, o, none⟩) (fun _ => none) w (fun k => ([] : List Ob)[k]?) where
  keep := ⟨rfl, rfl, rfl, Nat.le_refl _, fun _ _ _ => rfl⟩
  view := fun b o v h => h
  vle := View.le_refl _
  vnew := fun _ _ _ => rfl
  obs := fun k ob e => by simp at e
  dom := fun k s e => by cases e
  priv := fun k s b e => by cases e
  inj := fun k k' s s' b e => by cases e
  loc := fun k s b e => by cases e
theorem Sat.back (hs : Sat W0 V0 Own V G w μ) {V' : View} {G' : Ctx} {w' : World} (h : Sat w (fun b o => w.cell? ⟨b, o, none⟩) (Ctx.owns fun _ => none) V' G' w' (fun k => ([] : List Ob)[k]?)) : Sat W0 V0 Own V G w' μ := by
  have hown : ∀ b, ¬ (Ctx.owns (fun _ => none)).own b := fun b ⟨k, s, e, _⟩ => by cases e
  have hblk : ∀ b, b < w.heap.size → w'.heap[b]? = w.heap[b]? := fun b hb => h.keep.block b hb (hown b)
  refine ⟨?_, fun b o v e => ?_, hs.vle, hs.vnew, fun k ob e => ?_, hs.dom, fun k s b e hb => ?_, hs.inj, hs.loc⟩
  · exact hs.keep.of_le h.keep.os h.keep.tape h.keep.output h.keep.size fun b h1 _ => hblk b (Nat.lt_of_lt_of_le h1 hs.keep.size)
  · exact h.view b o v (h.vle b o v (hs.view b o v e))
  · obtain ⟨s, e', q⟩ := hs.obs k ob e
    exact ⟨s, e', q.mono (View.le_refl _) (Ctx.le_refl _) fun b hb => hblk b (hs.priv k s b e' hb).1⟩
  · obtain ⟨p1, p2, p3⟩ := hs.priv k s b e hb
    exact ⟨Nat.lt_of_lt_of_le p1 h.keep.size, p2, p3⟩
theorem snd_callb {d : Option Nat} {c : Cal} {args : List Arg} (hd : o.dst = d) (hok : okOp' P o (.callb d c args) = true) (h : opR P (.callb d c args) ρ μ v u acc) (hA : ArgsOk V G ρ a (AOp.callb d c args).args) (hs : Sat W0 V0 Own V G w μ) :
    Done W0 V0 Own P o a w V G μ v u := by
  obtain ⟨rfl, f, caps, res, hcal, hco, rfl, hp, ⟨hf, hctr⟩, hsc, rfl⟩ := h
  simp only [okOp'] at hok
  have hA' : ArgsOk V G ρ a (calArgs c args) := by cases c <;> exact hA
  obtain ⟨vs, hr, hrep⟩ := run_call (w := w) (args := args) hok hf hcal hco hA'
  intro next Q hn
  unfold Oper.wp
  rw [hr, Oper.upon_enter]
  refine (hctr _ (fun _ => none) w vs hs.lent (bor_repL hs hrep)).mono ?_
  rintro e w' ⟨V', G', val, res', obs', ⟨rfl, rfl⟩, rfl, hres, hle, hs'⟩
  exact hn val w' V G (scalars_res hsc hres).rep (View.le_refl _) (Ctx.le_refl _) (hs.back hs')
theorem getObsM_get : ∀ {ks : List Nat} {obs : List Ob} {i : Nat}, getObsM μ ks = some obs → obs[i]? = (ks[i]?).bind μ
  | [], obs, i, h => by simp [getObsM] at h; subst h; simp
  | k :: r, obs, i, h => by
    simp only [getObsM] at h
    split at h
    · rename_i o ho
      obtain ⟨l, hl, rfl⟩ := Option.map_eq_some_iff.1 h
      cases i with
      | zero => simp [ho]
      | succ i => simpa using getObsM_get (i := i) hl
    · cases h
theorem getObsM_len : ∀ {ks : List Nat} {obs : List Ob}, getObsM μ ks = some obs → obs.length = ks.length
  | [], obs, h => by simp [getObsM] at h; subst h; rfl
  | k :: r, obs, h => by
    simp only [getObsM] at h
    split at h
    · obtain ⟨l, hl, rfl⟩ := Option.map_eq_some_iff.1 h
      simp [getObsM_len hl]
    · cases h
theorem zipU_upd : ∀ {ks : List Nat} {os : List Ob} {μ : Nat → Option Ob} {j : Nat}, ks.length = os.length → (∀ (i k : Nat), i < k → ∀ x y, ks[i]? = some x → ks[k]? = some y → x ≠ y) →
    (∀ i : Nat, ks[i]? = some j → updO μ (zipU ks os) j = os[i]?) ∧ ((∀ i : Nat, ks[i]? ≠ some j) → updO μ (zipU ks os) j = μ j)
  | [], os, μ, j, h, _ => ⟨fun i hi => by simp at hi, fun _ => by simp [zipU, updO]⟩
  | k :: ks, [], μ, j, h, _ => by simp at h
  | k :: ks, o :: os, μ, j, h, hu => by
    obtain ⟨h1, h2⟩ := zipU_upd (ks := ks) (os := os) (μ := fun j => if j = k then some o else μ j) (j := j) (by simpa using h) fun i k' hik x y hx hy => hu (i + 1) (k' + 1) (by omega) x y (by simpa using hx) (by simpa using hy)
    refine ⟨fun i hi => ?_, fun hi => ?_⟩
    · cases i with
      | zero =>
        simp at hi
        subst hi
        rw [zipU, updO, h2, if_pos rfl]
        · rfl
        · intro i e
          exact hu 0 (i + 1) (by omega) k k rfl (by simpa using e) rfl
      | succ i =>
        rw [zipU, updO, h1 i (by simpa using hi)]
        rfl
    · rw [zipU, updO, h2 fun i e => hi (i + 1) (by simpa using e), if_neg]
      intro e
      exact hi 0 (by simp [e])
/-- A call that hands objects on, as far as memory goes. -/
theorem call_core {f : Nat} {xs : List AV} {pass new : List Nat} {obs : List Ob} {R : List AV → List Ob → Prop} {vs : List Value} (hs : Sat W0 V0 Own V G w μ) (hk : keysOk (idxM 0 (pass ++ new)) = true) (hp : keysOk (idxM 0 pass) = true)
    (hobs : getObsM μ pass = some obs) (hfresh : allNoneM μ new = true) (hctr : Ctr P f (renL (idxM 0 pass) xs) (mapOb (idxM 0 pass) obs) R) (hlenR : ∀ res obs', R res obs' → obs'.length = pass.length + new.length) (hrep : RepL V G xs vs) :
    Calls P f vs.toArray w fun e w' => ∃ V' G' val res obs', R res obs' ∧ e = .returned val ∧ V.le V' ∧ G.le G' ∧ Rep V' G' (ren (invL (idxM 0 (pass ++ new))) (resA res)) val ∧
      Sat W0 V0 Own V' G' w' (updO μ (zipU (pass ++ new) (mapOb (invL (idxM 0 (pass ++ new))) obs'))) := by
  have hsc : Sat w V (renC (idxM 0 pass) G).owns V (renC (idxM 0 pass) G) w (fun i => (mapOb (idxM 0 pass) obs)[i]?) := by
    have h1 := (hs.weak.ren hp (fun _ _ _ _ _ => trivial)).rebase
    have e : (fun i => (mapOb (idxM 0 pass) obs)[i]?) = renM (idxM 0 pass) μ := by
      funext i
      unfold renM
      rw [mapOb_get, getObsM_get hobs, idx_get, if_pos (Nat.zero_le _), Nat.sub_zero]
      cases pass[i]? <;> rfl
    rw [e]
    exact h1
  refine (hctr.2 V _ w vs hsc (hrep.ren (renC_spec hp))).mono ?_
  rintro e w' ⟨V', G', val, res, obs', hres, rfl, hrr, hle, hs'⟩
  have hlen := hlenR res obs' hres
  have hdist := keysOk_distinct hk
  have hpl := getObsM_len hobs
  -- which objects the callee was given
  have hGc : ∀ (i : Nat) s, renC (idxM 0 pass) G i = some s → ∃ k, pass[i]? = some k ∧ G k = some s := by
    intro i s e
    unfold renC at e
    rw [idx_get, if_pos (Nat.zero_le _), Nat.sub_zero] at e
    cases hk : pass[i]? with
    | none => rw [hk] at e; cases e
    | some k => rw [hk] at e; exact ⟨k, rfl, e⟩
  have hGc' : ∀ (i k : Nat), pass[i]? = some k → renC (idxM 0 pass) G i = G k := by
    intro i k e
    unfold renC
    rw [idx_get, if_pos (Nat.zero_le _), Nat.sub_zero, e]
    rfl
  have hidx : ∀ (i k : Nat), (pass ++ new)[i]? = some k → optA (idxM 0 (pass ++ new)) k = some i := by
    intro i k e
    rw [← optA_inv hk, idx_get, if_pos (Nat.zero_le _), Nat.sub_zero]
    exact e
  have hidx' : ∀ (i k : Nat), optA (idxM 0 (pass ++ new)) k = some i → (pass ++ new)[i]? = some k := by
    intro i k e
    rw [← optA_inv hk, idx_get, if_pos (Nat.zero_le _), Nat.sub_zero] at e
    exact e
  have hpn : ∀ (i k : Nat), pass[i]? = some k → (pass ++ new)[i]? = some k := by
    intro i k e
    rw [List.getElem?_append_left (getElem?_lt e)]
    exact e
  have hnewk : ∀ (j i : Nat), optA (idxM 0 (pass ++ new)) j = some i → ∀ s, G j = some s → pass[i]? = some j := by
    intro j i e s hg
    have h1 := hidx' i j e
    rcases Nat.lt_or_ge i pass.length with hi | hi
    · rw [List.getElem?_append_left hi] at h1
      exact h1
    · exfalso
      rw [List.getElem?_append_right hi] at h1
      have hmem : j ∈ new := List.mem_of_getElem? h1
      have hno : μ j = none := by
        clear hs' hle hrr hctr hsc hlenR hidx hidx' hdist hk hpn e h1 hlen hres
        induction new with
        | nil => cases hmem
        | cons x r ih =>
          simp only [allNoneM, Bool.and_eq_true] at hfresh
          rcases List.mem_cons.1 hmem with rfl | hmem
          · have := hfresh.1
            split at this
            · rename_i hx; exact hx
            · cases this
          · exact ih hfresh.2 hmem
      obtain ⟨ob, hob⟩ := hs.dom j s hg
      rw [hno] at hob
      cases hob
  have hown : ∀ b, (renC (idxM 0 pass) G).owns.own b → ∃ (i k : Nat) (s : Sh), pass[i]? = some k ∧ G k = some s ∧ s.block = some b := by
    rintro b ⟨i, s, e, hb⟩
    obtain ⟨k, h1, h2⟩ := hGc i s e
    exact ⟨i, k, s, h1, h2, hb⟩
  have hleG : G.le (fun j => match optA (idxM 0 (pass ++ new)) j with | some i => G' i | none => G j) := by
    intro j s hg
    simp only
    cases hj : optA (idxM 0 (pass ++ new)) j with
    | none => exact ⟨s, hg, s.le_refl⟩
    | some i => exact hle i s (by rw [hGc' i j (hnewk j i hj s hg)]; exact hg)
  have hback : ∀ (i k : Nat), optA (invL (idxM 0 (pass ++ new))) i = some k → (fun j => match optA (idxM 0 (pass ++ new)) j with | some i => G' i | none => G j) k = G' i := by
    intro i k e
    have := (optA_inv hk).1 e
    simp only [this]
  have hlenk : (pass ++ new).length = (mapOb (invL (idxM 0 (pass ++ new))) obs').length := by
    have : ∀ (l : List Ob), (mapOb (invL (idxM 0 (pass ++ new))) l).length = l.length := by
      intro l
      induction l with
      | nil => rfl
      | cons x r ih => simp [mapOb, ih]
    rw [this, hlen, List.length_append]
  have hput := fun j => zipU_upd (μ := μ) (j := j) hlenk hdist
  have hbsame : ∀ j s b, optA (idxM 0 (pass ++ new)) j = none → G j = some s → s.block = some b → w'.heap[b]? = w.heap[b]? := by
    intro j s b hj hg hb
    refine hs'.keep.block b (hs.priv j s b hg hb).1 fun hown' => ?_
    obtain ⟨i, k, s2, h1, h2, h3⟩ := hown b hown'
    have := hs.inj j k s s2 b hg h2 hb h3
    subst this
    rw [hidx i j (hpn i j h1)] at hj
    cases hj
  refine ⟨V', fun j => match optA (idxM 0 (pass ++ new)) j with | some i => G' i | none => G j, val, res, obs', hres, rfl, hs'.vle, hleG, hrr.rep.ren hback, ?_⟩
  refine ⟨?_, hs'.view, View.le_trans hs.vle hs'.vle, fun b o hb => ?_, fun j ob e => ?_, fun j s e => ?_, fun j s b e hb => ?_, fun j j' s1 s2 b e1 e2 h1 h2 => ?_, fun j s b e hb hlt => ?_⟩
  · refine hs.keep.of_le hs'.keep.os hs'.keep.tape hs'.keep.output hs'.keep.size fun b h1 h2 => ?_
    refine hs'.keep.block b (Nat.lt_of_lt_of_le h1 hs.keep.size) fun hown' => ?_
    obtain ⟨i, k, s, _, g2, g3⟩ := hown b hown'
    rcases (hs.priv k s b g2 g3).2.1 with g | g
    · exact h2 g
    · omega
  · rw [hs'.vnew b o (Nat.lt_of_lt_of_le hb hs.keep.size)]
    exact hs.vnew b o hb
  · try simp only
    cases hj : optA (idxM 0 (pass ++ new)) j with
    | some i =>
      rw [(hput j).1 i (hidx' i j hj), mapOb_get, Option.map_eq_some_iff] at e
      obtain ⟨ob0, e0, rfl⟩ := e
      obtain ⟨s, hg, hob⟩ := hs'.obs i ob0 e0
      exact ⟨s, hg, hob.ren hback⟩
    | none =>
      rw [(hput j).2 fun i hi => by rw [hidx i j hi] at hj; cases hj] at e
      obtain ⟨s, hg, hob⟩ := hs.obs j ob e
      exact ⟨s, hg, hob.mono hs'.vle hleG fun b hb => hbsame j s b hj hg hb⟩
  · try simp only at e
    cases hj : optA (idxM 0 (pass ++ new)) j with
    | some i =>
      rw [hj] at e
      obtain ⟨ob, e0⟩ := hs'.dom i s e
      rw [(hput j).1 i (hidx' i j hj), mapOb_get, e0]
      exact ⟨_, rfl⟩
    | none =>
      rw [hj] at e
      obtain ⟨ob, e0⟩ := hs.dom j s e
      rw [(hput j).2 fun i hi => by rw [hidx i j hi] at hj; cases hj]
      exact ⟨ob, e0⟩
  · try simp only at e
    cases hj : optA (idxM 0 (pass ++ new)) j with
    | some i =>
      rw [hj] at e
      obtain ⟨p1, p2, p3⟩ := hs'.priv i s b e hb
      refine ⟨p1, ?_, p3⟩
      rcases p2 with p2 | p2
      · obtain ⟨i', k, s2, _, g2, g3⟩ := hown b p2
        exact (hs.priv k s2 b g2 g3).2.1
      · exact .inr (Nat.le_trans hs.keep.size p2)
    | none =>
      rw [hj] at e
      obtain ⟨p1, p2, p3⟩ := hs.priv j s b e hb
      exact ⟨Nat.lt_of_lt_of_le p1 hs'.keep.size, p2, fun o => by rw [hs'.vnew b o p1]; exact p3 o⟩
  · have mixed : ∀ j j' i s1 s2, optA (idxM 0 (pass ++ new)) j = some i → optA (idxM 0 (pass ++ new)) j' = none → G' i = some s1 → G j' = some s2 → s1.block = some b → s2.block = some b → False := by
      intro j j' i s1 s2 hj hj' e1 e2 h1 h2
      have q := (hs.priv j' s2 b e2 h2).1
      rcases (hs'.priv i s1 b e1 h1).2.1 with p2 | p2
      · obtain ⟨i', k, s3, g1, g2, g3⟩ := hown b p2
        have := hs.inj j' k s2 s3 b e2 g2 h2 g3
        subst this
        rw [hidx i' j' (hpn i' j' g1)] at hj'
        cases hj'
      · omega
    try simp only at e1 e2
    cases hj : optA (idxM 0 (pass ++ new)) j with
    | some i =>
      rw [hj] at e1
      cases hj' : optA (idxM 0 (pass ++ new)) j' with
      | some i' =>
        rw [hj'] at e2
        have := hs'.inj i i' s1 s2 b e1 e2 h1 h2
        subst this
        have q1 := hidx' _ _ hj
        have q2 := hidx' _ _ hj'
        rw [q1] at q2
        cases q2
        rfl
      | none =>
        rw [hj'] at e2
        exact (mixed j j' i s1 s2 hj hj' e1 e2 h1 h2).elim
    | none =>
      rw [hj] at e1
      cases hj' : optA (idxM 0 (pass ++ new)) j' with
      | some i' =>
        rw [hj'] at e2
        exact (mixed j' j i' s2 s1 hj' hj e2 e1 h2 h1).elim
      | none =>
        rw [hj'] at e2
        exact hs.inj j j' s1 s2 b e1 e2 h1 h2
  · try simp only at e
    cases hj : optA (idxM 0 (pass ++ new)) j with
    | some i =>
      rw [hj] at e
      obtain ⟨s0, e0, hb0⟩ := hs'.loc i s b e hb (Nat.lt_of_lt_of_le hlt hs.keep.size)
      obtain ⟨k, g1, g2⟩ := hGc i s0 e0
      have := hidx' i j hj
      rw [hpn i k g1] at this
      cases this
      exact hs.loc _ s0 b g2 hb0 hlt
    | none =>
      rw [hj] at e
      exact hs.loc j s b e hb hlt
theorem snd_callo {d : Option Nat} {c : Cal} {args : List Arg} {pass new : List Nat} (hd : o.dst = d) (hok : okOp' P o (.callo d c args pass new) = true) (h : opR P (.callo d c args pass new) ρ μ v u acc) (hA : ArgsOk V G ρ a (AOp.callo d c args pass new).args) (hs : Sat W0 V0 Own V G w μ) :
    Done W0 V0 Own P o a w V G μ v u := by
  obtain ⟨f, caps, obs, res, obs', hcal, hco, hobs, hfresh, hctr, hlen, rfl, rfl, rfl⟩ := h
  simp only [okOp', Bool.and_eq_true] at hok
  have hA' : ArgsOk V G ρ a (calArgs c args) := by cases c <;> exact hA
  obtain ⟨vs, hr, hrep⟩ := run_call (w := w) (args := args) hok.1.1 hctr.1 hcal hco hA'
  intro next Q hn
  unfold Oper.wp
  rw [hr, Oper.upon_enter]
  refine (call_core hs hok.1.2 hok.2 hobs hfresh hctr (fun r o h => by rw [h.2]; exact hlen) hrep).mono ?_
  rintro e w' ⟨V', G', val, res', obs2, ⟨rfl, rfl⟩, rfl, hV, hG, hv, hs'⟩
  exact hn val w' V' G' hv hV hG hs'
theorem setAt_repL {z cs : List AV} {us xs : List Value} {o : Nat} (h : RepL V G z us) (k : RepL V G cs xs) : RepL V G (setAt z o cs) (splice us o xs) := by
  unfold setAt splice
  rw [k.length]
  exact ((h.take o).append k).append (h.drop _)
theorem okOffs_fillM {fs : Array Field} {places : Array (Nat × Nat)} (hpl : ∀ (i : Nat) (f : Field), fs[i]? = some f → places[i]? = some (f.offset, P.cellsOf f.type)) :
    ∀ {ps : List (Nat × Operand)} {parts : List (Nat × Nat × Arg)} {z : List AV} {cs : Array Value}, okOffs P fs ps parts = true → (∀ p ∈ parts, ∀ y, okA p.2.2 y = true → Rep V G (ρ p.2.2) (a.eval y)) →
      (∀ p ∈ parts, cellM (ρ p.2.2) = true ∧ (cellsM (ρ p.2.2)).length = p.2.1 ∧ p.1 + p.2.1 ≤ z.length) → RepL V G z cs.toList →
      ∃ cs', Instr.fill (places[·]?) cs (ps.map fun p => (p.1, a.eval p.2)) = some cs' ∧ RepL V G (fillM ρ parts z) cs'.toList
  | [], [], z, cs, _, _, _, hz => ⟨cs, rfl, hz⟩
  | [], p :: r, z, cs, h, _, _, _ => by simp [okOffs] at h
  | (i, y) :: ps, [], z, cs, h, _, _, _ => by simp [okOffs] at h
  | (i, y) :: ps, (off, n, x) :: parts, z, cs, h, hA, hl, hz => by
    simp only [okOffs, Bool.and_eq_true] at h
    obtain ⟨⟨h1, h2⟩, h3⟩ := h
    split at h1
    · rename_i f hf
      simp only [Bool.and_eq_true] at h1
      have ho := Nat.eq_of_beq_eq_true h1.1
      have hn := Nat.eq_of_beq_eq_true h1.2
      have hx := hA _ List.mem_cons_self _ h2
      have hlx := hl _ List.mem_cons_self
      simp only at hx hlx
      have hc := hx.cellsM hlx.1
      have hcl : (a.eval y).cells.size = n := by
        have := hc.length
        rw [Array.length_toList] at this
        omega
      have hzl : cs.size = z.length := by
        have := hz.length
        rwa [Array.length_toList] at this
      obtain ⟨cs', h4, h5⟩ := fill_step (place := (places[·]?)) (i := i) (off := off) (x := a.eval y) (rest := ps.map fun p => (p.1, a.eval p.2)) (cs := cs) (by rw [hpl i f hf, ho, hn, hcl]) (by omega)
      have h6 : RepL V G (setAt z off (cellsM (ρ x))) cs'.toList := by
        rw [h4]
        exact setAt_repL hz hc
      have hl6 : (setAt z off (cellsM (ρ x))).length = z.length := by
        simp [setAt]
        omega
      obtain ⟨cs2, h7, h8⟩ := okOffs_fillM hpl (ps := ps) (parts := parts) (z := setAt z off (cellsM (ρ x))) (cs := cs') h3 (fun p hp => hA p (List.mem_cons_of_mem _ hp)) (fun p hp => by rw [hl6]; exact hl p (List.mem_cons_of_mem _ hp)) h6
      exact ⟨cs2, by rw [List.map_cons, h5, h7], h8⟩
    · cases h1
theorem snd_buildm {d : Nat} {zero : List AV} {parts : List (Nat × Nat × Arg)} (hok : okOp' P o (.buildm d zero parts) = true) (h : opR P (.buildm d zero parts) ρ μ v u acc) (hA : ArgsOk V G ρ a (AOp.buildm d zero parts).args) (hs : Sat W0 V0 Own V G w μ) :
    Done W0 V0 Own P o a w V G μ v u := by
  obtain ⟨hp, rfl, rfl, rfl⟩ := h
  simp only [okOp'] at hok
  split at hok
  · rename_i t ps ho
    simp only [Bool.and_eq_true] at hok
    obtain ⟨hz, h2⟩ := hok
    obtain ⟨i, z, hi, hz, hc, hl, h1⟩ := okZero_spec hz
    split at h2
    · rename_i fs hu
      simp only [Bool.and_eq_true] at h2
      obtain ⟨h3, h4⟩ := h2
      obtain ⟨cs', h5, h6⟩ := okOffs_fillM (P := P) (V := V) (G := G) (ρ := ρ) (a := a) (fs := fs) (places := (fs.toList.map fun f => (f.offset, P.cellsOf f.type)).toArray) (fun i f hf => by simp [hf]) (z := zero) (cs := z.cells) h4
        (fun p hp' y hy => hA _ (by simp only [AOp.args, List.mem_map]; exact ⟨p, hp', rfl⟩) y hy) hp ((okCL_rep V hc).rep G)
      refine done_pure hs (val := .agg cs') ?_ ?_
      · rw [execOp, ho]
        refine run_v ?_
        have hm : (fs.mapM fun f => (do pure (f.offset, ← sizeOf f.type) : Sem (Nat × Nat))).run P w = .ok (fs.toList.map fun f => (f.offset, P.cellsOf f.type)).toArray w := by
          rw [Array.mapM_eq_mapM_toList, Sem.run_map, mapM_fields h3]
          rfl
        simp only [Instr.build, zeroValue, typeInfo, Sem.run_bind, run_program, Result.andThen_ok, hi, Sem.run_pure, hz, run_und hu, hm]
        have h7 : (ps.map fun p => (p.1, a.eval p.2)).toList = ps.toList.map fun p => (p.1, a.eval p.2) := by simp
        rw [show (Array.map (fun (x : Nat × Operand) => match x with | (i, x) => (i, a.eval x)) ps).toList = ps.toList.map fun p => (p.1, a.eval p.2) from h7, h5]
        rfl
      · simp only [Rep]
        exact ⟨cs'.toList, by simp, h6⟩
    · cases h2
  · cases hok
theorem snd_boxg {d key : Nat} {x : Arg} (hok : okOp' P o (.boxg d key x) = true) (h : opR P (.boxg d key x) ρ μ v u acc) (hA : ArgsOk V G ρ a (AOp.boxg d key x).args) (hs : Sat W0 V0 Own V G w μ) :
    Done W0 V0 Own P o a w V G μ v u := by
  obtain ⟨hcm, h1, hm, rfl, rfl, rfl⟩ := h
  simp only [okOp'] at hok
  split at hok
  · rename_i t px ho
    have hx := hA _ (by simp [AOp.args]) _ hok
    have hc := hx.cellsM hcm
    have hle := Ctx.le_new (s := .box w.heap.size) (hs.fresh hm)
    have hs' := hs.newOb (s := .box w.heap.size) (ob := .box (cellsM (ρ x))) (.cells (a.eval px).cells t) hm rfl (by
      simp only [ObOk]
      exact ⟨(a.eval px).cells.toList, t, heap_alloc_new, hc.mono (View.le_refl _) hle, hc.oneAll h1⟩)
    refine done_w (μ := μ) (u := [(key, .box (cellsM (ρ x)))]) hs' (val := .pointer (some ⟨w.heap.size, 0, none⟩)) ?_ ?_ (View.le_refl _) hle
    · rw [execOp, ho]
      refine run_v ?_
      simp only [Instr.box, Sem.run_bind, run_newVar, Result.andThen_ok, Sem.run_pure]
    · simp only [Rep]
      exact ⟨_, if_pos trivial, rfl⟩
  · cases hok
theorem run_mkif {t : TypeId} {x : Value} (h : concT P t = true) : (Instr.makeInterface t x).run P w = .ok (.iface t x) w := by
  unfold concT at h
  cases hd : P.underlying t with
  | none => simp [hd] at h
  | some d => cases d <;> first | (simp [hd] at h; done) | simp [Instr.makeInterface, run_und hd]
theorem snd_mkif {d : Nat} {t : TypeId} {x : Arg} (hok : okOp' P o (.mkif d t x) = true) (h : opR P (.mkif d t x) ρ μ v u acc) (hA : ArgsOk V G ρ a (AOp.mkif d t x).args) (hs : Sat W0 V0 Own V G w μ) :
    Done W0 V0 Own P o a w V G μ v u := by
  obtain ⟨rfl, rfl, rfl⟩ := h
  simp only [okOp'] at hok
  split at hok
  · rename_i t' px ho
    simp only [Bool.and_eq_true] at hok
    obtain ⟨⟨h1, h2⟩, h3⟩ := hok
    have := Nat.eq_of_beq_eq_true h1
    subst this
    have hx := hA _ (by simp [AOp.args]) _ h2
    refine done_pure hs (val := .iface t (a.eval px)) (by rw [execOp, ho]; exact run_v (run_mkif h3)) ?_
    cases hp : isP (ρ x) with
    | true =>
      simp only [cond_true, Rep, RepP]
      exact ⟨_, rfl, hx.pure hp⟩
    | false =>
      simp only [cond_false, Rep]
      exact ⟨_, rfl, hx⟩
  · cases hok
theorem snd_tass {d : Nat} {t : TypeId} {x : Arg} (hok : okOp' P o (.tass d t x) = true) (h : opR P (.tass d t x) ρ μ v u acc) (hA : ArgsOk V G ρ a (AOp.tass d t x).args) (hs : Sat W0 V0 Own V G w μ) :
    Done W0 V0 Own P o a w V G μ v u := by
  obtain ⟨⟨z, hz, rfl⟩, rfl, rfl⟩ := h
  simp only [okOp'] at hok
  split at hok
  · rename_i px xt ast ok ho
    simp only [Bool.and_eq_true] at hok
    obtain ⟨⟨⟨h1, h2⟩, rfl⟩, h3⟩ := hok
    have := Nat.eq_of_beq_eq_true h1
    subst this
    have hx := hA _ (by simp [AOp.args]) _ h2
    rw [hz] at hx
    simp only [Rep, RepP] at hx
    obtain ⟨u, hu, hr⟩ := hx
    refine done_pure hs (val := .tuple #[u, .bool true]) ?_ ?_
    · rw [execOp, ho]
      refine run_v ?_
      unfold concT at h3
      cases hd : P.underlying t with
      | none => simp [hd] at h3
      | some d =>
        simp only [Instr.typeAssert, Sem.run_bind, run_und hd, Result.andThen_ok, hu]
        cases d <;> first | (simp [hd] at h3; done) | simp
    · simp only [Rep]
      refine ⟨[u, .bool true], rfl, ?_⟩
      simp only [RepL]
      exact ⟨u, _, rfl, hr.rep G, _, [], rfl, rfl, rfl⟩
  · cases hok
theorem eqsl {e t t' : Nat} {A : Option Addr} {l c : Nat} (hu : P.underlying t = some (.slice t')) : (Op.equalIn (e + 1) t (.slice A l c) (.slice none 0 0)).run P w = .ok A.isNone w := by cases A <;> simp [Op.equalIn, run_und hu]
theorem snd_eqs {d : Nat} {neg : Bool} {x : Arg} (hok : okOp' P o (.eqs d neg x) = true) (h : opR P (.eqs d neg x) ρ μ v u acc) (hA : ArgsOk V G ρ a (AOp.eqs d neg x).args) (hs : Sat W0 V0 Own V G w μ) :
    Done W0 V0 Own P o a w V G μ v u := by
  obtain ⟨h, rfl, rfl⟩ := h
  simp only [okOp'] at hok
  split at hok
  · rename_i op' t px py yt ho
    simp only [Bool.and_eq_true, decide_eq_true_eq] at hok
    obtain ⟨⟨⟨hop, h1⟩, h2⟩, h3⟩ := hok
    split at h3
    · rename_i e hu
      have hx := hA _ (by simp [AOp.args]) _ h1
      have hy : a.eval py = .slice none 0 0 := by
        cases py with
        | const c =>
          simp only [okA] at h2
          cases c with
          | slice b l c =>
            cases b <;> cases l <;> cases c <;> simp [okC] at h2
            rfl
          | _ => simp [okC] at h2
        | _ => simp [okA] at h2
      have run : ∀ (A : Option Addr) (l c : Nat), a.eval px = .slice A l c → (execOp a.eval o).run P w = .ok (.value (.bool (bif neg then !A.isNone else A.isNone))) w := by
        intro A l c hv
        rw [execOp, ho]
        refine run_v ?_
        rw [hv, hy]
        have hg : (eqGuard op' t px py (.slice A l c) (.slice none 0 0)).run P w = .ok () w := by
          unfold eqGuard
          cases op' <;> rfl
        exact run_neg (r := A.isNone) hop hg (eqsl (e := 9999) hu) (by simp) (by simp) (by simp) (by simp)
      rcases h with ⟨c, xs, hz, rfl⟩ | ⟨xs, hz, rfl⟩ | ⟨k, ver, off, len, hz, rfl⟩
      · obtain ⟨A, cap, hv, hcap, hr⟩ := rep_sl hz hx
        rcases hr with hr | ⟨b, of, esz, rfl, hr⟩
        · cases hr
        · refine done_pure hs (run _ _ _ hv) ?_
          simp only [Rep, RepP, Option.isNone_some, Bool.not_false]
          cases neg <;> rfl
      · obtain ⟨A, cap, hv, hcap, hr⟩ := rep_sl hz hx
        refine done_pure hs (run _ _ _ hv) ?_
        simp only [Rep, RepP]
        exact ⟨_, rfl⟩
      · rw [hz] at hx
        simp only [Rep] at hx
        obtain ⟨⟨A, cap, hv⟩, _⟩ := hx
        refine done_pure hs (run _ _ _ hv) ?_
        simp only [Rep, RepP]
        exact ⟨_, rfl⟩
    · cases h3
  · cases hok
/-- All operations. -/
theorem op_sound {N : Nat} {x : AOp} (hok : okOp P N o x = true) (h : opR P x ρ μ v u acc) (hA : ArgsOk V G ρ a x.args) (hs : Sat W0 V0 Own V G w μ) : Done W0 V0 Own P o a w V G μ v u := by
  simp only [okOp, Bool.and_eq_true, decide_eq_true_eq] at hok
  obtain ⟨⟨hd, hN⟩, hok⟩ := hok
  cases x
  case mov => exact snd_mov hok h hA hs
  case bin => exact snd_bin hok h hA hs
  case eq => exact snd_eq hok h hA hs
  case un => exact snd_un hok h hA hs
  case conv => exact snd_conv hok h hA hs
  case len => exact snd_len hok h hA hs
  case slen => exact snd_slen hok h hA hs
  case idx => exact snd_idx hok h hA hs
  case aix => exact snd_aix hok h hA hs
  case fad => exact snd_fad hok h hA hs
  case load => exact snd_load hok h hA hs
  case store => exact snd_store hd hok h hA hs
  case boxp => exact snd_boxp hok h hA hs
  case boxo => exact snd_boxo hok h hA hs
  case boxm => exact snd_boxm hok h hA hs
  case alloc => exact snd_alloc hok h hA hs
  case alloca => exact snd_alloca hok h hA hs
  case nilarr => exact snd_nilarr hok h hA hs
  case build => exact snd_build hok h hA hs
  case bslp => exact snd_bslp hok h hA hs
  case bslo => exact snd_bslo hok h hA hs
  case slc => exact snd_slc hok h hA hs
  case sslc => exact snd_sslc hok h hA hs
  case slc3 => exact snd_slc3 hok h hA hs
  case sidx => exact snd_sidx hok h hA hs
  case mkfn => exact snd_mkfn hok h hA hs
  case ext => exact snd_ext hok h hA hs
  case pick => exact snd_pick hok h hA hs
  case callf => exact snd_callf hd hok h hA hs
  case callb => exact snd_callb hd hok h hA hs
  case appd => exact snd_appd hok h hA hs
  case clear => exact snd_clear hd hok h hA hs
  case mxn => exact snd_mxn hok h hA hs
  case field => exact snd_field hok h hA hs
  case nilc => exact snd_nilc hok h hA hs
  case make => exact snd_make hok h hA hs
  case buildm => exact snd_buildm hok h hA hs
  case boxg => exact snd_boxg hok h hA hs
  case mkif => exact snd_mkif hok h hA hs
  case tass => exact snd_tass hok h hA hs
  case eqs => exact snd_eqs hok h hA hs
  case callo => exact snd_callo hd hok h hA hs
end
end Go.AM
