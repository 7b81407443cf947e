/- The abstract machine's operations are the program's: structs, slices, texts, tuples. -/
import Derived.Test.YtmmgdilhbkklpaaAMI
namespace Go.AM
open Go
set_option linter.unusedVariables false
set_option linter.unusedSimpArgs false
section
variable {W0 : World} {V0 : View} {Own : Fra} {P : Program} {o : Oper} {a : Act} {w : World} {V : View} {G : Ctx} {μ : Nat → Option Ob} {ρ : Arg → AV} {v : AV} {u : List (Nat × Ob)} {acc : Acc}
def splice (l : List Value) (o : Nat) (us : List Value) : List Value := l.take o ++ us ++ l.drop (o + us.length)
theorem splice_nil (l : List Value) (o : Nat) : splice l o [] = l := by simp [splice]
theorem splice_length {l us : List Value} {o : Nat} (h : o + us.length ≤ l.length) : (splice l o us).length = l.length := by
  simp [splice]
  omega
theorem splice_set {l us : List Value} {o : Nat} {x : Value} (h : o + (us.length + 1) ≤ l.length) : splice (l.set o x) (o + 1) us = splice l o (x :: us) := by
  apply List.ext_getElem?
  intro i
  unfold splice
  simp only [List.getElem?_append, List.length_append, List.length_take, List.length_set, List.length_cons, List.getElem?_take, List.getElem?_drop, List.getElem?_set, List.getElem?_cons]
  have h1 : min (o + 1) l.length = o + 1 := by omega
  have h2 : min o l.length = o := by omega
  rw [h1, h2]
  by_cases c1 : i < o
  · rw [if_pos (by omega), if_pos (by omega), if_pos (by omega), if_neg (by omega), if_pos (by omega), if_pos c1, if_pos c1]
  · by_cases c2 : i = o
    · subst c2
      rw [if_pos (by omega), if_pos (by omega), if_pos (by omega), if_pos rfl, if_pos (by omega), if_pos (by omega), if_neg (by omega), if_pos (by omega)]
    · by_cases c3 : i < o + 1 + us.length
      · rw [if_pos (by omega), if_neg (by omega), if_pos (by omega), if_neg (by omega), if_neg (by omega)]
        first | (congr 1; omega) | congr 1
      · rw [if_neg (by omega), if_neg (by omega), if_neg (by omega)]
        first | (congr 1; omega) | congr 1
theorem foldl_splice (off : Nat) : ∀ (us : List Value) (n : Nat) (cs : Array Value), off + n + us.length ≤ cs.size →
    ((us.zipIdx n).foldl (fun (cs : Array Value) (p : Value × Nat) => cs.setIfInBounds (off + p.2) p.1) cs).toList = splice cs.toList (off + n) us
  | [], n, cs, h => by simp [splice_nil]
  | x :: us, n, cs, h => by
    simp only [List.zipIdx_cons, List.foldl_cons]
    rw [foldl_splice off us (n + 1) _ (by simp at h ⊢; omega)]
    rw [Array.toList_setIfInBounds, show off + (n + 1) = off + n + 1 by omega]
    exact splice_set (by simp at h ⊢; omega)
theorem setAt_rep {z cs : List AV} {us xs : List Value} {o : Nat} (h : RepPL V z us) (k : RepPL V cs xs) : RepPL V (setAt z o cs) (splice us o xs) := by
  unfold setAt splice
  rw [k.length]
  exact ((h.take o).append k).append (h.drop _)
theorem fill_step {place : Nat → Option (Nat × Nat)} {i off : Nat} {x : Value} {rest : List (Nat × Value)} {cs : Array Value} (hp : place i = some (off, x.cells.size)) (hl : off + x.cells.size ≤ cs.size) :
    ∃ cs' : Array Value, cs'.toList = splice cs.toList off x.cells.toList ∧ Instr.fill place cs ((i, x) :: rest) = Instr.fill place cs' rest := by
  refine ⟨x.cells.zipIdx.foldl (fun cs (p : Value × Nat) => cs.setIfInBounds (off + p.2) p.1) cs, ?_, ?_⟩
  · rw [← Array.foldl_toList, Array.toList_zipIdx]
    have := foldl_splice off x.cells.toList 0 cs (by simp; omega)
    rw [Nat.add_zero] at this
    exact this
  · simp only [Instr.fill, hp]
    rw [if_neg (by simp; omega)]
theorem okOffs_fill {fs : Array Field} {places : Array (Nat × Nat)} (hpl : ∀ (i : Nat) (f : Field), fs[i]? = some f → places[i]? = some (f.offset, P.cellsOf f.type)) :
    ∀ {ps : List (Nat × Operand)} {parts : List (Nat × Nat × Arg)} {z : List AV} {cs : Array Value}, okOffs P fs ps parts = true → (∀ p ∈ parts, ∀ y, okA p.2.2 y = true → RepP V (ρ p.2.2) (a.eval y)) →
      (∀ p ∈ parts, (cellsOf (ρ p.2.2)).length = p.2.1 ∧ p.1 + p.2.1 ≤ z.length) → RepPL V z cs.toList →
      ∃ cs', Instr.fill (places[·]?) cs (ps.map fun p => (p.1, a.eval p.2)) = some cs' ∧ RepPL V (fillA ρ parts z) cs'.toList
  | [], [], z, cs, _, _, _, hz => ⟨cs, rfl, hz⟩
  | [], p :: r, z, cs, h, _, _, _ => by simp [okOffs] at h
  | (i, y) :: ps, [], z, cs, h, _, _, _ => by simp [okOffs] at h
  | (i, y) :: ps, (off, n, x) :: parts, z, cs, h, hA, hl, hz => by
    simp only [okOffs, Bool.and_eq_true] at h
    obtain ⟨⟨h1, h2⟩, h3⟩ := h
    split at h1
    · rename_i f hf
      simp only [Bool.and_eq_true] at h1
      have ho := Nat.eq_of_beq_eq_true h1.1
      have hn := Nat.eq_of_beq_eq_true h1.2
      have hx := hA _ List.mem_cons_self _ h2
      have hlx := hl _ List.mem_cons_self
      simp only at hx hlx
      have hc := hx.cells
      have hcl : (a.eval y).cells.size = n := by
        have := hc.length
        rw [Array.length_toList] at this
        omega
      have hzl : cs.size = z.length := by
        have := hz.length
        rwa [Array.length_toList] at this
      obtain ⟨cs', h4, h5⟩ := fill_step (place := (places[·]?)) (i := i) (off := off) (x := a.eval y) (rest := ps.map fun p => (p.1, a.eval p.2)) (cs := cs) (by rw [hpl i f hf, ho, hn, hcl]) (by omega)
      have h6 : RepPL V (setAt z off (cellsOf (ρ x))) cs'.toList := by
        rw [h4]
        exact setAt_rep hz hc
      have hl6 : (setAt z off (cellsOf (ρ x))).length = z.length := by
        simp [setAt]
        omega
      obtain ⟨cs2, h7, h8⟩ := okOffs_fill hpl (ps := ps) (parts := parts) (z := setAt z off (cellsOf (ρ x))) (cs := cs') h3 (fun p hp => hA p (List.mem_cons_of_mem _ hp)) (fun p hp => by rw [hl6]; exact hl p (List.mem_cons_of_mem _ hp)) h6
      exact ⟨cs2, by rw [List.map_cons, h5, h7], h8⟩
    · cases h1
theorem okOffs_mem {fs : Array Field} : ∀ {ps : List (Nat × Operand)} {parts : List (Nat × Nat × Arg)}, okOffs P fs ps parts = true → True
  | _, _, _ => trivial
theorem mapM_fields {fs : List Field} (h : fs.all (fun f => (P.info? f.type).isSome) = true) :
    (fs.mapM fun f => (do pure (f.offset, ← sizeOf f.type) : Sem (Nat × Nat))).run P w = .ok (fs.map fun f => (f.offset, P.cellsOf f.type)) w := by
  induction fs with
  | nil => rfl
  | cons f fs ih =>
    simp only [List.all_cons, Bool.and_eq_true] at h
    simp only [List.mapM_cons, Sem.run_bind, run_size h.1, Result.andThen_ok, Sem.run_pure, ih h.2, List.map_cons]
theorem snd_build {d : Nat} {zero : List AV} {parts : List (Nat × Nat × Arg)} (hok : okOp' P o (.build d zero parts) = true) (h : opR P (.build d zero parts) ρ μ v u acc) (hA : ArgsOk V G ρ a (AOp.build d zero parts).args) (hs : Sat W0 V0 Own V G w μ) :
    Done W0 V0 Own P o a w V G μ v u := by
  obtain ⟨hp, rfl, rfl, rfl⟩ := h
  simp only [okOp'] at hok
  split at hok
  · rename_i t ps ho
    simp only [Bool.and_eq_true] at hok
    obtain ⟨hz, h2⟩ := hok
    obtain ⟨i, z, hi, hz, hc, hl, h1⟩ := okZero_spec hz
    split at h2
    · rename_i fs hu
      simp only [Bool.and_eq_true] at h2
      obtain ⟨h3, h4⟩ := h2
      obtain ⟨cs', h5, h6⟩ := okOffs_fill (P := P) (V := V) (ρ := ρ) (a := a) (fs := fs) (places := (fs.toList.map fun f => (f.offset, P.cellsOf f.type)).toArray) (fun i f hf => by simp [hf]) (z := zero) (cs := z.cells) h4
        (fun p hp' y hy => (hA _ (by simp only [AOp.args, List.mem_map]; exact ⟨p, hp', rfl⟩) y hy).pure (hp p hp').1) (fun p hp' => (hp p hp').2) (okCL_rep V hc)
      refine done_pure hs (val := .agg cs') ?_ ?_
      · rw [execOp, ho]
        refine run_v ?_
        have hm : (fs.mapM fun f => (do pure (f.offset, ← sizeOf f.type) : Sem (Nat × Nat))).run P w = .ok (fs.toList.map fun f => (f.offset, P.cellsOf f.type)).toArray w := by
          rw [Array.mapM_eq_mapM_toList, Sem.run_map, mapM_fields h3]
          rfl
        simp only [Instr.build, zeroValue, typeInfo, Sem.run_bind, run_program, Result.andThen_ok, hi, Sem.run_pure, hz, run_und hu, hm]
        have h7 : (ps.map fun p => (p.1, a.eval p.2)).toList = ps.toList.map fun p => (p.1, a.eval p.2) := by simp
        rw [show (Array.map (fun (x : Nat × Operand) => match x with | (i, x) => (i, a.eval x)) ps).toList = ps.toList.map fun p => (p.1, a.eval p.2) from h7, h5]
        rfl
      · simp only [Rep, RepP]
        exact ⟨cs'.toList, by simp, h6⟩
    · cases h2
  · cases hok

theorem RepR.of_flat {L : Nat → Option Value} : ∀ {xs : List (List AV)} {us : List Value} {esz o : Nat}, RepPL V xs.flatten us → (∀ c ∈ xs, c.length = esz) → (∀ j y, us[j]? = some y → L (o + j) = some y ∧ y.oneCell' = true) → RepR V L esz o xs
  | [], us, esz, o, _, _, _ => by simp [RepR]
  | c :: r, us, esz, o, h, hl, hL => by
    rw [List.flatten_cons] at h
    have h1 := hl c List.mem_cons_self
    have ht := h.take c.length
    have hd := h.drop c.length
    rw [List.take_left] at ht
    rw [List.drop_left] at hd
    simp only [RepR]
    refine ⟨h1, RepC.of_vals ht fun j y hy => ?_, RepR.of_flat hd (fun c' hc' => hl c' (List.mem_cons_of_mem _ hc')) fun j y hy => ?_⟩
    · rw [List.getElem?_take] at hy
      split at hy
      · exact hL j y hy
      · cases hy
    · rw [List.getElem?_drop, h1] at hy
      have := hL _ _ hy
      rwa [show o + (esz + j) = o + esz + j by omega] at this
theorem okRows_fill {esz : Nat} : ∀ {ps : List (Nat × Operand)} {rows : List Arg} {n : Nat} {cs : Array Value} {pre : List AV}, okRows n ps rows = true → (∀ r ∈ rows, ∀ y, okA r y = true → RepP V (ρ r) (a.eval y)) →
      (∀ r ∈ rows, (cellsOf (ρ r)).length = esz) → cs.size = (n + rows.length) * esz → pre.length = n * esz → RepPL V pre (cs.toList.take (n * esz)) →
      ∃ cs', Instr.fill (fun i => some (i * esz, esz)) cs (ps.map fun p => (p.1, a.eval p.2)) = some cs' ∧ RepPL V (pre ++ (rows.map fun r => cellsOf (ρ r)).flatten) cs'.toList
  | [], [], n, cs, pre, _, _, _, hsz, hpre, hr => ⟨cs, rfl, by
      simp only [List.map_nil, List.flatten_nil, List.append_nil]
      rwa [List.take_of_length_le (by rw [Array.length_toList, hsz]; simp)] at hr⟩
  | [], r :: rs, n, cs, pre, h, _, _, _, _, _ => by simp [okRows] at h
  | (i, y) :: ps, [], n, cs, pre, h, _, _, _, _, _ => by simp [okRows] at h
  | (i, y) :: ps, x :: rows, n, cs, pre, h, hA, hl, hsz, hpre, hr => by
    simp only [okRows, Bool.and_eq_true] at h
    obtain ⟨⟨h1, h2⟩, h3⟩ := h
    obtain rfl := Nat.eq_of_beq_eq_true h1
    have hx := (hA _ List.mem_cons_self _ h2).cells
    have hlx := hl _ List.mem_cons_self
    have hcl : (a.eval y).cells.size = esz := by
      have := hx.length
      rw [Array.length_toList] at this
      omega
    have hsz' : cs.size = i * esz + esz + rows.length * esz := by
      rw [hsz, List.length_cons, show i + (rows.length + 1) = i + 1 + rows.length by omega, Nat.add_mul, Nat.add_mul, Nat.one_mul]
    obtain ⟨cs', h4, h5⟩ := fill_step (place := fun i => some (i * esz, esz)) (i := i) (off := i * esz) (x := a.eval y) (rest := ps.map fun p => (p.1, a.eval p.2)) (cs := cs) (by rw [hcl]) (by omega)
    have hcl2 : (a.eval y).cells.toList.length = esz := by rw [Array.length_toList, hcl]
    have h6 : RepPL V (pre ++ cellsOf (ρ x)) (cs'.toList.take ((i + 1) * esz)) := by
      rw [h4]
      unfold splice
      rw [List.take_append, List.take_of_length_le (by simp [hcl2, Nat.add_mul]; omega)]
      have hlen : (cs.toList.take (i * esz) ++ (a.eval y).cells.toList).length = (i + 1) * esz := by
        simp [hcl, Nat.add_mul]
        omega
      rw [hlen, Nat.sub_self, List.take_zero, List.append_nil]
      exact hr.append hx
    have hsz2 : cs'.size = (i + 1 + rows.length) * esz := by
      have : cs'.toList.length = cs.toList.length := by rw [h4]; exact splice_length (by simp only [Array.length_toList]; omega)
      rw [Array.length_toList, Array.length_toList] at this
      rw [this, hsz, List.length_cons]
      congr 1
      omega
    obtain ⟨cs2, h7, h8⟩ := okRows_fill (ps := ps) (rows := rows) (n := i + 1) (cs := cs') (pre := pre ++ cellsOf (ρ x)) h3 (fun r hr => hA r (List.mem_cons_of_mem _ hr)) (fun r hr => hl r (List.mem_cons_of_mem _ hr)) hsz2 (by rw [List.length_append, hpre, hlx, Nat.add_mul, Nat.one_mul]) h6
    refine ⟨cs2, by rw [List.map_cons, h5, h7], ?_⟩
    simpa [List.append_assoc] using h8
theorem okBytes_spec {t : TypeId} {b : Nat} (h : okBytes P t b = true) : ∃ e i z, P.underlying t = some (.slice e) ∧ P.info? e = some i ∧ i.bytes = b ∧ i.zero = some z ∧ z.cells.size = i.size ∧ 0 < b := by
  unfold okBytes at h
  split at h
  · rename_i e he
    split at h
    · rename_i i hi
      simp only [Bool.and_eq_true, Bool.not_eq_true'] at h
      obtain ⟨⟨h1, h2⟩, h3⟩ := h
      split at h3
      · rename_i z hz
        refine ⟨e, i, z, he, hi, Nat.eq_of_beq_eq_true h1, hz, Nat.eq_of_beq_eq_true h3, Nat.pos_of_ne_zero fun e => ?_⟩
        rw [e] at h2
        exact absurd h2 (by decide)
      · cases h3
    · cases h
  · cases h
theorem okZeroE_spec {t : TypeId} (h : okZeroE P t = true) : ∃ e i z, P.underlying t = some (.slice e) ∧ P.info? e = some i ∧ i.zero = some z := by
  unfold okZeroE at h
  split at h
  · rename_i e he
    split at h
    · rename_i i hi
      obtain ⟨z, hz⟩ := Option.isSome_iff_exists.1 h
      exact ⟨e, i, z, he, hi, hz⟩
    · cases h
  · cases h
theorem run_bsl {t : TypeId} {n esz : Nat} {ps : Array (Nat × Operand)} {rows : List Arg} (ho : o.op = .buildSlice t n ps) (h1 : okSl P t esz = true) (h2 : n = rows.length) (h3 : okRows 0 ps.toList rows = true) (h4 : okZeroE P t = true) (h5 : n * esz ≤ 16777216)
    (hA : ∀ r ∈ rows, ∀ y, okA r y = true → RepP V (ρ r) (a.eval y)) (hl : ∀ r ∈ rows, (cellsOf (ρ r)).length = esz) :
    ∃ (us : List Value) (T : TypeId), (execOp a.eval o).run P w = .ok (.value (.slice (some ⟨w.heap.size, 0, none⟩) n n)) (w.alloc (.cells us.toArray T)) ∧ RepPL V (rows.map fun r => cellsOf (ρ r)).flatten us := by
  obtain ⟨e, hu, he, hi⟩ := okSl_spec h1
  obtain ⟨e', i, z, hu', hi', hz⟩ := okZeroE_spec h4
  rw [hu] at hu'
  cases hu'
  have hsz : i.size = esz := by rw [← he]; simp [Program.cellsOf, hi']
  generalize hz0 : (Array.range (n * i.size)).map ((if n * i.size = 0 then #[] else z.cells)[· % (if n * i.size = 0 then #[] else z.cells).size]!) = zs
  have hzs : zs.size = n * esz := by rw [← hz0, hsz]; simp
  obtain ⟨cs', h6, h7⟩ := okRows_fill (V := V) (ρ := ρ) (a := a) (esz := esz) (n := 0) (cs := zs) (pre := []) h3 hA hl (by rw [hzs, h2, Nat.zero_add]) (by simp) (by simp [RepPL])
  refine ⟨cs'.toList, e, ?_, by simpa using h7⟩
  rw [execOp, ho]
  refine run_v ?_
  have h8 : (ps.map fun p => (p.1, a.eval p.2)).toList = ps.toList.map fun p => (p.1, a.eval p.2) := by simp
  have h9 : ¬ n * esz > 2 ^ 24 := by omega
  simp only [Instr.buildSlice, Sem.run_bind, run_und hu, Result.andThen_ok, run_size hi, he, Sem.run_ite, h9, if_false, Sem.run_pure]
  rw [hsz] at hz0
  have h11 : ∀ (cs : Array Value), cs = zs → Instr.fill (fun i => some (i * esz, esz)) cs (Array.map (fun (x : Nat × Operand) => match x with | (i, x) => (i, a.eval x)) ps).toList = some cs' := by
    intro cs hcs
    rw [hcs, show (Array.map (fun (x : Nat × Operand) => match x with | (i, x) => (i, a.eval x)) ps).toList = ps.toList.map fun p => (p.1, a.eval p.2) from h8, h6]
  by_cases h0 : n * esz = 0
  · rw [if_pos h0]
    simp only [if_pos h0] at hz0
    have := h11 _ hz0
    rw [this]
    simp [newRow]
  · rw [if_neg h0]
    simp only [if_neg h0] at hz0
    have := h11 _ hz0
    simp only [zeroValue, typeInfo, hi', hz, Sem.run_bind, run_program, Result.andThen_ok, Sem.run_pure]
    rw [this]
    simp [newRow]
theorem oneAL_flatten {rows : List Arg} (h : ∀ r ∈ rows, oneAL (cellsOf (ρ r)) = true) : oneAL (rows.map fun r => cellsOf (ρ r)).flatten = true := by
  have happ : ∀ x y : List AV, oneAL x = true → oneAL y = true → oneAL (x ++ y) = true := by
    intro x y hx hy
    induction x with
    | nil => exact hy
    | cons c x ih =>
      simp only [oneAL, List.cons_append, Bool.and_eq_true] at hx ⊢
      exact ⟨hx.1, ih hx.2⟩
  induction rows with
  | nil => rfl
  | cons r rows ih =>
    simp only [List.map_cons, List.flatten_cons]
    exact happ _ _ (h r List.mem_cons_self) (ih fun r hr => h r (List.mem_cons_of_mem _ hr))
theorem snd_bslp {d esz : Nat} {rows : List Arg} (hok : okOp' P o (.bslp d esz rows) = true) (h : opR P (.bslp d esz rows) ρ μ v u acc) (hA : ArgsOk V G ρ a (AOp.bslp d esz rows).args) (hs : Sat W0 V0 Own V G w μ) :
    Done W0 V0 Own P o a w V G μ v u := by
  obtain ⟨hp, rfl, rfl, rfl⟩ := h
  simp only [okOp'] at hok
  split at hok
  · rename_i t n ps ho
    simp only [Bool.and_eq_true, decide_eq_true_eq] at hok
    obtain ⟨⟨⟨⟨h1, h2⟩, h3⟩, h4⟩, h5⟩ := hok
    have h2 := Nat.eq_of_beq_eq_true h2
    obtain ⟨us, T, hr, hu⟩ := run_bsl (V := V) (ρ := ρ) (a := a) (w := w) ho h1 h2 h3 h4 h5 (fun r hr y hy => (hA r (by simpa [AOp.args] using hr) y hy).pure (hp r hr).1) (fun r hr => (hp r hr).2.2)
    have hone := oneAL_get hu (oneAL_flatten fun r hr => (hp r hr).2.1)
    have hV := hs.viewNew_le us
    refine done_w (hs.frozen us T) hr ?_ hV (Ctx.le_refl _)
    simp only [Rep, RepP]
    refine ⟨some ⟨w.heap.size, 0, none⟩, n, by simp [h2], by simp [h2], .inr ⟨w.heap.size, 0, esz, rfl, RepR.of_flat (hu.mono hV) ?_ ?_⟩⟩
    · intro c hc
      obtain ⟨r, hr, rfl⟩ := List.mem_map.1 hc
      exact (hp r hr).2.2
    · intro j y hy
      rw [Nat.zero_add]
      unfold viewNew
      rw [if_pos rfl]
      exact ⟨hy, hone y (List.mem_of_getElem? hy)⟩
  · cases hok
theorem snd_bslo {d key esz : Nat} {rows : List Arg} (hok : okOp' P o (.bslo d key esz rows) = true) (h : opR P (.bslo d key esz rows) ρ μ v u acc) (hA : ArgsOk V G ρ a (AOp.bslo d key esz rows).args) (hs : Sat W0 V0 Own V G w μ) :
    Done W0 V0 Own P o a w V G μ v u := by
  obtain ⟨hm, hp, rfl, rfl, rfl⟩ := h
  simp only [okOp'] at hok
  split at hok
  · rename_i t n ps ho
    simp only [Bool.and_eq_true, decide_eq_true_eq] at hok
    obtain ⟨⟨⟨⟨h1, h2⟩, h3⟩, h4⟩, h5⟩ := hok
    have h2 := Nat.eq_of_beq_eq_true h2
    obtain ⟨us, T, hr, hu⟩ := run_bsl (V := V) (ρ := ρ) (a := a) (w := w) ho h1 h2 h3 h4 h5 (fun r hr y hy => (hA r (by simpa [AOp.args] using hr) y hy).pure (hp r hr).1) (fun r hr => (hp r hr).2.2)
    have hone := oneAL_get hu (oneAL_flatten fun r hr => (hp r hr).2.1)
    have hrow : ∀ c ∈ (rows.map fun r => cellsOf (ρ r)), c.length = esz := by
      intro c hc
      obtain ⟨r, hr, rfl⟩ := List.mem_map.1 hc
      exact (hp r hr).2.2
    have hul : us.length = n * esz := by
      rw [hu.length, h2]
      have flat : ∀ (xs : List (List AV)), (∀ c ∈ xs, c.length = esz) → xs.flatten.length = xs.length * esz := by
        intro xs hx
        induction xs with
        | nil => simp
        | cons c xs ih =>
          simp only [List.flatten_cons, List.length_append, List.length_cons, Nat.add_mul, Nat.one_mul]
          rw [hx _ List.mem_cons_self, ih (fun c hc => hx c (List.mem_cons_of_mem _ hc))]
          omega
      rw [flat _ hrow, List.length_map]
    have hul' : True := by
      cases rows with
      | nil => trivial
      | cons r rows => trivial
    have hle := Ctx.le_new (s := .arr 0 esz n (some (w.heap.size, 0, n * esz))) (hs.fresh hm)
    have hs' := hs.newOb (s := .arr 0 esz n (some (w.heap.size, 0, n * esz))) (ob := .arr 0 esz (rows.map fun r => cellsOf (ρ r))) (.cells us.toArray T) hm rfl (by
      simp only [ObOk]
      refine ⟨trivial, trivial, by simp [h2], (fun h => by cases h), fun b o tot h => ?_⟩
      cases h
      refine ⟨us, T, heap_alloc_new, hul, by omega, RepR.of_flat hu hrow fun j y hy => ?_⟩
      rw [Nat.zero_add]
      exact ⟨hy, hone y (List.mem_of_getElem? hy)⟩)
    refine done_w (μ := μ) (u := [(key, .arr 0 esz (rows.map fun r => cellsOf (ρ r)))]) hs' hr ?_ (View.le_refl _) hle
    simp only [Rep]
    refine ⟨⟨_, _, by rw [h2]⟩, 0, esz, n, _, if_pos trivial, Nat.le_refl _, fun _ => ⟨_, n, by rw [h2], by omega, by omega, by omega, ?_⟩⟩
    exact ⟨.inr (by simp), by simp⟩
  · cases hok
end
end Go.AM
