/- The abstract machine's operations are the program's: parts of slices and texts, function values, tuples, comparisons. -/
import Derived.Test.YtmmgdilhbkklpaaAMJ
namespace Go.AM
open Go
set_option linter.unusedVariables false
set_option linter.unusedSimpArgs false
section
variable {W0 : World} {V0 : View} {Own : Fra} {P : Program} {o : Oper} {a : Act} {w : World} {V : View} {G : Ctx} {μ : Nat → Option Ob} {ρ : Arg → AV} {v : AV} {u : List (Nat × Ob)} {acc : Acc}
theorem optI_val {d l : Int} {x : Option Arg} {y : Option Operand} (hok : okOpt x y = true) (hA : ∀ z ∈ x.toList, ∀ y, okA z y = true → Rep V G (ρ z) (a.eval y)) (h : optI ρ d x = some l) :
    (x = none ∧ y = none ∧ l = d) ∨ (∃ q p k, x = some q ∧ y = some p ∧ a.eval p = .int k l) := by
  cases x with
  | none =>
    cases y with
    | none => left; simp [optI] at h; exact ⟨rfl, rfl, h.symm⟩
    | some y => simp [okOpt] at hok
  | some q =>
    cases y with
    | none => simp [okOpt] at hok
    | some p =>
      right
      simp only [okOpt] at hok
      have := hA q (by simp) p hok
      simp only [optI] at h
      split at h
      · rename_i k n hn
        cases h
        rw [hn] at this
        exact ⟨q, p, k, rfl, rfl, rep_int this⟩
      · cases h
theorem run_sb (b : Bool) {len cap : Nat} {l h : Int} {lo hi : Option Arg} {ylo yhi : Option Operand} (h1 : okOpt lo ylo = true) (h2 : okOpt hi yhi = true)
    (hA : ∀ z ∈ lo.toList ++ hi.toList, ∀ y, okA z y = true → Rep V G (ρ z) (a.eval y)) (hl : optI ρ 0 lo = some l) (hh : optI ρ len hi = some h) (l0 : 0 ≤ l) (lh : l ≤ h) (hb1 : h ≤ (cap : Int)) :
    (Instr.sliceBounds b len cap (ylo.map a.eval) (yhi.map a.eval) none).run P w = .ok (l.toNat, h.toNat, cap) w := by
  have e1 := optI_val h1 (fun z hz => hA z (by simp [hz])) hl
  have e2 := optI_val h2 (fun z hz => hA z (by simp [hz])) hh
  have hb2 : l ≤ ((h.toNat : Nat) : Int) := by omega
  have hb3 : 0 ≤ h := by omega
  rcases e1 with ⟨_, rfl, rfl⟩ | ⟨_, p1, k1, _, rfl, v1⟩ <;> rcases e2 with ⟨_, rfl, rfl⟩ | ⟨_, p2, k2, _, rfl, v2⟩
  · simp [Instr.sliceBounds]
  · simp only [Instr.sliceBounds, Option.map_some, Option.map_none, v2, Sem.run_bind, Sem.run_pure, Result.andThen_ok, run_sliceBound w _ _ _ _ hb3 hb1]
    rfl
  · simp only [Instr.sliceBounds, Option.map_some, Option.map_none, v1, Sem.run_bind, Sem.run_pure, Result.andThen_ok]
    rw [run_sliceBound w _ _ _ _ l0 (by omega)]
    simp
  · simp only [Instr.sliceBounds, Option.map_some, v1, v2, Sem.run_bind, Sem.run_pure, Result.andThen_ok, run_sliceBound w _ _ _ _ hb3 hb1]
    rw [run_sliceBound w _ _ _ _ l0 hb2]
    rfl
theorem RepR.esz_of {L : Nat → Option Value} {xs : List (List AV)} {e n o : Nat} (h : RepR V L e o xs) (hl : ∀ c ∈ xs, c.length = n) (hne : xs ≠ []) : e = n := by
  cases xs with
  | nil => exact absurd rfl hne
  | cons c r =>
    simp only [RepR] at h
    have := hl c List.mem_cons_self
    omega
theorem snd_slc {d esz : Nat} {x : Arg} {lo hi : Option Arg} (hok : okOp' P o (.slc d x lo hi esz) = true) (h : opR P (.slc d x lo hi esz) ρ μ v u acc) (hA : ArgsOk V G ρ a (AOp.slc d x lo hi esz).args) (hs : Sat W0 V0 Own V G w μ) :
    Done W0 V0 Own P o a w V G μ v u := by
  obtain ⟨rfl, h⟩ := h
  simp only [okOp'] at hok
  split at hok
  · rename_i t px ylo yhi ho
    simp only [Bool.and_eq_true] at hok
    obtain ⟨⟨⟨h1, h2⟩, h3⟩, h4⟩ := hok
    obtain ⟨e, hu, hn, hi'⟩ := okSl_spec h4
    have hx := hA _ (by simp [AOp.args]) _ h1
    have key : ∀ (A : Option Addr) (len cap : Nat) (l h : Int), a.eval px = .slice A len cap → optI ρ 0 lo = some l → optI ρ len hi = some h → 0 ≤ l → l ≤ h → h ≤ (cap : Int) →
        (execOp a.eval o).run P w = .ok (.value (.slice (if cap = l.toNat then A else A.map (·.add (l.toNat * esz))) (h.toNat - l.toNat) (cap - l.toNat))) w := by
      intro A len cap l h hv hl hh l0 lh hc
      rw [execOp, ho]
      refine run_v ?_
      simp only [Instr.sliceAt, Instr.slice, hv, Sem.run_bind, run_und hu, Result.andThen_ok, run_sb true h2 h3 (fun z hz => hA z (by simp only [AOp.args]; exact List.mem_cons_of_mem _ hz)) hl hh l0 lh hc, run_size hi', hn, Option.map_none, Sem.run_pure]
    rcases h with ⟨xs, l, h, he, hlen, hl, hh, l0, lh, hle, rfl, rfl⟩ | ⟨k, ver, off, len, xs, l, h, he, hm, hl, hh, l0, lh, hle, rfl, rfl⟩
    · obtain ⟨A, cap, hv, hcap, hr⟩ := rep_sl he hx
      refine done_pure hs (key A xs.length cap l h hv hl hh l0 lh (by omega)) ?_
      simp only [Rep, RepP]
      have hlen2 : ((xs.take h.toNat).drop l.toNat).length = h.toNat - l.toNat := by simp; omega
      refine ⟨_, cap - l.toNat, by rw [hlen2], by rw [hlen2]; omega, ?_⟩
      by_cases hnil : (xs.take h.toNat).drop l.toNat = []
      · exact .inl hnil
      · right
        rcases hr with rfl | ⟨b, of, e', rfl, hr⟩
        · simp at hnil
        · have hne : xs ≠ [] := fun e => hnil (by simp [e])
          have he' := hr.esz_of hlen hne
          subst he'
          have h0 : (xs.take h.toNat).drop l.toNat ≠ [] := hnil
          have hpos : 0 < h.toNat - l.toNat := by
            rw [← hlen2]
            exact List.length_pos_iff.2 h0
          refine ⟨b, of + l.toNat * e', e', ?_, (hr.take _).drop _⟩
          rw [if_neg (by omega)]
          simp [add_lit]
    · rw [he] at hx
      simp only [Rep] at hx
      obtain ⟨⟨A, cap, hv⟩, ver', esz', nn, loc, hg, hle', hq⟩ := hx
      obtain ⟨s, hgs, hob⟩ := hs.obs _ _ hm
      rw [hg] at hgs
      cases hgs
      obtain ⟨rfl, rfl, rfl, hnone, hloc⟩ := hob
      obtain ⟨A', cap', hv', hlc, hol, hnc, hq⟩ := hq rfl
      rw [hv] at hv'
      cases hv'
      refine done_pure hs (key A len cap l h hv hl hh l0 lh (by omega)) ?_
      simp only [Rep]
      refine ⟨⟨_, _, rfl⟩, _, _, _, _, hg, Nat.le_refl _, fun _ => ⟨_, cap - l.toNat, rfl, by omega, by omega, by omega, ?_⟩⟩
      cases loc with
      | none =>
        obtain ⟨rfl, rfl, hn0⟩ := hq
        exact ⟨by simp, by omega, hn0⟩
      | some loc =>
        obtain ⟨b, of, tot⟩ := loc
        obtain ⟨hA', htot⟩ := hq
        refine ⟨?_, ?_⟩
        · by_cases hc0 : cap = l.toNat
          · left; omega
          · right
            rw [if_neg hc0]
            have hA2 := hA'.resolve_left (by omega)
            subst hA2
            simp only [Option.map_some, add_lit]
            rw [Nat.add_mul, Nat.add_assoc]
        · rw [show off + l.toNat + (cap - l.toNat) = off + cap by omega]
          exact htot
  · cases hok
theorem snd_sslc {d : Nat} {x : Arg} {lo hi : Option Arg} (hok : okOp' P o (.sslc d x lo hi) = true) (h : opR P (.sslc d x lo hi) ρ μ v u acc) (hA : ArgsOk V G ρ a (AOp.sslc d x lo hi).args) (hs : Sat W0 V0 Own V G w μ) :
    Done W0 V0 Own P o a w V G μ v u := by
  obtain ⟨rfl, rfl, s, l, h, he, hl, hh, l0, lh, hle, rfl⟩ := h
  simp only [okOp'] at hok
  split at hok
  · rename_i t px ylo yhi ho
    simp only [Bool.and_eq_true] at hok
    obtain ⟨⟨⟨h1, h2⟩, h3⟩, h4⟩ := hok
    have hx := hA _ (by simp [AOp.args]) _ h1
    rw [he] at hx
    have hx := rep_str hx
    split at h4
    · rename_i hu
      refine done_pure hs (val := .string (s.extract l.toNat h.toNat)) ?_ rfl
      rw [execOp, ho]
      refine run_v ?_
      simp only [Instr.sliceAt, Instr.slice, hx, Sem.run_bind, run_und hu, Result.andThen_ok, Option.map_none, Option.isSome_none, Bool.false_eq_true, if_false, Sem.run_pure]
      rw [run_sb false h2 h3 (fun z hz => hA z (by simp only [AOp.args]; exact List.mem_cons_of_mem _ hz)) hl hh l0 lh hle]
      rfl
    · cases h4
  · cases hok
theorem snd_slc3 {d esz : Nat} {x hi mx : Arg} {lo : Option Arg} (hok : okOp' P o (.slc3 d x lo hi mx esz) = true) (h : opR P (.slc3 d x lo hi mx esz) ρ μ v u acc) (hA : ArgsOk V G ρ a (AOp.slc3 d x lo hi mx esz).args) (hs : Sat W0 V0 Own V G w μ) :
    Done W0 V0 Own P o a w V G μ v u := by
  obtain ⟨rfl, h⟩ := h
  simp only [okOp'] at hok
  split at hok
  · rename_i t px ylo yhi ymx ho
    simp only [Bool.and_eq_true] at hok
    obtain ⟨⟨⟨⟨h1, h2⟩, h3⟩, h3'⟩, h4⟩ := hok
    obtain ⟨e, hu, hn, hi'⟩ := okSl_spec h4
    have hx := hA _ (by simp [AOp.args]) _ h1
    rcases h with ⟨rfl, xs, l, h, m, he, hlen, hl, hh, hmm, l0, lh, rfl, hle, rfl⟩ | ⟨k, ver, off, len, eo, xs, l, h, m, he, hm, hl, hh, hmm, l0, lh, hle, hml, rfl, rfl⟩
    · have e1 := optI_val h2 (fun z hz => hA z (by simp only [AOp.args]; exact List.mem_cons_of_mem _ (List.mem_cons_of_mem _ (List.mem_cons_of_mem _ hz)))) hl
      have e2 := optI_val (x := some hi) (y := some yhi) h3 (fun z hz => hA z (by simp at hz; simp [AOp.args, hz])) hh
      have e3 := optI_val (x := some mx) (y := some ymx) h3' (fun z hz => hA z (by simp at hz; simp [AOp.args, hz])) hmm
      obtain ⟨A, cap, hv, hcap, hr⟩ := rep_sl he hx
      rcases e2 with ⟨hc, _⟩ | ⟨_, p2, k2, _, hp2, v2⟩
      · cases hc
      cases hp2
      rcases e3 with ⟨hc, _⟩ | ⟨_, p3, k3, _, hp3, v3⟩
      · cases hc
      cases hp3
      have hb : (Instr.sliceBounds true xs.length cap (ylo.map a.eval) (some (.int k2 h)) (some (.int k3 h))).run P w = .ok (l.toNat, h.toNat, h.toNat) w := by
        have hb1 : h ≤ (cap : Int) := by omega
        have hb2 : l ≤ ((h.toNat : Nat) : Int) := by omega
        have hb3 : 0 ≤ h := by omega
        have hb4 : h ≤ ((h.toNat : Nat) : Int) := by omega
        rcases e1 with ⟨_, rfl, rfl⟩ | ⟨_, p1, k1, _, rfl, v1⟩
        · simp only [Instr.sliceBounds, Option.map_none, Sem.run_bind, Sem.run_pure, Result.andThen_ok, run_sliceBound w _ _ _ _ hb3 hb1, run_sliceBound w _ _ _ _ hb3 hb4]
          rfl
        · simp only [Instr.sliceBounds, Option.map_some, v1, Sem.run_bind, Sem.run_pure, Result.andThen_ok, run_sliceBound w _ _ _ _ hb3 hb1, run_sliceBound w _ _ _ _ hb3 hb4, run_sliceBound w _ _ _ _ l0 hb2]
      have hlen2 : ((xs.take h.toNat).drop l.toNat).length = h.toNat - l.toNat := by simp; omega
      refine done_pure hs (val := .slice (if h.toNat = l.toNat then A else A.map (·.add (l.toNat * esz))) (h.toNat - l.toNat) (h.toNat - l.toNat)) ?_ ?_
      · rw [execOp, ho]
        refine run_v ?_
        simp only [Instr.sliceAt, Instr.slice, hv, Sem.run_bind, run_und hu, Result.andThen_ok, Option.map_some, v2, v3, hb, run_size hi', hn, Sem.run_pure]
      · simp only [Rep, RepP]
        refine ⟨_, by rw [hlen2], ?_⟩
        by_cases hnil : (xs.take h.toNat).drop l.toNat = []
        · exact .inl hnil
        · right
          rcases hr with rfl | ⟨b, of, e', rfl, hr⟩
          · simp at hnil
          · have hne : xs ≠ [] := fun e => hnil (by simp [e])
            have he' := hr.esz_of hlen hne
            subst he'
            have hpos : 0 < h.toNat - l.toNat := by
              rw [← hlen2]
              exact List.length_pos_iff.2 hnil
            refine ⟨b, of + l.toNat * e', e', ?_, (hr.take _).drop _⟩
            rw [if_neg (by omega)]
            simp [add_lit]
    · have e1 := optI_val h2 (fun z hz => hA z (by simp only [AOp.args]; exact List.mem_cons_of_mem _ (List.mem_cons_of_mem _ (List.mem_cons_of_mem _ hz)))) hl
      have e2 := optI_val (x := some hi) (y := some yhi) h3 (fun z hz => hA z (by simp at hz; simp [AOp.args, hz])) hh
      have e3 := optI_val (x := some mx) (y := some ymx) h3' (fun z hz => hA z (by simp at hz; simp [AOp.args, hz])) hmm
      rw [he] at hx
      simp only [Rep] at hx
      obtain ⟨⟨A, cap, hv⟩, ver', esz', nn, loc, hg, hle', hq⟩ := hx
      obtain ⟨s, hgs, hob⟩ := hs.obs _ _ hm
      rw [hg] at hgs
      cases hgs
      obtain ⟨rfl, rfl, rfl, hnone, hloc⟩ := hob
      obtain ⟨A', cap', hv', hlc, hol, hnc, hq⟩ := hq rfl
      rw [hv] at hv'
      cases hv'
      rcases e2 with ⟨hc, _⟩ | ⟨_, p2, k2, _, hp2, v2⟩
      · cases hc
      cases hp2
      rcases e3 with ⟨hc, _⟩ | ⟨_, p3, k3, _, hp3, v3⟩
      · cases hc
      cases hp3
      have hb : (Instr.sliceBounds true len cap (ylo.map a.eval) (some (.int k2 h)) (some (.int k3 m))).run P w = .ok (l.toNat, h.toNat, m.toNat) w := by
        have hb1 : m ≤ (cap : Int) := by omega
        have hb2 : l ≤ ((h.toNat : Nat) : Int) := by omega
        have hb3 : 0 ≤ h := by omega
        have hb5 : 0 ≤ m := by omega
        have hb4 : h ≤ ((m.toNat : Nat) : Int) := by omega
        rcases e1 with ⟨_, rfl, rfl⟩ | ⟨_, p1, k1, _, rfl, v1⟩
        · simp only [Instr.sliceBounds, Option.map_none, Sem.run_bind, Sem.run_pure, Result.andThen_ok, run_sliceBound w _ _ _ _ hb5 hb1, run_sliceBound w _ _ _ _ hb3 hb4]
          rfl
        · simp only [Instr.sliceBounds, Option.map_some, v1, Sem.run_bind, Sem.run_pure, Result.andThen_ok, run_sliceBound w _ _ _ _ hb5 hb1, run_sliceBound w _ _ _ _ hb3 hb4, run_sliceBound w _ _ _ _ l0 hb2]
      refine done_pure hs (val := .slice (if m.toNat = l.toNat then A else A.map (·.add (l.toNat * esz))) (h.toNat - l.toNat) (m.toNat - l.toNat)) ?_ ?_
      · rw [execOp, ho]
        refine run_v ?_
        simp only [Instr.sliceAt, Instr.slice, hv, Sem.run_bind, run_und hu, Result.andThen_ok, Option.map_some, v2, v3, hb, run_size hi', hn, Sem.run_pure]
      · simp only [Rep]
  · cases hok
theorem snd_sidx {d : Nat} {x y : Arg} (hok : okOp' P o (.sidx d x y) = true) (h : opR P (.sidx d x y) ρ μ v u acc) (hA : ArgsOk V G ρ a (AOp.sidx d x y).args) (hs : Sat W0 V0 Own V G w μ) :
    Done W0 V0 Own P o a w V G μ v u := by
  obtain ⟨rfl, rfl, s, ik, z, b, he, hz, h0, hb, rfl⟩ := h
  simp only [okOp'] at hok
  split at hok
  · rename_i t px py ho
    simp only [Bool.and_eq_true] at hok
    obtain ⟨⟨h1, h2⟩, h4⟩ := hok
    have hx := hA _ (by simp [AOp.args]) _ h1
    rw [he] at hx
    have hx := rep_str hx
    have hy := hA _ (by simp [AOp.args]) _ h2
    rw [hz] at hy
    have hy := rep_int hy
    split at h4
    · rename_i hu
      refine done_pure hs (val := .int .u8 b.toNat) ?_ rfl
      rw [execOp, ho]
      refine run_v ?_
      simp only [Instr.index, hx, hy, asIntOf, Sem.run_bind, run_und hu, Result.andThen_ok, Sem.run_pure, if_pos h0, hb]
    · cases h4
  · cases hok
theorem okAs_rep : ∀ {xs : List Arg} {ys : List Operand}, okAs xs ys = true → ArgsOk V G ρ a xs → RepL V G (xs.map ρ) (ys.map a.eval)
  | [], [], _, _ => by simp [RepL]
  | [], y :: ys, h, _ => by simp [okAs] at h
  | x :: xs, [], h, _ => by simp [okAs] at h
  | x :: xs, y :: ys, h, hA => by
    simp only [okAs, Bool.and_eq_true] at h
    simp only [List.map_cons, RepL]
    exact ⟨_, _, rfl, hA x List.mem_cons_self y h.1, okAs_rep h.2 fun z hz => hA z (List.mem_cons_of_mem _ hz)⟩
theorem snd_mkfn {d f : Nat} {caps : List Arg} (hok : okOp' P o (.mkfn d f caps) = true) (h : opR P (.mkfn d f caps) ρ μ v u acc) (hA : ArgsOk V G ρ a (AOp.mkfn d f caps).args) (hs : Sat W0 V0 Own V G w μ) :
    Done W0 V0 Own P o a w V G μ v u := by
  obtain ⟨rfl, rfl, rfl⟩ := h
  simp only [okOp'] at hok
  split at hok
  · rename_i g first cs ho
    simp only [Bool.and_eq_true, List.isEmpty_iff, Array.toList_eq_nil_iff] at hok
    obtain ⟨⟨h1, rfl⟩, h3⟩ := hok
    obtain rfl := Nat.eq_of_beq_eq_true h1
    refine done_pure hs (val := .func (.func f) #[] (cs.map a.eval)) ?_ ?_
    · rw [execOp, ho]
      exact run_v (by simp [Instr.makeFunc])
    · simp only [Rep]
      exact ⟨cs.toList.map a.eval, by rw [← Array.toList_map], okAs_rep h3 hA⟩
  · cases hok
theorem snd_ext {d i : Nat} {x : Arg} (hok : okOp' P o (.ext d x i) = true) (h : opR P (.ext d x i) ρ μ v u acc) (hA : ArgsOk V G ρ a (AOp.ext d x i).args) (hs : Sat W0 V0 Own V G w μ) :
    Done W0 V0 Own P o a w V G μ v u := by
  obtain ⟨⟨xs, he, hi⟩, rfl, rfl⟩ := h
  simp only [okOp'] at hok
  split at hok
  · rename_i y j ho
    simp only [Bool.and_eq_true] at hok
    obtain rfl := Nat.eq_of_beq_eq_true hok.2
    have hx := hA _ (by simp [AOp.args]) _ hok.1
    rw [he] at hx
    simp only [Rep] at hx
    obtain ⟨us, hv, hr⟩ := hx
    obtain ⟨val, h1, h2⟩ := hr.get hi
    refine done_pure hs (val := val) ?_ h2
    rw [execOp, ho]
    refine run_v ?_
    simp [Instr.extract, hv, h1]
  · cases hok
theorem snd_pick {d : Nat} {c x y : Arg} (hok : okOp' P o (.pick d c x y) = true) (h : opR P (.pick d c x y) ρ μ v u acc) (hA : ArgsOk V G ρ a (AOp.pick d c x y).args) (hs : Sat W0 V0 Own V G w μ) :
    Done W0 V0 Own P o a w V G μ v u := by
  obtain ⟨⟨t, he, rfl⟩, rfl, rfl⟩ := h
  simp only [okOp'] at hok
  split at hok
  · rename_i pc px py ho
    simp only [Bool.and_eq_true] at hok
    have hc := hA _ (by simp [AOp.args]) _ hok.1.1
    rw [he] at hc
    have hc := rep_bool hc
    have hx := hA x (by simp [AOp.args]) _ hok.1.2
    have hy := hA y (by simp [AOp.args]) _ hok.2
    refine done_pure hs (val := if t then a.eval px else a.eval py) ?_ (by cases t <;> assumption)
    rw [execOp, ho]
    simp only [hc, asBool, Sem.run_bind, Sem.run_pure, Result.andThen_ok]
  · cases hok
theorem snd_mxn {d : Nat} {m : Bool} {x y : Arg} (hok : okOp' P o (.mxn d m x y) = true) (h : opR P (.mxn d m x y) ρ μ v u acc) (hA : ArgsOk V G ρ a (AOp.mxn d m x y).args) (hs : Sat W0 V0 Own V G w μ) :
    Done W0 V0 Own P o a w V G μ v u := by
  obtain ⟨⟨k, p, q, he, he', rfl⟩, rfl, rfl⟩ := h
  simp only [okOp'] at hok
  split at hok
  · rename_i b as ts ho
    simp only [Bool.and_eq_true, decide_eq_true_eq] at hok
    obtain ⟨y1, y2, hy, h1, h2⟩ := okAs_two hok.2
    obtain rfl : as = #[y1, y2] := by rw [← Array.toList_inj, hy]
    have hx := hA x (by simp [AOp.args]) _ h1
    have hy := hA y (by simp [AOp.args]) _ h2
    rw [he] at hx
    rw [he'] at hy
    have hx := rep_int hx
    have hy := rep_int hy
    have hb := hok.1
    cases m with
    | true =>
      simp only [cond_true] at hb
      subst hb
      refine done_pure hs (val := .int k (if q > p then q else p)) ?_ rfl
      rw [execOp, ho]
      simp [resolve, invoke, builtin, Builtin.max_, Builtin.max2, hx, hy]
    | false =>
      simp only [cond_false] at hb
      subst hb
      refine done_pure hs (val := .int k (if q < p then q else p)) ?_ rfl
      rw [execOp, ho]
      simp [resolve, invoke, builtin, Builtin.min_, Builtin.min2, hx, hy]
  · cases hok
theorem snd_field {d off n : Nat} {ag : Bool} {x : Arg} (hok : okOp' P o (.field d x off n ag) = true) (h : opR P (.field d x off n ag) ρ μ v u acc) (hA : ArgsOk V G ρ a (AOp.field d x off n ag).args) (hs : Sat W0 V0 Own V G w μ) :
    Done W0 V0 Own P o a w V G μ v u := by
  obtain ⟨⟨c, he, hl⟩, rfl, rfl⟩ := h
  simp only [okOp'] at hok
  split at hok
  · rename_i t y f ho
    simp only [Bool.and_eq_true] at hok
    obtain ⟨h1, h2⟩ := hok
    have hx := hA _ (by simp [AOp.args]) _ h1
    rw [he] at hx
    simp only [Rep, RepP] at hx
    obtain ⟨us, hv, hr⟩ := hx
    split at h2
    · rename_i fs hu
      split at h2
      · rename_i fd hf
        simp only [Bool.and_eq_true, beq_iff_eq] at h2
        obtain ⟨⟨⟨⟨h2, h3⟩, h4⟩, h5⟩, h6⟩ := h2
        obtain rfl := Nat.eq_of_beq_eq_true h2
        have hn := Nat.eq_of_beq_eq_true h3
        have hd := hr.drop fd.offset
        have hlen := hr.length
        cases ag with
        | true =>
          simp only [loadV] at hl
          split at hl
          · rename_i hle
            cases hl
            refine done_pure hs (val := .agg ((us.drop fd.offset).take n).toArray) ?_ ?_
            · rw [execOp, ho]
              refine run_v ?_
              simp only [Instr.field, hv, asAgg, Sem.run_bind, run_und hu, Result.andThen_ok, hf, part, run_isAgg h6, h5, if_true, run_size h4, hn, Sem.run_pure]
              congr 2
              rw [← Array.toList_inj]
              simp only [Array.toList_extract, List.extract_eq_take_drop]
              congr 2
              omega
            · simp only [Rep, RepP]
              exact ⟨_, rfl, hd.take n⟩
          · cases hl
        | false =>
          simp only [loadV] at hl
          split at hl
          · rename_i y r hdr
            cases hl
            have : c[fd.offset]? = some v := by
              have := congrArg (·[0]?) hdr
              simpa using this
            obtain ⟨val, g1, g2⟩ := hr.get this
            refine done_pure hs (val := val) ?_ (g2.rep G)
            rw [execOp, ho]
            refine run_v ?_
            have g1' : us.toArray[fd.offset]? = some val := by simpa using g1
            simp only [Instr.field, hv, asAgg, Sem.run_bind, run_und hu, Result.andThen_ok, hf, part, run_isAgg h6, h5, Bool.false_eq_true, if_false, Sem.run_pure, g1']
          · cases hl
      · cases h2
    · cases h2
  · cases hok
theorem snd_nilc {d : Nat} {x : Arg} (hok : okOp' P o (.nilc d x) = true) (h : opR P (.nilc d x) ρ μ v u acc) (hA : ArgsOk V G ρ a (AOp.nilc d x).args) (hs : Sat W0 V0 Own V G w μ) :
    Done W0 V0 Own P o a w V G μ v u := by
  obtain ⟨h, rfl, rfl, rfl⟩ := h
  simp only [okOp'] at hok
  split at hok
  · rename_i y ho
    have hx := hA _ (by simp [AOp.args]) _ hok
    refine done_pure hs (val := a.eval y) ?_ hx
    rw [execOp, ho]
    rcases h with ⟨c, he⟩ | ⟨k, of, he⟩ | ⟨k, w', i, of, he⟩ | ⟨f, c, he⟩
    all_goals rw [he] at hx; simp only [Rep, RepP] at hx
    · obtain ⟨b, of, hv, _⟩ := hx
      simp [hv]
    · obtain ⟨b, _, hv⟩ := hx
      simp [hv]
    · obtain ⟨⟨b, of, hv⟩, _⟩ := hx
      simp [hv]
    · obtain ⟨cv, hv, _⟩ := hx
      simp [hv]
  · cases hok
end
end Go.AM
