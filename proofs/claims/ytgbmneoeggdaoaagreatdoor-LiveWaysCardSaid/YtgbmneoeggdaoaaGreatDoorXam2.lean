/- The abstract machine's operations are the program's: parts of slices and texts, function values, tuples, comparisons. -/
import Derived.Test.YtgbmneoeggdaoaaGreatDoorXam1
import Derived.Laws.StructEq
import Derived.ChangeKeysEq
namespace Go.AM
open Go
set_option linter.unusedVariables false
set_option linter.unusedSimpArgs false
section
variable {W0 : World} {V0 : View} {Own : Fra} {P : Program} {o : Oper} {a : Act} {w : World} {V : View} {G : Ctx} {μ : Nat → Option Ob} {ρ : Arg → AV} {v : AV} {u : List (Nat × Ob)} {acc : Acc}
theorem optI_val {d l : Int} {x : Option Arg} {y : Option Operand} (hok : okOpt x y = true) (hA : ∀ z ∈ x.toList, ∀ y, okA z y = true → Rep V G (ρ z) (a.eval y)) (h : optI ρ d x = some l) :
  (x = none ∧ y = none ∧ l = d) ∨ (∃ q p k, x = some q ∧ y = some p ∧ a.eval p = .int k l) := by
 cases x with
 | none =>
  cases y with
  | none => left; simp [optI] at h; exact ⟨rfl, rfl, h.symm⟩
  | some y => simp [okOpt] at hok
 | some q =>
  cases y with
  | none => simp [okOpt] at hok
  | some p =>
   right
   simp only [okOpt] at hok
   have := hA q (by simp) p hok
   simp only [optI] at h
   split at h
   ·rename_i k n hn
    cases h
    rw [hn] at this
    exact ⟨q, p, k, rfl, rfl, rep_int this⟩
   ·cases h
theorem run_sb (b : Bool) {len cap : Nat} {l h : Int} {lo hi : Option Arg} {ylo yhi : Option Operand} (h1 : okOpt lo ylo = true) (h2 : okOpt hi yhi = true)
  (hA : ∀ z ∈ lo.toList ++ hi.toList, ∀ y, okA z y = true → Rep V G (ρ z) (a.eval y)) (hl : optI ρ 0 lo = some l) (hh : optI ρ len hi = some h) (l0 : 0 ≤ l) (lh : l ≤ h) (hb1 : h ≤ (cap : Int)) :
  (Instr.sliceBounds b len cap (ylo.map a.eval) (yhi.map a.eval) none).run P w = .ok (l.toNat, h.toNat, cap) w := by
 have e1 := optI_val h1 (fun z hz => hA z (by simp [hz])) hl
 have e2 := optI_val h2 (fun z hz => hA z (by simp [hz])) hh
 have hb2 : l ≤ ((h.toNat : Nat) : Int) := by omega
 have hb3 : 0 ≤ h := by omega
 rcases e1 with ⟨_, rfl, rfl⟩ | ⟨_, p1, k1, _, rfl, v1⟩ <;> rcases e2 with ⟨_, rfl, rfl⟩ | ⟨_, p2, k2, _, rfl, v2⟩
 ·simp [Instr.sliceBounds]
 ·simp only [Instr.sliceBounds, Option.map_some, Option.map_none, v2, Sem.run_bind, Sem.run_pure, Result.andThen_ok, run_sliceBound w _ _ _ _ hb3 hb1]
  rfl
 ·simp only [Instr.sliceBounds, Option.map_some, Option.map_none, v1, Sem.run_bind, Sem.run_pure, Result.andThen_ok]
  rw [run_sliceBound w _ _ _ _ l0 (by omega)]
  simp
 ·simp only [Instr.sliceBounds, Option.map_some, v1, v2, Sem.run_bind, Sem.run_pure, Result.andThen_ok, run_sliceBound w _ _ _ _ hb3 hb1]
  rw [run_sliceBound w _ _ _ _ l0 hb2]
  rfl
theorem RepR.esz_of {L : Nat → Option Value} {xs : List (List AV)} {e n o : Nat} (h : RepR V L e o xs) (hl : ∀ c ∈ xs, c.length = n) (hne : xs ≠ []) : e = n := by
 cases xs with
 | nil => exact absurd rfl hne
 | cons c r =>
  simp only [RepR] at h
  have := hl c List.mem_cons_self
  omega
theorem snd_slc {d esz : Nat} {x : Arg} {lo hi : Option Arg} (hok : okOp' P o (.slc d x lo hi esz) = true) (h : opR P (.slc d x lo hi esz) ρ μ v u acc) (hA : ArgsOk V G ρ a (AOp.slc d x lo hi esz).args) (hs : Sat W0 V0 Own V G w μ) :
  Done W0 V0 Own P o a w V G μ v u := by
 obtain ⟨rfl, h⟩ := h
 simp only [okOp'] at hok
 split at hok
 ·rename_i t px ylo yhi ho
  simp only [Bool.and_eq_true] at hok
  obtain ⟨⟨⟨h1, h2⟩, h3⟩, h4⟩ := hok
  obtain ⟨e, hu, hn, hi'⟩ := okSl_spec h4
  have hx := hA _ (by simp [AOp.args]) _ h1
  have key : ∀ (A : Option Addr) (len cap : Nat) (l h : Int), a.eval px = .slice A len cap → optI ρ 0 lo = some l → optI ρ len hi = some h → 0 ≤ l → l ≤ h → h ≤ (cap : Int) →
    (execOp a.eval o).run P w = .ok (.value (.slice (if cap = l.toNat then A else A.map (·.add (l.toNat * esz))) (h.toNat - l.toNat) (cap - l.toNat))) w := by
   intro A len cap l h hv hl hh l0 lh hc
   rw [execOp, ho]
   refine run_v ?_
   simp only [Instr.sliceAt, Instr.slice, hv, Sem.run_bind, run_und hu, Result.andThen_ok, run_sb true h2 h3 (fun z hz => hA z (by simp only [AOp.args]; exact List.mem_cons_of_mem _ hz)) hl hh l0 lh hc, run_size hi', hn, Option.map_none, Sem.run_pure]
  rcases h with ⟨xs, l, h, he, hlen, hl, hh, l0, lh, hle, rfl, rfl⟩ | ⟨k, ver, off, len, xs, l, h, he, hm, hl, hh, l0, lh, hle, rfl, rfl⟩
  ·obtain ⟨A, cap, hv, hcap, hr⟩ := rep_sl he hx
   refine done_pure hs (key A xs.length cap l h hv hl hh l0 lh (by omega)) ?_
   simp only [Rep, RepP]
   have hlen2 : ((xs.take h.toNat).drop l.toNat).length = h.toNat - l.toNat := by simp; omega
   refine ⟨_, cap - l.toNat, by rw [hlen2], by rw [hlen2]; omega, ?_⟩
   by_cases hnil : (xs.take h.toNat).drop l.toNat = []
   ·exact .inl hnil
   ·right
    rcases hr with rfl | ⟨b, of, e', rfl, hr⟩
    ·simp at hnil
    ·have hne : xs ≠ [] := fun e => hnil (by simp [e])
     have he' := hr.esz_of hlen hne
     subst he'
     have h0 : (xs.take h.toNat).drop l.toNat ≠ [] := hnil
     have hpos : 0 < h.toNat - l.toNat := by
      rw [← hlen2]
      exact List.length_pos_iff.2 h0
     refine ⟨b, of + l.toNat * e', e', ?_, (hr.take _).drop _⟩
     rw [if_neg (by omega)]
     simp [add_lit]
  ·rw [he] at hx
   simp only [Rep] at hx
   obtain ⟨⟨A, cap, hv⟩, ver', esz', nn, loc, hg, hle', hq⟩ := hx
   obtain ⟨s, hgs, hob⟩ := hs.obs _ _ hm
   rw [hg] at hgs
   cases hgs
   obtain ⟨rfl, rfl, rfl, hnone, hloc⟩ := hob
   obtain ⟨A', cap', hv', hlc, hol, hnc, hq⟩ := hq rfl
   rw [hv] at hv'
   cases hv'
   refine done_pure hs (key A len cap l h hv hl hh l0 lh (by omega)) ?_
   simp only [Rep]
   refine ⟨⟨_, _, rfl⟩, _, _, _, _, hg, Nat.le_refl _, fun _ => ⟨_, cap - l.toNat, rfl, by omega, by omega, by omega, ?_⟩⟩
   cases loc with
   | none =>
    obtain ⟨rfl, rfl, hn0⟩ := hq
    exact ⟨by simp, by omega, hn0⟩
   | some loc =>
    obtain ⟨b, of, tot⟩ := loc
    obtain ⟨hA', htot⟩ := hq
    refine ⟨?_, ?_⟩
    ·by_cases hc0 : cap = l.toNat
     ·left; omega
     ·right
      rw [if_neg hc0]
      have hA2 := hA'.resolve_left (by omega)
      subst hA2
      simp only [Option.map_some, add_lit]
      rw [Nat.add_mul, Nat.add_assoc]
    ·rw [show off + l.toNat + (cap - l.toNat) = off + cap by omega]
     exact htot
 ·cases hok
theorem snd_sslc {d : Nat} {x : Arg} {lo hi : Option Arg} (hok : okOp' P o (.sslc d x lo hi) = true) (h : opR P (.sslc d x lo hi) ρ μ v u acc) (hA : ArgsOk V G ρ a (AOp.sslc d x lo hi).args) (hs : Sat W0 V0 Own V G w μ) :
  Done W0 V0 Own P o a w V G μ v u := by
 obtain ⟨rfl, rfl, s, l, h, he, hl, hh, l0, lh, hle, rfl⟩ := h
 simp only [okOp'] at hok
 split at hok
 ·rename_i t px ylo yhi ho
  simp only [Bool.and_eq_true] at hok
  obtain ⟨⟨⟨h1, h2⟩, h3⟩, h4⟩ := hok
  have hx := hA _ (by simp [AOp.args]) _ h1
  rw [he] at hx
  have hx := rep_str hx
  split at h4
  ·rename_i hu
   refine done_pure hs (val := .string (s.extract l.toNat h.toNat)) ?_ rfl
   rw [execOp, ho]
   refine run_v ?_
   simp only [Instr.sliceAt, Instr.slice, hx, Sem.run_bind, run_und hu, Result.andThen_ok, Option.map_none, Option.isSome_none, Bool.false_eq_true, if_false, Sem.run_pure]
   rw [run_sb false h2 h3 (fun z hz => hA z (by simp only [AOp.args]; exact List.mem_cons_of_mem _ hz)) hl hh l0 lh hle]
   rfl
  ·cases h4
 ·cases hok
theorem snd_slc3 {d esz : Nat} {x hi mx : Arg} {lo : Option Arg} (hok : okOp' P o (.slc3 d x lo hi mx esz) = true) (h : opR P (.slc3 d x lo hi mx esz) ρ μ v u acc) (hA : ArgsOk V G ρ a (AOp.slc3 d x lo hi mx esz).args) (hs : Sat W0 V0 Own V G w μ) :
  Done W0 V0 Own P o a w V G μ v u := by
 obtain ⟨rfl, h⟩ := h
 simp only [okOp'] at hok
 split at hok
 ·rename_i t px ylo yhi ymx ho
  simp only [Bool.and_eq_true] at hok
  obtain ⟨⟨⟨⟨h1, h2⟩, h3⟩, h3'⟩, h4⟩ := hok
  obtain ⟨e, hu, hn, hi'⟩ := okSl_spec h4
  have hx := hA _ (by simp [AOp.args]) _ h1
  rcases h with ⟨rfl, xs, l, h, m, he, hlen, hl, hh, hmm, l0, lh, rfl, hle, rfl⟩ | ⟨k, ver, off, len, eo, xs, l, h, m, he, hm, hl, hh, hmm, l0, lh, hle, hml, rfl, rfl⟩
  ·have e1 := optI_val h2 (fun z hz => hA z (by simp only [AOp.args]; exact List.mem_cons_of_mem _ (List.mem_cons_of_mem _ (List.mem_cons_of_mem _ hz)))) hl
   have e2 := optI_val (x := some hi) (y := some yhi) h3 (fun z hz => hA z (by simp at hz; simp [AOp.args, hz])) hh
   have e3 := optI_val (x := some mx) (y := some ymx) h3' (fun z hz => hA z (by simp at hz; simp [AOp.args, hz])) hmm
   obtain ⟨A, cap, hv, hcap, hr⟩ := rep_sl he hx
   rcases e2 with ⟨hc, _⟩ | ⟨_, p2, k2, _, hp2, v2⟩
   ·cases hc
   cases hp2
   rcases e3 with ⟨hc, _⟩ | ⟨_, p3, k3, _, hp3, v3⟩
   ·cases hc
   cases hp3
   have hb : (Instr.sliceBounds true xs.length cap (ylo.map a.eval) (some (.int k2 h)) (some (.int k3 h))).run P w = .ok (l.toNat, h.toNat, h.toNat) w := by
    have hb1 : h ≤ (cap : Int) := by omega
    have hb2 : l ≤ ((h.toNat : Nat) : Int) := by omega
    have hb3 : 0 ≤ h := by omega
    have hb4 : h ≤ ((h.toNat : Nat) : Int) := by omega
    rcases e1 with ⟨_, rfl, rfl⟩ | ⟨_, p1, k1, _, rfl, v1⟩
    ·simp only [Instr.sliceBounds, Option.map_none, Sem.run_bind, Sem.run_pure, Result.andThen_ok, run_sliceBound w _ _ _ _ hb3 hb1, run_sliceBound w _ _ _ _ hb3 hb4]
     rfl
    ·simp only [Instr.sliceBounds, Option.map_some, v1, Sem.run_bind, Sem.run_pure, Result.andThen_ok, run_sliceBound w _ _ _ _ hb3 hb1, run_sliceBound w _ _ _ _ hb3 hb4, run_sliceBound w _ _ _ _ l0 hb2]
   have hlen2 : ((xs.take h.toNat).drop l.toNat).length = h.toNat - l.toNat := by simp; omega
   refine done_pure hs (val := .slice (if h.toNat = l.toNat then A else A.map (·.add (l.toNat * esz))) (h.toNat - l.toNat) (h.toNat - l.toNat)) ?_ ?_
   ·rw [execOp, ho]
    refine run_v ?_
    simp only [Instr.sliceAt, Instr.slice, hv, Sem.run_bind, run_und hu, Result.andThen_ok, Option.map_some, v2, v3, hb, run_size hi', hn, Sem.run_pure]
   ·simp only [Rep, RepP]
    refine ⟨_, by rw [hlen2], ?_⟩
    by_cases hnil : (xs.take h.toNat).drop l.toNat = []
    ·exact .inl hnil
    ·right
     rcases hr with rfl | ⟨b, of, e', rfl, hr⟩
     ·simp at hnil
     ·have hne : xs ≠ [] := fun e => hnil (by simp [e])
      have he' := hr.esz_of hlen hne
      subst he'
      have hpos : 0 < h.toNat - l.toNat := by
       rw [← hlen2]
       exact List.length_pos_iff.2 hnil
      refine ⟨b, of + l.toNat * e', e', ?_, (hr.take _).drop _⟩
      rw [if_neg (by omega)]
      simp [add_lit]
  ·have e1 := optI_val h2 (fun z hz => hA z (by simp only [AOp.args]; exact List.mem_cons_of_mem _ (List.mem_cons_of_mem _ (List.mem_cons_of_mem _ hz)))) hl
   have e2 := optI_val (x := some hi) (y := some yhi) h3 (fun z hz => hA z (by simp at hz; simp [AOp.args, hz])) hh
   have e3 := optI_val (x := some mx) (y := some ymx) h3' (fun z hz => hA z (by simp at hz; simp [AOp.args, hz])) hmm
   rw [he] at hx
   simp only [Rep] at hx
   obtain ⟨⟨A, cap, hv⟩, ver', esz', nn, loc, hg, hle', hq⟩ := hx
   obtain ⟨s, hgs, hob⟩ := hs.obs _ _ hm
   rw [hg] at hgs
   cases hgs
   obtain ⟨rfl, rfl, rfl, hnone, hloc⟩ := hob
   obtain ⟨A', cap', hv', hlc, hol, hnc, hq⟩ := hq rfl
   rw [hv] at hv'
   cases hv'
   rcases e2 with ⟨hc, _⟩ | ⟨_, p2, k2, _, hp2, v2⟩
   ·cases hc
   cases hp2
   rcases e3 with ⟨hc, _⟩ | ⟨_, p3, k3, _, hp3, v3⟩
   ·cases hc
   cases hp3
   have hb : (Instr.sliceBounds true len cap (ylo.map a.eval) (some (.int k2 h)) (some (.int k3 m))).run P w = .ok (l.toNat, h.toNat, m.toNat) w := by
    have hb1 : m ≤ (cap : Int) := by omega
    have hb2 : l ≤ ((h.toNat : Nat) : Int) := by omega
    have hb3 : 0 ≤ h := by omega
    have hb5 : 0 ≤ m := by omega
    have hb4 : h ≤ ((m.toNat : Nat) : Int) := by omega
    rcases e1 with ⟨_, rfl, rfl⟩ | ⟨_, p1, k1, _, rfl, v1⟩
    ·simp only [Instr.sliceBounds, Option.map_none, Sem.run_bind, Sem.run_pure, Result.andThen_ok, run_sliceBound w _ _ _ _ hb5 hb1, run_sliceBound w _ _ _ _ hb3 hb4]
     rfl
    ·simp only [Instr.sliceBounds, Option.map_some, v1, Sem.run_bind, Sem.run_pure, Result.andThen_ok, run_sliceBound w _ _ _ _ hb5 hb1, run_sliceBound w _ _ _ _ hb3 hb4, run_sliceBound w _ _ _ _ l0 hb2]
   refine done_pure hs (val := .slice (if m.toNat = l.toNat then A else A.map (·.add (l.toNat * esz))) (h.toNat - l.toNat) (m.toNat - l.toNat)) ?_ ?_
   ·rw [execOp, ho]
    refine run_v ?_
    simp only [Instr.sliceAt, Instr.slice, hv, Sem.run_bind, run_und hu, Result.andThen_ok, Option.map_some, v2, v3, hb, run_size hi', hn, Sem.run_pure]
   ·cases hbq : (Nat.beq (off + m.toNat) xs.length && Nat.beq esz' esz) with
    | false => simp only [cond_false, Rep]
    | true =>
     rw [Bool.and_eq_true] at hbq
     have hb1 := Nat.eq_of_beq_eq_true hbq.1
     have hb2 := Nat.eq_of_beq_eq_true hbq.2
     subst hb2
     simp only [cond_true, Rep]
     refine ⟨⟨_, _, rfl⟩, ver', esz', xs.length, loc, hg, Nat.le_refl _, fun _ => ⟨_, _, rfl, by omega, by omega, by omega, ?_⟩⟩
     cases loc with
     | none =>
      simp only at hq ⊢
      obtain ⟨rfl, rfl, hx0⟩ := hq
      refine ⟨?_, by omega, hx0⟩
      split <;> rfl
     | some l4 =>
      obtain ⟨b4, o4, tot4⟩ := l4
      simp only at hq ⊢
      obtain ⟨hq1, hq2⟩ := hq
      refine ⟨?_, ?_⟩
      ·by_cases hml0 : m.toNat = l.toNat
       ·exact .inl (by omega)
       ·right
        rw [if_neg hml0]
        have ha := hq1.resolve_left (by omega)
        rw [ha]
        simp only [Option.map_some, add_lit]
        rw [Nat.add_mul, Nat.add_assoc]
      ·refine Nat.le_trans (Nat.add_le_add_left (Nat.mul_le_mul_right _ ?_) _) hq2
       omega
 ·cases hok
theorem snd_sidx {d : Nat} {x y : Arg} (hok : okOp' P o (.sidx d x y) = true) (h : opR P (.sidx d x y) ρ μ v u acc) (hA : ArgsOk V G ρ a (AOp.sidx d x y).args) (hs : Sat W0 V0 Own V G w μ) :
  Done W0 V0 Own P o a w V G μ v u := by
 obtain ⟨rfl, rfl, s, ik, z, b, he, hz, h0, hb, rfl⟩ := h
 simp only [okOp'] at hok
 split at hok
 ·rename_i t px py ho
  simp only [Bool.and_eq_true] at hok
  obtain ⟨⟨h1, h2⟩, h4⟩ := hok
  have hx := hA _ (by simp [AOp.args]) _ h1
  rw [he] at hx
  have hx := rep_str hx
  have hy := hA _ (by simp [AOp.args]) _ h2
  rw [hz] at hy
  have hy := rep_int hy
  split at h4
  ·rename_i hu
   refine done_pure hs (val := .int .u8 b.toNat) ?_ rfl
   rw [execOp, ho]
   refine run_v ?_
   simp only [Instr.index, hx, hy, asIntOf, Sem.run_bind, run_und hu, Result.andThen_ok, Sem.run_pure, if_pos h0, hb]
  ·cases h4
 ·cases hok
theorem okAs_rep : ∀ {xs : List Arg} {ys : List Operand}, okAs xs ys = true → ArgsOk V G ρ a xs → RepL V G (xs.map ρ) (ys.map a.eval)
 | [], [], _, _ => by simp [RepL]
 | [], y :: ys, h, _ => by simp [okAs] at h
 | x :: xs, [], h, _ => by simp [okAs] at h
 | x :: xs, y :: ys, h, hA => by
  simp only [okAs, Bool.and_eq_true] at h
  simp only [List.map_cons, RepL]
  exact ⟨_, _, rfl, hA x List.mem_cons_self y h.1, okAs_rep h.2 fun z hz => hA z (List.mem_cons_of_mem _ hz)⟩
theorem snd_mkfn {d f : Nat} {caps : List Arg} (hok : okOp' P o (.mkfn d f caps) = true) (h : opR P (.mkfn d f caps) ρ μ v u acc) (hA : ArgsOk V G ρ a (AOp.mkfn d f caps).args) (hs : Sat W0 V0 Own V G w μ) :
  Done W0 V0 Own P o a w V G μ v u := by
 obtain ⟨rfl, rfl, rfl⟩ := h
 simp only [okOp'] at hok
 split at hok
 ·rename_i g first cs ho
  simp only [Bool.and_eq_true, List.isEmpty_iff, Array.toList_eq_nil_iff] at hok
  obtain ⟨⟨h1, rfl⟩, h3⟩ := hok
  obtain rfl := Nat.eq_of_beq_eq_true h1
  refine done_pure hs (val := .func (.func f) #[] (cs.map a.eval)) ?_ ?_
  ·rw [execOp, ho]
   exact run_v (by simp [Instr.makeFunc])
  ·simp only [Rep]
   exact ⟨cs.toList.map a.eval, by rw [← Array.toList_map], okAs_rep h3 hA⟩
 ·cases hok
theorem snd_ext {d i : Nat} {x : Arg} (hok : okOp' P o (.ext d x i) = true) (h : opR P (.ext d x i) ρ μ v u acc) (hA : ArgsOk V G ρ a (AOp.ext d x i).args) (hs : Sat W0 V0 Own V G w μ) :
  Done W0 V0 Own P o a w V G μ v u := by
 obtain ⟨⟨xs, he, hi⟩, rfl, rfl⟩ := h
 simp only [okOp'] at hok
 split at hok
 ·rename_i y j ho
  simp only [Bool.and_eq_true] at hok
  obtain rfl := Nat.eq_of_beq_eq_true hok.2
  have hx := hA _ (by simp [AOp.args]) _ hok.1
  rw [he] at hx
  simp only [Rep] at hx
  obtain ⟨us, hv, hr⟩ := hx
  obtain ⟨val, h1, h2⟩ := hr.get hi
  refine done_pure hs (val := val) ?_ h2
  rw [execOp, ho]
  refine run_v ?_
  simp [Instr.extract, hv, h1]
 ·cases hok
theorem snd_pick {d : Nat} {c x y : Arg} (hok : okOp' P o (.pick d c x y) = true) (h : opR P (.pick d c x y) ρ μ v u acc) (hA : ArgsOk V G ρ a (AOp.pick d c x y).args) (hs : Sat W0 V0 Own V G w μ) :
  Done W0 V0 Own P o a w V G μ v u := by
 obtain ⟨⟨t, he, rfl⟩, rfl, rfl⟩ := h
 simp only [okOp'] at hok
 split at hok
 ·rename_i pc px py ho
  simp only [Bool.and_eq_true] at hok
  have hc := hA _ (by simp [AOp.args]) _ hok.1.1
  rw [he] at hc
  have hc := rep_bool hc
  have hx := hA x (by simp [AOp.args]) _ hok.1.2
  have hy := hA y (by simp [AOp.args]) _ hok.2
  refine done_pure hs (val := if t then a.eval px else a.eval py) ?_ (by cases t <;> assumption)
  rw [execOp, ho]
  simp only [hc, asBool, Sem.run_bind, Sem.run_pure, Result.andThen_ok]
 ·cases hok
theorem snd_mxn {d : Nat} {m : Bool} {x y : Arg} (hok : okOp' P o (.mxn d m x y) = true) (h : opR P (.mxn d m x y) ρ μ v u acc) (hA : ArgsOk V G ρ a (AOp.mxn d m x y).args) (hs : Sat W0 V0 Own V G w μ) :
  Done W0 V0 Own P o a w V G μ v u := by
 obtain ⟨⟨k, p, q, he, he', rfl⟩, rfl, rfl⟩ := h
 simp only [okOp'] at hok
 split at hok
 ·rename_i b as ts ho
  simp only [Bool.and_eq_true, decide_eq_true_eq] at hok
  obtain ⟨y1, y2, hy, h1, h2⟩ := okAs_two hok.2
  obtain rfl : as = #[y1, y2] := by rw [← Array.toList_inj, hy]
  have hx := hA x (by simp [AOp.args]) _ h1
  have hy := hA y (by simp [AOp.args]) _ h2
  rw [he] at hx
  rw [he'] at hy
  have hx := rep_int hx
  have hy := rep_int hy
  have hb := hok.1
  cases m with
  | true =>
   simp only [cond_true] at hb
   subst hb
   refine done_pure hs (val := .int k (if q > p then q else p)) ?_ rfl
   rw [execOp, ho]
   simp [resolve, invoke, builtin, Builtin.max_, Builtin.max2, hx, hy]
  | false =>
   simp only [cond_false] at hb
   subst hb
   refine done_pure hs (val := .int k (if q < p then q else p)) ?_ rfl
   rw [execOp, ho]
   simp [resolve, invoke, builtin, Builtin.min_, Builtin.min2, hx, hy]
 ·cases hok
theorem snd_field {d off n : Nat} {ag : Bool} {x : Arg} (hok : okOp' P o (.field d x off n ag) = true) (h : opR P (.field d x off n ag) ρ μ v u acc) (hA : ArgsOk V G ρ a (AOp.field d x off n ag).args) (hs : Sat W0 V0 Own V G w μ) :
  Done W0 V0 Own P o a w V G μ v u := by
 obtain ⟨⟨c, he, hl⟩, rfl, rfl⟩ := h
 simp only [okOp'] at hok
 split at hok
 ·rename_i t y f ho
  simp only [Bool.and_eq_true] at hok
  obtain ⟨h1, h2⟩ := hok
  have hx := hA _ (by simp [AOp.args]) _ h1
  rw [he] at hx
  simp only [Rep, RepP] at hx
  obtain ⟨us, hv, hr⟩ := hx
  split at h2
  ·rename_i fs hu
   split at h2
   ·rename_i fd hf
    simp only [Bool.and_eq_true, beq_iff_eq] at h2
    obtain ⟨⟨⟨⟨h2, h3⟩, h4⟩, h5⟩, h6⟩ := h2
    obtain rfl := Nat.eq_of_beq_eq_true h2
    have hn := Nat.eq_of_beq_eq_true h3
    have hd := hr.drop fd.offset
    have hlen := hr.length
    cases ag with
    | true =>
     simp only [loadV] at hl
     split at hl
     ·rename_i hle
      cases hl
      refine done_pure hs (val := .agg ((us.drop fd.offset).take n).toArray) ?_ ?_
      ·rw [execOp, ho]
       refine run_v ?_
       simp only [Instr.field, hv, asAgg, Sem.run_bind, run_und hu, Result.andThen_ok, hf, part, run_isAgg h6, h5, if_true, run_size h4, hn, Sem.run_pure]
       congr 2
       rw [← Array.toList_inj]
       simp only [Array.toList_extract, List.extract_eq_take_drop]
       congr 2
       omega
      ·simp only [Rep, RepP]
       exact ⟨_, rfl, hd.take n⟩
     ·cases hl
    | false =>
     simp only [loadV] at hl
     split at hl
     ·rename_i y r hdr
      cases hl
      have : c[fd.offset]? = some v := by
       have := congrArg (·[0]?) hdr
       simpa using this
      obtain ⟨val, g1, g2⟩ := hr.get this
      refine done_pure hs (val := val) ?_ (g2.rep G)
      rw [execOp, ho]
      refine run_v ?_
      have g1' : us.toArray[fd.offset]? = some val := by simpa using g1
      simp only [Instr.field, hv, asAgg, Sem.run_bind, run_und hu, Result.andThen_ok, hf, part, run_isAgg h6, h5, Bool.false_eq_true, if_false, Sem.run_pure, g1']
     ·cases hl
   ·cases h2
  ·cases h2
 ·cases hok
theorem snd_mkmv {d f : Nat} {bs : List Arg} (hok : okOp' P o (.mkmv d f bs) = true) (h : opR P (.mkmv d f bs) ρ μ v u acc) (hA : ArgsOk V G ρ a (AOp.mkmv d f bs).args) (hs : Sat W0 V0 Own V G w μ) :
  Done W0 V0 Own P o a w V G μ v u := by
 obtain ⟨rfl, rfl, rfl⟩ := h
 simp only [okOp'] at hok
 split at hok
 ·rename_i g first cs ho
  simp only [Bool.and_eq_true, List.isEmpty_iff, Array.toList_eq_nil_iff] at hok
  obtain ⟨⟨h1, rfl⟩, h3⟩ := hok
  obtain rfl := Nat.eq_of_beq_eq_true h1
  refine done_pure hs (val := .func (.func f) (first.map a.eval) #[]) ?_ ?_
  ·rw [execOp, ho]
   exact run_v (by simp [Instr.makeFunc])
  ·simp only [Rep]
   exact ⟨first.toList.map a.eval, by rw [← Array.toList_map, Array.toArray_toList], okAs_rep h3 hA⟩
 ·cases hok
theorem snd_vidx {d n m : Nat} {ag : Bool} {x i : Arg} (hok : okOp' P o (.vidx d x i n m ag) = true) (h : opR P (.vidx d x i n m ag) ρ μ v u acc) (hA : ArgsOk V G ρ a (AOp.vidx d x i n m ag).args) (hs : Sat W0 V0 Own V G w μ) :
  Done W0 V0 Own P o a w V G μ v u := by
 obtain ⟨⟨c, ik, z, he, hz, h0, hm, hl⟩, rfl, rfl⟩ := h
 simp only [okOp'] at hok
 split at hok
 ·rename_i t y yi ho
  simp only [Bool.and_eq_true] at hok
  obtain ⟨⟨h1, hi⟩, h2⟩ := hok
  have hx := hA _ (by simp [AOp.args]) _ h1
  have hxi := hA i (by simp [AOp.args]) _ hi
  rw [he] at hx
  rw [hz] at hxi
  simp only [Rep, RepP] at hx hxi
  obtain ⟨us, hv, hr⟩ := hx
  split at h2
  ·rename_i m' e hu
   simp only [Bool.and_eq_true, beq_iff_eq] at h2
   obtain ⟨⟨⟨⟨h2, h3⟩, h4⟩, h5⟩, h6⟩ := h2
   obtain rfl := Nat.eq_of_beq_eq_true h2
   have hn := Nat.eq_of_beq_eq_true h3
   have hd := hr.drop (z.toNat * n)
   have hlen := hr.length
   cases ag with
   | true =>
    simp only [loadV] at hl
    split at hl
    ·rename_i hle
     cases hl
     refine done_pure hs (val := .agg ((us.drop (z.toNat * n)).take n).toArray) ?_ ?_
     ·rw [execOp, ho]
      refine run_v ?_
      simp only [Instr.index, hv, hxi, asIntOf, Sem.run_bind, Sem.run_pure, run_und hu, Result.andThen_ok, h0, hm, and_self, if_true, part, run_isAgg h6, h5, run_size h4, hn]
      congr 2
      rw [← Array.toList_inj]
      simp only [Array.toList_extract, List.extract_eq_take_drop]
      congr 2
      omega
     ·simp only [Rep, RepP]
      exact ⟨_, rfl, hd.take n⟩
    ·cases hl
   | false =>
    simp only [loadV] at hl
    split at hl
    ·rename_i y r hdr
     cases hl
     have : c[z.toNat * n]? = some v := by
      have := congrArg (·[0]?) hdr
      simpa using this
     obtain ⟨val, g1, g2⟩ := hr.get this
     refine done_pure hs (val := val) ?_ (g2.rep G)
     rw [execOp, ho]
     refine run_v ?_
     have g1' : us.toArray[z.toNat * n]? = some val := by simpa using g1
     simp only [Instr.index, hv, hxi, asIntOf, Sem.run_bind, Sem.run_pure, run_und hu, Result.andThen_ok, h0, hm, and_self, if_true, part, run_isAgg h6, h5, Bool.false_eq_true, if_false, run_size h4, hn, g1']
    ·cases hl
  ·cases h2
 ·cases hok
theorem snd_nilc {d : Nat} {x : Arg} (hok : okOp' P o (.nilc d x) = true) (h : opR P (.nilc d x) ρ μ v u acc) (hA : ArgsOk V G ρ a (AOp.nilc d x).args) (hs : Sat W0 V0 Own V G w μ) :
  Done W0 V0 Own P o a w V G μ v u := by
 obtain ⟨h, rfl, rfl, rfl⟩ := h
 simp only [okOp'] at hok
 split at hok
 ·rename_i y ho
  have hx := hA _ (by simp [AOp.args]) _ hok
  refine done_pure hs (val := a.eval y) ?_ hx
  rw [execOp, ho]
  rcases h with ⟨c, he⟩ | ⟨k, of, he⟩ | ⟨k, w', i, of, he⟩ | ⟨f, c, he⟩ | ⟨f, c, he⟩
  all_goals rw [he] at hx; simp only [Rep, RepP] at hx
  ·obtain ⟨b, of, hv, _⟩ := hx
   simp [hv]
  ·obtain ⟨b, _, hv⟩ := hx
   simp [hv]
  ·obtain ⟨⟨b, of, hv⟩, _⟩ := hx
   simp [hv]
  ·obtain ⟨cv, hv, _⟩ := hx
   simp [hv]
  ·obtain ⟨cv, hv, _⟩ := hx
   simp [hv]
 ·cases hok
end
/- The abstract machine's operations are the program's: comparisons, stores, appends. -/
section
variable {W0 : World} {V0 : View} {Own : Fra} {P : Program} {o : Oper} {a : Act} {w : World} {V : View} {G : Ctx} {μ : Nat → Option Ob} {ρ : Arg → AV} {v : AV} {u : List (Nat × Ob)} {acc : Acc}
/-! Comparisons. -/
theorem eqC_split : ∀ {k1 k2 : List LK} {x y : List AV} {r : Bool}, eqC (k1 ++ k2) x y = some r →
    ∃ r1 r2, eqC k1 (x.take k1.length) (y.take k1.length) = some r1 ∧ eqC k2 (x.drop k1.length) (y.drop k1.length) = some r2 ∧ r = (r1 && r2)
  | [], k2, x, y, r, h => ⟨true, r, by simp [eqC], by simpa using h, by simp⟩
  | k :: k1, k2, [], y, r, h => by cases k <;> simp [eqC] at h
  | k :: k1, k2, c :: x, [], r, h => by cases k <;> cases c <;> simp [eqC] at h
  | k :: k1, k2, c :: x, c' :: y, r, h => by
    rw [List.cons_append] at h
    cases k <;> cases c <;> cases c' <;> simp only [eqC] at h <;> first
      | (cases h; done)
      | (obtain ⟨r0, h0, h1⟩ := Option.map_eq_some_iff.1 h
         obtain ⟨r1, r2, e1, e2, e3⟩ := eqC_split h0
         exact ⟨_, r2, by simp only [List.length_cons, List.take_succ_cons, eqC, e1, Option.map_some]; rfl, by simpa using e2, by rw [← h1, e3, Bool.and_assoc]⟩)
      | (split at h
         · rename_i hk
           obtain ⟨r0, h0, h1⟩ := Option.map_eq_some_iff.1 h
           obtain ⟨r1, r2, e1, e2, e3⟩ := eqC_split h0
           exact ⟨_, r2, by simp only [List.length_cons, List.take_succ_cons, eqC, if_pos hk, e1, Option.map_some]; rfl, by simpa using e2, by rw [← h1, e3, Bool.and_assoc]⟩
         · cases h)
theorem eqC_len : ∀ {ks : List LK} {x y : List AV} {r : Bool}, eqC ks x y = some r → x.length = ks.length ∧ y.length = ks.length
  | [], [], [], r, h => ⟨rfl, rfl⟩
  | [], _ :: _, y, r, h => by simp [eqC] at h
  | [], [], _ :: _, r, h => by simp [eqC] at h
  | k :: ks, [], y, r, h => by cases k <;> simp [eqC] at h
  | k :: ks, c :: x, [], r, h => by cases k <;> cases c <;> simp [eqC] at h
  | k :: ks, c :: x, c' :: y, r, h => by
    have key : ∃ r', eqC ks x y = some r' := by
      cases k <;> cases c <;> cases c' <;> simp only [eqC] at h <;> first
        | (cases h; done)
        | exact ⟨_, (Option.map_eq_some_iff.1 h).choose_spec.1⟩
        | (split at h
           · exact ⟨_, (Option.map_eq_some_iff.1 h).choose_spec.1⟩
           · cases h)
    obtain ⟨r', h'⟩ := key
    have := eqC_len h'
    simp [this.1, this.2]
/-- A field's part of a struct. -/
theorem run_part {t : TypeId} {n off : Nat} {us : List Value} (hn : P.cellsOf t = n) (hi : (P.info? t).isSome = true) (hu : (P.underlying t).isSome = true) (hl : off + n ≤ us.length) (h1 : isAggT P t = false → n = 1) :
  (part t us.toArray off).run P w = .ok (if isAggT P t then .agg ((us.drop off).take n).toArray else ((us.drop off).take n).getD 0 undef) w := by
 unfold part
 simp only [Sem.run_bind, run_isAgg hu, Result.andThen_ok]
 cases hag : isAggT P t with
 | true =>
  simp only [if_true, Sem.run_bind, run_size hi, hn, Result.andThen_ok, Sem.run_pure]
  congr 2
  rw [← Array.toList_inj]
  simp only [Array.toList_extract, List.extract_eq_take_drop]
  congr 1
  omega
 | false =>
  have h1 := h1 hag
  have hlt : off < us.length := by omega
  subst h1
  simp [hlt, List.getD]
theorem leafK_info {d : Nat} {t : TypeId} {ks : List LK} (h : leafK P d t = some ks) : (P.info? t).isSome = true ∧ (P.underlying t).isSome = true ∧ (isAggT P t = false → ks.length = 1) := by
 cases d with
 | zero => simp [leafK] at h
 | succ d =>
  have hu : (P.underlying t).isSome = true := by
   cases hx : P.underlying t with
   | none => simp [leafK, hx] at h
   | some _ => rfl
  refine ⟨?_, hu, ?_⟩
  ·cases hi : P.info? t with
   | none => simp [Program.underlying, hi] at hu
   | some _ => rfl
  ·intro hag
   simp only [leafK] at h
   split at h
   ·cases h; rfl
   ·cases h; rfl
   ·cases h; rfl
   ·rename_i fs hx
    simp [isAggT, hx] at hag
   ·rename_i n e hx
    simp [isAggT, hx] at hag
   ·cases h
def mkV (P : Program) (t : TypeId) (us : List Value) : Value := if isAggT P t then .agg us.toArray else us.getD 0 undef
theorem run_eqFields {d e : Nat} (IH : ∀ {t : TypeId} {ks : List LK} {x y : List AV} {us vs : List Value} {r : Bool}, leafK P d t = some ks →
   eqC ks x y = some r → RepPL V x us → RepPL V y vs → (Op.equalIn e t (mkV P t us) (mkV P t vs)).run P w = .ok r w) :
  ∀ (fs : List Field) {acc : Nat} {ks : List LK} {x y : List AV} {us vs : List Value} {r : Bool}, leafGo P (leafK P d) acc fs = some ks →
   eqC ks (x.drop acc) (y.drop acc) = some r → RepPL V x us → RepPL V y vs → (Op.eqFields e us.toArray vs.toArray fs).run P w = .ok r w := by
 intro fs
 induction fs with
 | nil =>
  intro acc ks x y us vs r h hr hx hy
  simp only [leafGo] at h
  cases h
  have hr' : r = true := by
   revert hr
   generalize x.drop acc = p
   generalize y.drop acc = q
   intro hr
   cases p <;> cases q <;> simp [eqC] at hr
   exact hr
  subst hr'
  rfl
 | cons f fs ih =>
  intro acc ks x y us vs r h hr hx hy
  simp only [leafGo] at h
  split at h
  ·rename_i hc
   simp only [Bool.and_eq_true, bne_iff_ne, ne_eq] at hc
   obtain ⟨hname, hoff⟩ := hc
   have hoff := Nat.eq_of_beq_eq_true hoff
   split at h
   ·rename_i k1 hk1
    split at h
    ·rename_i hlen
     simp only [Bool.and_eq_true, Bool.not_eq_true'] at hlen
     have hnz : k1.length ≠ 0 := fun e0 => by rw [e0] at hlen; exact absurd hlen.2 (by decide)
     have hlen := Nat.eq_of_beq_eq_true hlen.1
     obtain ⟨k2, hk2, rfl⟩ := Option.map_eq_some_iff.1 h
     obtain ⟨r1, r2, e1, e2, rfl⟩ := eqC_split hr
     obtain ⟨i1, i2, i3⟩ := leafK_info hk1
     obtain ⟨m1, m2⟩ := eqC_len e1
     have n1 := hx.length
     have n2 := hy.length
     simp only [List.length_take, List.length_drop] at m1 m2
     have hl1 : acc + P.cellsOf f.type ≤ us.length := by omega
     have hl2 : acc + P.cellsOf f.type ≤ vs.length := by omega
     have p1 := run_part (w := w) (off := acc) (us := us) rfl i1 i2 hl1 (fun hag => by rw [← hlen]; exact i3 hag)
     have p2 := run_part (w := w) (off := acc) (us := vs) rfl i1 i2 hl2 (fun hag => by rw [← hlen]; exact i3 hag)
     have h5 := IH (t := f.type) (us := (us.drop acc).take (P.cellsOf f.type)) (vs := (vs.drop acc).take (P.cellsOf f.type)) hk1 e1 (by rw [hlen]; exact (hx.drop acc).take _) (by rw [hlen]; exact (hy.drop acc).take _)
     simp only [Op.eqFields, hname, ne_eq, not_false_iff, if_true, hoff, Sem.run_bind, p1, p2, Result.andThen_ok]
     unfold mkV at h5
     rw [h5]
     simp only [Result.andThen_ok]
     have h6 := ih (acc := acc + P.cellsOf f.type) hk2 (by rw [List.drop_drop, hlen] at e2; rw [List.drop_drop] at e2; exact e2) hx hy
     cases r1 with
     | true => simp only [Bool.not_true, Bool.false_eq_true, if_false, h6, Bool.true_and]
     | false => simp
    ·cases h
   ·cases h
  ·cases h
theorem run_eqItems {d e : Nat} {el : TypeId} {k1 : List LK} (hk1 : leafK P d el = some k1) (hlen : k1.length = P.cellsOf el) (h0 : k1.length ≠ 0) (IH : ∀ {x y : List AV} {us vs : List Value} {r : Bool},
   eqC k1 x y = some r → RepPL V x us → RepPL V y vs → (Op.equalIn e el (mkV P el us) (mkV P el vs)).run P w = .ok r w) :
  ∀ (n j : Nat) {x y : List AV} {us vs : List Value} {r : Bool}, eqC (leafRep n k1) (x.drop (j * P.cellsOf el)) (y.drop (j * P.cellsOf el)) = some r → RepPL V x us → RepPL V y vs →
   (Op.eqItems e el (P.cellsOf el) us.toArray vs.toArray (List.range' j n)).run P w = .ok r w := by
 intro n
 induction n with
 | zero =>
  intro j x y us vs r hr hx hy
  have hr' : r = true := by
   revert hr
   generalize x.drop _ = p
   generalize y.drop _ = q
   intro hr
   cases p <;> cases q <;> simp [eqC, leafRep] at hr
   exact hr
  subst hr'
  rfl
 | succ n ih =>
  intro j x y us vs r hr hx hy
  simp only [leafRep] at hr
  obtain ⟨r1, r2, e1, e2, rfl⟩ := eqC_split hr
  obtain ⟨i1, i2, i3⟩ := leafK_info hk1
  obtain ⟨m1, m2⟩ := eqC_len e1
  have n1 := hx.length
  have n2 := hy.length
  simp only [List.length_take, List.length_drop] at m1 m2
  ·have hl1 : j * P.cellsOf el + P.cellsOf el ≤ us.length := by omega
   have hl2 : j * P.cellsOf el + P.cellsOf el ≤ vs.length := by omega
   have p1 := run_part (w := w) (off := j * P.cellsOf el) (us := us) rfl i1 i2 hl1 (fun hag => by rw [← hlen]; exact i3 hag)
   have p2 := run_part (w := w) (off := j * P.cellsOf el) (us := vs) rfl i1 i2 hl2 (fun hag => by rw [← hlen]; exact i3 hag)
   have h5 := IH (us := (us.drop (j * P.cellsOf el)).take (P.cellsOf el)) (vs := (vs.drop (j * P.cellsOf el)).take (P.cellsOf el)) e1 (by rw [hlen]; exact (hx.drop _).take _) (by rw [hlen]; exact (hy.drop _).take _)
   rw [List.range'_succ]
   simp only [Op.eqItems, Sem.run_bind, p1, p2, Result.andThen_ok]
   unfold mkV at h5
   rw [h5]
   simp only [Result.andThen_ok]
   have h6 := ih (j + 1) (x := x) (y := y) (us := us) (vs := vs) (r := r2) (by rw [List.drop_drop, hlen] at e2; rw [List.drop_drop] at e2; rw [Nat.add_mul, Nat.one_mul]; exact e2) hx hy
   cases r1 with
   | true => simp only [Bool.not_true, Bool.false_eq_true, if_false, h6, Bool.true_and]
   | false => simp
set_option maxHeartbeats 1000000 in
theorem run_eqIn : ∀ (d : Nat) {e : Nat} {t : TypeId} {ks : List LK} {x y : List AV} {us vs : List Value} {r : Bool}, leafK P d t = some ks → d ≤ e →
   eqC ks x y = some r → RepPL V x us → RepPL V y vs → (Op.equalIn e t (mkV P t us) (mkV P t vs)).run P w = .ok r w := by
 intro d
 induction d with
 | zero =>
  intro e t ks x y us vs r h
  simp [leafK] at h
 | succ d ih =>
  intro e t ks x y us vs r h hle hr hx hy
  obtain ⟨e, rfl⟩ : ∃ e', e = e' + 1 := ⟨e - 1, by omega⟩
  obtain ⟨l1, l2⟩ := eqC_len hr
  simp only [leafK] at h
  split at h
  ·rename_i hu
   cases h
   cases x with
   | nil => simp [eqC] at hr
   | cons c x =>
   cases y with
   | nil => cases c <;> simp [eqC] at hr
   | cons c' y =>
   cases c <;> cases c' <;> simp only [eqC] at hr <;> try (cases hr; done)
   cases x with
   | cons _ _ => simp at l1
   | nil =>
   cases y with
   | cons _ _ => simp at l2
   | nil =>
   simp only [eqC, Option.map_some, Option.some.injEq, Bool.and_true] at hr
   simp only [RepPL, RepP] at hx hy
   obtain ⟨v1, r1, rfl, rfl, rfl⟩ := hx
   obtain ⟨v2, r2, rfl, rfl, rfl⟩ := hy
   simp only [mkV, isAggT, hu, Bool.false_eq_true, if_false, List.getD_cons_zero]
   rw [run_equalIn_bool' w e t _ _ hu, hr]
  ·rename_i kk hu
   cases h
   cases x with
   | nil => simp [eqC] at hr
   | cons c x =>
   cases y with
   | nil => cases c <;> simp [eqC] at hr
   | cons c' y =>
   cases c <;> cases c' <;> simp only [eqC] at hr <;> try (cases hr; done)
   cases x with
   | cons _ _ => simp at l1
   | nil =>
   cases y with
   | cons _ _ => simp at l2
   | nil =>
   split at hr
   ·rename_i hk
    subst hk
    simp only [eqC, Option.map_some, Option.some.injEq, Bool.and_true] at hr
    simp only [RepPL, RepP] at hx hy
    obtain ⟨v1, r1, rfl, rfl, rfl⟩ := hx
    obtain ⟨v2, r2, rfl, rfl, rfl⟩ := hy
    simp only [mkV, isAggT, hu, Bool.false_eq_true, if_false, List.getD_cons_zero]
    rw [run_equalIn_int w e t _ kk _ _ hu, hr]
   ·cases hr
  ·rename_i hu
   cases h
   cases x with
   | nil => simp [eqC] at hr
   | cons c x =>
   cases y with
   | nil => cases c <;> simp [eqC] at hr
   | cons c' y =>
   cases c <;> cases c' <;> simp only [eqC] at hr <;> try (cases hr; done)
   cases x with
   | cons _ _ => simp at l1
   | nil =>
   cases y with
   | cons _ _ => simp at l2
   | nil =>
   simp only [eqC, Option.map_some, Option.some.injEq, Bool.and_true] at hr
   simp only [RepPL, RepP] at hx hy
   obtain ⟨v1, r1, rfl, rfl, rfl⟩ := hx
   obtain ⟨v2, r2, rfl, rfl, rfl⟩ := hy
   simp only [mkV, isAggT, hu, Bool.false_eq_true, if_false, List.getD_cons_zero]
   rw [run_equalIn_string w e t _ _ hu, ← beq_bytes, hr]
  ·rename_i fs hu
   split at h
   ·cases h
   ·rename_i hst
    have hag : isAggT P t = true := by simp [isAggT, hu]
    simp only [mkV, hag, if_true]
    have hf : P.fieldsOf t = fs := by simp [Program.fieldsOf, hu]
    rw [run_equalIn_struct w e t _ _ (by rw [hu, hf]) (by simpa using hst), hf]
    exact run_eqFields (d := d) (e := e) (fun {t ks x y us vs r} h hr hx hy => ih (e := e) h (by omega) hr hx hy) fs.toList h (by simpa using hr) hx hy
  ·rename_i n el hu
   split at h
   ·rename_i k1 hk1
    split at h
    ·rename_i hlen
     simp only [Bool.and_eq_true, Bool.not_eq_true'] at hlen
     have hnz : k1.length ≠ 0 := fun e0 => by rw [e0] at hlen; exact absurd hlen.2 (by decide)
     have hlen := Nat.eq_of_beq_eq_true hlen.1
     cases h
     have hag : isAggT P t = true := by simp [isAggT, hu]
     simp only [mkV, hag, if_true]
     obtain ⟨i, hi⟩ := Option.isSome_iff_exists.1 (leafK_info hk1).1
     rw [run_equalIn_array w e _ _ hu hi, List.range_eq_range']
     exact run_eqItems (d := d) (e := e) hk1 hlen hnz (fun {x y us vs r} hr hx hy => ih (e := e) hk1 (by omega) hr hx hy) n 0 (by simpa using hr) hx hy
    ·cases h
   ·cases h
  ·cases h
theorem run_neg {op : BinOp} {neg : Bool} {t : TypeId} {x y : Operand} {xv yv : Value} {r : Bool} (hop : op = bif neg then .neq else .eql) (hg : (eqGuard op t x y xv yv).run P w = .ok () w) (he : (Op.equal t xv yv).run P w = .ok r w)
  (h1 : ∀ k n, xv ≠ .int k n) (h2 : ∀ s, xv ≠ .string s) (h3 : ∀ k n, xv ≠ .float k n) (h4 : ∀ k a b, xv ≠ .complex k a b) :
  (do eqGuard op t x y xv yv; binOp op t xv yv : Sem Value).run P w = .ok (.bool (bif neg then !r else r)) w := by
 simp only [Sem.run_bind, hg, Result.andThen_ok]
 subst hop
 cases neg
 ·simp only [cond_false]
  cases xv <;> first
   | exact absurd rfl (h1 _ _)
   | exact absurd rfl (h2 _)
   | exact absurd rfl (h3 _ _)
   | exact absurd rfl (h4 _ _ _)
   | simp [binOp, he]
 ·simp only [cond_true]
  cases xv <;> first
   | exact absurd rfl (h1 _ _)
   | exact absurd rfl (h2 _)
   | exact absurd rfl (h3 _ _)
   | exact absurd rfl (h4 _ _ _)
   | simp [binOp, he]
theorem eqp1 {e t t' : Nat} {b : Addr} (hu : P.underlying t = some (.pointer t')) : (Op.equalIn (e + 1) t (.pointer (some b)) (.pointer none)).run P w = .ok false w := by simp [Op.equalIn, run_und hu]
theorem eqp2 {e t t' : Nat} {b : Addr} (hu : P.underlying t = some (.pointer t')) : (Op.equalIn (e + 1) t (.pointer none) (.pointer (some b))).run P w = .ok false w := by simp [Op.equalIn, run_und hu]
theorem eqp3 {e t t' : Nat} (hu : P.underlying t = some (.pointer t')) : (Op.equalIn (e + 1) t (.pointer none) (.pointer none)).run P w = .ok true w := by simp [Op.equalIn, run_und hu]
theorem eqf1 {e t : Nat} {a1 a2 a3 f g h} (hu : P.underlying t = some (.func a1 a2 a3)) : (Op.equalIn (e + 1) t (.func f g h) .nilFunc).run P w = .ok false w := by simp [Op.equalIn, run_und hu]
theorem eqf2 {e t : Nat} {a1 a2 a3 f g h} (hu : P.underlying t = some (.func a1 a2 a3)) : (Op.equalIn (e + 1) t .nilFunc (.func f g h)).run P w = .ok false w := by simp [Op.equalIn, run_und hu]
theorem eqf3 {e t : Nat} {a1 a2 a3} (hu : P.underlying t = some (.func a1 a2 a3)) : (Op.equalIn (e + 1) t .nilFunc .nilFunc).run P w = .ok true w := by simp [Op.equalIn, run_und hu]
theorem snd_eq {d : Nat} {neg : Bool} {ks : EqK} {x y : Arg} (hok : okOp' P o (.eq d neg ks x y) = true) (h : opR P (.eq d neg ks x y) ρ μ v u acc) (hA : ArgsOk V G ρ a (AOp.eq d neg ks x y).args) (hs : Sat W0 V0 Own V G w μ) :
  Done W0 V0 Own P o a w V G μ v u := by
 obtain ⟨⟨r, he, rfl⟩, rfl, rfl⟩ := h
 simp only [okOp'] at hok
 split at hok
 ·rename_i op t px py yt ho
  simp only [Bool.and_eq_true, decide_eq_true_eq] at hok
  obtain ⟨⟨⟨hop, h1⟩, h2⟩, h3⟩ := hok
  have hx := hA x (by simp [AOp.args]) _ h1
  have hy := hA y (by simp [AOp.args]) _ h2
  refine done_pure hs (val := .bool (bif neg then !r else r)) ?_ rfl
  rw [execOp, ho]
  refine run_v ?_
  unfold evEq at he
  split at he
  ·rename_i b1 b2 e1 e2
   cases he
   rw [e1] at hx
   rw [e2] at hy
   have hx := rep_bool hx
   have hy := rep_bool hy
   rw [hx, hy]
   simp only [okEq] at h3
   split at h3
   ·rename_i hu
    refine run_neg hop ?_ ?_ (by simp) (by simp) (by simp) (by simp)
    ·unfold eqGuard
     cases op <;> rfl
    ·exact run_equalIn_bool' w _ t _ _ hu
   ·cases h3
  ·rename_i ks x1 y1 e1 e2
   rw [e1] at hx
   rw [e2] at hy
   simp only [Rep, RepP] at hx hy
   obtain ⟨us, vx, rx⟩ := hx
   obtain ⟨vs, vy, ry⟩ := hy
   simp only [okEq, Bool.and_eq_true, decide_eq_true_eq, Bool.not_eq_true'] at h3
   obtain ⟨⟨hk, hg⟩, hag⟩ := h3
   have h5 := run_eqIn (w := w) (V := V) 20 (e := 10000) hk (by decide) he rx ry
   simp only [mkV, hag, if_true] at h5
   rw [vx, vy]
   refine run_neg hop ?_ h5 (by simp) (by simp) (by simp) (by simp)
   unfold eqGuard
   cases op <;> simp [hg]
  ·simp only [okEq] at h3
   split at h3
   ·rename_i e hu
    revert he hx hy
    generalize ρ x = ax
    generalize ρ y = ay
    intro hx hy he
    unfold evNil at he
    split at he <;> (try (cases he; done)) <;> simp only [Rep, RepP] at hx hy
    ·obtain ⟨b, _, vx⟩ := hx
     cases he
     rw [vx, hy]
     refine run_neg hop ?_ ?_ (by simp) (by simp) (by simp) (by simp)
     ·unfold eqGuard; cases op <;> rfl
     ·exact eqp1 (e := 9999) hu
    ·obtain ⟨b, _, vy⟩ := hy
     cases he
     rw [vy, hx]
     refine run_neg hop ?_ ?_ (by simp) (by simp) (by simp) (by simp)
     ·unfold eqGuard; cases op <;> rfl
     ·exact eqp2 (e := 9999) hu
    ·obtain ⟨b, _, vx, _⟩ := hx
     cases he
     rw [vx, hy]
     refine run_neg hop ?_ ?_ (by simp) (by simp) (by simp) (by simp)
     ·unfold eqGuard; cases op <;> rfl
     ·exact eqp1 (e := 9999) hu
    ·obtain ⟨b, _, vy, _⟩ := hy
     cases he
     rw [vy, hx]
     refine run_neg hop ?_ ?_ (by simp) (by simp) (by simp) (by simp)
     ·unfold eqGuard; cases op <;> rfl
     ·exact eqp2 (e := 9999) hu
    ·cases he
     rw [hx, hy]
     refine run_neg hop ?_ ?_ (by simp) (by simp) (by simp) (by simp)
     ·unfold eqGuard; cases op <;> rfl
     ·exact eqp3 (e := 9999) hu
   ·cases h3
  ·simp only [okEq] at h3
   split at h3
   ·rename_i e1 e2 e3 hu
    revert he hx hy
    generalize ρ x = ax
    generalize ρ y = ay
    intro hx hy he
    unfold evNilF at he
    split at he <;> (try (cases he; done)) <;> simp only [Rep, RepP] at hx hy
    ·obtain ⟨cv, vx, _⟩ := hx
     cases he
     rw [vx, hy]
     refine run_neg hop ?_ ?_ (by simp) (by simp) (by simp) (by simp)
     ·unfold eqGuard; cases op <;> rfl
     ·exact eqf1 (e := 9999) hu
    ·obtain ⟨cv, vy, _⟩ := hy
     cases he
     rw [vy, hx]
     refine run_neg hop ?_ ?_ (by simp) (by simp) (by simp) (by simp)
     ·unfold eqGuard; cases op <;> rfl
     ·exact eqf2 (e := 9999) hu
    ·obtain ⟨cv, vx, _⟩ := hx
     cases he
     rw [vx, hy]
     refine run_neg hop ?_ ?_ (by simp) (by simp) (by simp) (by simp)
     ·unfold eqGuard; cases op <;> rfl
     ·exact eqf1 (e := 9999) hu
    ·obtain ⟨cv, vy, _⟩ := hy
     cases he
     rw [vy, hx]
     refine run_neg hop ?_ ?_ (by simp) (by simp) (by simp) (by simp)
     ·unfold eqGuard; cases op <;> rfl
     ·exact eqf2 (e := 9999) hu
    ·cases he
     rw [hx, hy]
     refine run_neg hop ?_ ?_ (by simp) (by simp) (by simp) (by simp)
     ·unfold eqGuard; cases op <;> rfl
     ·exact eqf3 (e := 9999) hu
   ·cases h3
  ·cases he
 ·cases hok
end
/- The abstract machine's operations are the program's: stores, appends, calls. -/
section
variable {W0 : World} {V0 : View} {Own : Fra} {P : Program} {o : Oper} {a : Act} {w : World} {V : View} {G : Ctx} {μ : Nat → Option Ob} {ρ : Arg → AV} {v : AV} {u : List (Nat × Ob)} {acc : Acc}
theorem done_skip {w' : World} {G' : Ctx} (hs : Sat W0 V0 Own V G' w' (updO μ u)) (hd : o.dst = none) (hr : (execOp a.eval o).run P w = .ok .skip w') (hG : G.le G') : Done W0 V0 Own P o a w V G μ .dead u := by
 intro next Q hn
 unfold Oper.wp
 rw [hr, Oper.upon_skip]
 exact hn undef w' V G' (by simp only [Rep]) (View.le_refl _) hG hs
/-- The world behind a write into a block. -/
theorem setRow_keep {b : Nat} {cs : Array Value} (h : Keep W0 Own w) (hb : Own.own b ∨ W0.heap.size ≤ b) : Keep W0 Own (w.setRow b cs) :=
 h.of_le rfl rfl rfl (by rw [setRow_size]; exact Nat.le_refl _) fun k h1 h2 => by
  refine setRow_other w b k cs fun e => ?_
  subst e
  rcases hb with hb | hb
  ·exact h2 hb
  ·omega
/-- A write into an object's block. -/
theorem Sat.write (h : Sat W0 V0 Own V G w μ) {k b : Nat} {s : Sh} {ob : Ob} {us vs : List Value} {T : TypeId} (hg : G k = some s) (hb : s.block = some b) (hh : w.heap[b]? = some (.cells us.toArray T (0, 0)))
  (hob : ObOk V (fun j => if j = k then some s else G j) (w.setRow b vs.toArray) s ob) :
  Sat W0 V0 Own V (fun j => if j = k then some s else G j) (w.setRow b vs.toArray) (fun j => if j = k then some ob else μ j) := by
 obtain ⟨p1, p2, p3⟩ := h.priv k s b hg hb
 refine h.upd (setRow_keep h.keep p2) ?_ (Ctx.le_upd hg s.le_refl) hob ?_ (fun b' hb' hlt => h.loc k s b' hg hb' hlt) (by rw [setRow_size]; exact Nat.le_refl _) ?_
 ·intro b' o' x e
  have hne : b' ≠ b := fun e' => by subst e'; rw [p3 o'] at e; cases e
  have := h.view b' o' x e
  unfold World.cell? at this ⊢
  rw [show (w.setRow b vs.toArray).heap[b']? = w.heap[b']? from setRow_other w b b' _ hne]
  exact this
 ·intro b' hb'
  rw [hb] at hb'
  cases hb'
  refine ⟨by rw [setRow_size]; exact p1, p2, p3, fun j s' hj hg' hb' => ?_⟩
  exact hj (h.inj j k s' s b hg' hg hb' hb)
 ·intro j s' b' hj hg' hb'
  refine setRow_other w b b' _ fun e => ?_
  subst e
  exact hj (h.inj j k s' s b' hg' hg hb' hb)
theorem run_storeVar {t : TypeId} {b of : Nat} {x : Value} {us : List Value} {T : TypeId} (hi : (P.info? t).isSome = true) (hn : x.cells.size = P.cellsOf t) (hh : w.heap[b]? = some (.cells us.toArray T (0, 0))) (hl : of + x.cells.size ≤ us.length) (h1 : ∀ y ∈ x.cells.toList, y.oneCell' = true) :
  (storeVar t ⟨b, of, none⟩ x).run P w = .ok () (w.setRow b (splice us of x.cells.toList).toArray) := by
 unfold storeVar
 simp only [Sem.run_bind, run_size hi, Result.andThen_ok, hn, ne_eq, not_true, if_false, Sem.run_ite]
 have := run_storeCells_at (P := P) b of T x.cells.toList 0 us.toArray w hh (by simp; omega) h1
 simp only [Nat.add_zero] at this
 simp only [splice]
 exact this
theorem mem_splice {us vs : List Value} {of : Nat} {y : Value} (h : y ∈ splice us of vs) : y ∈ us ∨ y ∈ vs := by
 unfold splice at h
 simp only [List.mem_append] at h
 rcases h with (h | h) | h
 ·exact .inl (List.mem_of_mem_take h)
 ·exact .inr h
 ·exact .inl (List.mem_of_mem_drop h)
theorem splice_get_in {us vs : List Value} {of j : Nat} (h : of + vs.length ≤ us.length) (hj : j < vs.length) : (splice us of vs)[of + j]? = vs[j]? := by
 unfold splice
 rw [List.append_assoc, List.getElem?_append_right (by simp; omega), List.getElem?_append_left (by simp; omega)]
 congr 1
 simp
 omega
theorem splice_get_out {us vs : List Value} {of i : Nat} (h : of + vs.length ≤ us.length) (hi : i < of ∨ of + vs.length ≤ i) : (splice us of vs)[i]? = us[i]? := by
 unfold splice
 rcases hi with hi | hi
 ·rw [List.append_assoc, List.getElem?_append_left (by simp; omega), List.getElem?_take, if_pos hi]
 ·rw [List.getElem?_append_right (by simp; omega), List.getElem?_drop]
  congr 1
  simp
  omega
/-- Rows, one of which is written to. -/
theorem RepR.write {xs : List (List AV)} {us vs : List Value} {cs c : List AV} {esz o i of : Nat} (h : RepR V (fun i => us[i]?) esz o xs) (hc : xs[i]? = some c) (hv : RepPL V cs vs) (h1 : ∀ y ∈ vs, y.oneCell' = true) (hl : of + cs.length ≤ c.length) (ht : o + xs.length * esz ≤ us.length) :
  RepR V (fun j => (splice us (o + i * esz + of) vs)[j]?) esz o (xs.set i (setAt c of cs)) := by
 obtain ⟨hce, hrc⟩ := h.get hc
 have hi := getElem?_lt hc
 have hvl := hv.length
 have hlt : (i + 1) * esz ≤ xs.length * esz := Nat.mul_le_mul_right _ hi
 rw [Nat.add_mul, Nat.one_mul] at hlt
 have hin : o + i * esz + of + vs.length ≤ us.length := by omega
 refine RepR.of_get fun j d hd => ?_
 rw [List.getElem?_set] at hd
 split at hd
 ·rename_i hij
  subst hij
  ·cases hd
   refine ⟨by simp [setAt]; omega, ?_⟩
   unfold setAt
   have hpre : RepC V (fun j => (splice us (o + i * esz + of) vs)[j]?) (o + i * esz) (c.take of) := by
    refine (hrc.take of).local fun j g1 g2 => ?_
    refine splice_get_out hin (.inl ?_)
    simp only [List.length_take] at g2
    omega
   have hmid : RepC V (fun j => (splice us (o + i * esz + of) vs)[j]?) (o + i * esz + (c.take of).length) cs := by
    refine RepC.of_vals hv fun j y hy => ?_
    have hj := getElem?_lt hy
    refine ⟨?_, h1 y (List.mem_of_getElem? hy)⟩
    show (splice us (o + i * esz + of) vs)[o + i * esz + (c.take of).length + j]? = some y
    rw [show (c.take of).length = of by simp; omega, splice_get_in hin hj]
    exact hy
   have hpost : RepC V (fun j => (splice us (o + i * esz + of) vs)[j]?) (o + i * esz + (c.take of ++ cs).length) (c.drop (of + cs.length)) := by
    have := hrc.drop (of + cs.length)
    rw [show (c.take of ++ cs).length = of + cs.length by simp; omega]
    refine this.local fun j g1 g2 => ?_
    exact splice_get_out hin (.inr (by omega))
   exact (hpre.append hmid).append hpost
 ·rename_i hij
  obtain ⟨q1, q2⟩ := h.get hd
  refine ⟨q1, q2.local fun k g1 g2 => ?_⟩
  refine splice_get_out hin ?_
  rcases Nat.lt_or_ge j i with g | g
  ·left
   have : (j + 1) * esz ≤ i * esz := Nat.mul_le_mul_right _ g
   rw [Nat.add_mul, Nat.one_mul] at this
   omega
  ·right
   have : (i + 1) * esz ≤ j * esz := Nat.mul_le_mul_right _ (by omega)
   rw [Nat.add_mul, Nat.one_mul] at this
   omega
theorem setAt_repL {z cs : List AV} {us xs : List Value} {o : Nat} (h : RepL V G z us) (k : RepL V G cs xs) : RepL V G (setAt z o cs) (splice us o xs) := by
 unfold setAt splice
 rw [k.length]
 exact ((h.take o).append k).append (h.drop _)
theorem snd_store {x y : Arg} {n : Nat} (hd : o.dst = none) (hok : okOp' P o (.store x y n) = true) (h : opR P (.store x y n) ρ μ v u acc) (hA : ArgsOk V G ρ a (AOp.store x y n).args) (hs : Sat W0 V0 Own V G w μ) :
  Done W0 V0 Own P o a w V G μ v u := by
 obtain ⟨rfl, hlen, h⟩ := h
 simp only [okOp'] at hok
 split at hok
 ·rename_i t px py ho
  simp only [Bool.and_eq_true] at hok
  obtain ⟨⟨⟨h1, h2⟩, hi⟩, hsz⟩ := hok
  have hsz := Nat.eq_of_beq_eq_true hsz
  have hx := hA x (by simp [AOp.args]) _ h1
  have hy := hA y (by simp [AOp.args]) _ h2
  have key : ∀ (b of : Nat) (us : List Value) (T : TypeId), a.eval px = .pointer (some ⟨b, of, none⟩) → (a.eval py).cells.size = n → w.heap[b]? = some (.cells us.toArray T (0, 0)) → of + (a.eval py).cells.size ≤ us.length → (∀ z ∈ (a.eval py).cells.toList, z.oneCell' = true) →
    (execOp a.eval o).run P w = .ok .skip (w.setRow b (splice us of (a.eval py).cells.toList).toArray) := by
   intro b of us T hv hn hh hl h1
   rw [execOp, ho]
   simp only [Instr.storeAt, hv, Instr.sureAddr, Sem.run_bind, Sem.run_pure, Result.andThen_ok, run_storeVar hi (by rw [hn, hsz]) hh hl h1]
  rcases h with ⟨k, of, c, he, hm, hp, hone, hl, rfl, rfl⟩ | ⟨k, of, c, he, hm, hcm, hone, hl, rfl, rfl⟩ | ⟨k, ver, i, of, esz, xs, c, he, hm, hc, hp, hone, hl, rfl, rfl⟩
  ·rw [he] at hx
   simp only [Rep] at hx
   obtain ⟨b, hg, hv⟩ := hx
   obtain ⟨s, hgs, hob⟩ := hs.obs _ _ hm
   rw [hg] at hgs
   cases hgs
   obtain ⟨us, T, hh, hr, h1⟩ := hob
   have hcy := (hy.pure hp).cells
   have h1y := oneAL_get hcy hone
   have hcl := hcy.length
   rw [Array.length_toList] at hcl
   have hul := hr.length
   have hw := hs.write (ob := .pbox (setAt c of (cellsOf (ρ y)))) (vs := splice us of (a.eval py).cells.toList) hg rfl hh (by
    simp only [ObOk]
    refine ⟨_, T, setRow_heap w b _ _ T _ hh, setAt_rep hr hcy, fun z hz => ?_⟩
    rcases mem_splice hz with hz | hz
    ·exact h1 z hz
    ·exact h1y z hz)
   exact done_skip (μ := μ) (u := [(k, .pbox (setAt c of (cellsOf (ρ y))))]) hw hd (key b of us T hv (by omega) hh (by omega) h1y) (Ctx.le_upd hg (Sh.le_refl _))
  ·rw [he] at hx
   simp only [Rep] at hx
   obtain ⟨b, hg, hv⟩ := hx
   obtain ⟨s, hgs, hob⟩ := hs.obs _ _ hm
   rw [hg] at hgs
   cases hgs
   obtain ⟨us, T, hh, hr, h1⟩ := hob
   have hcy := hy.cellsM hcm
   rw [cellsM_eq] at hcy
   have h1y := RepL.oneAll hcy hone
   have hcl := hcy.length
   rw [Array.length_toList] at hcl
   have hul := hr.length
   have hle := Ctx.le_upd (G := G) (s' := .box b) hg (Sh.le_refl _)
   have hw := hs.write (ob := .box (setAt c of (cellsOf (ρ y)))) (vs := splice us of (a.eval py).cells.toList) hg rfl hh (by
    simp only [ObOk]
    refine ⟨_, T, setRow_heap w b _ _ T _ hh, setAt_repL (hr.mono (View.le_refl _) hle) (hcy.mono (View.le_refl _) hle), fun z hz => ?_⟩
    rcases mem_splice hz with hz | hz
    ·exact h1 z hz
    ·exact h1y z hz)
   exact done_skip (μ := μ) (u := [(k, .box (setAt c of (cellsOf (ρ y))))]) hw hd (key b of us T hv (by omega) hh (by omega) h1y) hle
  ·rw [he] at hx
   simp only [Rep] at hx
   obtain ⟨_, ver', esz', nn, loc, hg, hle', hq⟩ := hx
   obtain ⟨s, hgs, hob⟩ := hs.obs _ _ hm
   rw [hg] at hgs
   cases hgs
   obtain ⟨rfl, rfl, rfl, hnone, hloc⟩ := hob
   obtain ⟨b, o', tot, rfl, hin, hv⟩ := hq rfl
   obtain ⟨us, T, hh, ht, hle, hr⟩ := hloc b o' tot rfl
   have hcy := (hy.pure hp).cells
   have h1y := oneAL_get hcy hone
   have hcl := hcy.length
   rw [Array.length_toList] at hcl
   obtain ⟨hce, hrc⟩ := hr.get hc
   have hii := getElem?_lt hc
   have hlt : (i + 1) * esz' ≤ xs.length * esz' := Nat.mul_le_mul_right _ hii
   rw [Nat.add_mul, Nat.one_mul] at hlt
   have hw := hs.write (ob := .arr ver' esz' (xs.set i (setAt c of (cellsOf (ρ y))))) (vs := splice us (o' + i * esz' + of) (a.eval py).cells.toList) hg rfl hh (by
    simp only [ObOk]
    refine ⟨trivial, trivial, by simp, (fun h => by cases h), fun b2 o2 tot2 h => ?_⟩
    cases h
    refine ⟨_, T, setRow_heap w b _ _ T _ hh, ?_, hle, hr.write hc hcy h1y hl (by omega)⟩
    rw [splice_length (by rw [Array.length_toList]; omega)]
    exact ht)
   exact done_skip (μ := μ) (u := [(k, .arr ver' esz' (xs.set i (setAt c of (cellsOf (ρ y)))))]) hw hd (key b _ us T hv (by omega) hh (by omega) h1y) (Ctx.le_upd hg (Sh.le_refl _))
 ·cases hok
end
/- The abstract machine's operations are the program's: append, clear, make, calls. -/
section
variable {W0 : World} {V0 : View} {Own : Fra} {P : Program} {o : Oper} {a : Act} {w : World} {V : View} {G : Ctx} {μ : Nat → Option Ob} {ρ : Arg → AV} {v : AV} {u : List (Nat × Ob)} {acc : Acc}
/-- What is appended: values, and where they lie. -/
structure Src (w : World) (esz m : Nat) (A : Option Addr) (news : List Value) : Prop where
 len : news.length = m * esz
 one : ∀ y ∈ news, y.oneCell' = true
 at_ : m = 0 ∨ ∃ b o, A = some ⟨b, o, none⟩ ∧ ∀ j y, news[j]? = some y → w.cell? ⟨b, o + j, none⟩ = some y
theorem Src.first {esz m c : Nat} {A : Option Addr} {news : List Value} (h : Src w esz m A news) : (Builtin.firstCells esz m (.slice A m c)).run P w = .ok news.toArray w := by
 rcases h.at_ with h0 | ⟨b, of, rfl, hc⟩
 ·subst h0
  have hn : news = [] := List.eq_nil_of_length_eq_zero (by rw [h.len]; simp)
  subst hn
  cases A with
  | none => exact run_firstCells_none w esz 0 0 c
  | some A => exact run_firstCells_some w esz 0 A 0 c [] (by simp) (fun j v hv => by simp at hv)
 ·exact run_firstCells_some w esz m _ m c news h.len (fun j y hy => by rw [add_lit]; exact hc j y hy)
/-- All values of rows. -/
theorem RepR.vals {L : Nat → Option Value} : ∀ {xs : List (List AV)} {esz o : Nat}, RepR V L esz o xs → ∃ us : List Value, RepPL V xs.flatten us ∧ us.length = xs.length * esz ∧ ∀ j u, us[j]? = some u → L (o + j) = some u ∧ u.oneCell' = true
 | [], esz, o, h => ⟨[], by simp [RepPL], by simp, fun j u hu => by simp at hu⟩
 | c :: r, esz, o, h => by
  simp only [RepR] at h
  obtain ⟨h1, h2, h3⟩ := h
  obtain ⟨us, p1, p2⟩ := h2.vals
  obtain ⟨vs, q1, q2, q3⟩ := RepR.vals h3
  have hul := p1.length
  refine ⟨us ++ vs, by rw [List.flatten_cons]; exact p1.append q1, by rw [List.length_append, List.length_cons, q2, hul, h1, Nat.add_mul]; omega, fun j u hu => ?_⟩
  rcases Nat.lt_or_ge j us.length with hj | hj
  ·rw [List.getElem?_append_left hj] at hu
   exact p2 j u hu
  ·rw [List.getElem?_append_right hj] at hu
   have := q3 _ _ hu
   rwa [show o + esz + (j - us.length) = o + j by omega] at this
theorem run_append_in {t ty e : TypeId} {i : TypeInfo} {esz len cap m c : Nat} {A A2 : Option Addr} {news : List Value} (ht : P.underlying t = some (.slice e)) (hi : P.info? e = some i) (hsz : i.size = esz) (hs : Src w esz m A2 news) (hroom : len + m ≤ cap)
  {b of : Nat} {us : List Value} {T : TypeId} (hA : m = 0 ∨ (A = some ⟨b, of, none⟩ ∧ w.heap[b]? = some (.cells us.toArray T (0, 0)) ∧ of + (len + m) * esz ≤ us.length)) :
  (Builtin.append_ #[t, t] ty #[.slice A len cap, .slice A2 m c]).run P w = .ok (.slice A (len + m) cap) (if m = 0 then w else w.setRow b (splice us (of + len * esz) news).toArray) := by
 have hf := hs.first (P := P) (c := c)
 subst hsz
 rcases hA with h0 | ⟨rfl, hh, hl⟩
 ·subst h0
  have hn : news = [] := List.eq_nil_of_length_eq_zero (by rw [hs.len]; simp)
  subst hn
  cases A with
  | none => simp [Builtin.append_, run_underlying ht, sizeOf, typeInfo, hi, Builtin.lenOf, hf, show len ≤ cap by omega]
  | some A => simp [Builtin.append_, run_underlying ht, sizeOf, typeInfo, hi, Builtin.lenOf, hf, show len ≤ cap by omega, storeCells]
 ·by_cases h0 : m = 0
  ·subst h0
   have hn : news = [] := List.eq_nil_of_length_eq_zero (by rw [hs.len]; simp)
   subst hn
   simp [Builtin.append_, run_underlying ht, sizeOf, typeInfo, hi, Builtin.lenOf, hf, show len ≤ cap by omega, storeCells]
  ·have hst := run_storeCells_at (P := P) b (of + len * i.size) T news 0 us.toArray w hh (by rw [hs.len]; simp; rw [Nat.add_mul] at hl; omega) hs.one
   simp only [Nat.add_zero] at hst
   simp only [if_neg h0, splice]
   simp [Builtin.append_, run_underlying ht, sizeOf, typeInfo, hi, Builtin.lenOf, hf, hroom, add_lit, hst]
theorem size_zeroCells' (z : Array Value) (n : Nat) : (Builtin.zeroCells z n).size = n * z.size := by simp [Builtin.zeroCells]
theorem run_append_out {t ty e : TypeId} {i : TypeInfo} {z : Value} {esz bytes len cap m c : Nat} {A A2 : Option Addr} {olds news : List Value} (ht : P.underlying t = some (.slice e)) (hi : P.info? e = some i) (hz : i.zero = some z) (hsz : i.size = esz) (hzs : z.cells.size = i.size) (hby : i.bytes = bytes) (hs : Src w esz m A2 news) (hgrow : cap < len + m)
  (hlc : len ≤ cap) (hb : (len + m) * bytes ≤ 140737488355328) (h63 : len + m ≤ 9223372036854775807)
  (holds : olds.length = len * esz) (hA : (A = none ∧ cap = 0) ∨ ∃ b : Addr, A = some b ∧ ∀ j y, olds[j]? = some y → w.cell? (b.add j) = some y) :
  ∃ (cap' : Nat) (us : List Value) (T : TypeId), len + m ≤ cap' ∧ us.length = cap' * esz ∧ (∃ r, us = olds ++ news ++ r) ∧
   (Builtin.append_ #[t, t] ty #[.slice A len cap, .slice A2 m c]).run P w = .ok (.slice (some ⟨w.heap.size, 0, none⟩) (len + m) cap') (w.drew.alloc (.cells us.toArray T)) := by
 have hm : m ≠ 0 := by omega
 obtain ⟨b2, o2, rfl, hc⟩ := hs.at_.resolve_left hm
 subst hsz
 subst hby
 have hge := grownCap_ge w (len + m) cap e
 have hlen : ∀ (k : Nat), len + m ≤ k → (olds ++ news ++ (Builtin.zeroCells z.cells (k - (len + m))).toList).length = k * i.size := by
  intro k hk
  rw [List.length_append, List.length_append, holds, hs.len, Array.length_toList, size_zeroCells', hzs, ← Nat.add_mul, ← Nat.add_mul]
  congr 1
  omega
 have hnews : ∀ j y, news[j]? = some y → w.cell? (Addr.add ⟨b2, o2, none⟩ j) = some y := fun j y hy => by rw [add_lit]; exact hc j y hy
 rcases hA with ⟨rfl, rfl⟩ | ⟨b, rfl, hcs⟩
 ·obtain rfl : len = 0 := by omega
  have ho : olds = [] := List.eq_nil_of_length_eq_zero (by rw [holds]; simp)
  subst ho
  have hr := run_append_nil (P := P) w t ty e i z ht hi hz ⟨b2, o2, none⟩ m c news hs.len hnews (by omega) (by omega) (by rw [Nat.zero_add] at hb; omega)
  rw [Nat.zero_add] at hge ⊢
  refine ⟨grownCap w m 0 e, _, e, hge, by have := hlen (grownCap w m 0 e) (by omega); rw [Nat.zero_add] at this; exact this, ⟨_, rfl⟩, ?_⟩
  rw [hr]
  congr 3
  rw [← Array.toList_inj]
  simp
 ·have hr := run_append_grow (P := P) w t ty e i z ht hi hz b len cap olds holds hcs ⟨b2, o2, none⟩ m c news hs.len hnews hgrow (by omega) (growslice_fits hgrow hb)
  refine ⟨grownCap w (len + m) cap e, _, e, hge, hlen _ hge, ⟨_, rfl⟩, ?_⟩
  rw [hr]
  congr 3
  rw [← Array.toList_inj]
  simp
theorem flatten_len {xs : List (List AV)} {n : Nat} (h : ∀ c ∈ xs, c.length = n) : xs.flatten.length = xs.length * n := by
 induction xs with
 | nil => simp
 | cons c xs ih =>
  simp only [List.flatten_cons, List.length_append, List.length_cons, Nat.add_mul, Nat.one_mul]
  rw [h _ List.mem_cons_self, ih (fun c hc => h c (List.mem_cons_of_mem _ hc))]
  omega
/-- Rows that come to stand over others, or behind them. -/
theorem RepR.over {xs ys : List (List AV)} {us vs : List Value} {esz o i : Nat} (h : RepR V (fun i => us[i]?) esz o xs) (hv : RepPL V ys.flatten vs) (hy : ∀ c ∈ ys, c.length = esz) (h1 : ∀ y ∈ vs, y.oneCell' = true) (hi : i ≤ xs.length) (ht : o + (i + ys.length) * esz ≤ us.length) :
  RepR V (fun j => (splice us (o + i * esz) vs)[j]?) esz o (xs.take i ++ ys ++ xs.drop (i + ys.length)) := by
 have hvl : vs.length = ys.length * esz := by rw [hv.length, flatten_len hy]
 rw [Nat.add_mul] at ht
 have hin : o + i * esz + vs.length ≤ us.length := by omega
 have hpre : RepR V (fun j => (splice us (o + i * esz) vs)[j]?) esz o (xs.take i) := by
  refine (h.take i).local fun j g1 g2 => splice_get_out hin (.inl ?_)
  rw [List.length_take, Nat.min_eq_left hi] at g2
  exact g2
 have hmid : RepR V (fun j => (splice us (o + i * esz) vs)[j]?) esz (o + (xs.take i).length * esz) ys := by
  rw [List.length_take, Nat.min_eq_left hi]
  refine RepR.of_flat hv hy fun j y hj => ⟨?_, h1 y (List.mem_of_getElem? hj)⟩
  show (splice us (o + i * esz) vs)[o + i * esz + j]? = some y
  rw [splice_get_in hin (getElem?_lt hj)]
  exact hj
 have hpost : RepR V (fun j => (splice us (o + i * esz) vs)[j]?) esz (o + (xs.take i ++ ys).length * esz) (xs.drop (i + ys.length)) := by
  rw [List.length_append, List.length_take, Nat.min_eq_left hi]
  refine (h.drop (i + ys.length)).local fun j g1 g2 => splice_get_out hin (.inr ?_)
  rw [Nat.add_mul] at g1
  omega
 exact (hpre.append hmid).append hpost
end
/- The abstract machine's operations are the program's: append, clear, make. -/
section
variable {W0 : World} {V0 : View} {Own : Fra} {P : Program} {o : Oper} {a : Act} {w : World} {V : View} {G : Ctx} {μ : Nat → Option Ob} {ρ : Arg → AV} {v : AV} {u : List (Nat × Ob)} {acc : Acc}
/-- What is known of an array and a slice of it. -/
def ObsOk (V : View) (G : Ctx) (w : World) (μ : Nat → Option Ob) : Prop := ∀ k ob, μ k = some ob → ∃ s, G k = some s ∧ ObOk V G w s ob
theorem hs_open0 {k ver off len esz : Nat} {xs : List (List AV)} {x : Value} (hs : ObsOk V G w μ) (hx : Rep V G (.hs k ver off len) x) (hm : μ k = some (.arr ver esz xs)) :
  ∃ loc A cap, G k = some (.arr ver esz xs.length loc) ∧ x = .slice A len cap ∧ len ≤ cap ∧ off + len ≤ xs.length ∧ xs.length ≤ off + cap ∧
   ((loc = none ∧ A = none ∧ cap = 0 ∧ xs = []) ∨ ∃ (b of tot : Nat) (us : List Value) (T : TypeId), loc = some (b, of, tot) ∧ (cap = 0 ∨ A = some ⟨b, of + off * esz, none⟩) ∧ of + (off + cap) * esz ≤ tot ∧ w.heap[b]? = some (.cells us.toArray T (0, 0)) ∧ us.length = tot ∧ of + xs.length * esz ≤ tot ∧ RepR V (fun i => us[i]?) esz of xs) := by
 simp only [Rep] at hx
 obtain ⟨⟨A, cap, hv⟩, ver', esz', nn, loc, hg, hle, hq⟩ := hx
 obtain ⟨s, hgs, hob⟩ := hs _ _ hm
 rw [hg] at hgs
 cases hgs
 obtain ⟨rfl, rfl, rfl, hnone, hloc⟩ := hob
 obtain ⟨A', cap', hv', hlc, hol, hnc, hq⟩ := hq rfl
 rw [hv] at hv'
 cases hv'
 refine ⟨loc, A, cap, hg, hv, hlc, hol, hnc, ?_⟩
 cases loc with
 | none =>
  obtain ⟨rfl, rfl, hn0⟩ := hq
  exact .inl ⟨rfl, rfl, rfl, hnone rfl⟩
 | some loc =>
  obtain ⟨b, of, tot⟩ := loc
  obtain ⟨hA', htot⟩ := hq
  obtain ⟨us, T, hh, ht, hle', hr⟩ := hloc b of tot rfl
  exact .inr ⟨b, of, tot, us, T, rfl, hA', htot, hh, ht, hle', hr⟩
theorem hs_openR {k ver off len : Nat} {cs : List AV} {x : Value} (hs : ObsOk V G w μ) (hx : Rep V G (.hs k ver off len) x) (hm : μ k = some (.rarr ver cs)) :
  ∃ loc A cap, G k = some (.arr ver 1 cs.length loc) ∧ x = .slice A len cap ∧ len ≤ cap ∧ off + len ≤ cs.length ∧ cs.length ≤ off + cap ∧
   ((loc = none ∧ A = none ∧ cap = 0 ∧ cs = []) ∨ ∃ (b of tot : Nat) (us : List Value) (T : TypeId), loc = some (b, of, tot) ∧ (cap = 0 ∨ A = some ⟨b, of + off, none⟩) ∧ of + (off + cap) ≤ tot ∧ w.heap[b]? = some (.cells us.toArray T (0, 0)) ∧ us.length = tot ∧ of + cs.length ≤ tot ∧ RepL V G cs ((us.drop of).take cs.length) ∧ ∀ u ∈ (us.drop of).take cs.length, u.oneCell' = true) := by
 simp only [Rep] at hx
 obtain ⟨⟨A, cap, hv⟩, ver', esz', nn, loc, hg, hle, hq⟩ := hx
 obtain ⟨s, hgs, hob⟩ := hs _ _ hm
 rw [hg] at hgs
 cases hgs
 obtain ⟨rfl, rfl, rfl, hnone, hloc⟩ := hob
 obtain ⟨A', cap', hv', hlc, hol, hnc, hq⟩ := hq rfl
 rw [hv] at hv'
 cases hv'
 refine ⟨loc, A, cap, hg, hv, hlc, hol, hnc, ?_⟩
 cases loc with
 | none =>
  obtain ⟨rfl, rfl, hn0⟩ := hq
  exact .inl ⟨rfl, rfl, rfl, hnone rfl⟩
 | some loc =>
  obtain ⟨b, of, tot⟩ := loc
  obtain ⟨hA', htot⟩ := hq
  obtain ⟨us, T, hh, ht, hle', hr, h1⟩ := hloc b of tot rfl
  exact .inr ⟨b, of, tot, us, T, rfl, by simpa using hA', by simpa using htot, hh, ht, hle', hr, h1⟩
theorem hs_open {k ver off len esz : Nat} {xs : List (List AV)} {x : Value} (hs : Sat W0 V0 Own V G w μ) (hx : Rep V G (.hs k ver off len) x) (hm : μ k = some (.arr ver esz xs)) :
  ∃ loc A cap, G k = some (.arr ver esz xs.length loc) ∧ x = .slice A len cap ∧ len ≤ cap ∧ off + len ≤ xs.length ∧ xs.length ≤ off + cap ∧
   ((loc = none ∧ A = none ∧ cap = 0 ∧ xs = []) ∨ ∃ (b of tot : Nat) (us : List Value) (T : TypeId), loc = some (b, of, tot) ∧ (cap = 0 ∨ A = some ⟨b, of + off * esz, none⟩) ∧ of + (off + cap) * esz ≤ tot ∧ w.heap[b]? = some (.cells us.toArray T (0, 0)) ∧ us.length = tot ∧ of + xs.length * esz ≤ tot ∧ RepR V (fun i => us[i]?) esz of xs) := hs_open0 hs.obs hx hm
theorem src_of {x : Value} {z : AV} {ys : List (List AV)} {rd : List Nat} {esz : Nat} (hs : Sat W0 V0 Own V G w μ) (hx : Rep V G z x)
  (h : ((z = .sl ys ∨ z = .fl ys) ∧ (∀ c ∈ ys, c.length = esz) ∧ rd = []) ∨ (∃ k2 ver2 off2 len2 xs2, z = .hs k2 ver2 off2 len2 ∧ μ k2 = some (.arr ver2 esz xs2) ∧ ys = (xs2.drop off2).take len2 ∧ rd = [k2])) :
  ∃ A c news, x = .slice A ys.length c ∧ Src w esz ys.length A news ∧ RepPL V ys.flatten news ∧ ∀ c ∈ ys, c.length = esz := by
 rcases h with ⟨he, hl, rfl⟩ | ⟨k2, ver2, off2, len2, xs2, rfl, hm, rfl, rfl⟩
 ·obtain ⟨A, cap, hv, hcap, hr⟩ := rep_sl he hx
  rcases hr with rfl | ⟨b, of, e', rfl, hr⟩
  ·exact ⟨A, cap, [], hv, ⟨by simp, (fun y hy => by cases hy), .inl rfl⟩, by simp [RepPL], hl⟩
  ·by_cases hne : ys = []
   ·subst hne
    exact ⟨_, cap, [], hv, ⟨by simp, (fun y hy => by cases hy), .inl rfl⟩, by simp [RepPL], hl⟩
   ·have he' := hr.esz_of hl hne
    subst he'
    obtain ⟨us, p1, p2, p3⟩ := hr.vals
    refine ⟨_, cap, us, hv, ⟨p2, fun y hy => ?_, .inr ⟨b, of, rfl, fun j y hy => hs.view _ _ _ (p3 j y hy).1⟩⟩, p1, hl⟩
    obtain ⟨j, hj⟩ := List.mem_iff_getElem?.1 hy
    exact (p3 j y hj).2
 ·obtain ⟨loc, A, cap, hg, hv, hlc, hol, hnc, hq⟩ := hs_open hs hx hm
  have hlen : ((xs2.drop off2).take len2).length = len2 := by simp; omega
  rcases hq with ⟨rfl, rfl, rfl, rfl⟩ | ⟨b, of, tot, us, T, rfl, hA, htot, hh, ht, hle, hr⟩
  ·have : len2 = 0 := by simp at hol; omega
   subst this
   exact ⟨none, 0, [], by simpa using hv, ⟨by simp, (fun y hy => by cases hy), .inl (by simp)⟩, by simp [RepPL], fun c hc => by simp at hc⟩
  ·have hr2 := (hr.drop off2).take len2
   obtain ⟨vs, p1, p2, p3⟩ := hr2.vals
   refine ⟨A, cap, vs, by rw [hlen]; exact hv, ⟨p2, fun y hy => ?_, ?_⟩, p1, fun c hc => ?_⟩
   ·obtain ⟨j, hj⟩ := List.mem_iff_getElem?.1 hy
    exact (p3 j y hj).2
   ·by_cases h0 : len2 = 0
    ·left; rw [hlen]; exact h0
    ·right
     have hA := hA.resolve_left (by omega)
     exact ⟨b, _, hA, fun j y hy => cell_of hh (p3 j y hy).1⟩
   ·obtain ⟨j, hj⟩ := List.mem_iff_getElem?.1 hc
    exact (hr2.get hj).1
/-- An array whose block, or whose rows, are others. -/
theorem Sat.rearr (h : Sat W0 V0 Own V G w μ) {k ver ver' esz n n' : Nat} {loc loc' : Option (Nat × Nat × Nat)} {w' : World} {ob : Ob} (hg : G k = some (.arr ver esz n loc)) (hv : ver < ver' ∨ (ver = ver' ∧ n = n' ∧ loc = loc'))
  (hk : Keep W0 Own w') (hsz : w.heap.size ≤ w'.heap.size) (hb : ∀ b, loc.map (·.1) ≠ some b → b < w.heap.size → w'.heap[b]? = w.heap[b]?)
  (hl : ∀ b, loc'.map (·.1) = some b → loc.map (·.1) = some b ∨ (b = w.heap.size ∧ b < w'.heap.size))
  (hob : ObOk V (fun j => if j = k then some (.arr ver' esz n' loc') else G j) w' (.arr ver' esz n' loc') ob) :
  Sat W0 V0 Own V (fun j => if j = k then some (.arr ver' esz n' loc') else G j) w' (fun j => if j = k then some ob else μ j) ∧ G.le (fun j => if j = k then some (.arr ver' esz n' loc') else G j) := by
 have hle : G.le (fun j => if j = k then some (.arr ver' esz n' loc') else G j) := Ctx.le_upd hg (by
  simp only [Sh.le]
  refine ⟨trivial, by omega, fun e => ?_⟩
  rcases hv with hv | hv
  ·omega
  ·exact hv.2)
 refine ⟨h.upd hk ?_ hle hob ?_ (fun b hbl hlt => ?_) hsz ?_, hle⟩
 ·intro b' o' x e
  have hlt := h.view_lt e
  have hne : loc.map (·.1) ≠ some b' := fun e' => by
   have := (h.priv k _ b' hg e').2.2 o'
   rw [this] at e
   cases e
  have := h.view b' o' x e
  unfold World.cell? at this ⊢
  rw [show w'.heap[b']? = w.heap[b']? from hb b' hne hlt]
  exact this
 ·intro b hbl
  rcases hl b hbl with h1 | ⟨h1, h2⟩
  ·obtain ⟨p1, p2, p3⟩ := h.priv k _ b hg h1
   refine ⟨by omega, p2, p3, fun j s' hj hg' hb' => hj (h.inj j k s' _ b hg' hg hb' h1)⟩
  ·subst h1
   refine ⟨h2, .inr h.keep.size, fun o' => ?_, fun j s' hj hg' hb' => absurd (h.priv j s' _ hg' hb').1 (Nat.lt_irrefl _)⟩
   cases e : V w.heap.size o' with
   | none => rfl
   | some x => exact absurd (h.view_lt e) (Nat.lt_irrefl _)
 ·rcases hl b hbl with h1 | ⟨h1, h2⟩
  ·exact h.loc k _ b hg h1 hlt
  ·exact absurd hlt (by have := h.keep.size; omega)
 ·intro j s' b' hj hg' hb'
  refine hb b' (fun e => hj (h.inj j k s' _ b' hg' hg hb' e)) (h.priv j s' b' hg' hb').1
theorem rep_hs_new {k ver esz n off len : Nat} {loc : Option (Nat × Nat × Nat)} {x : Value} (h : HsOk esz n loc off len x) : Rep V (fun j => if j = k then some (.arr ver esz n loc) else G j) (.hs k ver off len) x := by
 simp only [Rep]
 obtain ⟨A, cap, hv, r⟩ := h
 exact ⟨⟨A, cap, hv⟩, ver, esz, n, loc, if_pos trivial, Nat.le_refl _, fun _ => ⟨A, cap, hv, r⟩⟩
theorem snd_appd {d esz bytes : Nat} {x y : Arg} (hok : okOp' P o (.appd d x y esz bytes) = true) (h : opR P (.appd d x y esz bytes) ρ μ v u acc) (hA : ArgsOk V G ρ a (AOp.appd d x y esz bytes).args) (hs : Sat W0 V0 Own V G w μ) :
  Done W0 V0 Own P o a w V G μ v u := by
 obtain ⟨k, ver, off, len, xs, ys, rd, he, hm, hsrc, hcase, rfl⟩ := h
 simp only [okOp'] at hok
 split at hok
 ·rename_i as ts ho
  simp only [Bool.and_eq_true] at hok
  obtain ⟨h1, h2⟩ := hok
  obtain ⟨y1, y2, hy, h3, h4⟩ := okAs_two h1
  obtain rfl : as = #[y1, y2] := by rw [← Array.toList_inj, hy]
  split at h2
  ·rename_i t t' hts
   simp only [Bool.and_eq_true] at h2
   obtain ⟨⟨hby, hsl⟩, htt⟩ := h2
   obtain rfl := Nat.eq_of_beq_eq_true htt
   obtain rfl : ts = #[t, t] := by rw [← Array.toList_inj, hts]
   obtain ⟨e, hu, hn, hi'⟩ := okSl_spec hsl
   obtain ⟨e', i, z, hu', hi, hb, hz, hzs, hbpos⟩ := okBytes_spec hby
   rw [hu] at hu'
   cases hu'
   have hisz : i.size = esz := by rw [← hn]; simp [Program.cellsOf, hi]
   have hx := hA x (by simp [AOp.args]) _ h3
   have hy := hA y (by simp [AOp.args]) _ h4
   rw [he] at hx
   obtain ⟨loc, A, cap, hg, hv, hlc, hol, hnc, hq⟩ := hs_open hs hx hm
   obtain ⟨A2, c2, news, hv2, hsr, hnews, hyl⟩ := src_of hs hy hsrc
   have key : ∀ {val : Value} {w' : World}, (Builtin.append_ #[t, t] o.type #[.slice A len cap, .slice A2 ys.length c2]).run P w = .ok val w' → (execOp a.eval o).run P w = .ok (.value val) w' := by
    intro val w' hr
    rw [execOp, ho]
    simp [resolve, invoke, builtin, hv, hv2, hr]
   rcases hcase with ⟨hfit, rfl, rfl⟩ | ⟨hend, hbound, rfl, rfl⟩
   · -- in place, over what is there
    have hroom : len + ys.length ≤ cap := by omega
    rcases hq with ⟨rfl, rfl, rfl, rfl⟩ | ⟨b, of, tot, us, T, rfl, hA', htot, hh, ht, hle, hr⟩
    ·have hy0 : ys = [] := List.eq_nil_of_length_eq_zero (by omega)
     subst hy0
     have hl0 : len = 0 := by simp at hol; omega
     subst hl0
     have hw := hs.rearr (ver' := ver) (n' := 0) (loc' := none) (ob := .arr ver esz ([].take (off + 0) ++ [] ++ [].drop (off + 0 + 0))) hg (.inr ⟨rfl, rfl, rfl⟩) hs.keep (Nat.le_refl _) (fun _ _ _ => rfl) (fun b hb => by cases hb) (by
      simp only [ObOk]
      exact ⟨trivial, trivial, by simp, fun _ => by simp, fun b o tot hl => by cases hl⟩)
     refine done_w (μ := μ) (u := [(k, _)]) hw.1 (key (run_append_in (T := 0) (b := 0) (of := 0) (us := []) hu hi hisz hsr hroom (.inl rfl))) ?_ (View.le_refl _) hw.2
     exact rep_hs_new ⟨none, 0, rfl, by simp, by simpa using hol, by simp, rfl, rfl, rfl⟩
    ·have hof : (of + off * esz) + (len + ys.length) * esz ≤ us.length := by
      rw [ht]
      have : (off + (len + ys.length)) * esz ≤ xs.length * esz := Nat.mul_le_mul_right _ (by omega)
      rw [Nat.add_mul] at this
      omega
     have hrun := run_append_in (P := P) (ty := o.type) (c := c2) (A := A) (cap := cap) (b := b) (of := of + off * esz) (us := us) (T := T) hu hi hisz hsr hroom (by
      by_cases h0 : ys.length = 0
      ·exact .inl h0
      ·exact .inr ⟨hA'.resolve_left (by omega), hh, hof⟩)
     have hover := hr.over hnews hyl hsr.one (i := off + len) (by omega) (by
      rw [ht]
      have : (off + len + ys.length) * esz ≤ xs.length * esz := Nat.mul_le_mul_right _ hfit
      omega)
     have hsplen : (splice us (of + (off + len) * esz) news).length = us.length := by
      refine splice_length ?_
      rw [hsr.len, ht]
      have : (off + len + ys.length) * esz ≤ xs.length * esz := Nat.mul_le_mul_right _ hfit
      rw [Nat.add_mul] at this
      omega
     have hlen' : (xs.take (off + len) ++ ys ++ xs.drop (off + len + ys.length)).length = xs.length := by simp; omega
     generalize hw' : (if ys.length = 0 then w else w.setRow b (splice us (of + off * esz + len * esz) news).toArray) = w' at hrun
     have hblk : w'.heap[b]? = some (.cells (splice us (of + (off + len) * esz) news).toArray T (0, 0)) := by
      rw [← hw', Nat.add_mul, ← Nat.add_assoc]
      split
      ·rename_i h0
       have hn0 : news = [] := List.eq_nil_of_length_eq_zero (by rw [hsr.len, h0]; simp)
       rw [hn0, splice_nil]
       exact hh
      ·exact setRow_heap w b _ _ T _ hh
     have hother : ∀ b', b' ≠ b → w'.heap[b']? = w.heap[b']? := by
      intro b' hne
      rw [← hw']
      split
      ·rfl
      ·exact setRow_other w b b' _ hne
     have hsize : w'.heap.size = w.heap.size := by
      rw [← hw']
      split
      ·rfl
      ·exact setRow_size _ _ _
     have hkeep : Keep W0 Own w' := by
      rw [← hw']
      split
      ·exact hs.keep
      ·exact setRow_keep hs.keep (hs.priv k _ b hg rfl).2.1
     have hw := hs.rearr (ver' := ver) (n' := xs.length) (loc' := some (b, of, tot)) (w' := w') (ob := .arr ver esz (xs.take (off + len) ++ ys ++ xs.drop (off + len + ys.length))) hg (.inr ⟨rfl, rfl, rfl⟩) hkeep (by omega)
      (fun b' hne _ => hother b' (fun e => hne (by rw [e]; rfl))) (fun b' hb' => .inl hb') (by
       simp only [ObOk]
       refine ⟨trivial, trivial, hlen'.symm, (fun h => by cases h), fun b2 o2 tot2 h => ?_⟩
       cases h
       exact ⟨_, T, hblk, by rw [hsplen, ht], hle, hover⟩)
     refine done_w (μ := μ) (u := [(k, _)]) hw.1 (key hrun) ?_ (View.le_refl _) hw.2
     exact rep_hs_new ⟨A, cap, rfl, hroom, by omega, hnc, hA', htot⟩
   · -- behind what is there
    have hbound' : (len + ys.length) * bytes ≤ 70368744177664 := by
     have h6 : (((len + ys.length) * bytes : Nat) : Int) ≤ 70368744177664 := by rw [Int.natCast_mul]; exact hbound
     omega
    have h63 : len + ys.length ≤ 70368744177664 := Nat.le_trans (Nat.le_mul_of_pos_right _ (by omega)) hbound'
    by_cases hroom : len + ys.length ≤ cap
    ·rcases hq with ⟨rfl, rfl, rfl, rfl⟩ | ⟨b, of, tot, us, T, rfl, hA', htot, hh, ht, hle, hr⟩
     ·have hy0 : ys = [] := List.eq_nil_of_length_eq_zero (by omega)
      subst hy0
      have hl0 : len = 0 := by simp at hol; omega
      subst hl0
      have hw := hs.rearr (ver' := ver + 1) (n' := 0) (loc' := none) (ob := .arr (ver + 1) esz ([].drop off ++ [])) hg (.inl (Nat.lt_succ_self _)) hs.keep (Nat.le_refl _) (fun _ _ _ => rfl) (fun b hb => by cases hb) (by
       simp only [ObOk]
       exact ⟨trivial, trivial, by simp, fun _ => by simp, fun b o tot hl => by cases hl⟩)
      refine done_w (μ := μ) (u := [(k, _)]) hw.1 (key (run_append_in (T := 0) (b := 0) (of := 0) (us := []) hu hi hisz hsr hroom (.inl rfl))) ?_ (View.le_refl _) hw.2
      exact rep_hs_new ⟨none, 0, rfl, by simp, by simp, by simp, rfl, rfl, rfl⟩
     ·have hof : (of + off * esz) + (len + ys.length) * esz ≤ us.length := by
       rw [ht]
       have : (off + (len + ys.length)) * esz ≤ (off + cap) * esz := Nat.mul_le_mul_right _ (by omega)
       rw [Nat.add_mul] at this
       omega
      have hrun := run_append_in (P := P) (ty := o.type) (c := c2) (A := A) (cap := cap) (b := b) (of := of + off * esz) (us := us) (T := T) hu hi hisz hsr hroom (by
       by_cases h0 : ys.length = 0
       ·exact .inl h0
       ·exact .inr ⟨hA'.resolve_left (by omega), hh, hof⟩)
      have hdl : (xs.drop off).length = len := by simp; omega
      have hover := (hr.drop off).over hnews hyl hsr.one (i := len) (by omega) hof
      rw [List.take_of_length_le (Nat.le_of_eq hdl), List.drop_of_length_le (by omega : (xs.drop off).length ≤ len + ys.length), List.append_nil] at hover
      have hsplen : (splice us (of + off * esz + len * esz) news).length = us.length := by
       refine splice_length ?_
       rw [hsr.len]
       rw [Nat.add_mul] at hof
       omega
      generalize hw' : (if ys.length = 0 then w else w.setRow b (splice us (of + off * esz + len * esz) news).toArray) = w' at hrun
      have hblk : w'.heap[b]? = some (.cells (splice us (of + off * esz + len * esz) news).toArray T (0, 0)) := by
       rw [← hw']
       split
       ·rename_i h0
        have hn0 : news = [] := List.eq_nil_of_length_eq_zero (by rw [hsr.len, h0]; simp)
        rw [hn0, splice_nil]
        exact hh
       ·exact setRow_heap w b _ _ T _ hh
      have hother : ∀ b', b' ≠ b → w'.heap[b']? = w.heap[b']? := by
       intro b' hne
       rw [← hw']
       split
       ·rfl
       ·exact setRow_other w b b' _ hne
      have hsize : w'.heap.size = w.heap.size := by
       rw [← hw']
       split
       ·rfl
       ·exact setRow_size _ _ _
      have hkeep : Keep W0 Own w' := by
       rw [← hw']
       split
       ·exact hs.keep
       ·exact setRow_keep hs.keep (hs.priv k _ b hg rfl).2.1
      have hw := hs.rearr (ver' := ver + 1) (n' := len + ys.length) (loc' := some (b, of + off * esz, tot)) (w' := w') (ob := .arr (ver + 1) esz (xs.drop off ++ ys)) hg (.inl (Nat.lt_succ_self _)) hkeep (by omega)
       (fun b' hne _ => hother b' (fun e => hne (by rw [e]; rfl))) (fun b' hb' => .inl hb') (by
        simp only [ObOk]
        refine ⟨trivial, trivial, by rw [List.length_append, hdl], (fun h => by cases h), fun b2 o2 tot2 h => ?_⟩
        cases h
        exact ⟨_, T, hblk, by rw [hsplen, ht], by omega, hover⟩)
      refine done_w (μ := μ) (u := [(k, _)]) hw.1 (key hrun) ?_ (View.le_refl _) hw.2
      refine rep_hs_new ⟨A, cap, rfl, hroom, by omega, by omega, ?_, ?_⟩
      ·simpa using hA'
      ·rw [Nat.add_mul] at htot
       rw [Nat.zero_add]
       omega
    ·have hgrow : cap < len + ys.length := by omega
     have holds : ∃ olds : List Value, olds.length = len * esz ∧ RepPL V (xs.drop off).flatten olds ∧ (∀ y ∈ olds, y.oneCell' = true) ∧ ((A = none ∧ cap = 0) ∨ ∃ b : Addr, A = some b ∧ ∀ j y, olds[j]? = some y → w.cell? (b.add j) = some y) ∧ (∀ c ∈ xs.drop off, c.length = esz) := by
      rcases hq with ⟨rfl, rfl, rfl, rfl⟩ | ⟨b, of, tot, us, T, rfl, hA', htot, hh, ht, hle, hr⟩
      ·have hl0 : len = 0 := by simp at hol; omega
       subst hl0
       exact ⟨[], by simp, by simp [RepPL], (fun y hy => by cases hy), .inl ⟨rfl, rfl⟩, fun c hc => by simp at hc⟩
      ·obtain ⟨vs, p1, p2, p3⟩ := (hr.drop off).vals
       have hdl : (xs.drop off).length = len := by simp; omega
       refine ⟨vs, by rw [p2, hdl], p1, fun y hy => ?_, ?_, fun c hc => ?_⟩
       ·obtain ⟨j, hj⟩ := List.mem_iff_getElem?.1 hy
        exact (p3 j y hj).2
       ·by_cases hc0 : cap = 0
        ·have hl0 : len = 0 := by omega
         have hv0 : vs = [] := List.eq_nil_of_length_eq_zero (by rw [p2, hdl, hl0]; simp)
         subst hv0
         cases A with
         | none => exact .inl ⟨rfl, hc0⟩
         | some A => exact .inr ⟨A, rfl, fun j y hy => by simp at hy⟩
        ·refine .inr ⟨_, hA'.resolve_left hc0, fun j y hy => ?_⟩
         rw [add_lit]
         exact cell_of hh (p3 j y hy).1
       ·obtain ⟨j, hj⟩ := List.mem_iff_getElem?.1 hc
        exact ((hr.drop off).get hj).1
     obtain ⟨olds, ho1, ho2, ho3, ho4, ho5⟩ := holds
     obtain ⟨cap', us, T, g1, g2, ⟨r, g3⟩, hrun⟩ := run_append_out (P := P) (ty := o.type) (c := c2) hu hi hz hisz hzs hb hsr hgrow hlc (by omega) (by omega) ho1 ho4
     have hdl : (xs.drop off).length = len := by simp; omega
     have hflat : RepPL V (xs.drop off ++ ys).flatten (olds ++ news) := by
      rw [List.flatten_append]
      exact ho2.append hnews
     have hrr : RepR V (fun i => us[i]?) esz 0 (xs.drop off ++ ys) := by
      refine RepR.of_flat hflat (fun c hc => ?_) fun j y hy => ?_
      ·rcases List.mem_append.1 hc with hc | hc
       ·exact ho5 c hc
       ·exact hyl c hc
      ·rw [Nat.zero_add]
       refine ⟨?_, ?_⟩
       ·show us[j]? = some y
        rw [g3, List.getElem?_append_left (getElem?_lt hy)]
        exact hy
       ·rcases List.mem_append.1 (List.mem_of_getElem? hy) with hc | hc
        ·exact ho3 y hc
        ·exact hsr.one y hc
     have hw := hs.rearr (ver' := ver + 1) (n' := len + ys.length) (loc' := some (w.heap.size, 0, cap' * esz)) (w' := w.drew.alloc (.cells us.toArray T)) (ob := .arr (ver + 1) esz (xs.drop off ++ ys)) hg (.inl (Nat.lt_succ_self _))
      (hs.keep.of_le rfl rfl rfl (by simp) (fun b h1 _ => heap_alloc_old (w := w.drew) (Nat.lt_of_lt_of_le h1 hs.keep.size))) (by simp)
      (fun b' _ hlt => heap_alloc_old (w := w.drew) hlt) (fun b' hb' => .inr (by cases hb'; exact ⟨rfl, by simp⟩)) (by
       simp only [ObOk]
       refine ⟨trivial, trivial, by rw [List.length_append, hdl], (fun h => by cases h), fun b2 o2 tot2 h => ?_⟩
       cases h
       refine ⟨us, T, heap_alloc_new (w := w.drew), g2, ?_, hrr⟩
       rw [Nat.zero_add]
       exact Nat.mul_le_mul_right _ g1)
     refine done_w (μ := μ) (u := [(k, _)]) hw.1 (key hrun) ?_ (View.le_refl _) hw.2
     refine rep_hs_new ⟨_, cap', rfl, g1, by omega, by omega, .inr (by simp), by simp⟩
  ·cases h2
 ·cases hok
/-- An array whose cells may be addresses of objects: the same operations. -/
theorem snd_bslr {d key : Nat} {x : Arg} (hok : okOp' P o (.bslr d key x) = true) (h : opR P (.bslr d key x) ρ μ v u acc) (hA : ArgsOk V G ρ a (AOp.bslr d key x).args) (hs : Sat W0 V0 Own V G w μ) :
  Done W0 V0 Own P o a w V G μ v u := by
 obtain ⟨k, off, he, hm, rfl, rfl, rfl⟩ := h
 simp only [okOp'] at hok
 split at hok
 ·rename_i t n ps ho
  simp only [Bool.and_eq_true, decide_eq_true_eq] at hok
  obtain ⟨⟨⟨⟨h1, h2⟩, h3⟩, h4⟩, h5⟩ := hok
  have h2 := Nat.eq_of_beq_eq_true h2
  -- there is such an operand
  have hex : ∃ y, okA x y = true := by
   cases hps : ps.toList with
   | nil => rw [hps] at h3; simp [okRows] at h3
   | cons p r =>
    rw [hps] at h3
    simp only [okRows, Bool.and_eq_true] at h3
    exact ⟨_, h3.1.2⟩
  obtain ⟨y0, hy0⟩ := hex
  have hv0 := hA x (by simp [AOp.args]) y0 hy0
  rw [he] at hv0
  simp only [Rep] at hv0
  obtain ⟨b, hg, hval⟩ := hv0
  let V1 : View := fun b' o' => if b' = b ∧ o' = off then some (.int .i64 7) else none
  let ρ1 : Arg → AV := fun _ => .rp [.int .i64 7]
  have hpin : ∀ {z : Value}, RepP V1 (.rp [.int .i64 7]) z → z = .pointer (some ⟨b, off, none⟩) := by
   intro z hz
   simp only [RepP, RepC] at hz
   obtain ⟨b', o', rfl, ⟨v', hv', _⟩, _⟩ := hz
   have : b' = b ∧ o' = off := by
    by_cases hc : b' = b ∧ o' = off
    ·exact hc
    ·simp only [V1, if_neg hc] at hv'
     cases hv'
   rw [this.1, this.2]
  have hpin2 : RepP V1 (.rp [.int .i64 7]) (.pointer (some ⟨b, off, none⟩)) := by
   simp only [RepP, RepC]
   exact ⟨b, off, rfl, ⟨.int .i64 7, if_pos ⟨rfl, rfl⟩, rfl, rfl⟩, trivial⟩
  obtain ⟨us, T, hr, hu⟩ := run_bsl (V := V1) (ρ := ρ1) (a := a) (w := w) ho h1 h2 h3 h4 h5 (fun r hr y hy => by
   obtain rfl := List.mem_singleton.1 hr
   have hv := hA r (by simp [AOp.args]) y hy
   rw [he] at hv
   simp only [Rep] at hv
   obtain ⟨b', hg', hval'⟩ := hv
   rw [hg] at hg'
   cases hg'
   rw [hval']
   exact hpin2) (fun r hr => rfl)
  have hus : us = [.pointer (some ⟨b, off, none⟩)] := by
   simp only [List.map_cons, List.map_nil, List.flatten_cons, List.flatten_nil, List.append_nil] at hu
   have hu : RepPL V1 [.rp [.int .i64 7]] us := hu
   simp only [RepPL] at hu
   obtain ⟨z, r, rfl, hz, rfl⟩ := hu
   rw [hpin hz]
  subst hus
  have hn : n = 1 := h2
  subst hn
  have hle := Ctx.le_new (s := .arr 0 1 1 (some (w.heap.size, 0, 1))) (hs.fresh hm)
  have hne : k ≠ key := fun e => by
   obtain ⟨ob, e'⟩ := hs.dom k _ hg
   rw [e, hm] at e'
   cases e'
  have hs' := hs.newOb (s := .arr 0 1 1 (some (w.heap.size, 0, 1))) (ob := .rarr 0 [.ref k off]) (.cells #[.pointer (some ⟨b, off, none⟩)] T) hm rfl (by
   simp only [ObOk]
   refine ⟨trivial, trivial, rfl, (fun h => by cases h), fun b2 o2 tot2 h => ?_⟩
   cases h
   refine ⟨[.pointer (some ⟨b, off, none⟩)], T, heap_alloc_new, rfl, by omega, ?_, fun u hu => ?_⟩
   ·simp only [List.drop_zero, List.take_succ_cons, List.take_zero, RepL]
    refine ⟨_, _, rfl, ?_, rfl⟩
    simp only [Rep]
    exact ⟨b, by rw [if_neg hne]; exact hg, rfl⟩
   ·simp at hu
    subst hu
    rfl)
  refine done_w (μ := μ) (u := [(key, .rarr 0 [.ref k off])]) hs' hr ?_ (View.le_refl _) hle
  simp only [Rep]
  refine ⟨⟨_, _, rfl⟩, 0, 1, 1, _, if_pos trivial, Nat.le_refl _, fun _ => ⟨_, 1, rfl, by omega, by omega, by omega, ?_⟩⟩
  exact ⟨.inr (by simp), by simp⟩
 ·cases hok
theorem snd_ridx {d : Nat} {x y : Arg} (hok : okOp' P o (.ridx d x y) = true) (h : opR P (.ridx d x y) ρ μ v u acc) (hA : ArgsOk V G ρ a (AOp.ridx d x y).args) (hs : Sat W0 V0 Own V G w μ) :
  Done W0 V0 Own P o a w V G μ v u := by
 obtain ⟨rfl, ik, z, k, ver, off, len, cs, hz, h0, he, hlt, hm, rfl, rfl⟩ := h
 simp only [okOp'] at hok
 split at hok
 ·rename_i t px py ho
  simp only [Bool.and_eq_true] at hok
  obtain ⟨⟨h1, h2⟩, h3⟩ := hok
  obtain ⟨e, hu, hn, hi⟩ := okSl_spec h3
  have hx := hA _ (by simp [AOp.args]) _ h1
  have hy := hA _ (by simp [AOp.args]) _ h2
  rw [hz] at hy
  have hy := rep_int hy
  rw [he] at hx
  obtain ⟨loc, A, cap, hg, hv, hlc, hol, hnc, hq⟩ := hs_openR hs.obs hx hm
  rcases hq with ⟨rfl, rfl, rfl, rfl⟩ | ⟨b, of, tot, us, T, rfl, hA', htot, hh, ht, hle, hr, h1'⟩
  ·simp at hol; omega
  ·have hA2 : A = some ⟨b, of + off, none⟩ := hA'.resolve_left (by omega)
   subst hA2
   refine done_pure hs (val := .pointer (some ⟨b, of + off + z.toNat * 1, none⟩)) ?_ ?_
   ·rw [execOp, ho]
    refine run_v ?_
    have hb : 0 ≤ z ∧ z < (len : Int) := ⟨h0, hlt⟩
    simp only [Instr.indexAt, asIntOf, hy, hv, Sem.run_bind, Sem.run_pure, run_und hu, Result.andThen_ok, if_pos hb, run_size hi, hn, add_lit]
   ·simp only [Rep]
    refine ⟨⟨_, _, rfl⟩, _, _, _, _, hg, Nat.le_refl _, fun _ => ⟨b, of, tot, rfl, by omega, ?_⟩⟩
    rw [Nat.mul_one, Nat.mul_one, Nat.add_zero, Nat.add_assoc]
 ·cases hok
theorem snd_rload {d : Nat} {x : Arg} (hok : okOp' P o (.rload d x) = true) (h : opR P (.rload d x) ρ μ v u acc) (hA : ArgsOk V G ρ a (AOp.rload d x).args) (hs : Sat W0 V0 Own V G w μ) :
  Done W0 V0 Own P o a w V G μ v u := by
 obtain ⟨rfl, k, ver, i, cs, he, hm, hc, rfl⟩ := h
 simp only [okOp'] at hok
 split at hok
 ·rename_i t y ho
  simp only [Bool.and_eq_true, beq_iff_eq] at hok
  obtain ⟨⟨⟨⟨h1, hn⟩, hi⟩, hag⟩, hu⟩ := hok
  have hn := Nat.eq_of_beq_eq_true hn
  have hx := hA _ (by simp [AOp.args]) _ h1
  rw [he] at hx
  simp only [Rep] at hx
  obtain ⟨_, ver', esz', nn, loc, hg, hle, hq⟩ := hx
  obtain ⟨s, hgs, hob⟩ := hs.obs _ _ hm
  rw [hg] at hgs
  cases hgs
  obtain ⟨rfl, rfl, rfl, hnone, hloc⟩ := hob
  obtain ⟨b, o', tot, rfl, hin, hv⟩ := hq rfl
  obtain ⟨us, T, hh, ht, hle, hr, h1'⟩ := hloc b o' tot rfl
  obtain ⟨uu, hu1, hu2⟩ := hr.get hc
  have hrl : RepL V G [v] [uu] := by
   simp only [RepL]
   exact ⟨uu, [], rfl, hu2, rfl⟩
  have hget : us[o' + i]? = some uu := by
   rw [List.getElem?_take, if_pos hin, List.getElem?_drop] at hu1
   exact hu1
  obtain ⟨val, g1, g2⟩ := run_loadVar_m (b := b) (of := o' + i) hn hi hag hu hrl (fun j x hx => by
   cases j with
   | zero =>
    simp at hx
    subst hx
    exact cell_of hh hget
   | succ j => simp at hx) (v := v) rfl
  refine done_pure hs (val := val) ?_ g2
  rw [execOp, ho]
  refine run_v ?_
  rw [Nat.mul_one, Nat.add_zero] at hv
  simp only [Instr.loadAt, hv, Instr.sureAddr, Sem.run_bind, Sem.run_pure, Result.andThen_ok, g1]
 ·cases hok
theorem src_ofR {x : Value} {k2 ver2 off2 len2 : Nat} {cs2 : List AV} (hs : Sat W0 V0 Own V G w μ) (hx : Rep V G (.hs k2 ver2 off2 len2) x) (hm : μ k2 = some (.rarr ver2 cs2)) :
  ∃ A c news, x = .slice A len2 c ∧ Src w 1 len2 A news ∧ RepL V G ((cs2.drop off2).take len2) news := by
 obtain ⟨loc, A, cap, hg, hv, hlc, hol, hnc, hq⟩ := hs_openR hs.obs hx hm
 rcases hq with ⟨rfl, rfl, rfl, rfl⟩ | ⟨b, of, tot, us, T, rfl, hA, htot, hh, ht, hle, hr, h1'⟩
 ·have : len2 = 0 := by simp at hol; omega
  subst this
  exact ⟨none, 0, [], by simpa using hv, ⟨by simp, (fun y hy => by cases hy), .inl rfl⟩, by simp [RepL]⟩
 ·have hr2 := (hr.drop off2).take len2
  have hget : ∀ j y, ((((us.drop of).take cs2.length).drop off2).take len2)[j]? = some y → us[of + off2 + j]? = some y ∧ y.oneCell' = true := by
   intro j y hy
   have hmem : y ∈ (us.drop of).take cs2.length := List.mem_of_mem_drop (List.mem_of_mem_take (List.mem_of_getElem? hy))
   rw [List.getElem?_take] at hy
   by_cases hj : j < len2
   ·rw [if_pos hj, List.getElem?_drop, List.getElem?_take, if_pos (by omega), List.getElem?_drop] at hy
    exact ⟨by rw [Nat.add_assoc]; exact hy, h1' y hmem⟩
   ·rw [if_neg hj] at hy
    cases hy
  have hln : ((((us.drop of).take cs2.length).drop off2).take len2).length = len2 := by simp; omega
  refine ⟨A, cap, _, hv, ⟨by rw [hln, Nat.mul_one], fun y hy => ?_, ?_⟩, hr2⟩
  ·obtain ⟨j, hj⟩ := List.mem_iff_getElem?.1 hy
   exact (hget j y hj).2
  ·by_cases h0 : len2 = 0
   ·exact .inl h0
   ·exact .inr ⟨b, of + off2, hA.resolve_left (by omega), fun j y hy => cell_of hh (hget j y hy).1⟩
theorem snd_rapp {d bytes : Nat} {x y : Arg} (hok : okOp' P o (.rapp d x y bytes) = true) (h : opR P (.rapp d x y bytes) ρ μ v u acc) (hA : ArgsOk V G ρ a (AOp.rapp d x y bytes).args) (hs : Sat W0 V0 Own V G w μ) :
  Done W0 V0 Own P o a w V G μ v u := by
 obtain ⟨k, ver, off, len, cs, k2, ver2, off2, len2, cs2, he, hm, he2, hm2, hfit2, hend, hbound, rfl, rfl, rfl⟩ := h
 simp only [okOp'] at hok
 split at hok
 ·rename_i as ts ho
  simp only [Bool.and_eq_true] at hok
  obtain ⟨h1, h2⟩ := hok
  obtain ⟨y1, y2, hy, h3, h4⟩ := okAs_two h1
  obtain rfl : as = #[y1, y2] := by rw [← Array.toList_inj, hy]
  split at h2
  ·rename_i t t' hts
   simp only [Bool.and_eq_true] at h2
   obtain ⟨⟨hby, hsl⟩, htt⟩ := h2
   obtain rfl := Nat.eq_of_beq_eq_true htt
   obtain rfl : ts = #[t, t] := by rw [← Array.toList_inj, hts]
   obtain ⟨e, hu, hn, hi'⟩ := okSl_spec hsl
   obtain ⟨e', i, z, hu', hi, hb, hz, hzs, hbpos⟩ := okBytes_spec hby
   rw [hu] at hu'
   cases hu'
   have hisz : i.size = 1 := by rw [← hn]; simp [Program.cellsOf, hi]
   have hx := hA x (by simp [AOp.args]) _ h3
   have hy := hA y (by simp [AOp.args]) _ h4
   rw [he] at hx
   rw [he2] at hy
   obtain ⟨loc, A, cap, hg, hv, hlc, hol, hnc, hq⟩ := hs_openR hs.obs hx hm
   obtain ⟨A2, c2, news, hv2, hsr, hnews⟩ := src_ofR hs hy hm2
   have hnl : news.length = len2 := by have := hsr.len; rwa [Nat.mul_one] at this
   have key : ∀ {val : Value} {w' : World}, (Builtin.append_ #[t, t] o.type #[.slice A len cap, .slice A2 len2 c2]).run P w = .ok val w' → (execOp a.eval o).run P w = .ok (.value val) w' := by
    intro val w' hr
    rw [execOp, ho]
    simp [resolve, invoke, builtin, hv, hv2, hr]
   have hbound' : (len + len2) * bytes ≤ 70368744177664 := by
    have h6 : (((len + len2) * bytes : Nat) : Int) ≤ 70368744177664 := by rw [Int.natCast_mul]; exact hbound
    omega
   have h63 : len + len2 ≤ 70368744177664 := Nat.le_trans (Nat.le_mul_of_pos_right _ (by omega)) hbound'
   have hdl : (cs.drop off).length = len := by simp; omega
   have htl : ((cs2.drop off2).take len2).length = len2 := by simp; omega
   by_cases hroom : len + len2 ≤ cap
   ·rcases hq with ⟨rfl, rfl, rfl, rfl⟩ | ⟨b, of, tot, us, T, rfl, hA', htot, hh, ht, hle, hr, h1'⟩
    ·have hl2 : len2 = 0 := by omega
     subst hl2
     have hl0 : len = 0 := by omega
     subst hl0
     have hw := hs.rearr (ver' := ver + 1) (n' := 0) (loc' := none) (ob := .rarr (ver + 1) ([].drop off ++ (cs2.drop off2).take 0)) hg (.inl (Nat.lt_succ_self _)) hs.keep (Nat.le_refl _) (fun _ _ _ => rfl) (fun b hb => by cases hb) (by
      simp only [ObOk]
      exact ⟨trivial, trivial, by simp, fun _ => by simp, fun b o tot hl => by cases hl⟩)
     refine done_w (μ := μ) (u := [(k, _)]) hw.1 (key (run_append_in (T := 0) (b := 0) (of := 0) (us := []) hu hi hisz hsr hroom (.inl rfl))) ?_ (View.le_refl _) hw.2
     exact rep_hs_new ⟨none, 0, rfl, by simp, by simp, by simp, rfl, rfl, rfl⟩
    ·have hof : (of + off) + (len + len2) * 1 ≤ us.length := by omega
     have hrun := run_append_in (P := P) (ty := o.type) (c := c2) (A := A) (cap := cap) (b := b) (of := of + off) (us := us) (T := T) hu hi hisz hsr hroom (by
      by_cases h0 : len2 = 0
      ·exact .inl h0
      ·exact .inr ⟨hA'.resolve_left (by omega), hh, hof⟩)
     rw [Nat.mul_one] at hrun
     have hsplen : (splice us (of + off + len) news).length = us.length := splice_length (by omega)
     generalize hw' : (if len2 = 0 then w else w.setRow b (splice us (of + off + len) news).toArray) = w' at hrun
     have hblk : w'.heap[b]? = some (.cells (splice us (of + off + len) news).toArray T (0, 0)) := by
      rw [← hw']
      split
      ·rename_i h0
       have hn0 : news = [] := List.eq_nil_of_length_eq_zero (by omega)
       rw [hn0, splice_nil]
       exact hh
      ·exact setRow_heap w b _ _ T _ hh
     have hother : ∀ b', b' ≠ b → w'.heap[b']? = w.heap[b']? := by
      intro b' hne
      rw [← hw']
      split
      ·rfl
      ·exact setRow_other w b b' _ hne
     have hsize : w'.heap.size = w.heap.size := by
      rw [← hw']
      split
      ·rfl
      ·exact setRow_size _ _ _
     have hkeep : Keep W0 Own w' := by
      rw [← hw']
      split
      ·exact hs.keep
      ·exact setRow_keep hs.keep (hs.priv k _ b hg rfl).2.1
     have hpart : ((splice us (of + off + len) news).drop (of + off)).take (len + len2) = (((us.drop of).take cs.length).drop off) ++ news := by
      apply List.ext_getElem?
      intro j
      have hl1 : ((us.drop of).take cs.length).length = cs.length := by simp; omega
      rw [List.getElem?_take]
      by_cases hj : j < len + len2
      ·rw [if_pos hj, List.getElem?_drop]
       unfold splice
       by_cases hj2 : j < len
       ·rw [List.getElem?_append_left (by simp; omega), List.getElem?_append_left (by simp; omega), List.getElem?_append_left (by simp; omega), List.getElem?_take, if_pos (by omega), List.getElem?_drop, List.getElem?_take, if_pos (by omega), List.getElem?_drop]
        congr 1
        omega
       ·rw [List.getElem?_append_left (by simp; omega), List.getElem?_append_right (by simp; omega), List.getElem?_append_right (by simp; omega)]
        congr 1
        simp
        omega
      ·rw [if_neg hj, List.getElem?_eq_none (by simp; omega)]
     have hle1 : G.le (fun j => if j = k then some (.arr (ver + 1) 1 (len + len2) (some (b, of + off, tot))) else G j) := Ctx.le_upd hg (by
      simp only [Sh.le]
      exact ⟨trivial, by omega, fun e => by omega⟩)
     have hw := hs.rearr (ver' := ver + 1) (n' := len + len2) (loc' := some (b, of + off, tot)) (w' := w') (ob := .rarr (ver + 1) (cs.drop off ++ (cs2.drop off2).take len2)) hg (.inl (Nat.lt_succ_self _)) hkeep (by omega)
      (fun b' hne _ => hother b' (fun e => hne (by rw [e]; rfl))) (fun b' hb' => .inl hb') (by
       simp only [ObOk]
       refine ⟨trivial, trivial, by rw [List.length_append, hdl, htl], (fun h => by cases h), fun b2 o2 tot2 h => ?_⟩
       cases h
       refine ⟨_, T, hblk, by rw [hsplen, ht], by omega, ?_, fun u hu => ?_⟩
       ·rw [hpart]
        exact ((hr.drop off).append hnews).mono (View.le_refl _) hle1
       ·rw [hpart] at hu
        rcases List.mem_append.1 hu with hu | hu
        ·exact h1' u (List.mem_of_mem_drop hu)
        ·exact hsr.one u hu)
     refine done_w (μ := μ) (u := [(k, _)]) hw.1 (key hrun) ?_ (View.le_refl _) hw.2
     refine rep_hs_new ⟨A, cap, rfl, hroom, by omega, by omega, ?_, ?_⟩
     ·simpa using hA'
     ·omega
   ·have hgrow : cap < len + len2 := by omega
    have holds : ∃ olds : List Value, olds.length = len ∧ RepL V G (cs.drop off) olds ∧ (∀ y ∈ olds, y.oneCell' = true) ∧ ((A = none ∧ cap = 0) ∨ ∃ b : Addr, A = some b ∧ ∀ j y, olds[j]? = some y → w.cell? (b.add j) = some y) := by
     rcases hq with ⟨rfl, rfl, rfl, rfl⟩ | ⟨b, of, tot, us, T, rfl, hA', htot, hh, ht, hle, hr, h1'⟩
     ·have hl0 : len = 0 := by simp at hol; omega
      subst hl0
      exact ⟨[], rfl, by simp [RepL], (fun y hy => by cases hy), .inl ⟨rfl, rfl⟩⟩
     ·have hl1 : ((us.drop of).take cs.length).length = cs.length := by simp; omega
      refine ⟨((us.drop of).take cs.length).drop off, by simp; omega, hr.drop off, fun y hy => h1' y (List.mem_of_mem_drop hy), ?_⟩
      by_cases hc0 : cap = 0
      ·have hl0 : len = 0 := by omega
       cases A with
       | none => exact .inl ⟨rfl, hc0⟩
       | some A => exact .inr ⟨A, rfl, fun j y hy => by
         have := getElem?_lt hy
         rw [List.length_drop, hl1] at this
         omega⟩
      ·refine .inr ⟨_, hA'.resolve_left hc0, fun j y hy => ?_⟩
       rw [add_lit]
       refine cell_of hh ?_
       have hj := getElem?_lt hy
       rw [List.length_drop, hl1] at hj
       rw [List.getElem?_drop, List.getElem?_take, if_pos (by omega), List.getElem?_drop] at hy
       rw [Nat.add_assoc]
       exact hy
    obtain ⟨olds, ho1, ho2, ho3, ho4⟩ := holds
    obtain ⟨cap', us, T, g1, g2, ⟨r, g3⟩, hrun⟩ := run_append_out (P := P) (ty := o.type) (c := c2) hu hi hz hisz hzs hb hsr hgrow hlc (by omega) (by omega) (by rw [ho1, Nat.mul_one]) ho4
    have htk : (us.drop 0).take (len + len2) = olds ++ news := by
     rw [List.drop_zero, g3, List.take_append_of_le_length (by simp; omega), List.take_of_length_le (by simp; omega)]
    have hle1 : G.le (fun j => if j = k then some (.arr (ver + 1) 1 (len + len2) (some (w.heap.size, 0, cap' * 1))) else G j) := Ctx.le_upd hg (by
     simp only [Sh.le]
     exact ⟨trivial, by omega, fun e => by omega⟩)
    have hw := hs.rearr (ver' := ver + 1) (n' := len + len2) (loc' := some (w.heap.size, 0, cap' * 1)) (w' := w.drew.alloc (.cells us.toArray T)) (ob := .rarr (ver + 1) (cs.drop off ++ (cs2.drop off2).take len2)) hg (.inl (Nat.lt_succ_self _))
     (hs.keep.of_le rfl rfl rfl (by simp) (fun b h1 _ => heap_alloc_old (w := w.drew) (Nat.lt_of_lt_of_le h1 hs.keep.size))) (by simp)
     (fun b' _ hlt => heap_alloc_old (w := w.drew) hlt) (fun b' hb' => .inr (by cases hb'; exact ⟨rfl, by simp⟩)) (by
      simp only [ObOk]
      refine ⟨trivial, trivial, by rw [List.length_append, hdl, htl], (fun h => by cases h), fun b2 o2 tot2 h => ?_⟩
      cases h
      refine ⟨us, T, heap_alloc_new (w := w.drew), g2, by omega, ?_, fun u hu => ?_⟩
      ·rw [htk]
       exact (ho2.append hnews).mono (View.le_refl _) hle1
      ·rw [htk] at hu
       rcases List.mem_append.1 hu with hu | hu
       ·exact ho3 u hu
       ·exact hsr.one u hu)
    refine done_w (μ := μ) (u := [(k, _)]) hw.1 (key hrun) ?_ (View.le_refl _) hw.2
    refine rep_hs_new ⟨_, cap', rfl, g1, by omega, by omega, .inr (by simp), by simp⟩
  ·cases h2
 ·cases hok
end
/- The abstract machine's operations are the program's: clear, make, calls; and all of them together. -/
section
variable {W0 : World} {V0 : View} {Own : Fra} {P : Program} {o : Oper} {a : Act} {w : World} {V : View} {G : Ctx} {μ : Nat → Option Ob} {ρ : Arg → AV} {v : AV} {u : List (Nat × Ob)} {acc : Acc}
theorem flatten_rep {zs : List AV} {us : List Value} (h : RepPL V zs us) (n : Nat) : RepPL V (List.replicate n zs).flatten (List.replicate n us).flatten := by
 induction n with
 | zero => simp [RepPL]
 | succ n ih =>
  rw [List.replicate_succ, List.replicate_succ, List.flatten_cons, List.flatten_cons]
  exact h.append ih
theorem get_flatten_replicate {us : List Value} : ∀ (n i : Nat), i < n * us.length → (List.replicate n us).flatten[i]? = us[i % us.length]?
 | 0, i, h => by simp at h
 | n + 1, i, h => by
  rw [List.replicate_succ, List.flatten_cons]
  rcases Nat.lt_or_ge i us.length with h1 | h1
  ·rw [List.getElem?_append_left h1, Nat.mod_eq_of_lt h1]
  ·rw [List.getElem?_append_right h1, get_flatten_replicate n (i - us.length) (by rw [Nat.add_mul] at h; omega)]
   rw [Nat.mod_eq_sub_mod h1]
theorem zeros_eq (z : Array Value) (n : Nat) : (Array.range (n * z.size)).map (z[· % z.size]!) = (List.replicate n z.toList).flatten.toArray := by
 rw [← Array.toList_inj]
 apply List.ext_getElem?
 intro i
 have hlen : (List.replicate n z.toList).flatten.length = n * z.size := by simp
 rcases Nat.lt_or_ge i (n * z.size) with h | h
 ·have hz : 0 < z.size := by
   rcases Nat.eq_zero_or_pos z.size with h0 | h0
   ·rw [h0] at h; simp at h
   ·exact h0
  rw [show (List.replicate n z.toList).flatten.toArray.toList = (List.replicate n z.toList).flatten from rfl, get_flatten_replicate n i (by simpa using h)]
  have hm := Nat.mod_lt i hz
  simp [h, hm]
 ·rw [List.getElem?_eq_none (by simpa using h), List.getElem?_eq_none (by simpa using h)]
theorem snd_clear {x : Arg} {zero : List AV} (hd : o.dst = none) (hok : okOp' P o (.clear x zero) = true) (h : opR P (.clear x zero) ρ μ v u acc) (hA : ArgsOk V G ρ a (AOp.clear x zero).args) (hs : Sat W0 V0 Own V G w μ) :
  Done W0 V0 Own P o a w V G μ v u := by
 obtain ⟨rfl, k, ver, off, len, esz, xs, he, hm, hze, hzp, hzo, rfl, rfl⟩ := h
 simp only [okOp'] at hok
 split at hok
 ·rename_i as ts ho
  simp only [Bool.and_eq_true] at hok
  obtain ⟨h1, h2⟩ := hok
  obtain ⟨y1, hy, h3⟩ := okAs_one h1
  obtain rfl : as = #[y1] := by rw [← Array.toList_inj, hy]
  split at h2
  ·rename_i t hts
   obtain rfl : ts = #[t] := by rw [← Array.toList_inj, hts]
   split at h2
   ·rename_i e hu
    obtain ⟨i, z, hi, hz, hc, hl, hone⟩ := okZero_spec h2
    have hx := hA x (by simp [AOp.args]) _ h3
    rw [he] at hx
    obtain ⟨loc, A, cap, hg, hv, hlc, hol, hnc, hq⟩ := hs_open hs hx hm
    have hrz := okCL_rep V hc
    have hzl : z.cells.size = esz := by
     have := hrz.length
     rw [Array.length_toList] at this
     omega
    have hdst : ∀ (next : Act → World → Prop) (val : Value) (w' : World), next a w' → next (a.put o.dst val) w' := fun next val w' h => by rw [hd]; exact h
    have fin : ∀ (w' : World) (G' : Ctx), (Builtin.clear_ #[t] o.type #[.slice A len cap]).run P w = .ok (.tuple #[]) w' → Sat W0 V0 Own V G' w' (updO μ [(k, .arr ver esz (xs.take off ++ List.replicate len zero ++ xs.drop (off + len)))]) → G.le G' →
      Done W0 V0 Own P o a w V G μ .dead [(k, .arr ver esz (xs.take off ++ List.replicate len zero ++ xs.drop (off + len)))] := by
     intro w' G' hr hs' hle
     refine done_w hs' (val := .tuple #[]) ?_ (by simp only [Rep]) (View.le_refl _) hle
     rw [execOp, ho]
     simp [resolve, invoke, builtin, hv, hr]
    by_cases hl0 : len = 0
    ·subst hl0
     have hsame : xs.take off ++ List.replicate 0 zero ++ xs.drop (off + 0) = xs := by simp
     have hupd : updO μ [(k, .arr ver esz (xs.take off ++ List.replicate 0 zero ++ xs.drop (off + 0)))] = μ := by
      funext j
      simp only [updO, hsame]
      by_cases hj : j = k
      ·rw [if_pos hj, hj, hm]
      ·rw [if_neg hj]
     refine fin w G ?_ (by rw [hupd]; exact hs) (Ctx.le_refl _)
     cases A with
     | none => simp [Builtin.clear_, run_und hu]
     | some A => simp [Builtin.clear_, run_und hu]
    ·rcases hq with ⟨rfl, rfl, rfl, rfl⟩ | ⟨b, of, tot, us, T, rfl, hA', htot, hh, ht, hle, hr⟩
     ·omega
     ·have hA' := hA'.resolve_left (by omega)
      subst hA'
      have hmul : (off + len) * esz ≤ xs.length * esz := Nat.mul_le_mul_right _ hol
      rw [Nat.add_mul] at hmul
      have hnews : RepPL V (List.replicate len zero).flatten (List.replicate len z.cells.toList).flatten := flatten_rep hrz len
      have hnl : (List.replicate len z.cells.toList).flatten.length = len * esz := by simp [hzl]
      have h1n : ∀ y ∈ (List.replicate len z.cells.toList).flatten, y.oneCell' = true := by
       intro y hy
       obtain ⟨l, hl, hy⟩ := List.mem_flatten.1 hy
       rw [List.eq_of_mem_replicate hl] at hy
       exact oneAL_get hrz hone y hy
      have hover := hr.over hnews (fun c hc => by rw [List.eq_of_mem_replicate hc]; exact hze) h1n (i := off) (by omega) (by rw [List.length_replicate, Nat.add_mul]; omega)
      rw [List.length_replicate] at hover
      have hst := run_storeCells_at (P := P) b (of + off * esz) T (List.replicate len z.cells.toList).flatten 0 us.toArray w hh (by rw [hnl]; simp; omega) h1n
      simp only [Nat.add_zero] at hst
      have hw := hs.rearr (ver' := ver) (n' := xs.length) (loc' := some (b, of, tot)) (w' := w.setRow b (splice us (of + off * esz) (List.replicate len z.cells.toList).flatten).toArray) (ob := .arr ver esz (xs.take off ++ List.replicate len zero ++ xs.drop (off + len))) hg (.inr ⟨rfl, rfl, rfl⟩)
       (setRow_keep hs.keep (hs.priv k _ b hg rfl).2.1) (by rw [setRow_size]; exact Nat.le_refl _) (fun b' hne _ => setRow_other w b b' _ (fun e => hne (by rw [e]; rfl))) (fun b' hb' => .inl hb') (by
        simp only [ObOk]
        refine ⟨trivial, trivial, by simp; omega, (fun h => by cases h), fun b2 o2 tot2 h => ?_⟩
        cases h
        exact ⟨_, T, setRow_heap w b _ _ T _ hh, by rw [splice_length (by rw [hnl]; omega), ht], hle, hover⟩)
      refine fin _ _ ?_ hw.1 hw.2
      simp only [splice]
      obtain ⟨n, rfl⟩ : ∃ n, len = n + 1 := ⟨len - 1, by omega⟩
      simp only [Builtin.clear_]
      simp [run_und hu, zeroValue, typeInfo, hi, hz, Builtin.zeroCells, zeros_eq, hst]
   ·cases h2
  ·cases h2
 ·cases hok
theorem wrap_in {n : Int} (h1 : -9223372036854775808 ≤ n) (h2 : n ≤ 9223372036854775807) : IntKind.i64.wrap n = n := by
 simp only [IntKind.wrap, IntKind.bits, IntKind.signed]
 simp
 omega
theorem snd_make {d key esz bytes : Nat} {zero : List AV} {x y : Arg} (hok : okOp' P o (.make d key esz bytes zero x y) = true) (h : opR P (.make d key esz bytes zero x y) ρ μ v u acc) (hA : ArgsOk V G ρ a (AOp.make d key esz bytes zero x y).args) (hs : Sat W0 V0 Own V G w μ) :
  Done W0 V0 Own P o a w V G μ v u := by
 obtain ⟨nk, ck, z, zc, he, he', rfl, h0, hb, hze, hm, rfl, rfl, rfl⟩ := h
 simp only [okOp'] at hok
 split at hok
 ·rename_i t px py ho
  simp only [Bool.and_eq_true] at hok
  obtain ⟨⟨⟨⟨h1, h2⟩, h3⟩, h4⟩, h5⟩ := hok
  obtain ⟨e, hu, hn, hi'⟩ := okSl_spec h3
  obtain ⟨e', i, zv, hu', hi, hby, hz, hzs, hbpos⟩ := okBytes_spec h4
  rw [hu] at hu'
  cases hu'
  rw [hu] at h5
  obtain ⟨i2, z2, hi2, hz2, hc, hl, hone⟩ := okZero_spec h5
  rw [hi] at hi2
  cases hi2
  rw [hz] at hz2
  cases hz2
  have hx := hA x (by simp [AOp.args]) _ h1
  have hy := hA y (by simp [AOp.args]) _ h2
  rw [he] at hx
  rw [he'] at hy
  have hx := rep_int hx
  have hy := rep_int hy
  have hisz : i.size = esz := by rw [← hn]; simp [Program.cellsOf, hi]
  have hbz : z ≤ 140737488355328 := by
   have h6 : z * 1 ≤ z * (bytes : Int) := Int.mul_le_mul_of_nonneg_left (by omega) h0
   omega
  have hw : IntKind.i64.wrap z = z := wrap_in (by omega) (by omega)
  have hrz := okCL_rep V hc
  have hrun : (execOp a.eval o).run P w = .ok (.value (.slice (some ⟨w.heap.size, 0, none⟩) z.toNat z.toNat)) (w.alloc (.cells (List.replicate z.toNat zv.cells.toList).flatten.toArray e)) := by
   rw [execOp, ho]
   refine run_v ?_
   have hneg : ¬ z < 0 := by omega
   have hnl : ¬ ((bytes : Int) * z > 2 ^ 48) := by
    rw [Int.mul_comm]
    omega
   simp only [Instr.makeSlice, Sem.run_bind, run_und hu, Result.andThen_ok, hx, hy, asInt, asIntOf, Sem.run_pure, typeInfo, run_program, hi, hw, hby]
   simp only [hneg, hnl, decide_false, Bool.or_self, Bool.false_eq_true, if_false, show ¬ z > z by omega, Sem.run_pure, Result.andThen_ok, run_askRoom, Sem.run_bind, run_size hi', hn]
   have hz0 : (if z.toNat * esz = 0 then Pure.pure #[] else (do Pure.pure (← zeroValue e).cells) : Sem (Array Value)).run P w = .ok (if z.toNat * esz = 0 then #[] else zv.cells) w := by
    split
    ·rfl
    ·simp [zeroValue, typeInfo, hi, hz]
   by_cases hzz : z.toNat * esz = 0
   ·simp only [hzz, if_true, Sem.run_pure, Result.andThen_ok]
    have : (List.replicate z.toNat zv.cells.toList).flatten = [] := by
     apply List.eq_nil_of_length_eq_zero
     simp [hzs, hisz, hzz]
    rw [this]
    have hr0 : Array.range 0 = #[] := Array.eq_empty_of_size_eq_zero (by simp)
    simp [newRow, hr0]
   ·simp only [hzz, if_false, Sem.run_bind, zeroValue, typeInfo, run_program, Result.andThen_ok, hi, Sem.run_pure, hz]
    rw [show z.toNat * esz = z.toNat * zv.cells.size by rw [hzs, hisz], zeros_eq]
    simp [newRow]
  have hone' : ∀ y ∈ (List.replicate z.toNat zv.cells.toList).flatten, y.oneCell' = true := by
   intro y hy
   obtain ⟨l, hl, hy⟩ := List.mem_flatten.1 hy
   rw [List.eq_of_mem_replicate hl] at hy
   exact oneAL_get hrz hone y hy
  have hlen : (List.replicate z.toNat zv.cells.toList).flatten.length = z.toNat * esz := by simp [hzs, hisz]
  have hle := Ctx.le_new (s := .arr 0 esz z.toNat (some (w.heap.size, 0, z.toNat * esz))) (hs.fresh hm)
  have hs' := hs.newOb (s := .arr 0 esz z.toNat (some (w.heap.size, 0, z.toNat * esz))) (ob := .arr 0 esz (List.replicate z.toNat zero)) (.cells (List.replicate z.toNat zv.cells.toList).flatten.toArray e) hm rfl (by
   simp only [ObOk]
   refine ⟨trivial, trivial, by simp, (fun h => by cases h), fun b o tot h => ?_⟩
   cases h
   refine ⟨_, e, heap_alloc_new, hlen, by omega, RepR.of_flat (flatten_rep hrz _) (fun c hc => by rw [List.eq_of_mem_replicate hc]; exact hze) fun j y hy => ?_⟩
   rw [Nat.zero_add]
   exact ⟨hy, hone' y (List.mem_of_getElem? hy)⟩)
  refine done_w (μ := μ) (u := [(key, .arr 0 esz (List.replicate z.toNat zero))]) hs' hrun ?_ (View.le_refl _) hle
  exact rep_hs_new ⟨_, z.toNat, rfl, Nat.le_refl _, by omega, by omega, .inr (by simp), by simp⟩
 ·cases hok
theorem updO_append {u v : List (Nat × Ob)} : ∀ {μ : Nat → Option Ob}, updO μ (u ++ v) = updO (updO μ u) v := by
 induction u with
 | nil => intro μ; rfl
 | cons p u ih => intro μ; obtain ⟨k, o⟩ := p; simp only [List.cons_append, updO]; exact ih
theorem updO_ne {u : List (Nat × Ob)} : ∀ {μ : Nat → Option Ob} {k : Nat}, (∀ p ∈ u, p.1 ≠ k) → updO μ u k = μ k := by
 induction u with
 | nil => intro μ k _; rfl
 | cons p u ih =>
  intro μ k h
  obtain ⟨j, o⟩ := p
  simp only [updO]
  rw [ih fun q hq => h q (List.mem_cons_of_mem _ hq), if_neg (Ne.symm (h (j, o) List.mem_cons_self))]
theorem rowOs_key {base stride esz : Nat} : ∀ {n i : Nat}, ∀ p ∈ rowOs base stride esz i n, ∃ j, i ≤ j ∧ j < i + n ∧ p.1 = base + stride * j
 | 0, i, p, hp => by simp [rowOs] at hp
 | n + 1, i, p, hp => by
  simp only [rowOs, List.mem_cons] at hp
  rcases hp with rfl | hp
  ·exact ⟨i, Nat.le_refl _, by omega, rfl⟩
  ·obtain ⟨j, h1, h2, h3⟩ := rowOs_key p hp
   exact ⟨j, by omega, by omega, h3⟩
theorem mul_inj {s i j : Nat} (hs : 1 ≤ s) (h : s * i = s * j) : i = j := Nat.eq_of_mul_eq_mul_left hs h
theorem sat_rows {base stride esz : Nat} (hst : 1 ≤ stride) : ∀ {n i : Nat} {G : Ctx} {μ : Nat → Option Ob}, Sat W0 V0 Own V G w μ → (∀ j, i ≤ j → j < i + n → μ (base + stride * j) = none) →
  ∃ G', G.le G' ∧ Sat W0 V0 Own V G' w (updO μ (rowOs base stride esz i n)) ∧ RepL V G' (rowCs base stride i n) (List.replicate n (.slice none 0 0))
 | 0, i, G, μ, hs, h => ⟨G, Ctx.le_refl _, hs, by simp [rowCs, RepL]⟩
 | n + 1, i, G, μ, hs, h => by
  have hm := h i (Nat.le_refl _) (by omega)
  have hs1 := hs.newNone (s := .arr 0 esz 0 none) (ob := .arr 0 esz []) hm rfl (by
   simp only [ObOk]
   exact ⟨trivial, trivial, rfl, fun _ => trivial, fun b o tot h => by cases h⟩)
  have hle1 := Ctx.le_new (s := .arr 0 esz 0 none) (hs.fresh hm)
  obtain ⟨G', h1, h2, h3⟩ := sat_rows hst (n := n) (i := i + 1) hs1 (fun j h4 h5 => by
   rw [if_neg (fun e => by have := mul_inj hst (Nat.add_left_cancel e); omega)]
   exact h j (by omega) (by omega))
  refine ⟨G', Ctx.le_trans hle1 h1, h2, ?_⟩
  simp only [rowCs, List.replicate_succ, RepL]
  refine ⟨_, _, rfl, Rep.mono (View.le_refl _) h1 ?_, h3⟩
  simp only [Rep]
  exact ⟨⟨_, _, rfl⟩, _, _, _, _, if_pos trivial, Nat.le_refl _, fun _ => hsOk_none _⟩
theorem rep_replicate {zero : AV} {x : Value} (h : RepP V zero x) : ∀ n, RepL V G (List.replicate n zero) (List.replicate n x)
 | 0 => by simp [RepL]
 | n + 1 => by
  simp only [List.replicate_succ, RepL]
  exact ⟨_, _, rfl, h.rep G, rep_replicate h n⟩
theorem snd_makeb {d key bytes : Nat} {rows : Option (Nat × Nat × Nat)} {zero : AV} {x y : Arg} (hok : okOp' P o (.makeb d key bytes rows zero x y) = true) (h : opR P (.makeb d key bytes rows zero x y) ρ μ v u acc) (hA : ArgsOk V G ρ a (AOp.makeb d key bytes rows zero x y).args) (hs : Sat W0 V0 Own V G w μ) :
  Done W0 V0 Own P o a w V G μ v u := by
 obtain ⟨nk, ck, z, zc, he, he', rfl, h0, hb, hm, hrw, rfl, rfl, rfl⟩ := h
 simp only [okOp'] at hok
 split at hok
 ·rename_i t px py ho
  simp only [Bool.and_eq_true] at hok
  obtain ⟨⟨⟨⟨h1, h2⟩, h3⟩, h4⟩, h5⟩ := hok
  obtain ⟨e, hu, hn, hi'⟩ := okSl_spec h3
  obtain ⟨e', i, zv, hu', hi, hby, hz, hzs, hbpos⟩ := okBytes_spec h4
  rw [hu] at hu'
  cases hu'
  rw [hu] at h5
  obtain ⟨i2, z2, hi2, hz2, hc, hl, hone⟩ := okZero_spec h5
  rw [hi] at hi2
  cases hi2
  rw [hz] at hz2
  cases hz2
  have hx := hA x (by simp [AOp.args]) _ h1
  have hy := hA y (by simp [AOp.args]) _ h2
  rw [he] at hx
  rw [he'] at hy
  have hx := rep_int hx
  have hy := rep_int hy
  have hisz : i.size = 1 := by rw [← hn]; simp [Program.cellsOf, hi]
  have hbz : z ≤ 140737488355328 := by
   have h6 : z * 1 ≤ z * (bytes : Int) := Int.mul_le_mul_of_nonneg_left (by omega) h0
   omega
  have hw : IntKind.i64.wrap z = z := wrap_in (by omega) (by omega)
  obtain ⟨q, hq⟩ : ∃ q, zv.cells.toList = [q] := by
   have : zv.cells.toList.length = 1 := by rw [Array.length_toList, hzs, hisz]
   match hh : zv.cells.toList, this with
   | [q], _ => exact ⟨q, rfl⟩
  rw [hq] at hc
  have hrz := okCL_rep V hc
  have hq1 : q.oneCell' = true := oneAL_get hrz hone q (by simp)
  have hfl : ∀ n : Nat, (List.replicate n [q]).flatten = List.replicate n q := fun n => by
   induction n with
   | zero => rfl
   | succ n ih => rw [List.replicate_succ, List.flatten_cons, ih, List.replicate_succ]; rfl
  have hrun : (execOp a.eval o).run P w = .ok (.value (.slice (some ⟨w.heap.size, 0, none⟩) z.toNat z.toNat)) (w.alloc (.cells (List.replicate z.toNat q).toArray e)) := by
   rw [execOp, ho]
   refine run_v ?_
   have hneg : ¬ z < 0 := by omega
   have hnl : ¬ ((bytes : Int) * z > 2 ^ 48) := by
    rw [Int.mul_comm]
    omega
   simp only [Instr.makeSlice, Sem.run_bind, run_und hu, Result.andThen_ok, hx, hy, asInt, asIntOf, Sem.run_pure, typeInfo, run_program, hi, hw, hby]
   simp only [hneg, hnl, decide_false, Bool.or_self, Bool.false_eq_true, if_false, show ¬ z > z by omega, Sem.run_pure, Result.andThen_ok, run_askRoom, Sem.run_bind, run_size hi', hn]
   by_cases hzz : z.toNat * 1 = 0
   ·simp only [hzz, if_true, Sem.run_pure, Result.andThen_ok]
    have : List.replicate z.toNat q = [] := by
     apply List.eq_nil_of_length_eq_zero
     simp
     omega
    rw [this]
    have hr0 : Array.range 0 = #[] := Array.eq_empty_of_size_eq_zero (by simp)
    simp [newRow, hr0]
   ·simp only [hzz, if_false, Sem.run_bind, zeroValue, typeInfo, run_program, Result.andThen_ok, hi, Sem.run_pure, hz]
    rw [show z.toNat * 1 = z.toNat * zv.cells.size by rw [hzs, hisz], zeros_eq, hq, hfl]
    simp [newRow]
  have hdone : ∀ {G1 : Ctx}, G.le G1 → Sat W0 V0 Own V G1 w (updO μ (mkbO rows z.toNat)) → RepL V G1 (mkbC rows zero z.toNat) (List.replicate z.toNat q) → Done W0 V0 Own P o a w V G μ (.bs key 0 z.toNat) (mkbO rows z.toNat ++ [(key, .box (mkbC rows zero z.toNat))]) := by
   intro G1 hle hs1 hrep
   have hm' : updO μ (mkbO rows z.toNat) key = none := by
    rw [updO_ne]
    ·exact hm
    ·intro p hp
     unfold mkbO at hp
     split at hp
     ·cases hp
     ·rename_i base stride esz
      obtain ⟨j, _, h6, h7⟩ := rowOs_key p hp
      rw [h7]
      exact (hrw.2 j (by omega)).2
   have hle2 := Ctx.le_new (s := .box w.heap.size) (hs1.fresh hm')
   have hs2 := hs1.newOb (s := .box w.heap.size) (ob := .box (mkbC rows zero z.toNat)) (.cells (List.replicate z.toNat q).toArray e) hm' rfl (by
    simp only [ObOk]
    exact ⟨_, e, heap_alloc_new, hrep.mono (View.le_refl _) hle2, fun u hu => by rw [List.eq_of_mem_replicate hu]; exact hq1⟩)
   refine done_w (μ := μ) (u := mkbO rows z.toNat ++ [(key, .box (mkbC rows zero z.toNat))]) (by rw [updO_append]; exact hs2) hrun ?_ (View.le_refl _) (Ctx.le_trans hle hle2)
   simp only [Rep]
   exact ⟨_, _, if_pos trivial, rfl, Nat.le_refl _⟩
  cases rows with
  | none =>
   refine hdone (Ctx.le_refl _) hs ?_
   simp only [RepPL] at hrz
   obtain ⟨_, _, hqe, hrq, _⟩ := hrz
   cases hqe
   exact rep_replicate hrq _
  | some r =>
   obtain ⟨base, stride, esz⟩ := r
   simp only [RepPL, RepP] at hrz
   obtain ⟨v1, r1, hqe, hsl, _⟩ := hrz
   obtain ⟨G', g1, g2, g3⟩ := sat_rows (base := base) (stride := stride) (esz := esz) (n := z.toNat) (i := 0) hrw.1 hs fun j _ hj => (hrw.2 j (by omega)).1
   have hq0 : q = .slice none 0 0 := by
    simp only [okCL, Bool.and_eq_true] at hc
    have hc := hc.1
    cases q with
    | slice b l c => cases b <;> cases l <;> cases c <;> simp [okC] at hc; rfl
    | _ => simp [okC] at hc
   subst hq0
   exact hdone g1 g2 g3
 ·cases hok
/-! Calls of functions that write nothing that is there. -/
theorem Sat.callee0 (hs : Sat W0 V0 Own V G w μ) : Sat w V (Ctx.owns fun _ => none) V (fun _ => none) w (fun k => ([] : List Ob)[k]?) where
 keep := ⟨rfl, rfl, rfl, Nat.le_refl _, fun _ _ _ => rfl⟩
 view := hs.view
 vle := View.le_refl _
 vnew := fun _ _ _ => rfl
 obs := fun k ob e => by simp at e
 dom := fun k s e => by cases e
 priv := fun k s b e => by cases e
 inj := fun k k' s s' b e => by cases e
 loc := fun k s b e => by cases e
 glob := hs.glob.mono hs.vle
theorem Sat.after0 (hs : Sat W0 V0 Own V G w μ) {V' : View} {G' : Ctx} {w' : World} (h : Sat w V (Ctx.owns fun _ => none) V' G' w' (fun k => ([] : List Ob)[k]?)) :
  Sat W0 V0 Own V' G w' μ ∧ G'.le G := by
 have hown : ∀ b, ¬ (Ctx.owns (fun _ => none)).own b := fun b ⟨k, s, e, _⟩ => by cases e
 have hblk : ∀ b, b < w.heap.size → w'.heap[b]? = w.heap[b]? := fun b hb => h.keep.block b hb (hown b)
 refine ⟨⟨?_, h.view, View.le_trans hs.vle h.vle, fun b o hb => ?_, fun k ob e => ?_, hs.dom, fun k s b e hb => ?_, hs.inj, hs.loc, hs.glob⟩, fun k s e => ?_⟩
 ·exact hs.keep.of_le h.keep.os h.keep.tape h.keep.output h.keep.size fun b h1 _ => hblk b (Nat.lt_of_lt_of_le h1 hs.keep.size)
 ·rw [h.vnew b o (Nat.lt_of_lt_of_le hb hs.keep.size)]
  exact hs.vnew b o hb
 ·obtain ⟨s, e', q⟩ := hs.obs k ob e
  exact ⟨s, e', q.mono h.vle (Ctx.le_refl _) fun b hb => hblk b (hs.priv k s b e' hb).1⟩
 ·obtain ⟨p1, p2, p3⟩ := hs.priv k s b e hb
  refine ⟨Nat.lt_of_lt_of_le p1 h.keep.size, p2, fun o => ?_⟩
  rw [h.vnew b o p1]
  exact p3 o
 ·obtain ⟨ob, e'⟩ := h.dom k s e
  simp at e'
theorem run_enter {f : Nat} {args : Array Value} (hf : okFn P f = true) : (callFunc f args).run P w = .ok (.enter f args) w := by
 unfold okFn at hf
 split at hf
 ·rename_i fn hfn
  simp only [Bool.and_eq_true, bne_iff_ne, ne_eq] at hf
  have hb : fn.body.isNone = false := by cases hx : fn.body <;> simp [hx] at hf ⊢
  have hn : (fn.name == "runtime.NumGoroutine") = false := by simp [hf.2]
  unfold callFunc
  simp only [Sem.run_bind, run_program, Result.andThen_ok, hfn, hn, hb, Bool.false_eq_true, if_false, Sem.run_pure]
 ·cases hf
def calArgs : Cal → List Arg → List Arg
 | .st _, args => args
 | .dy x, args => x :: args
 | .iv x _ _ _, args => x :: args
theorem run_call {c : Cal} {f : Nat} {caps : List AV} {args : List Arg} (hc : okCall P c args o.op = true) (hf : okFn P f = true) (hcal : callee ρ c = some (f, caps)) (hco : calOk P ρ c)
  (hA : ArgsOk V G ρ a (calArgs c args)) :
  ∃ vs : List Value, (execOp a.eval o).run P w = .ok (.enter f vs.toArray) w ∧ RepL V G (calV ρ c args ++ caps) vs := by
 cases c with
 | st g =>
  simp only [okCall] at hc
  split at hc
  ·rename_i y as ts ho
   simp only [Bool.and_eq_true] at hc
   obtain ⟨hc, has⟩ := hc
   cases y with
   | func g' =>
    simp only [okCal] at hc
    obtain rfl := Nat.eq_of_beq_eq_true hc
    simp only [callee, Option.some.injEq, Prod.mk.injEq] at hcal
    obtain ⟨rfl, rfl⟩ := hcal
    refine ⟨as.toList.map a.eval, ?_, by rw [List.append_nil]; exact okAs_rep has hA⟩
    rw [execOp, ho]
    simp only [resolve, Act.eval, Deferred.ofValue, Sem.run_bind, Sem.run_pure, Result.andThen_ok, invoke]
    rw [show (#[] ++ Array.map a.eval as ++ #[] : Array Value) = (as.toList.map a.eval).toArray by rw [← Array.toList_inj]; simp]
    exact run_enter hf
   | _ => simp [okCal] at hc
  ·cases hc
 | dy x =>
  simp only [okCall] at hc
  split at hc
  ·rename_i y as ts ho
   simp only [Bool.and_eq_true] at hc
   obtain ⟨hc, has⟩ := hc
   simp only [okCal] at hc
   have hx := hA x List.mem_cons_self y hc
   simp only [callee] at hcal
   split at hcal
   ·rename_i f' caps' he
    cases hcal
    rw [he] at hx
    simp only [Rep] at hx
    obtain ⟨cv, hv, hr⟩ := hx
    refine ⟨as.toList.map a.eval ++ cv, ?_, by simp only [calV, he, bndA, List.nil_append]; exact (okAs_rep has fun z hz => hA z (List.mem_cons_of_mem _ hz)).append hr⟩
    rw [execOp, ho]
    simp only [resolve, hv, Deferred.ofValue, Sem.run_bind, Sem.run_pure, Result.andThen_ok, invoke]
    rw [show (#[] ++ Array.map a.eval as ++ cv.toArray : Array Value) = (as.toList.map a.eval ++ cv).toArray by rw [← Array.toList_inj]; simp]
    exact run_enter hf
   ·rename_i f' bs he
    cases hcal
    rw [he] at hx
    simp only [Rep] at hx
    obtain ⟨bv, hv, hr⟩ := hx
    refine ⟨bv ++ as.toList.map a.eval, ?_, by simp only [calV, he, bndA, List.append_nil]; exact hr.append (okAs_rep has fun z hz => hA z (List.mem_cons_of_mem _ hz))⟩
    rw [execOp, ho]
    simp only [resolve, hv, Deferred.ofValue, Sem.run_bind, Sem.run_pure, Result.andThen_ok, invoke]
    rw [show (bv.toArray ++ Array.map a.eval as ++ #[] : Array Value) = (bv ++ as.toList.map a.eval).toArray by rw [← Array.toList_inj]; simp]
    exact run_enter hf
   ·cases hcal
  ·cases hc
 | iv x t nm g =>
  simp only [okCall] at hc
  split at hc
  ·rename_i y nm' as ts ho
   simp only [Bool.and_eq_true, decide_eq_true_eq] at hc
   obtain ⟨⟨hc, rfl⟩, has⟩ := hc
   have hx := hA x List.mem_cons_self y hc
   simp only [callee, Option.some.injEq, Prod.mk.injEq] at hcal
   obtain ⟨rfl, rfl⟩ := hcal
   obtain ⟨hif, hm⟩ := hco
   obtain ⟨q, hv, hr⟩ : ∃ q : Option Addr, a.eval y = .iface t (.pointer q) ∧ Rep V G (unif (ρ x)) (.pointer q) := by
    cases hz : ρ x <;> rw [hz] at hif hx <;> simp only [ifOk, Bool.and_eq_true] at hif <;> try (cases hif; done)
    case mif t' z =>
     obtain ⟨h1, h2⟩ := hif
     have := Nat.eq_of_beq_eq_true h1
     subst this
     simp only [Rep] at hx
     obtain ⟨u, hu, hzr⟩ := hx
     cases z <;> simp [ptrA] at h2
     case rp cs =>
      have hzr' := hzr
      simp only [Rep, RepP] at hzr'
      obtain ⟨b, o', rfl, _⟩ := hzr'
      exact ⟨_, hu, hzr⟩
     case ref k off =>
      have hzr' := hzr
      simp only [Rep] at hzr'
      obtain ⟨b, _, rfl⟩ := hzr'
      exact ⟨_, hu, hzr⟩
     case er =>
      have hzr' := hzr
      simp only [Rep] at hzr'
      obtain ⟨⟨b, o', rfl⟩, _⟩ := hzr'
      exact ⟨_, hu, hzr⟩
    case ifc t' z =>
     obtain ⟨h1, h2⟩ := hif
     have := Nat.eq_of_beq_eq_true h1
     subst this
     simp only [Rep, RepP] at hx
     obtain ⟨u, hu, hzr⟩ := hx
     cases z <;> simp [ptrA] at h2
     case rp cs =>
      have hzr' := hzr
      simp only [RepP] at hzr'
      obtain ⟨b, o', rfl, _⟩ := hzr'
      exact ⟨_, hu, hzr.rep G⟩
     case ref => simp only [RepP] at hzr
     case er => simp only [RepP] at hzr
   refine ⟨.pointer q :: as.toList.map a.eval, ?_, ?_⟩
   ·rw [execOp, ho]
    simp only [resolve, Sem.run_bind, Sem.run_pure, Result.andThen_ok, invoke, hv]
    have e0 : (#[Value.iface t (.pointer q)] ++ Array.map a.eval as)[0]? = some (Value.iface t (.pointer q)) := by rw [Array.getElem?_append_left (by simp)]; rfl
    have e1 : (#[Value.iface t (.pointer q)] ++ Array.map a.eval as).extract 1 (#[Value.iface t (.pointer q)] ++ Array.map a.eval as).size = Array.map a.eval as := by
     rw [← Array.toList_inj]; simp [List.take_of_length_le]
    simp only [e0, e1, callMethod, Sem.run_bind, run_program, Result.andThen_ok, hm q w]
    rw [show (#[Value.pointer q] ++ Array.map a.eval as : Array Value) = (Value.pointer q :: as.toList.map a.eval).toArray by rw [← Array.toList_inj]; simp]
    exact run_enter hf
   ·rw [List.append_nil]
    simp only [calV, RepL]
    exact ⟨_, _, rfl, hr, okAs_rep has fun z hz => hA z (List.mem_cons_of_mem _ hz)⟩
  ·cases hc
theorem isPL_append : ∀ {x y : List AV}, isPL x = true → isPL y = true → isPL (x ++ y) = true
 | [], y, _, h => h
 | c :: x, y, h, h' => by
  simp only [isPL, List.cons_append, Bool.and_eq_true] at h ⊢
  exact ⟨h.1, isPL_append h.2 h'⟩
theorem snd_callf {d : Option Nat} {c : Cal} {args : List Arg} (hd : o.dst = d) (hok : okOp' P o (.callf d c args) = true) (h : opR P (.callf d c args) ρ μ v u acc) (hA : ArgsOk V G ρ a (AOp.callf d c args).args) (hs : Sat W0 V0 Own V G w μ) :
  Done W0 V0 Own P o a w V G μ v u := by
 obtain ⟨rfl, rfl, f, caps, res, hcal, hco, hp1, hp2, ⟨hf, hctr⟩, rfl⟩ := h
 simp only [okOp'] at hok
 have hA' : ArgsOk V G ρ a (calArgs c args) := by cases c <;> exact hA
 obtain ⟨vs, hr, hrep⟩ := run_call (w := w) (args := args) hok hf hcal hco hA'
 intro next Q hn
 unfold Oper.wp
 rw [hr, Oper.upon_enter]
 refine (hctr V (fun _ => none) w vs hs.callee0 ((hrep.pure (isPL_append hp1 hp2)).rep _)).mono ?_
 rintro e w' ⟨V', G', val, res', obs', ⟨rfl, rfl⟩, rfl, hres, hle, hs'⟩
 obtain ⟨hs2, hle2⟩ := hs.after0 hs'
 exact hn val w' V' G (hres.rep.mono (View.le_refl _) hle2) hs'.vle (Ctx.le_refl _) hs2
def Shows (w : World) (G : Ctx) (μ : Nat → Option Ob) (Vx : View) : Prop := ∀ k ob s b o v, μ k = some ob → G k = some s → s.block = some b → w.cell? ⟨b, o, none⟩ = some v → Vx b o = some v
theorem bor1_rep {Vx : View} {x : AV} {val : Value} (hs : ObsOk V G w μ) (hV : V.le Vx) (hX : Shows w G μ Vx) (h : Rep V G x val) : Rep Vx (fun _ => none) (bor1 μ x) val := by
 cases x
 case hs k ver off len =>
  simp only [bor1]
  split
  ·rename_i ver' esz xs hm
   split
   ·rename_i e
    subst e
    obtain ⟨loc, A, cap, hg, hv, hlc, hol, hnc, hq⟩ := hs_open0 hs h hm
    have hlen : ((xs.drop off).take len).length = len := by simp; omega
    simp only [Rep, RepP]
    refine ⟨A, cap, by rw [hlen]; exact hv, by rw [hlen]; exact hlc, ?_⟩
    rcases hq with ⟨rfl, rfl, rfl, rfl⟩ | ⟨b, of, tot, us, T, rfl, hA, htot, hh, ht, hle, hr⟩
    ·left; simp
    ·by_cases h0 : (xs.drop off).take len = []
     ·exact .inl h0
     ·right
      have hl0 : len ≠ 0 := fun e => h0 (by rw [e]; simp)
      refine ⟨b, _, esz, hA.resolve_left (by omega), ?_⟩
      exact ((hr.drop off).take len).mono hV fun i y hy => hX _ _ _ _ _ _ hm hg rfl (cell_of hh hy)
   ·simp only [Rep]
  ·simp only [Rep]
 case ref k off =>
  simp only [bor1]
  split
  ·rename_i cs hm
   simp only [Rep] at h
   obtain ⟨b, hg, hv⟩ := h
   obtain ⟨s, hgs, hob⟩ := hs _ _ hm
   rw [hg] at hgs
   cases hgs
   obtain ⟨us, T, hh, hr, h1⟩ := hob
   simp only [Rep, RepP]
   refine ⟨b, off, hv, ?_⟩
   have hc : RepC Vx (Vx b) 0 cs := RepC.of_vals (hr.mono hV) fun j y hy => by
    rw [Nat.zero_add]
    exact ⟨hX _ _ _ _ _ _ hm hg rfl (cell_of hh hy), h1 y (List.mem_of_getElem? hy)⟩
   have := hc.drop off
   rwa [Nat.zero_add] at this
  ·simp only [Rep]
 case er k ver i off =>
  simp only [bor1]
  split
  ·rename_i ver' esz xs hm
   split
   ·rename_i e
    subst e
    split
    ·rename_i c hc
     simp only [Rep] at h
     obtain ⟨_, ver2, esz', nn, loc, hg, hle', hq⟩ := h
     obtain ⟨s, hgs, hob⟩ := hs _ _ hm
     rw [hg] at hgs
     cases hgs
     obtain ⟨rfl, rfl, rfl, hnone, hloc⟩ := hob
     obtain ⟨b, o', tot, rfl, hin, hv⟩ := hq rfl
     obtain ⟨us, T, hh, ht, hle, hr⟩ := hloc b o' tot rfl
     simp only [Rep, RepP]
     exact ⟨b, _, hv, ((hr.get hc).2.drop off).mono hV fun i y hy => hX _ _ _ _ _ _ hm hg rfl (cell_of hh hy)⟩
    ·simp only [Rep]
   ·simp only [Rep]
  ·simp only [Rep]
 case fn f caps =>
  simp only [bor1]
  cases hp : isPL caps with
  | true =>
   simp only [cond_true]
   have hp' : isP (.fn f caps) = true := hp
   exact ((h.pure hp').mono hV).rep _
  | false => simp only [cond_false, Rep]
 case mfn f caps =>
  simp only [bor1]
  cases hp : isPL caps with
  | true =>
   simp only [cond_true]
   have hp' : isP (.mfn f caps) = true := hp
   exact ((h.pure hp').mono hV).rep _
  | false => simp only [cond_false, Rep]
 case tup xs => simp only [bor1, Rep]
 case bs => simp only [bor1, Rep]
 case mag xs => simp only [bor1, Rep]
 case mif t x => simp only [bor1, Rep]
 case dead => simp only [bor1, Rep]
 all_goals simp only [bor1, Rep] at h ⊢; exact h.mono hV
theorem bor1_repL {Vx : View} (hs : ObsOk V G w μ) (hV : V.le Vx) (hX : Shows w G μ Vx) : ∀ {xs : List AV} {us : List Value}, RepL V G xs us → RepL Vx (fun _ => none) (xs.map (bor1 μ)) us
 | [], us, h => by simpa [RepL] using h
 | x :: xs, us, h => by
  simp only [List.map_cons, RepL] at h ⊢
  obtain ⟨y, r, e, p, q⟩ := h
  exact ⟨y, r, e, bor1_rep hs hV hX p, bor1_repL hs hV hX q⟩
theorem bor2_rep {Vx : View} {x : AV} {val : Value} (hs : ObsOk V G w μ) (hV : V.le Vx) (hX : Shows w G μ Vx) (h : Rep V G x val) : Rep Vx (fun _ => none) (bor2 μ x) val := by
 cases x
 case ref k off =>
  simp only [bor2]
  split
  ·rename_i cs hm
   unfold borC
   cases hp : isPL (cs.map (bor1 μ)) && oneAL (cs.map (bor1 μ)) with
   | false => simp only [cond_false, Rep]
   | true =>
    simp only [Bool.and_eq_true] at hp
    simp only [cond_true, Rep, RepP]
    simp only [Rep] at h
    obtain ⟨b, hg, hv⟩ := h
    obtain ⟨s, hgs, hob⟩ := hs _ _ hm
    rw [hg] at hgs
    cases hgs
    obtain ⟨us, T, hh, hr, h1⟩ := hob
    refine ⟨b, off, hv, ?_⟩
    have hr' := (bor1_repL hs hV hX hr).pure hp.1
    have hc : RepC Vx (Vx b) 0 (cs.map (bor1 μ)) := RepC.of_vals hr' fun j y hy => by
     rw [Nat.zero_add]
     exact ⟨hX _ _ _ _ _ _ hm hg rfl (cell_of hh hy), h1 y (List.mem_of_getElem? hy)⟩
    have := hc.drop off
    rwa [Nat.zero_add] at this
  ·rename_i cs hm
   have := bor1_rep hs hV hX h
   simpa only [bor1, hm] using this
  ·simp only [Rep]
 all_goals (simp only [bor2]; exact bor1_rep hs hV hX h)
theorem bor0_rep {Vx : View} {x : AV} {val : Value} (hs : ObsOk V G w μ) (hV : V.le Vx) (hX : Shows w G μ Vx) (h : Rep V G x val) : Rep Vx (fun _ => none) (bor0 μ x) val := by
 cases x
 case mif t x =>
  simp only [Rep] at h
  obtain ⟨u, e, hx⟩ := h
  have := bor2_rep hs hV hX hx
  simp only [bor0]
  unfold borI
  cases hp : isP (bor2 μ x) with
  | false => simp only [cond_false, Rep]
  | true =>
   simp only [cond_true, Rep, RepP]
   exact ⟨u, e, this.pure hp⟩
 all_goals (simp only [bor0]; exact bor2_rep hs hV hX h)
theorem bor0_repL {Vx : View} (hs : ObsOk V G w μ) (hV : V.le Vx) (hX : Shows w G μ Vx) : ∀ {xs : List AV} {us : List Value}, RepL V G xs us → RepL Vx (fun _ => none) (xs.map (bor0 μ)) us
 | [], us, h => by simpa [RepL] using h
 | x :: xs, us, h => by
  simp only [List.map_cons, RepL] at h ⊢
  obtain ⟨y, r, e, p, q⟩ := h
  exact ⟨y, r, e, bor0_rep hs hV hX p, bor0_repL hs hV hX q⟩
theorem bor_rep {Vx : View} {x : AV} {val : Value} (hs : ObsOk V G w μ) (hV : V.le Vx) (hX : Shows w G μ Vx) (h : Rep V G x val) : Rep Vx (fun _ => none) (bor μ x) val := by
 cases x
 case fn f caps =>
  simp only [bor, Rep] at h ⊢
  obtain ⟨cv, e, r⟩ := h
  exact ⟨cv, e, bor0_repL hs hV hX r⟩
 case mfn f caps =>
  simp only [bor, Rep] at h ⊢
  obtain ⟨cv, e, r⟩ := h
  exact ⟨cv, e, bor0_repL hs hV hX r⟩
 all_goals exact bor0_rep hs hV hX h
theorem bor_repL {Vx : View} (hs : ObsOk V G w μ) (hV : V.le Vx) (hX : Shows w G μ Vx) : ∀ {xs : List AV} {us : List Value}, RepL V G xs us → RepL Vx (fun _ => none) (xs.map (bor μ)) us
 | [], us, h => by simpa [RepL] using h
 | x :: xs, us, h => by
  simp only [List.map_cons, RepL] at h ⊢
  obtain ⟨y, r, e, p, q⟩ := h
  exact ⟨y, r, e, bor_rep hs hV hX p, bor_repL hs hV hX q⟩
theorem scal0_rep {V' : View} : ∀ {cs : List AV} {us : List Value}, cs.all scal0 = true → RepPL V cs us → RepPL V' cs us
 | [], us, _, h => by simpa [RepPL] using h
 | x :: xs, us, hx, h => by
  simp only [List.all_cons, Bool.and_eq_true] at hx
  simp only [RepPL] at h ⊢
  obtain ⟨y, r, e, p, q⟩ := h
  exact ⟨y, r, e, by cases x <;> simp [scal0] at hx <;> exact p, scal0_rep hx.2 q⟩
theorem scalar_rep {V' : View} {G' : Ctx} {x : AV} {val : Value} (hx : scalar x = true) (h : Rep V G x val) : Rep V' G' x val := by
 cases x
 case agg cs =>
  simp only [scalar] at hx
  simp only [Rep, RepP] at h ⊢
  obtain ⟨us, e, p⟩ := h
  exact ⟨us, e, scal0_rep hx p⟩
 all_goals (simp [scalar] at hx <;> exact h)
theorem scalars_rep {V' : View} {G' : Ctx} : ∀ {xs : List AV} {us : List Value}, xs.all scalar = true → RepL V G xs us → RepL V' G' xs us
 | [], us, _, h => by simpa [RepL] using h
 | x :: xs, us, hx, h => by
  simp only [List.all_cons, Bool.and_eq_true] at hx
  simp only [RepL] at h ⊢
  obtain ⟨y, r, e, p, q⟩ := h
  exact ⟨y, r, e, scalar_rep hx.1 p, scalars_rep hx.2 q⟩
theorem scalars_res {V' : View} {G' : Ctx} {res : List AV} {val : Value} (hx : res.all scalar = true) (h : RepRes V G res val) : RepRes V' G' res val := by
 match res, h with
 | [], h => exact h
 | [x], h =>
  simp only [List.all_cons, List.all_nil, Bool.and_true] at hx
  exact scalar_rep hx h
 | x :: y :: r, h =>
  obtain ⟨us, e, p⟩ := h
  exact ⟨us, e, scalars_rep hx p⟩
theorem Sat.lent (hs : Sat W0 V0 Own V G w μ) : Sat w (fun b o => w.cell? ⟨b, o, none⟩) (Ctx.owns fun _ => none) (fun b o => w.cell? ⟨b, o, none⟩) (fun _ => none) w (fun k => ([] : List Ob)[k]?) where
 keep := ⟨rfl, rfl, rfl, Nat.le_refl _, fun _ _ _ => rfl⟩
 view := fun b o v h => h
 vle := View.le_refl _
 vnew := fun _ _ _ => rfl
 obs := fun k ob e => by simp at e
 dom := fun k s e => by cases e
 priv := fun k s b e => by cases e
 inj := fun k k' s s' b e => by cases e
 loc := fun k s b e => by cases e
 glob := (hs.glob.mono hs.vle).mono hs.view
theorem Sat.back (hs : Sat W0 V0 Own V G w μ) {V' : View} {G' : Ctx} {w' : World} (h : Sat w (fun b o => w.cell? ⟨b, o, none⟩) (Ctx.owns fun _ => none) V' G' w' (fun k => ([] : List Ob)[k]?)) : Sat W0 V0 Own V G w' μ := by
 have hown : ∀ b, ¬ (Ctx.owns (fun _ => none)).own b := fun b ⟨k, s, e, _⟩ => by cases e
 have hblk : ∀ b, b < w.heap.size → w'.heap[b]? = w.heap[b]? := fun b hb => h.keep.block b hb (hown b)
 refine ⟨?_, fun b o v e => ?_, hs.vle, hs.vnew, fun k ob e => ?_, hs.dom, fun k s b e hb => ?_, hs.inj, hs.loc, hs.glob⟩
 ·exact hs.keep.of_le h.keep.os h.keep.tape h.keep.output h.keep.size fun b h1 _ => hblk b (Nat.lt_of_lt_of_le h1 hs.keep.size)
 ·exact h.view b o v (h.vle b o v (hs.view b o v e))
 ·obtain ⟨s, e', q⟩ := hs.obs k ob e
  exact ⟨s, e', q.mono (View.le_refl _) (Ctx.le_refl _) fun b hb => hblk b (hs.priv k s b e' hb).1⟩
 ·obtain ⟨p1, p2, p3⟩ := hs.priv k s b e hb
  exact ⟨Nat.lt_of_lt_of_le p1 h.keep.size, p2, p3⟩
theorem snd_callb {d : Option Nat} {c : Cal} {args : List Arg} (hd : o.dst = d) (hok : okOp' P o (.callb d c args) = true) (h : opR P (.callb d c args) ρ μ v u acc) (hA : ArgsOk V G ρ a (AOp.callb d c args).args) (hs : Sat W0 V0 Own V G w μ) :
  Done W0 V0 Own P o a w V G μ v u := by
 obtain ⟨rfl, f, caps, res, hcal, hco, rfl, hp, ⟨hf, hctr⟩, hsc, rfl⟩ := h
 simp only [okOp'] at hok
 have hA' : ArgsOk V G ρ a (calArgs c args) := by cases c <;> exact hA
 obtain ⟨vs, hr, hrep⟩ := run_call (w := w) (args := args) hok hf hcal hco hA'
 intro next Q hn
 unfold Oper.wp
 rw [hr, Oper.upon_enter]
 refine (hctr _ (fun _ => none) w vs hs.lent (bor_repL hs.obs hs.view (fun _ _ _ _ _ _ _ _ _ h => h) hrep)).mono ?_
 rintro e w' ⟨V', G', val, res', obs', ⟨rfl, rfl⟩, rfl, hres, hle, hs'⟩
 exact hn val w' V G (scalars_res hsc hres).rep (View.le_refl _) (Ctx.le_refl _) (hs.back hs')
theorem getObsM_get : ∀ {ks : List Nat} {obs : List Ob} {i : Nat}, getObsM μ ks = some obs → obs[i]? = (ks[i]?).bind μ
 | [], obs, i, h => by simp [getObsM] at h; subst h; simp
 | k :: r, obs, i, h => by
  simp only [getObsM] at h
  split at h
  ·rename_i o ho
   obtain ⟨l, hl, rfl⟩ := Option.map_eq_some_iff.1 h
   cases i with
   | zero => simp [ho]
   | succ i => simpa using getObsM_get (i := i) hl
  ·cases h
theorem getObsM_len : ∀ {ks : List Nat} {obs : List Ob}, getObsM μ ks = some obs → obs.length = ks.length
 | [], obs, h => by simp [getObsM] at h; subst h; rfl
 | k :: r, obs, h => by
  simp only [getObsM] at h
  split at h
  ·obtain ⟨l, hl, rfl⟩ := Option.map_eq_some_iff.1 h
   simp [getObsM_len hl]
  ·cases h
theorem zipU_upd : ∀ {ks : List Nat} {os : List Ob} {μ : Nat → Option Ob} {j : Nat}, ks.length = os.length → (∀ (i k : Nat), i < k → ∀ x y, ks[i]? = some x → ks[k]? = some y → x ≠ y) →
  (∀ i : Nat, ks[i]? = some j → updO μ (zipU ks os) j = os[i]?) ∧ ((∀ i : Nat, ks[i]? ≠ some j) → updO μ (zipU ks os) j = μ j)
 | [], os, μ, j, h, _ => ⟨fun i hi => by simp at hi, fun _ => by simp [zipU, updO]⟩
 | k :: ks, [], μ, j, h, _ => by simp at h
 | k :: ks, o :: os, μ, j, h, hu => by
  obtain ⟨h1, h2⟩ := zipU_upd (ks := ks) (os := os) (μ := fun j => if j = k then some o else μ j) (j := j) (by simpa using h) fun i k' hik x y hx hy => hu (i + 1) (k' + 1) (by omega) x y (by simpa using hx) (by simpa using hy)
  refine ⟨fun i hi => ?_, fun hi => ?_⟩
  ·cases i with
   | zero =>
    simp at hi
    subst hi
    rw [zipU, updO, h2, if_pos rfl]
    ·rfl
    ·intro i e
     exact hu 0 (i + 1) (by omega) k k rfl (by simpa using e) rfl
   | succ i =>
    rw [zipU, updO, h1 i (by simpa using hi)]
    rfl
  ·rw [zipU, updO, h2 fun i e => hi (i + 1) (by simpa using e), if_neg]
   intro e
   exact hi 0 (by simp [e])
/-- A call that hands objects on, as far as memory goes. -/
theorem call_core {f : Nat} {xs : List AV} {pass new : List Nat} {obs : List Ob} {R : List AV → List Ob → Prop} {vs : List Value} (hs : Sat W0 V0 Own V G w μ) (hk : keysOk (idxM 0 (pass ++ new)) = true) (hp : keysOk (idxM 0 pass) = true)
  (hobs : getObsM μ pass = some obs) (hfresh : allNoneM μ new = true) (hctr : Ctr P f (renL (idxM 0 pass) xs) (mapOb (idxM 0 pass) obs) R) (hlenR : ∀ res obs', R res obs' → obs'.length = pass.length + new.length) (hrep : RepL V G xs vs) :
  Calls P f vs.toArray w fun e w' => ∃ V' G' val res obs', R res obs' ∧ e = .returned val ∧ V.le V' ∧ G.le G' ∧ Rep V' G' (ren (invL (idxM 0 (pass ++ new))) (resA res)) val ∧
   Sat W0 V0 Own V' G' w' (updO μ (zipU (pass ++ new) (mapOb (invL (idxM 0 (pass ++ new))) obs'))) := by
 have hsc : Sat w V (renC (idxM 0 pass) G).owns V (renC (idxM 0 pass) G) w (fun i => (mapOb (idxM 0 pass) obs)[i]?) := by
  have h1 := (hs.weak.ren hp (fun _ _ _ _ _ => trivial)).rebase
  have e : (fun i => (mapOb (idxM 0 pass) obs)[i]?) = renM (idxM 0 pass) μ := by
   funext i
   unfold renM
   rw [mapOb_get, getObsM_get hobs, idx_get, if_pos (Nat.zero_le _), Nat.sub_zero]
   cases pass[i]? <;> rfl
  rw [e]
  exact h1
 refine (hctr.2 V _ w vs hsc (hrep.ren (renC_spec hp))).mono ?_
 rintro e w' ⟨V', G', val, res, obs', hres, rfl, hrr, hle, hs'⟩
 have hlen := hlenR res obs' hres
 have hdist := keysOk_distinct hk
 have hpl := getObsM_len hobs
 -- which objects the callee was given
 have hGc : ∀ (i : Nat) s, renC (idxM 0 pass) G i = some s → ∃ k, pass[i]? = some k ∧ G k = some s := by
  intro i s e
  unfold renC at e
  rw [idx_get, if_pos (Nat.zero_le _), Nat.sub_zero] at e
  cases hk : pass[i]? with
  | none => rw [hk] at e; cases e
  | some k => rw [hk] at e; exact ⟨k, rfl, e⟩
 have hGc' : ∀ (i k : Nat), pass[i]? = some k → renC (idxM 0 pass) G i = G k := by
  intro i k e
  unfold renC
  rw [idx_get, if_pos (Nat.zero_le _), Nat.sub_zero, e]
  rfl
 have hidx : ∀ (i k : Nat), (pass ++ new)[i]? = some k → optA (idxM 0 (pass ++ new)) k = some i := by
  intro i k e
  rw [← optA_inv hk, idx_get, if_pos (Nat.zero_le _), Nat.sub_zero]
  exact e
 have hidx' : ∀ (i k : Nat), optA (idxM 0 (pass ++ new)) k = some i → (pass ++ new)[i]? = some k := by
  intro i k e
  rw [← optA_inv hk, idx_get, if_pos (Nat.zero_le _), Nat.sub_zero] at e
  exact e
 have hpn : ∀ (i k : Nat), pass[i]? = some k → (pass ++ new)[i]? = some k := by
  intro i k e
  rw [List.getElem?_append_left (getElem?_lt e)]
  exact e
 have hnewk : ∀ (j i : Nat), optA (idxM 0 (pass ++ new)) j = some i → ∀ s, G j = some s → pass[i]? = some j := by
  intro j i e s hg
  have h1 := hidx' i j e
  rcases Nat.lt_or_ge i pass.length with hi | hi
  ·rw [List.getElem?_append_left hi] at h1
   exact h1
  ·exfalso
   rw [List.getElem?_append_right hi] at h1
   have hmem : j ∈ new := List.mem_of_getElem? h1
   have hno : μ j = none := by
    clear hs' hle hrr hctr hsc hlenR hidx hidx' hdist hk hpn e h1 hlen hres
    induction new with
    | nil => cases hmem
    | cons x r ih =>
     simp only [allNoneM, Bool.and_eq_true] at hfresh
     rcases List.mem_cons.1 hmem with rfl | hmem
     ·have := hfresh.1
      split at this
      ·rename_i hx; exact hx
      ·cases this
     ·exact ih hfresh.2 hmem
   obtain ⟨ob, hob⟩ := hs.dom j s hg
   rw [hno] at hob
   cases hob
 have hown : ∀ b, (renC (idxM 0 pass) G).owns.own b → ∃ (i k : Nat) (s : Sh), pass[i]? = some k ∧ G k = some s ∧ s.block = some b := by
  rintro b ⟨i, s, e, hb⟩
  obtain ⟨k, h1, h2⟩ := hGc i s e
  exact ⟨i, k, s, h1, h2, hb⟩
 have hleG : G.le (fun j => match optA (idxM 0 (pass ++ new)) j with | some i => G' i | none => G j) := by
  intro j s hg
  simp only
  cases hj : optA (idxM 0 (pass ++ new)) j with
  | none => exact ⟨s, hg, s.le_refl⟩
  | some i => exact hle i s (by rw [hGc' i j (hnewk j i hj s hg)]; exact hg)
 have hback : ∀ (i k : Nat), optA (invL (idxM 0 (pass ++ new))) i = some k → (fun j => match optA (idxM 0 (pass ++ new)) j with | some i => G' i | none => G j) k = G' i := by
  intro i k e
  have := (optA_inv hk).1 e
  simp only [this]
 have hlenk : (pass ++ new).length = (mapOb (invL (idxM 0 (pass ++ new))) obs').length := by
  have : ∀ (l : List Ob), (mapOb (invL (idxM 0 (pass ++ new))) l).length = l.length := by
   intro l
   induction l with
   | nil => rfl
   | cons x r ih => simp [mapOb, ih]
  rw [this, hlen, List.length_append]
 have hput := fun j => zipU_upd (μ := μ) (j := j) hlenk hdist
 have hbsame : ∀ j s b, optA (idxM 0 (pass ++ new)) j = none → G j = some s → s.block = some b → w'.heap[b]? = w.heap[b]? := by
  intro j s b hj hg hb
  refine hs'.keep.block b (hs.priv j s b hg hb).1 fun hown' => ?_
  obtain ⟨i, k, s2, h1, h2, h3⟩ := hown b hown'
  have := hs.inj j k s s2 b hg h2 hb h3
  subst this
  rw [hidx i j (hpn i j h1)] at hj
  cases hj
 refine ⟨V', fun j => match optA (idxM 0 (pass ++ new)) j with | some i => G' i | none => G j, val, res, obs', hres, rfl, hs'.vle, hleG, hrr.rep.ren hback, ?_⟩
 refine ⟨?_, hs'.view, View.le_trans hs.vle hs'.vle, fun b o hb => ?_, fun j ob e => ?_, fun j s e => ?_, fun j s b e hb => ?_, fun j j' s1 s2 b e1 e2 h1 h2 => ?_, fun j s b e hb hlt => ?_, hs.glob⟩
 ·refine hs.keep.of_le hs'.keep.os hs'.keep.tape hs'.keep.output hs'.keep.size fun b h1 h2 => ?_
  refine hs'.keep.block b (Nat.lt_of_lt_of_le h1 hs.keep.size) fun hown' => ?_
  obtain ⟨i, k, s, _, g2, g3⟩ := hown b hown'
  rcases (hs.priv k s b g2 g3).2.1 with g | g
  ·exact h2 g
  ·omega
 ·rw [hs'.vnew b o (Nat.lt_of_lt_of_le hb hs.keep.size)]
  exact hs.vnew b o hb
 ·try simp only
  cases hj : optA (idxM 0 (pass ++ new)) j with
  | some i =>
   rw [(hput j).1 i (hidx' i j hj), mapOb_get, Option.map_eq_some_iff] at e
   obtain ⟨ob0, e0, rfl⟩ := e
   obtain ⟨s, hg, hob⟩ := hs'.obs i ob0 e0
   exact ⟨s, hg, hob.ren hback⟩
  | none =>
   rw [(hput j).2 fun i hi => by rw [hidx i j hi] at hj; cases hj] at e
   obtain ⟨s, hg, hob⟩ := hs.obs j ob e
   exact ⟨s, hg, hob.mono hs'.vle hleG fun b hb => hbsame j s b hj hg hb⟩
 ·try simp only at e
  cases hj : optA (idxM 0 (pass ++ new)) j with
  | some i =>
   rw [hj] at e
   obtain ⟨ob, e0⟩ := hs'.dom i s e
   rw [(hput j).1 i (hidx' i j hj), mapOb_get, e0]
   exact ⟨_, rfl⟩
  | none =>
   rw [hj] at e
   obtain ⟨ob, e0⟩ := hs.dom j s e
   rw [(hput j).2 fun i hi => by rw [hidx i j hi] at hj; cases hj]
   exact ⟨ob, e0⟩
 ·try simp only at e
  cases hj : optA (idxM 0 (pass ++ new)) j with
  | some i =>
   rw [hj] at e
   obtain ⟨p1, p2, p3⟩ := hs'.priv i s b e hb
   refine ⟨p1, ?_, p3⟩
   rcases p2 with p2 | p2
   ·obtain ⟨i', k, s2, _, g2, g3⟩ := hown b p2
    exact (hs.priv k s2 b g2 g3).2.1
   ·exact .inr (Nat.le_trans hs.keep.size p2)
  | none =>
   rw [hj] at e
   obtain ⟨p1, p2, p3⟩ := hs.priv j s b e hb
   exact ⟨Nat.lt_of_lt_of_le p1 hs'.keep.size, p2, fun o => by rw [hs'.vnew b o p1]; exact p3 o⟩
 ·have mixed : ∀ j j' i s1 s2, optA (idxM 0 (pass ++ new)) j = some i → optA (idxM 0 (pass ++ new)) j' = none → G' i = some s1 → G j' = some s2 → s1.block = some b → s2.block = some b → False := by
   intro j j' i s1 s2 hj hj' e1 e2 h1 h2
   have q := (hs.priv j' s2 b e2 h2).1
   rcases (hs'.priv i s1 b e1 h1).2.1 with p2 | p2
   ·obtain ⟨i', k, s3, g1, g2, g3⟩ := hown b p2
    have := hs.inj j' k s2 s3 b e2 g2 h2 g3
    subst this
    rw [hidx i' j' (hpn i' j' g1)] at hj'
    cases hj'
   ·omega
  try simp only at e1 e2
  cases hj : optA (idxM 0 (pass ++ new)) j with
  | some i =>
   rw [hj] at e1
   cases hj' : optA (idxM 0 (pass ++ new)) j' with
   | some i' =>
    rw [hj'] at e2
    have := hs'.inj i i' s1 s2 b e1 e2 h1 h2
    subst this
    have q1 := hidx' _ _ hj
    have q2 := hidx' _ _ hj'
    rw [q1] at q2
    cases q2
    rfl
   | none =>
    rw [hj'] at e2
    exact (mixed j j' i s1 s2 hj hj' e1 e2 h1 h2).elim
  | none =>
   rw [hj] at e1
   cases hj' : optA (idxM 0 (pass ++ new)) j' with
   | some i' =>
    rw [hj'] at e2
    exact (mixed j' j i' s2 s1 hj' hj e2 e1 h2 h1).elim
   | none =>
    rw [hj'] at e2
    exact hs.inj j j' s1 s2 b e1 e2 h1 h2
 ·try simp only at e
  cases hj : optA (idxM 0 (pass ++ new)) j with
  | some i =>
   rw [hj] at e
   obtain ⟨s0, e0, hb0⟩ := hs'.loc i s b e hb (Nat.lt_of_lt_of_le hlt hs.keep.size)
   obtain ⟨k, g1, g2⟩ := hGc i s0 e0
   have := hidx' i j hj
   rw [hpn i k g1] at this
   cases this
   exact hs.loc _ s0 b g2 hb0 hlt
  | none =>
   rw [hj] at e
   exact hs.loc j s b e hb hlt
theorem memK_iff {ks : List Nat} {k : Nat} : memK ks k = true ↔ k ∈ ks := by
 unfold memK
 rw [List.any_eq_true]
 exact ⟨fun ⟨j, h, e⟩ => Nat.eq_of_beq_eq_true e ▸ h, fun h => ⟨k, h, Nat.beq_refl k⟩⟩
theorem cell_lt {w : World} {b o : Nat} {v : Value} (h : w.cell? ⟨b, o, none⟩ = some v) : b < w.heap.size := by
 unfold World.cell? at h
 cases hx : w.heap[b]? with
 | none => simp [hx] at h
 | some x => exact (Array.getElem?_eq_some_iff.1 hx).1
theorem scal1_rep {V' : View} {x : AV} {v : Value} (hx : scal1 x = true) (h : RepP V x v) : RepP V' x v := by
 cases x <;> simp [scal1] at hx <;> exact h
theorem scal1L_rep {V' : View} : ∀ {xs : List AV} {us : List Value}, xs.all scal1 = true → RepPL V xs us → RepPL V' xs us
 | [], us, _, h => by simpa [RepPL] using h
 | x :: xs, us, hx, h => by
  simp only [List.all_cons, Bool.and_eq_true] at hx
  simp only [RepPL] at h ⊢
  obtain ⟨y, r, e, p, q⟩ := h
  exact ⟨y, r, e, scal1_rep hx.1 p, scal1L_rep hx.2 q⟩
theorem scal1C_rep {V' : View} {L : Nat → Option Value} : ∀ {xs : List AV} {o : Nat}, xs.all scal1 = true → RepC V L o xs → RepC V' L o xs
 | [], o, _, h => by simp only [RepC]
 | x :: xs, o, hx, h => by
  simp only [List.all_cons, Bool.and_eq_true] at hx
  simp only [RepC] at h ⊢
  obtain ⟨⟨v, h1, h2, h3⟩, h4⟩ := h
  exact ⟨⟨v, h1, scal1_rep hx.1 h2, h3⟩, scal1C_rep hx.2 h4⟩
theorem scal1R_rep {V' : View} {L : Nat → Option Value} {esz : Nat} : ∀ {xs : List (List AV)} {o : Nat}, (xs.all fun c => c.all scal1) = true → RepR V L esz o xs → RepR V' L esz o xs
 | [], o, _, h => by simp only [RepR]
 | x :: xs, o, hx, h => by
  simp only [List.all_cons, Bool.and_eq_true] at hx
  simp only [RepR] at h ⊢
  exact ⟨h.1, scal1C_rep hx.1 h.2.1, scal1R_rep hx.2 h.2.2⟩
theorem scalX_rep {V' : View} {x : AV} {v : Value} (hx : scalX x = true) (h : Rep V G x v) : Rep V' G x v := by
 cases x
 case agg cs =>
  simp only [scalX] at hx
  simp only [Rep, RepP] at h ⊢
  obtain ⟨us, e, p⟩ := h
  exact ⟨us, e, scal0_rep hx p⟩
 all_goals (simp [scalX] at hx <;> exact h)
theorem scalXL_rep {V' : View} : ∀ {xs : List AV} {us : List Value}, xs.all scalX = true → RepL V G xs us → RepL V' G xs us
 | [], us, _, h => by simpa [RepL] using h
 | x :: xs, us, hx, h => by
  simp only [List.all_cons, Bool.and_eq_true] at hx
  simp only [RepL] at h ⊢
  obtain ⟨y, r, e, p, q⟩ := h
  exact ⟨y, r, e, scalX_rep hx.1 p, scalXL_rep hx.2 q⟩
theorem scalX_res {V' : View} {res : List AV} {val : Value} (hx : res.all scalX = true) (h : RepRes V G res val) : RepRes V' G res val := by
 match res, h with
 | [], h => exact h
 | [x], h =>
  simp only [List.all_cons, List.all_nil, Bool.and_true] at hx
  exact scalX_rep hx h
 | x :: y :: r, h =>
  obtain ⟨us, e, p⟩ := h
  exact ⟨us, e, scalXL_rep hx p⟩
theorem ObOk.scal {V' : View} {s : Sh} {ob : Ob} (hx : scalOb ob = true) (h : ObOk V G w s ob) : ObOk V' G w s ob := by
 cases s <;> cases ob <;> simp only [ObOk] at h ⊢
 ·obtain ⟨us, T, h1, h2, h3⟩ := h
  exact ⟨us, T, h1, scalXL_rep hx h2, h3⟩
 ·obtain ⟨us, T, h1, h2, h3⟩ := h
  exact ⟨us, T, h1, scal1L_rep hx h2, h3⟩
 ·obtain ⟨h1, h2, h3, h4, h5⟩ := h
  refine ⟨h1, h2, h3, h4, fun b o tot e => ?_⟩
  obtain ⟨us, T, g1, g2, g3, g4⟩ := h5 b o tot e
  exact ⟨us, T, g1, g2, g3, scal1R_rep hx g4⟩
 ·obtain ⟨h1, h2, h3, h4, h5⟩ := h
  refine ⟨h1, h2, h3, h4, fun b o tot e => ?_⟩
  obtain ⟨us, T, g1, g2, g3, g4, g5⟩ := h5 b o tot e
  exact ⟨us, T, g1, g2, g3, scalXL_rep hx g4, g5⟩
/-- The same, where the rest is lent; what comes back holds no addresses but of objects. -/
theorem call_coreY {f : Nat} {ys : List AV} {pass new : List Nat} {obs : List Ob} {R : List AV → List Ob → Prop} {vs : List Value} (hs : Sat W0 V0 Own V G w μ) (hk : keysOk (idxM 0 (pass ++ new)) = true) (hp : keysOk (idxM 0 pass) = true)
  (hobs : getObsM μ pass = some obs) (hfresh : allNoneM μ new = true) (hctr : Ctr P f ys (mapOb (idxM 0 pass) obs) R) (hlenR : ∀ res obs', R res obs' → obs'.length = pass.length + new.length ∧ res.all scalX = true ∧ obs'.all scalOb = true) (hlend : ∀ Vc : View, V.le Vc → Shows w G (hideM pass μ) Vc → RepL Vc (renC (idxM 0 pass) G) ys vs) :
  Calls P f vs.toArray w fun e w' => ∃ G' val res obs', R res obs' ∧ e = .returned val ∧ G.le G' ∧ Rep V G' (ren (invL (idxM 0 (pass ++ new))) (resA res)) val ∧
   Sat W0 V0 Own V G' w' (updO μ (zipU (pass ++ new) (mapOb (invL (idxM 0 (pass ++ new))) obs'))) := by
 have hsc0 : Sat w V (renC (idxM 0 pass) G).owns V (renC (idxM 0 pass) G) w (fun i => (mapOb (idxM 0 pass) obs)[i]?) := by
  have h1 := (hs.weak.ren hp (fun _ _ _ _ _ => trivial)).rebase
  have e : (fun i => (mapOb (idxM 0 pass) obs)[i]?) = renM (idxM 0 pass) μ := by
   funext i
   unfold renM
   rw [mapOb_get, getObsM_get hobs, idx_get, if_pos (Nat.zero_le _), Nat.sub_zero]
   cases pass[i]? <;> rfl
  rw [e]
  exact h1
 let Vc : View := fun b o => @ite _ (∃ k s, memK pass k = true ∧ G k = some s ∧ s.block = some b) (Classical.propDecidable _) (V b o) (w.cell? ⟨b, o, none⟩)
 have hVc : V.le Vc := fun b o v e => by
  show @ite _ _ (Classical.propDecidable _) _ _ = _
  split
  ·exact e
  ·exact hs.view b o v e
 have hmem : ∀ {i k : Nat}, pass[i]? = some k → memK pass k = true := fun e => memK_iff.2 (List.mem_of_getElem? e)
 have hGc0 : ∀ (i : Nat) s, renC (idxM 0 pass) G i = some s → ∃ k, pass[i]? = some k ∧ G k = some s := by
  intro i s e
  unfold renC at e
  rw [idx_get, if_pos (Nat.zero_le _), Nat.sub_zero] at e
  cases hk : pass[i]? with
  | none => rw [hk] at e; cases e
  | some k => rw [hk] at e; exact ⟨k, rfl, e⟩
 have hsc : Sat w Vc (renC (idxM 0 pass) G).owns Vc (renC (idxM 0 pass) G) w (fun i => (mapOb (idxM 0 pass) obs)[i]?) := {
  keep := hsc0.keep
  view := fun b o v e => by
   revert e
   show @ite _ _ (Classical.propDecidable _) _ _ = _ → _
   split
   ·exact hs.view b o v
   ·exact fun h => h
  vle := View.le_refl _
  vnew := fun _ _ _ => rfl
  obs := fun k ob e => by
   obtain ⟨s, h1, h2⟩ := hsc0.obs k ob e
   exact ⟨s, h1, h2.mono hVc (Ctx.le_refl _) fun _ _ => rfl⟩
  dom := hsc0.dom
  priv := fun k s b e hb => by
   obtain ⟨p1, p2, p3⟩ := hsc0.priv k s b e hb
   refine ⟨p1, p2, fun o => ?_⟩
   show @ite _ _ (Classical.propDecidable _) _ _ = _
   rw [if_pos]
   ·exact p3 o
   ·obtain ⟨k', h1, h2⟩ := hGc0 k s e
    exact ⟨k', s, hmem h1, h2, hb⟩
  inj := hsc0.inj
  loc := hsc0.loc
  glob := hsc0.glob.mono hVc }
 have hshow : Shows w G (hideM pass μ) Vc := fun k ob s b o v e hg hb hc => by
  show @ite _ _ (Classical.propDecidable _) _ _ = _
  rw [if_neg]
  ·exact hc
  ·rintro ⟨k', s', h1, h2, h3⟩
   have := hs.inj k k' s s' b hg h2 hb h3
   subst this
   unfold hideM at e
   rw [h1] at e
   cases e
 have hrepX := hlend Vc hVc hshow
 refine (hctr.2 Vc _ w vs hsc hrepX).mono ?_
 rintro e w' ⟨V', G', val, res, obs', hres, rfl, hrr, hle, hs'⟩
 obtain ⟨hlen, hscr, hsco⟩ := hlenR res obs' hres
 have hfar : ∀ b, w.heap.size ≤ b → ∀ o, V b o = none := fun b hb o => by
  cases hv : V b o with
  | none => rfl
  | some v =>
   have := cell_lt (hs.view b o v hv)
   omega
 have hdist := keysOk_distinct hk
 have hpl := getObsM_len hobs
 -- which objects the callee was given
 have hGc : ∀ (i : Nat) s, renC (idxM 0 pass) G i = some s → ∃ k, pass[i]? = some k ∧ G k = some s := by
  intro i s e
  unfold renC at e
  rw [idx_get, if_pos (Nat.zero_le _), Nat.sub_zero] at e
  cases hk : pass[i]? with
  | none => rw [hk] at e; cases e
  | some k => rw [hk] at e; exact ⟨k, rfl, e⟩
 have hGc' : ∀ (i k : Nat), pass[i]? = some k → renC (idxM 0 pass) G i = G k := by
  intro i k e
  unfold renC
  rw [idx_get, if_pos (Nat.zero_le _), Nat.sub_zero, e]
  rfl
 have hidx : ∀ (i k : Nat), (pass ++ new)[i]? = some k → optA (idxM 0 (pass ++ new)) k = some i := by
  intro i k e
  rw [← optA_inv hk, idx_get, if_pos (Nat.zero_le _), Nat.sub_zero]
  exact e
 have hidx' : ∀ (i k : Nat), optA (idxM 0 (pass ++ new)) k = some i → (pass ++ new)[i]? = some k := by
  intro i k e
  rw [← optA_inv hk, idx_get, if_pos (Nat.zero_le _), Nat.sub_zero] at e
  exact e
 have hpn : ∀ (i k : Nat), pass[i]? = some k → (pass ++ new)[i]? = some k := by
  intro i k e
  rw [List.getElem?_append_left (getElem?_lt e)]
  exact e
 have hnewk : ∀ (j i : Nat), optA (idxM 0 (pass ++ new)) j = some i → ∀ s, G j = some s → pass[i]? = some j := by
  intro j i e s hg
  have h1 := hidx' i j e
  rcases Nat.lt_or_ge i pass.length with hi | hi
  ·rw [List.getElem?_append_left hi] at h1
   exact h1
  ·exfalso
   rw [List.getElem?_append_right hi] at h1
   have hmem : j ∈ new := List.mem_of_getElem? h1
   have hno : μ j = none := by
    clear hs' hle hrr hctr hsc hrepX hsc0 hscr hsco hlenR hidx hidx' hdist hk hpn e h1 hlen hres hGc0 hfar
    clear hshow hlend
    clear hVc
    clear Vc
    induction new with
    | nil => cases hmem
    | cons x r ih =>
     simp only [allNoneM, Bool.and_eq_true] at hfresh
     rcases List.mem_cons.1 hmem with rfl | hmem
     ·have := hfresh.1
      split at this
      ·rename_i hx; exact hx
      ·cases this
     ·exact ih hfresh.2 hmem
   obtain ⟨ob, hob⟩ := hs.dom j s hg
   rw [hno] at hob
   cases hob
 have hown : ∀ b, (renC (idxM 0 pass) G).owns.own b → ∃ (i k : Nat) (s : Sh), pass[i]? = some k ∧ G k = some s ∧ s.block = some b := by
  rintro b ⟨i, s, e, hb⟩
  obtain ⟨k, h1, h2⟩ := hGc i s e
  exact ⟨i, k, s, h1, h2, hb⟩
 have hleG : G.le (fun j => match optA (idxM 0 (pass ++ new)) j with | some i => G' i | none => G j) := by
  intro j s hg
  simp only
  cases hj : optA (idxM 0 (pass ++ new)) j with
  | none => exact ⟨s, hg, s.le_refl⟩
  | some i => exact hle i s (by rw [hGc' i j (hnewk j i hj s hg)]; exact hg)
 have hback : ∀ (i k : Nat), optA (invL (idxM 0 (pass ++ new))) i = some k → (fun j => match optA (idxM 0 (pass ++ new)) j with | some i => G' i | none => G j) k = G' i := by
  intro i k e
  have := (optA_inv hk).1 e
  simp only [this]
 have hlenk : (pass ++ new).length = (mapOb (invL (idxM 0 (pass ++ new))) obs').length := by
  have : ∀ (l : List Ob), (mapOb (invL (idxM 0 (pass ++ new))) l).length = l.length := by
   intro l
   induction l with
   | nil => rfl
   | cons x r ih => simp [mapOb, ih]
  rw [this, hlen, List.length_append]
 have hput := fun j => zipU_upd (μ := μ) (j := j) hlenk hdist
 have hbsame : ∀ j s b, optA (idxM 0 (pass ++ new)) j = none → G j = some s → s.block = some b → w'.heap[b]? = w.heap[b]? := by
  intro j s b hj hg hb
  refine hs'.keep.block b (hs.priv j s b hg hb).1 fun hown' => ?_
  obtain ⟨i, k, s2, h1, h2, h3⟩ := hown b hown'
  have := hs.inj j k s s2 b hg h2 hb h3
  subst this
  rw [hidx i j (hpn i j h1)] at hj
  cases hj
 refine ⟨fun j => match optA (idxM 0 (pass ++ new)) j with | some i => G' i | none => G j, val, res, obs', hres, rfl, hleG, (scalX_res hscr hrr).rep.ren hback, ?_⟩
 refine ⟨?_, fun b o v e => ?_, hs.vle, hs.vnew, fun j ob e => ?_, fun j s e => ?_, fun j s b e hb => ?_, fun j j' s1 s2 b e1 e2 h1 h2 => ?_, fun j s b e hb hlt => ?_, hs.glob⟩
 ·refine hs.keep.of_le hs'.keep.os hs'.keep.tape hs'.keep.output hs'.keep.size fun b h1 h2 => ?_
  refine hs'.keep.block b (Nat.lt_of_lt_of_le h1 hs.keep.size) fun hown' => ?_
  obtain ⟨i, k, s, _, g2, g3⟩ := hown b hown'
  rcases (hs.priv k s b g2 g3).2.1 with g | g
  ·exact h2 g
  ·omega
 ·have hc := hs.view b o v e
  have hb := cell_lt hc
  have hno : ¬ (renC (idxM 0 pass) G).owns.own b := fun hown' => by
   obtain ⟨i, k, s, _, g2, g3⟩ := hown b hown'
   rw [(hs.priv k s b g2 g3).2.2 o] at e
   cases e
  have := hs'.keep.block b hb hno
  unfold World.cell? at hc ⊢
  rw [this]
  exact hc
 ·try simp only
  cases hj : optA (idxM 0 (pass ++ new)) j with
  | some i =>
   rw [(hput j).1 i (hidx' i j hj), mapOb_get, Option.map_eq_some_iff] at e
   obtain ⟨ob0, e0, rfl⟩ := e
   obtain ⟨s, hg, hob⟩ := hs'.obs i ob0 e0
   exact ⟨s, hg, (hob.scal (V' := V) (List.all_eq_true.1 hsco ob0 (List.mem_of_getElem? e0))).ren hback⟩
  | none =>
   rw [(hput j).2 fun i hi => by rw [hidx i j hi] at hj; cases hj] at e
   obtain ⟨s, hg, hob⟩ := hs.obs j ob e
   exact ⟨s, hg, hob.mono (View.le_refl _) hleG fun b hb => hbsame j s b hj hg hb⟩
 ·try simp only at e
  cases hj : optA (idxM 0 (pass ++ new)) j with
  | some i =>
   rw [hj] at e
   obtain ⟨ob, e0⟩ := hs'.dom i s e
   rw [(hput j).1 i (hidx' i j hj), mapOb_get, e0]
   exact ⟨_, rfl⟩
  | none =>
   rw [hj] at e
   obtain ⟨ob, e0⟩ := hs.dom j s e
   rw [(hput j).2 fun i hi => by rw [hidx i j hi] at hj; cases hj]
   exact ⟨ob, e0⟩
 ·try simp only at e
  cases hj : optA (idxM 0 (pass ++ new)) j with
  | some i =>
   rw [hj] at e
   obtain ⟨p1, p2, _⟩ := hs'.priv i s b e hb
   rcases p2 with p2 | p2
   ·obtain ⟨i', k, s2, _, g2, g3⟩ := hown b p2
    exact ⟨p1, (hs.priv k s2 b g2 g3).2.1, (hs.priv k s2 b g2 g3).2.2⟩
   ·exact ⟨p1, .inr (Nat.le_trans hs.keep.size p2), hfar b p2⟩
  | none =>
   rw [hj] at e
   obtain ⟨p1, p2, p3⟩ := hs.priv j s b e hb
   exact ⟨Nat.lt_of_lt_of_le p1 hs'.keep.size, p2, p3⟩
 ·have mixed : ∀ j j' i s1 s2, optA (idxM 0 (pass ++ new)) j = some i → optA (idxM 0 (pass ++ new)) j' = none → G' i = some s1 → G j' = some s2 → s1.block = some b → s2.block = some b → False := by
   intro j j' i s1 s2 hj hj' e1 e2 h1 h2
   have q := (hs.priv j' s2 b e2 h2).1
   rcases (hs'.priv i s1 b e1 h1).2.1 with p2 | p2
   ·obtain ⟨i', k, s3, g1, g2, g3⟩ := hown b p2
    have := hs.inj j' k s2 s3 b e2 g2 h2 g3
    subst this
    rw [hidx i' j' (hpn i' j' g1)] at hj'
    cases hj'
   ·omega
  try simp only at e1 e2
  cases hj : optA (idxM 0 (pass ++ new)) j with
  | some i =>
   rw [hj] at e1
   cases hj' : optA (idxM 0 (pass ++ new)) j' with
   | some i' =>
    rw [hj'] at e2
    have := hs'.inj i i' s1 s2 b e1 e2 h1 h2
    subst this
    have q1 := hidx' _ _ hj
    have q2 := hidx' _ _ hj'
    rw [q1] at q2
    cases q2
    rfl
   | none =>
    rw [hj'] at e2
    exact (mixed j j' i s1 s2 hj hj' e1 e2 h1 h2).elim
  | none =>
   rw [hj] at e1
   cases hj' : optA (idxM 0 (pass ++ new)) j' with
   | some i' =>
    rw [hj'] at e2
    exact (mixed j' j i' s2 s1 hj' hj e2 e1 h2 h1).elim
   | none =>
    rw [hj'] at e2
    exact hs.inj j j' s1 s2 b e1 e2 h1 h2
 ·try simp only at e
  cases hj : optA (idxM 0 (pass ++ new)) j with
  | some i =>
   rw [hj] at e
   obtain ⟨s0, e0, hb0⟩ := hs'.loc i s b e hb (Nat.lt_of_lt_of_le hlt hs.keep.size)
   obtain ⟨k, g1, g2⟩ := hGc i s0 e0
   have := hidx' i j hj
   rw [hpn i k g1] at this
   cases this
   exact hs.loc _ s0 b g2 hb0 hlt
  | none =>
   rw [hj] at e
   exact hs.loc j s b e hb hlt
/-- The same, where what is not handed on is lent; what comes back holds no addresses but of objects. -/
theorem call_coreX {f : Nat} {xs : List AV} {pass new : List Nat} {obs : List Ob} {R : List AV → List Ob → Prop} {vs : List Value} (hs : Sat W0 V0 Own V G w μ) (hk : keysOk (idxM 0 (pass ++ new)) = true) (hp : keysOk (idxM 0 pass) = true)
  (hobs : getObsM μ pass = some obs) (hfresh : allNoneM μ new = true) (hctr : Ctr P f (xs.map (xbor pass μ)) (mapOb (idxM 0 pass) obs) R) (hlenR : ∀ res obs', R res obs' → obs'.length = pass.length + new.length ∧ res.all scalX = true ∧ obs'.all scalOb = true) (hrep : RepL V G xs vs) :
  Calls P f vs.toArray w fun e w' => ∃ G' val res obs', R res obs' ∧ e = .returned val ∧ G.le G' ∧ Rep V G' (ren (invL (idxM 0 (pass ++ new))) (resA res)) val ∧
   Sat W0 V0 Own V G' w' (updO μ (zipU (pass ++ new) (mapOb (invL (idxM 0 (pass ++ new))) obs'))) := by
 refine call_coreY hs hk hp hobs hfresh hctr hlenR fun Vc hVc hshow => ?_
 have hobs0 : ObsOk V G w (hideM pass μ) := fun k ob e => hs.obs k ob (by
  unfold hideM at e
  cases hk : memK pass k <;> rw [hk] at e
  ·exact e
  ·cases e)
 have one : ∀ {x : AV} {v : Value}, Rep V G x v → Rep Vc (renC (idxM 0 pass) G) (xbor pass μ x) v := by
  intro x v h
  have hb : Rep Vc (renC (idxM 0 pass) G) (bor (hideM pass μ) x) v := (bor_rep hobs0 hVc hshow h).mono (View.le_refl _) (fun k s e => by cases e)
  unfold xbor
  split
  ·rename_i k hk
   cases memK pass k
   ·exact hb
   ·exact (h.ren (renC_spec hp)).mono hVc (Ctx.le_refl _)
  ·exact hb
 clear hctr
 revert hrep
 induction xs generalizing vs with
 | nil => intro h; simpa [RepL] using h
 | cons x xs ih =>
  intro h
  simp only [List.map_cons, RepL] at h ⊢
  obtain ⟨y, r, e, p, q⟩ := h
  exact ⟨y, r, e, one p, ih q⟩
theorem snd_callx {d : Option Nat} {c : Cal} {args : List Arg} {pass new : List Nat} (hd : o.dst = d) (hok : okOp' P o (.callx d c args pass new) = true) (h : opR P (.callx d c args pass new) ρ μ v u acc) (hA : ArgsOk V G ρ a (AOp.callx d c args pass new).args) (hs : Sat W0 V0 Own V G w μ) :
  Done W0 V0 Own P o a w V G μ v u := by
 obtain ⟨f, caps, obs, res, obs', hcal, hco, hobs, hfresh, hctr, hlen, hsr, hso, rfl, rfl, rfl⟩ := h
 simp only [okOp', Bool.and_eq_true] at hok
 have hA' : ArgsOk V G ρ a (calArgs c args) := by cases c <;> exact hA
 obtain ⟨vs, hr, hrep⟩ := run_call (w := w) (args := args) hok.1.1 hctr.1 hcal hco hA'
 intro next Q hn
 unfold Oper.wp
 rw [hr, Oper.upon_enter]
 refine (call_coreX hs hok.1.2 hok.2 hobs hfresh hctr (fun r o h => by rw [h.1, h.2]; exact ⟨hlen, hsr, hso⟩) hrep).mono ?_
 rintro e w' ⟨G', val, res', obs2, ⟨rfl, rfl⟩, rfl, hG, hv, hs'⟩
 exact hn val w' V G' hv (View.le_refl _) hG hs'
theorem lendL_rep {Vx : View} {xs ys : List AV} {ks : List Nat} (h : LendL μ xs ys ks) (hs : ObsOk V G w μ) (hV : V.le Vx) (hX : Shows w G μ Vx) : ∀ {vs : List Value}, RepL V G xs vs → RepPL Vx ys vs := by
 induction h with
 | nil =>
  intro vs hr
  simp only [RepL] at hr
  simp only [RepPL]
  exact hr
 | pure hp _ ih =>
  intro vs hr
  simp only [RepL] at hr
  obtain ⟨v, r, rfl, hx, hr⟩ := hr
  simp only [RepPL]
  exact ⟨v, r, rfl, (hx.pure hp).mono hV, ih hr⟩
 | @ref k off cs zs xs ys k1 ks hm _ ho _ ih1 ih2 =>
  intro vs hr
  simp only [RepL] at hr
  obtain ⟨v, r, rfl, hx, hr⟩ := hr
  simp only [RepPL]
  refine ⟨v, r, rfl, ?_, ih2 hr⟩
  simp only [Rep] at hx
  obtain ⟨b, hg, rfl⟩ := hx
  obtain ⟨s, hgs, hob⟩ := hs k _ hm
  rw [hg] at hgs
  cases hgs
  obtain ⟨us, T, hh, hrl, h1⟩ := hob
  simp only [RepP]
  refine ⟨b, off, rfl, ?_⟩
  have hc : RepC Vx (Vx b) 0 zs := RepC.of_vals (ih1 hrl) fun j u hu => by
   rw [Nat.zero_add]
   exact ⟨hX k _ _ b j u hm hg rfl (cell_of hh hu), h1 u (List.mem_of_getElem? hu)⟩
  have := hc.drop off
  rwa [Nat.zero_add] at this
 | @pref k off cs xs ys ks hm _ ih =>
  intro vs hr
  simp only [RepL] at hr
  obtain ⟨v, r, rfl, hx, hr⟩ := hr
  simp only [RepPL]
  refine ⟨v, r, rfl, ?_, ih hr⟩
  simp only [Rep] at hx
  obtain ⟨b, hg, rfl⟩ := hx
  obtain ⟨s, hgs, hob⟩ := hs k _ hm
  rw [hg] at hgs
  cases hgs
  obtain ⟨us, T, hh, hrl, h1⟩ := hob
  simp only [RepP]
  refine ⟨b, off, rfl, ?_⟩
  have hc : RepC Vx (Vx b) 0 cs := RepC.of_vals (hrl.mono hV) fun j u hu => by
   rw [Nat.zero_add]
   exact ⟨hX k _ _ b j u hm hg rfl (cell_of hh hu), h1 u (List.mem_of_getElem? hu)⟩
  have := hc.drop off
  rwa [Nat.zero_add] at this
 | @hs k ver off len esz rs xs ys ks hm _ ih =>
  intro vs hr
  simp only [RepL] at hr
  obtain ⟨v, r, rfl, hx, hr⟩ := hr
  simp only [RepPL]
  refine ⟨v, r, rfl, ?_, ih hr⟩
  have := bor1_rep hs hV hX hx
  simp only [bor1, hm, if_true] at this
  simpa only [Rep] using this
 | @hsr k ver off len cs zs xs ys k1 ks hm hl ho _ ih1 ih2 =>
  intro vs hr
  simp only [RepL] at hr
  obtain ⟨v, r, rfl, hx, hr⟩ := hr
  simp only [RepPL]
  refine ⟨v, r, rfl, ?_, ih2 hr⟩
  obtain ⟨loc, A, cap, hg, hv, hlc, hol, hnc, hq⟩ := hs_openR hs hx hm
  simp only [RepP]
  rcases hq with ⟨rfl, rfl, rfl, rfl⟩ | ⟨b, of, tot, us, T, rfl, hA, htot, hh, ht, hle, hrl, h1⟩
  ·have h0 : len = 0 := by simp at hol; omega
   subst h0
   exact ⟨none, 0, by simpa using hv, by simp, .inl (by simp)⟩
  ·have hz := ih1 hrl
   have hzl : zs.length = cs.length := by
    have e1 := hz.length
    have e2 := hrl.length
    omega
   have hlen : (((zs.drop off).take len).map fun c => [c]).length = len := by simp; omega
   refine ⟨A, cap, by rw [hlen]; exact hv, by rw [hlen]; exact hlc, ?_⟩
   by_cases h0 : len = 0
   ·left; rw [h0]; simp
   ·right
    refine ⟨_, _, 1, hA.resolve_left (by omega), ?_⟩
    have hc : RepC Vx (Vx b) of zs := RepC.of_vals hz fun j u hu => by
     have hmem := List.mem_of_getElem? hu
     rw [List.getElem?_take] at hu
     by_cases hj : j < cs.length
     ·rw [if_pos hj, List.getElem?_drop] at hu
      exact ⟨hX k _ _ b (of + j) u hm hg rfl (cell_of hh hu), h1 u hmem⟩
     ·rw [if_neg hj] at hu
      cases hu
    exact RepC.rows1 ((hc.drop off).take len)
theorem argL_rep {Vx : View} {pass : List Nat} {xs ys : List AV} {ks : List Nat} (h : ArgL μ pass xs ys ks) (hp : keysOk (idxM 0 pass) = true) (hs : ObsOk V G w (hideM pass μ)) (hV : V.le Vx) (hX : Shows w G (hideM pass μ) Vx) : ∀ {vs : List Value}, RepL V G xs vs → RepL Vx (renC (idxM 0 pass) G) ys vs := by
 induction h with
 | nil =>
  intro vs hr
  simpa only [RepL] using hr
 | pass _ _ _ ih =>
  intro vs hr
  simp only [RepL] at hr ⊢
  obtain ⟨v, r, rfl, hx, hr⟩ := hr
  exact ⟨v, r, rfl, (hx.ren (renC_spec hp)).mono hV (Ctx.le_refl _), ih hr⟩
 | lend hl _ ih =>
  intro vs hr
  simp only [RepL] at hr ⊢
  obtain ⟨v, r, rfl, hx, hr⟩ := hr
  have := lendL_rep hl hs hV hX (vs := [v]) (by simp only [RepL]; exact ⟨v, [], rfl, hx, rfl⟩)
  simp only [RepPL] at this
  obtain ⟨v', r', e, hy, _⟩ := this
  obtain ⟨rfl, rfl⟩ := List.cons.inj e
  exact ⟨v, r, rfl, hy.rep _, ih hr⟩
theorem obs_hide (hs : Sat W0 V0 Own V G w μ) {pass : List Nat} : ObsOk V G w (hideM pass μ) := fun k ob e => hs.obs k ob (by
 unfold hideM at e
 cases hk : memK pass k <;> rw [hk] at e
 ·exact e
 ·cases e)
theorem snd_calle {d : Option Nat} {c : Cal} {args : List Arg} (hd : o.dst = d) (hok : okOp' P o (.calle d c args) = true) (h : opR P (.calle d c args) ρ μ v u acc) (hA : ArgsOk V G ρ a (AOp.calle d c args).args) (hs : Sat W0 V0 Own V G w μ) :
  Done W0 V0 Own P o a w V G μ v u := by
 obtain ⟨pass, new, ys, ks, f, caps, obs, res, obs', hcal, hco, ⟨hk, hp⟩, hobs, hfresh, harg, hctr, hlen, hsr, hso, rfl, rfl, rfl⟩ := h
 simp only [okOp'] at hok
 have hA' : ArgsOk V G ρ a (calArgs c args) := by cases c <;> exact hA
 obtain ⟨vs, hr, hrep⟩ := run_call (w := w) (args := args) hok hctr.1 hcal hco hA'
 intro next Q hn
 unfold Oper.wp
 rw [hr, Oper.upon_enter]
 refine (call_coreY hs hk hp hobs hfresh hctr (fun r o h => by rw [h.1, h.2]; exact ⟨hlen, hsr, hso⟩) fun Vc hVc hshow => argL_rep harg hp (obs_hide hs) hVc hshow hrep).mono ?_
 rintro e w' ⟨G', val, res', obs2, ⟨rfl, rfl⟩, rfl, hG, hv, hs'⟩
 exact hn val w' V G' hv (View.le_refl _) hG hs'
theorem snd_callo {d : Option Nat} {c : Cal} {args : List Arg} {pass new : List Nat} (hd : o.dst = d) (hok : okOp' P o (.callo d c args pass new) = true) (h : opR P (.callo d c args pass new) ρ μ v u acc) (hA : ArgsOk V G ρ a (AOp.callo d c args pass new).args) (hs : Sat W0 V0 Own V G w μ) :
  Done W0 V0 Own P o a w V G μ v u := by
 obtain ⟨f, caps, obs, res, obs', hcal, hco, hobs, hfresh, hctr, hlen, rfl, rfl, rfl⟩ := h
 simp only [okOp', Bool.and_eq_true] at hok
 have hA' : ArgsOk V G ρ a (calArgs c args) := by cases c <;> exact hA
 obtain ⟨vs, hr, hrep⟩ := run_call (w := w) (args := args) hok.1.1 hctr.1 hcal hco hA'
 intro next Q hn
 unfold Oper.wp
 rw [hr, Oper.upon_enter]
 refine (call_core hs hok.1.2 hok.2 hobs hfresh hctr (fun r o h => by rw [h.2]; exact hlen) hrep).mono ?_
 rintro e w' ⟨V', G', val, res', obs2, ⟨rfl, rfl⟩, rfl, hV, hG, hv, hs'⟩
 exact hn val w' V' G' hv hV hG hs'
theorem okOffs_fillM {fs : Array Field} {places : Array (Nat × Nat)} (hpl : ∀ (i : Nat) (f : Field), fs[i]? = some f → places[i]? = some (f.offset, P.cellsOf f.type)) :
  ∀ {ps : List (Nat × Operand)} {parts : List (Nat × Nat × Arg)} {z : List AV} {cs : Array Value}, okOffs P fs ps parts = true → (∀ p ∈ parts, ∀ y, okA p.2.2 y = true → Rep V G (ρ p.2.2) (a.eval y)) →
   (∀ p ∈ parts, cellM (ρ p.2.2) = true ∧ (cellsM (ρ p.2.2)).length = p.2.1 ∧ p.1 + p.2.1 ≤ z.length) → RepL V G z cs.toList →
   ∃ cs', Instr.fill (places[·]?) cs (ps.map fun p => (p.1, a.eval p.2)) = some cs' ∧ RepL V G (fillM ρ parts z) cs'.toList
 | [], [], z, cs, _, _, _, hz => ⟨cs, rfl, hz⟩
 | [], p :: r, z, cs, h, _, _, _ => by simp [okOffs] at h
 | (i, y) :: ps, [], z, cs, h, _, _, _ => by simp [okOffs] at h
 | (i, y) :: ps, (off, n, x) :: parts, z, cs, h, hA, hl, hz => by
  simp only [okOffs, Bool.and_eq_true] at h
  obtain ⟨⟨h1, h2⟩, h3⟩ := h
  split at h1
  ·rename_i f hf
   simp only [Bool.and_eq_true] at h1
   have ho := Nat.eq_of_beq_eq_true h1.1
   have hn := Nat.eq_of_beq_eq_true h1.2
   have hx := hA _ List.mem_cons_self _ h2
   have hlx := hl _ List.mem_cons_self
   simp only at hx hlx
   have hc := hx.cellsM hlx.1
   have hcl : (a.eval y).cells.size = n := by
    have := hc.length
    rw [Array.length_toList] at this
    omega
   have hzl : cs.size = z.length := by
    have := hz.length
    rwa [Array.length_toList] at this
   obtain ⟨cs', h4, h5⟩ := fill_step (place := (places[·]?)) (i := i) (off := off) (x := a.eval y) (rest := ps.map fun p => (p.1, a.eval p.2)) (cs := cs) (by rw [hpl i f hf, ho, hn, hcl]) (by omega)
   have h6 : RepL V G (setAt z off (cellsM (ρ x))) cs'.toList := by
    rw [h4]
    exact setAt_repL hz hc
   have hl6 : (setAt z off (cellsM (ρ x))).length = z.length := by
    simp [setAt]
    omega
   obtain ⟨cs2, h7, h8⟩ := okOffs_fillM hpl (ps := ps) (parts := parts) (z := setAt z off (cellsM (ρ x))) (cs := cs') h3 (fun p hp => hA p (List.mem_cons_of_mem _ hp)) (fun p hp => by rw [hl6]; exact hl p (List.mem_cons_of_mem _ hp)) h6
   exact ⟨cs2, by rw [List.map_cons, h5, h7], h8⟩
  ·cases h1
theorem okOffsA_fillM {sz : Nat} :
  ∀ {ps : List (Nat × Operand)} {parts : List (Nat × Nat × Arg)} {z : List AV} {cs : Array Value}, okOffsA sz ps parts = true → (∀ p ∈ parts, ∀ y, okA p.2.2 y = true → Rep V G (ρ p.2.2) (a.eval y)) →
   (∀ p ∈ parts, cellM (ρ p.2.2) = true ∧ (cellsM (ρ p.2.2)).length = p.2.1 ∧ p.1 + p.2.1 ≤ z.length) → RepL V G z cs.toList →
   ∃ cs', Instr.fill (fun i => some (i * sz, sz)) cs (ps.map fun p => (p.1, a.eval p.2)) = some cs' ∧ RepL V G (fillM ρ parts z) cs'.toList
 | [], [], z, cs, _, _, _, hz => ⟨cs, rfl, hz⟩
 | [], p :: r, z, cs, h, _, _, _ => by simp [okOffsA] at h
 | (i, y) :: ps, [], z, cs, h, _, _, _ => by simp [okOffsA] at h
 | (i, y) :: ps, (off, n, x) :: parts, z, cs, h, hA, hl, hz => by
  simp only [okOffsA, Bool.and_eq_true] at h
  obtain ⟨⟨⟨h1, h1'⟩, h2⟩, h3⟩ := h
  have ho := Nat.eq_of_beq_eq_true h1
  have hn := Nat.eq_of_beq_eq_true h1'
  have hx := hA _ List.mem_cons_self _ h2
  have hlx := hl _ List.mem_cons_self
  simp only at hx hlx
  have hc := hx.cellsM hlx.1
  have hcl : (a.eval y).cells.size = sz := by
   have := hc.length
   rw [Array.length_toList] at this
   omega
  have hzl : cs.size = z.length := by
   have := hz.length
   rwa [Array.length_toList] at this
  obtain ⟨cs', h4, h5⟩ := fill_step (place := fun i => some (i * sz, sz)) (i := i) (off := off) (x := a.eval y) (rest := ps.map fun p => (p.1, a.eval p.2)) (cs := cs) (by rw [hcl, ho]) (by omega)
  have h6 : RepL V G (setAt z off (cellsM (ρ x))) cs'.toList := by
   rw [h4]
   exact setAt_repL hz hc
  have hl6 : (setAt z off (cellsM (ρ x))).length = z.length := by
   simp [setAt]
   omega
  obtain ⟨cs2, h7, h8⟩ := okOffsA_fillM (ps := ps) (parts := parts) (z := setAt z off (cellsM (ρ x))) (cs := cs') h3 (fun p hp => hA p (List.mem_cons_of_mem _ hp)) (fun p hp => by rw [hl6]; exact hl p (List.mem_cons_of_mem _ hp)) h6
  exact ⟨cs2, by rw [List.map_cons, h5, h7], h8⟩
theorem snd_buildm {d : Nat} {zero : List AV} {parts : List (Nat × Nat × Arg)} (hok : okOp' P o (.buildm d zero parts) = true) (h : opR P (.buildm d zero parts) ρ μ v u acc) (hA : ArgsOk V G ρ a (AOp.buildm d zero parts).args) (hs : Sat W0 V0 Own V G w μ) :
  Done W0 V0 Own P o a w V G μ v u := by
 obtain ⟨hp, rfl, rfl, rfl⟩ := h
 simp only [okOp'] at hok
 split at hok
 ·rename_i t ps ho
  simp only [Bool.and_eq_true] at hok
  obtain ⟨hz, h2⟩ := hok
  obtain ⟨i, z, hi, hz, hc, hl, h1⟩ := okZero_spec hz
  split at h2
  ·rename_i fs hu
   simp only [Bool.and_eq_true] at h2
   obtain ⟨h3, h4⟩ := h2
   obtain ⟨cs', h5, h6⟩ := okOffs_fillM (P := P) (V := V) (G := G) (ρ := ρ) (a := a) (fs := fs) (places := (fs.toList.map fun f => (f.offset, P.cellsOf f.type)).toArray) (fun i f hf => by simp [hf]) (z := zero) (cs := z.cells) h4
    (fun p hp' y hy => hA _ (by simp only [AOp.args, List.mem_map]; exact ⟨p, hp', rfl⟩) y hy) hp ((okCL_rep V hc).rep G)
   refine done_pure hs (val := .agg cs') ?_ ?_
   ·rw [execOp, ho]
    refine run_v ?_
    have hm : (fs.mapM fun f => (do pure (f.offset, ← sizeOf f.type) : Sem (Nat × Nat))).run P w = .ok (fs.toList.map fun f => (f.offset, P.cellsOf f.type)).toArray w := by
     rw [Array.mapM_eq_mapM_toList, Sem.run_map, mapM_fields h3]
     rfl
    simp only [Instr.build, zeroValue, typeInfo, Sem.run_bind, run_program, Result.andThen_ok, hi, Sem.run_pure, hz, run_und hu, hm]
    have h7 : (ps.map fun p => (p.1, a.eval p.2)).toList = ps.toList.map fun p => (p.1, a.eval p.2) := by simp
    rw [show (Array.map (fun (x : Nat × Operand) => match x with | (i, x) => (i, a.eval x)) ps).toList = ps.toList.map fun p => (p.1, a.eval p.2) from h7, h5]
    rfl
   ·simp only [Rep]
    exact ⟨cs'.toList, by simp, h6⟩
  ·rename_i m e hu
   simp only [Bool.and_eq_true] at h2
   obtain ⟨h3, h4⟩ := h2
   obtain ⟨cs', h5, h6⟩ := okOffsA_fillM (V := V) (G := G) (ρ := ρ) (a := a) (z := zero) (cs := z.cells) h4
    (fun p hp' y hy => hA _ (by simp only [AOp.args, List.mem_map]; exact ⟨p, hp', rfl⟩) y hy) hp ((okCL_rep V hc).rep G)
   refine done_pure hs (val := .agg cs') ?_ ?_
   ·rw [execOp, ho]
    refine run_v ?_
    simp only [Instr.build, zeroValue, typeInfo, Sem.run_bind, run_program, Result.andThen_ok, hi, Sem.run_pure, hz, run_und hu, run_size h3]
    have h7 : (ps.map fun p => (p.1, a.eval p.2)).toList = ps.toList.map fun p => (p.1, a.eval p.2) := by simp
    rw [show (Array.map (fun (x : Nat × Operand) => match x with | (i, x) => (i, a.eval x)) ps).toList = ps.toList.map fun p => (p.1, a.eval p.2) from h7, h5]
    rfl
   ·simp only [Rep]
    exact ⟨cs'.toList, by simp, h6⟩
  ·cases h2
 ·cases hok
theorem snd_boxg {d key : Nat} {x : Arg} (hok : okOp' P o (.boxg d key x) = true) (h : opR P (.boxg d key x) ρ μ v u acc) (hA : ArgsOk V G ρ a (AOp.boxg d key x).args) (hs : Sat W0 V0 Own V G w μ) :
  Done W0 V0 Own P o a w V G μ v u := by
 obtain ⟨hcm, h1, hm, rfl, rfl, rfl⟩ := h
 simp only [okOp'] at hok
 split at hok
 ·rename_i t px ho
  have hx := hA _ (by simp [AOp.args]) _ hok
  have hc := hx.cellsM hcm
  have hle := Ctx.le_new (s := .box w.heap.size) (hs.fresh hm)
  have hs' := hs.newOb (s := .box w.heap.size) (ob := .box (cellsM (ρ x))) (.cells (a.eval px).cells t) hm rfl (by
   simp only [ObOk]
   exact ⟨(a.eval px).cells.toList, t, heap_alloc_new, hc.mono (View.le_refl _) hle, hc.oneAll h1⟩)
  refine done_w (μ := μ) (u := [(key, .box (cellsM (ρ x)))]) hs' (val := .pointer (some ⟨w.heap.size, 0, none⟩)) ?_ ?_ (View.le_refl _) hle
  ·rw [execOp, ho]
   refine run_v ?_
   simp only [Instr.box, Sem.run_bind, run_newVar, Result.andThen_ok, Sem.run_pure]
  ·simp only [Rep]
   exact ⟨_, if_pos trivial, rfl⟩
 ·cases hok
theorem run_mkif {t : TypeId} {x : Value} (h : concT P t = true) : (Instr.makeInterface t x).run P w = .ok (.iface t x) w := by
 unfold concT at h
 cases hd : P.underlying t with
 | none => simp [hd] at h
 | some d => cases d <;> first | (simp [hd] at h; done) | simp [Instr.makeInterface, run_und hd]
theorem snd_mkif {d : Nat} {t : TypeId} {x : Arg} (hok : okOp' P o (.mkif d t x) = true) (h : opR P (.mkif d t x) ρ μ v u acc) (hA : ArgsOk V G ρ a (AOp.mkif d t x).args) (hs : Sat W0 V0 Own V G w μ) :
  Done W0 V0 Own P o a w V G μ v u := by
 obtain ⟨rfl, rfl, rfl⟩ := h
 simp only [okOp'] at hok
 split at hok
 ·rename_i t' px ho
  simp only [Bool.and_eq_true] at hok
  obtain ⟨⟨h1, h2⟩, h3⟩ := hok
  have := Nat.eq_of_beq_eq_true h1
  subst this
  have hx := hA _ (by simp [AOp.args]) _ h2
  refine done_pure hs (val := .iface t (a.eval px)) (by rw [execOp, ho]; exact run_v (run_mkif h3)) ?_
  cases hp : isP (ρ x) with
  | true =>
   simp only [cond_true, Rep, RepP]
   exact ⟨_, rfl, hx.pure hp⟩
  | false =>
   simp only [cond_false, Rep]
   exact ⟨_, rfl, hx⟩
 ·cases hok
theorem snd_tass {d : Nat} {t : TypeId} {x : Arg} (hok : okOp' P o (.tass d t x) = true) (h : opR P (.tass d t x) ρ μ v u acc) (hA : ArgsOk V G ρ a (AOp.tass d t x).args) (hs : Sat W0 V0 Own V G w μ) :
  Done W0 V0 Own P o a w V G μ v u := by
 obtain ⟨⟨z, hz, rfl⟩, rfl, rfl⟩ := h
 simp only [okOp'] at hok
 split at hok
 ·rename_i px xt ast ok ho
  simp only [Bool.and_eq_true] at hok
  obtain ⟨⟨⟨h1, h2⟩, rfl⟩, h3⟩ := hok
  have := Nat.eq_of_beq_eq_true h1
  subst this
  have hx := hA _ (by simp [AOp.args]) _ h2
  rw [hz] at hx
  simp only [Rep, RepP] at hx
  obtain ⟨u, hu, hr⟩ := hx
  refine done_pure hs (val := .tuple #[u, .bool true]) ?_ ?_
  ·rw [execOp, ho]
   refine run_v ?_
   unfold concT at h3
   cases hd : P.underlying t with
   | none => simp [hd] at h3
   | some d =>
    simp only [Instr.typeAssert, Sem.run_bind, run_und hd, Result.andThen_ok, hu]
    cases d <;> first | (simp [hd] at h3; done) | simp
  ·simp only [Rep]
   refine ⟨[u, .bool true], rfl, ?_⟩
   simp only [RepL]
   exact ⟨u, _, rfl, hr.rep G, _, [], rfl, rfl, rfl⟩
 ·cases hok
theorem eqsl {e t t' : Nat} {A : Option Addr} {l c : Nat} (hu : P.underlying t = some (.slice t')) : (Op.equalIn (e + 1) t (.slice A l c) (.slice none 0 0)).run P w = .ok A.isNone w := by cases A <;> simp [Op.equalIn, run_und hu]
theorem snd_eqs {d : Nat} {neg : Bool} {x : Arg} (hok : okOp' P o (.eqs d neg x) = true) (h : opR P (.eqs d neg x) ρ μ v u acc) (hA : ArgsOk V G ρ a (AOp.eqs d neg x).args) (hs : Sat W0 V0 Own V G w μ) :
  Done W0 V0 Own P o a w V G μ v u := by
 obtain ⟨h, rfl, rfl⟩ := h
 simp only [okOp'] at hok
 split at hok
 ·rename_i op' t px py yt ho
  simp only [Bool.and_eq_true, decide_eq_true_eq] at hok
  obtain ⟨⟨⟨hop, h1⟩, h2⟩, h3⟩ := hok
  split at h3
  ·rename_i e hu
   have hx := hA _ (by simp [AOp.args]) _ h1
   have hy : a.eval py = .slice none 0 0 := by
    cases py with
    | const c =>
     simp only [okA] at h2
     cases c with
     | slice b l c =>
      cases b <;> cases l <;> cases c <;> simp [okC] at h2
      rfl
     | _ => simp [okC] at h2
    | _ => simp [okA] at h2
   have run : ∀ (A : Option Addr) (l c : Nat), a.eval px = .slice A l c → (execOp a.eval o).run P w = .ok (.value (.bool (bif neg then !A.isNone else A.isNone))) w := by
    intro A l c hv
    rw [execOp, ho]
    refine run_v ?_
    rw [hv, hy]
    have hg : (eqGuard op' t px py (.slice A l c) (.slice none 0 0)).run P w = .ok () w := by
     unfold eqGuard
     cases op' <;> rfl
    exact run_neg (r := A.isNone) hop hg (eqsl (e := 9999) hu) (by simp) (by simp) (by simp) (by simp)
   rcases h with ⟨c, xs, hz, rfl⟩ | ⟨xs, hz, rfl⟩ | ⟨k, ver, off, len, hz, rfl⟩
   ·obtain ⟨A, cap, hv, hcap, hr⟩ := rep_sl hz hx
    rcases hr with hr | ⟨b, of, esz, rfl, hr⟩
    ·cases hr
    ·refine done_pure hs (run _ _ _ hv) ?_
     simp only [Rep, RepP, Option.isNone_some, Bool.not_false]
     cases neg <;> rfl
   ·obtain ⟨A, cap, hv, hcap, hr⟩ := rep_sl hz hx
    refine done_pure hs (run _ _ _ hv) ?_
    simp only [Rep, RepP]
    exact ⟨_, rfl⟩
   ·rw [hz] at hx
    simp only [Rep] at hx
    obtain ⟨⟨A, cap, hv⟩, _⟩ := hx
    refine done_pure hs (run _ _ _ hv) ?_
    simp only [Rep, RepP]
    exact ⟨_, rfl⟩
  ·cases h3
 ·cases hok
/-- All operations. -/
theorem op_sound {N : Nat} {x : AOp} (hok : okOp P N o x = true) (h : opR P x ρ μ v u acc) (hA : ArgsOk V G ρ a x.args) (hs : Sat W0 V0 Own V G w μ) : Done W0 V0 Own P o a w V G μ v u := by
 simp only [okOp, Bool.and_eq_true, decide_eq_true_eq] at hok
 obtain ⟨⟨hd, hN⟩, hok⟩ := hok
 cases x
 case mov => exact snd_mov hok h hA hs
 case bin => exact snd_bin hok h hA hs
 case eq => exact snd_eq hok h hA hs
 case un => exact snd_un hok h hA hs
 case conv => exact snd_conv hok h hA hs
 case len => exact snd_len hok h hA hs
 case slen => exact snd_slen hok h hA hs
 case idx => exact snd_idx hok h hA hs
 case aix => exact snd_aix hok h hA hs
 case fad => exact snd_fad hok h hA hs
 case load => exact snd_load hok h hA hs
 case store => exact snd_store hd hok h hA hs
 case boxp => exact snd_boxp hok h hA hs
 case boxo => exact snd_boxo hok h hA hs
 case boxm => exact snd_boxm hok h hA hs
 case alloc => exact snd_alloc hok h hA hs
 case alloca => exact snd_alloca hok h hA hs
 case allocm => exact snd_allocm hok h hA hs
 case nilarr => exact snd_nilarr hok h hA hs
 case build => exact snd_build hok h hA hs
 case bslp => exact snd_bslp hok h hA hs
 case bslo => exact snd_bslo hok h hA hs
 case slc => exact snd_slc hok h hA hs
 case sslc => exact snd_sslc hok h hA hs
 case slc3 => exact snd_slc3 hok h hA hs
 case sidx => exact snd_sidx hok h hA hs
 case mkfn => exact snd_mkfn hok h hA hs
 case ext => exact snd_ext hok h hA hs
 case pick => exact snd_pick hok h hA hs
 case callf => exact snd_callf hd hok h hA hs
 case callb => exact snd_callb hd hok h hA hs
 case appd => exact snd_appd hok h hA hs
 case clear => exact snd_clear hd hok h hA hs
 case mxn => exact snd_mxn hok h hA hs
 case field => exact snd_field hok h hA hs
 case nilc => exact snd_nilc hok h hA hs
 case make => exact snd_make hok h hA hs
 case makeb => exact snd_makeb hok h hA hs
 case buildm => exact snd_buildm hok h hA hs
 case boxg => exact snd_boxg hok h hA hs
 case mkif => exact snd_mkif hok h hA hs
 case tass => exact snd_tass hok h hA hs
 case eqs => exact snd_eqs hok h hA hs
 case callo => exact snd_callo hd hok h hA hs
 case mkmv => exact snd_mkmv hok h hA hs
 case callx => exact snd_callx hd hok h hA hs
 case calle => exact snd_calle hd hok h hA hs
 case vidx => exact snd_vidx hok h hA hs
 case bslr => exact snd_bslr hok h hA hs
 case ridx => exact snd_ridx hok h hA hs
 case rload => exact snd_rload hok h hA hs
 case rapp => exact snd_rapp hok h hA hs
end
end Go.AM
