/- The abstract machine's operations are the program's: append, clear, make. -/
import Derived.Test.YtmmgdilhbkklpaaAMN
namespace Go.AM
open Go
set_option linter.unusedVariables false
set_option linter.unusedSimpArgs false
section
variable {W0 : World} {V0 : View} {Own : Fra} {P : Program} {o : Oper} {a : Act} {w : World} {V : View} {G : Ctx} {μ : Nat → Option Ob} {ρ : Arg → AV} {v : AV} {u : List (Nat × Ob)} {acc : Acc}
/-- What is known of an array and a slice of it. -/
theorem hs_open {k ver off len esz : Nat} {xs : List (List AV)} {x : Value} (hs : Sat W0 V0 Own V G w μ) (hx : Rep V G (.hs k ver off len) x) (hm : μ k = some (.arr ver esz xs)) :
    ∃ loc A cap, G k = some (.arr ver esz xs.length loc) ∧ x = .slice A len cap ∧ len ≤ cap ∧ off + len ≤ xs.length ∧ xs.length ≤ off + cap ∧
      ((loc = none ∧ A = none ∧ cap = 0 ∧ xs = []) ∨ ∃ (b of tot : Nat) (us : List Value) (T : TypeId), loc = some (b, of, tot) ∧ (cap = 0 ∨ A = some ⟨b, of + off * esz, none⟩) ∧ of + (off + cap) * esz ≤ tot ∧ w.heap[b]? = some (.cells us.toArray T (0, 0)) ∧ us.length = tot ∧ of + xs.length * esz ≤ tot ∧ RepR V (fun i => us[i]?) esz of xs) := by
  simp only [Rep] at hx
  obtain ⟨⟨A, cap, hv⟩, ver', esz', nn, loc, hg, hle, hq⟩ := hx
  obtain ⟨s, hgs, hob⟩ := hs.obs _ _ hm
  rw [hg] at hgs
  cases hgs
  obtain ⟨rfl, rfl, rfl, hnone, hloc⟩ := hob
  obtain ⟨A', cap', hv', hlc, hol, hnc, hq⟩ := hq rfl
  rw [hv] at hv'
  cases hv'
  refine ⟨loc, A, cap, hg, hv, hlc, hol, hnc, ?_⟩
  cases loc with
  | none =>
    obtain ⟨rfl, rfl, hn0⟩ := hq
    exact .inl ⟨rfl, rfl, rfl, hnone rfl⟩
  | some loc =>
    obtain ⟨b, of, tot⟩ := loc
    obtain ⟨hA', htot⟩ := hq
    obtain ⟨us, T, hh, ht, hle', hr⟩ := hloc b of tot rfl
    exact .inr ⟨b, of, tot, us, T, rfl, hA', htot, hh, ht, hle', hr⟩
theorem src_of {x : Value} {z : AV} {ys : List (List AV)} {rd : List Nat} {esz : Nat} (hs : Sat W0 V0 Own V G w μ) (hx : Rep V G z x)
    (h : ((z = .sl ys ∨ z = .fl ys) ∧ (∀ c ∈ ys, c.length = esz) ∧ rd = []) ∨ (∃ k2 ver2 off2 len2 xs2, z = .hs k2 ver2 off2 len2 ∧ μ k2 = some (.arr ver2 esz xs2) ∧ ys = (xs2.drop off2).take len2 ∧ rd = [k2])) :
    ∃ A c news, x = .slice A ys.length c ∧ Src w esz ys.length A news ∧ RepPL V ys.flatten news ∧ ∀ c ∈ ys, c.length = esz := by
  rcases h with ⟨he, hl, rfl⟩ | ⟨k2, ver2, off2, len2, xs2, rfl, hm, rfl, rfl⟩
  · obtain ⟨A, cap, hv, hcap, hr⟩ := rep_sl he hx
    rcases hr with rfl | ⟨b, of, e', rfl, hr⟩
    · exact ⟨A, cap, [], hv, ⟨by simp, (fun y hy => by cases hy), .inl rfl⟩, by simp [RepPL], hl⟩
    · by_cases hne : ys = []
      · subst hne
        exact ⟨_, cap, [], hv, ⟨by simp, (fun y hy => by cases hy), .inl rfl⟩, by simp [RepPL], hl⟩
      · have he' := hr.esz_of hl hne
        subst he'
        obtain ⟨us, p1, p2, p3⟩ := hr.vals
        refine ⟨_, cap, us, hv, ⟨p2, fun y hy => ?_, .inr ⟨b, of, rfl, fun j y hy => hs.view _ _ _ (p3 j y hy).1⟩⟩, p1, hl⟩
        obtain ⟨j, hj⟩ := List.mem_iff_getElem?.1 hy
        exact (p3 j y hj).2
  · obtain ⟨loc, A, cap, hg, hv, hlc, hol, hnc, hq⟩ := hs_open hs hx hm
    have hlen : ((xs2.drop off2).take len2).length = len2 := by simp; omega
    rcases hq with ⟨rfl, rfl, rfl, rfl⟩ | ⟨b, of, tot, us, T, rfl, hA, htot, hh, ht, hle, hr⟩
    · have : len2 = 0 := by simp at hol; omega
      subst this
      exact ⟨none, 0, [], by simpa using hv, ⟨by simp, (fun y hy => by cases hy), .inl (by simp)⟩, by simp [RepPL], fun c hc => by simp at hc⟩
    · have hr2 := (hr.drop off2).take len2
      obtain ⟨vs, p1, p2, p3⟩ := hr2.vals
      refine ⟨A, cap, vs, by rw [hlen]; exact hv, ⟨p2, fun y hy => ?_, ?_⟩, p1, fun c hc => ?_⟩
      · obtain ⟨j, hj⟩ := List.mem_iff_getElem?.1 hy
        exact (p3 j y hj).2
      · by_cases h0 : len2 = 0
        · left; rw [hlen]; exact h0
        · right
          have hA := hA.resolve_left (by omega)
          exact ⟨b, _, hA, fun j y hy => cell_of hh (p3 j y hy).1⟩
      · obtain ⟨j, hj⟩ := List.mem_iff_getElem?.1 hc
        exact (hr2.get hj).1
/-- An array whose block, or whose rows, are others. -/
theorem Sat.rearr (h : Sat W0 V0 Own V G w μ) {k ver ver' esz n n' : Nat} {loc loc' : Option (Nat × Nat × Nat)} {w' : World} {ob : Ob} (hg : G k = some (.arr ver esz n loc)) (hv : ver < ver' ∨ (ver = ver' ∧ n = n' ∧ loc = loc'))
    (hk : Keep W0 Own w') (hsz : w.heap.size ≤ w'.heap.size) (hb : ∀ b, loc.map (·.1) ≠ some b → b < w.heap.size → w'.heap[b]? = w.heap[b]?)
    (hl : ∀ b, loc'.map (·.1) = some b → loc.map (·.1) = some b ∨ (b = w.heap.size ∧ b < w'.heap.size))
    (hob : ObOk V (fun j => if j = k then some (.arr ver' esz n' loc') else G j) w' (.arr ver' esz n' loc') ob) :
    Sat W0 V0 Own V (fun j => if j = k then some (.arr ver' esz n' loc') else G j) w' (fun j => if j = k then some ob else μ j) ∧ G.le (fun j => if j = k then some (.arr ver' esz n' loc') else G j) := by
  have hle : G.le (fun j => if j = k then some (.arr ver' esz n' loc') else G j) := Ctx.le_upd hg (by
    simp only [Sh.le]
    refine ⟨trivial, by omega, fun e => ?_⟩
    rcases hv with hv | hv
    · omega
    · exact hv.2)
  refine ⟨h.upd hk ?_ hle hob ?_ (fun b hbl hlt => ?_) hsz ?_, hle⟩
  · intro b' o' x e
    have hlt := h.view_lt e
    have hne : loc.map (·.1) ≠ some b' := fun e' => by
      have := (h.priv k _ b' hg e').2.2 o'
      rw [this] at e
      cases e
    have := h.view b' o' x e
    unfold World.cell? at this ⊢
    rw [show w'.heap[b']? = w.heap[b']? from hb b' hne hlt]
    exact this
  · intro b hbl
    rcases hl b hbl with h1 | ⟨h1, h2⟩
    · obtain ⟨p1, p2, p3⟩ := h.priv k _ b hg h1
      refine ⟨by omega, p2, p3, fun j s' hj hg' hb' => hj (h.inj j k s' _ b hg' hg hb' h1)⟩
    · subst h1
      refine ⟨h2, .inr h.keep.size, fun o' => ?_, fun j s' hj hg' hb' => absurd (h.priv j s' _ hg' hb').1 (Nat.lt_irrefl _)⟩
      cases e : V w.heap.size o' with
      | none => rfl
      | some x => exact absurd (h.view_lt e) (Nat.lt_irrefl _)
  · rcases hl b hbl with h1 | ⟨h1, h2⟩
    · exact h.loc k _ b hg h1 hlt
    · exact absurd hlt (by have := h.keep.size; omega)
  · intro j s' b' hj hg' hb'
    refine hb b' (fun e => hj (h.inj j k s' _ b' hg' hg hb' e)) (h.priv j s' b' hg' hb').1
theorem rep_hs_new {k ver esz n off len : Nat} {loc : Option (Nat × Nat × Nat)} {x : Value} (h : HsOk esz n loc off len x) : Rep V (fun j => if j = k then some (.arr ver esz n loc) else G j) (.hs k ver off len) x := by
  simp only [Rep]
  obtain ⟨A, cap, hv, r⟩ := h
  exact ⟨⟨A, cap, hv⟩, ver, esz, n, loc, if_pos trivial, Nat.le_refl _, fun _ => ⟨A, cap, hv, r⟩⟩
theorem snd_appd {d esz bytes : Nat} {x y : Arg} (hok : okOp' P o (.appd d x y esz bytes) = true) (h : opR P (.appd d x y esz bytes) ρ μ v u acc) (hA : ArgsOk V G ρ a (AOp.appd d x y esz bytes).args) (hs : Sat W0 V0 Own V G w μ) :
    Done W0 V0 Own P o a w V G μ v u := by
  obtain ⟨k, ver, off, len, xs, ys, rd, he, hm, hsrc, hcase, rfl⟩ := h
  simp only [okOp'] at hok
  split at hok
  · rename_i as ts ho
    simp only [Bool.and_eq_true] at hok
    obtain ⟨h1, h2⟩ := hok
    obtain ⟨y1, y2, hy, h3, h4⟩ := okAs_two h1
    obtain rfl : as = #[y1, y2] := by rw [← Array.toList_inj, hy]
    split at h2
    · rename_i t t' hts
      simp only [Bool.and_eq_true] at h2
      obtain ⟨⟨hby, hsl⟩, htt⟩ := h2
      obtain rfl := Nat.eq_of_beq_eq_true htt
      obtain rfl : ts = #[t, t] := by rw [← Array.toList_inj, hts]
      obtain ⟨e, hu, hn, hi'⟩ := okSl_spec hsl
      obtain ⟨e', i, z, hu', hi, hb, hz, hzs, hbpos⟩ := okBytes_spec hby
      rw [hu] at hu'
      cases hu'
      have hisz : i.size = esz := by rw [← hn]; simp [Program.cellsOf, hi]
      have hx := hA x (by simp [AOp.args]) _ h3
      have hy := hA y (by simp [AOp.args]) _ h4
      rw [he] at hx
      obtain ⟨loc, A, cap, hg, hv, hlc, hol, hnc, hq⟩ := hs_open hs hx hm
      obtain ⟨A2, c2, news, hv2, hsr, hnews, hyl⟩ := src_of hs hy hsrc
      have key : ∀ {val : Value} {w' : World}, (Builtin.append_ #[t, t] o.type #[.slice A len cap, .slice A2 ys.length c2]).run P w = .ok val w' → (execOp a.eval o).run P w = .ok (.value val) w' := by
        intro val w' hr
        rw [execOp, ho]
        simp [resolve, invoke, builtin, hv, hv2, hr]
      rcases hcase with ⟨hfit, rfl, rfl⟩ | ⟨hend, hbound, rfl, rfl⟩
      · -- in place, over what is there
        have hroom : len + ys.length ≤ cap := by omega
        rcases hq with ⟨rfl, rfl, rfl, rfl⟩ | ⟨b, of, tot, us, T, rfl, hA', htot, hh, ht, hle, hr⟩
        · have hy0 : ys = [] := List.eq_nil_of_length_eq_zero (by omega)
          subst hy0
          have hl0 : len = 0 := by simp at hol; omega
          subst hl0
          have hw := hs.rearr (ver' := ver) (n' := 0) (loc' := none) (ob := .arr ver esz ([].take (off + 0) ++ [] ++ [].drop (off + 0 + 0))) hg (.inr ⟨rfl, rfl, rfl⟩) hs.keep (Nat.le_refl _) (fun _ _ _ => rfl) (fun b hb => by cases hb) (by
            simp only [ObOk]
            exact ⟨trivial, trivial, by simp, fun _ => by simp, fun b o tot hl => by cases hl⟩)
          refine done_w (μ := μ) (u := [(k, _)]) hw.1 (key (run_append_in (T := 0) (b := 0) (of := 0) (us := []) hu hi hisz hsr hroom (.inl rfl))) ?_ (View.le_refl _) hw.2
          exact rep_hs_new ⟨none, 0, rfl, by simp, by simpa using hol, by simp, rfl, rfl, rfl⟩
        · have hof : (of + off * esz) + (len + ys.length) * esz ≤ us.length := by
            rw [ht]
            have : (off + (len + ys.length)) * esz ≤ xs.length * esz := Nat.mul_le_mul_right _ (by omega)
            rw [Nat.add_mul] at this
            omega
          have hrun := run_append_in (P := P) (ty := o.type) (c := c2) (A := A) (cap := cap) (b := b) (of := of + off * esz) (us := us) (T := T) hu hi hisz hsr hroom (by
            by_cases h0 : ys.length = 0
            · exact .inl h0
            · exact .inr ⟨hA'.resolve_left (by omega), hh, hof⟩)
          have hover := hr.over hnews hyl hsr.one (i := off + len) (by omega) (by
            rw [ht]
            have : (off + len + ys.length) * esz ≤ xs.length * esz := Nat.mul_le_mul_right _ hfit
            omega)
          have hsplen : (splice us (of + (off + len) * esz) news).length = us.length := by
            refine splice_length ?_
            rw [hsr.len, ht]
            have : (off + len + ys.length) * esz ≤ xs.length * esz := Nat.mul_le_mul_right _ hfit
            rw [Nat.add_mul] at this
            omega
          have hlen' : (xs.take (off + len) ++ ys ++ xs.drop (off + len + ys.length)).length = xs.length := by simp; omega
          generalize hw' : (if ys.length = 0 then w else w.setRow b (splice us (of + off * esz + len * esz) news).toArray) = w' at hrun
          have hblk : w'.heap[b]? = some (.cells (splice us (of + (off + len) * esz) news).toArray T (0, 0)) := by
            rw [← hw', Nat.add_mul, ← Nat.add_assoc]
            split
            · rename_i h0
              have hn0 : news = [] := List.eq_nil_of_length_eq_zero (by rw [hsr.len, h0]; simp)
              rw [hn0, splice_nil]
              exact hh
            · exact setRow_heap w b _ _ T _ hh
          have hother : ∀ b', b' ≠ b → w'.heap[b']? = w.heap[b']? := by
            intro b' hne
            rw [← hw']
            split
            · rfl
            · exact setRow_other w b b' _ hne
          have hsize : w'.heap.size = w.heap.size := by
            rw [← hw']
            split
            · rfl
            · exact setRow_size _ _ _
          have hkeep : Keep W0 Own w' := by
            rw [← hw']
            split
            · exact hs.keep
            · exact setRow_keep hs.keep (hs.priv k _ b hg rfl).2.1
          have hw := hs.rearr (ver' := ver) (n' := xs.length) (loc' := some (b, of, tot)) (w' := w') (ob := .arr ver esz (xs.take (off + len) ++ ys ++ xs.drop (off + len + ys.length))) hg (.inr ⟨rfl, rfl, rfl⟩) hkeep (by omega)
            (fun b' hne _ => hother b' (fun e => hne (by rw [e]; rfl))) (fun b' hb' => .inl hb') (by
              simp only [ObOk]
              refine ⟨trivial, trivial, hlen'.symm, (fun h => by cases h), fun b2 o2 tot2 h => ?_⟩
              cases h
              exact ⟨_, T, hblk, by rw [hsplen, ht], hle, hover⟩)
          refine done_w (μ := μ) (u := [(k, _)]) hw.1 (key hrun) ?_ (View.le_refl _) hw.2
          exact rep_hs_new ⟨A, cap, rfl, hroom, by omega, hnc, hA', htot⟩
      · -- behind what is there
        have hbound' : (len + ys.length) * bytes ≤ 70368744177664 := by
          have h6 : (((len + ys.length) * bytes : Nat) : Int) ≤ 70368744177664 := by rw [Int.natCast_mul]; exact hbound
          omega
        have h63 : len + ys.length ≤ 70368744177664 := Nat.le_trans (Nat.le_mul_of_pos_right _ (by omega)) hbound'
        by_cases hroom : len + ys.length ≤ cap
        · rcases hq with ⟨rfl, rfl, rfl, rfl⟩ | ⟨b, of, tot, us, T, rfl, hA', htot, hh, ht, hle, hr⟩
          · have hy0 : ys = [] := List.eq_nil_of_length_eq_zero (by omega)
            subst hy0
            have hl0 : len = 0 := by simp at hol; omega
            subst hl0
            have hw := hs.rearr (ver' := ver + 1) (n' := 0) (loc' := none) (ob := .arr (ver + 1) esz ([].drop off ++ [])) hg (.inl (Nat.lt_succ_self _)) hs.keep (Nat.le_refl _) (fun _ _ _ => rfl) (fun b hb => by cases hb) (by
              simp only [ObOk]
              exact ⟨trivial, trivial, by simp, fun _ => by simp, fun b o tot hl => by cases hl⟩)
            refine done_w (μ := μ) (u := [(k, _)]) hw.1 (key (run_append_in (T := 0) (b := 0) (of := 0) (us := []) hu hi hisz hsr hroom (.inl rfl))) ?_ (View.le_refl _) hw.2
            exact rep_hs_new ⟨none, 0, rfl, by simp, by simp, by simp, rfl, rfl, rfl⟩
          · have hof : (of + off * esz) + (len + ys.length) * esz ≤ us.length := by
              rw [ht]
              have : (off + (len + ys.length)) * esz ≤ (off + cap) * esz := Nat.mul_le_mul_right _ (by omega)
              rw [Nat.add_mul] at this
              omega
            have hrun := run_append_in (P := P) (ty := o.type) (c := c2) (A := A) (cap := cap) (b := b) (of := of + off * esz) (us := us) (T := T) hu hi hisz hsr hroom (by
              by_cases h0 : ys.length = 0
              · exact .inl h0
              · exact .inr ⟨hA'.resolve_left (by omega), hh, hof⟩)
            have hdl : (xs.drop off).length = len := by simp; omega
            have hover := (hr.drop off).over hnews hyl hsr.one (i := len) (by omega) hof
            rw [List.take_of_length_le (Nat.le_of_eq hdl), List.drop_of_length_le (by omega : (xs.drop off).length ≤ len + ys.length), List.append_nil] at hover
            have hsplen : (splice us (of + off * esz + len * esz) news).length = us.length := by
              refine splice_length ?_
              rw [hsr.len]
              rw [Nat.add_mul] at hof
              omega
            generalize hw' : (if ys.length = 0 then w else w.setRow b (splice us (of + off * esz + len * esz) news).toArray) = w' at hrun
            have hblk : w'.heap[b]? = some (.cells (splice us (of + off * esz + len * esz) news).toArray T (0, 0)) := by
              rw [← hw']
              split
              · rename_i h0
                have hn0 : news = [] := List.eq_nil_of_length_eq_zero (by rw [hsr.len, h0]; simp)
                rw [hn0, splice_nil]
                exact hh
              · exact setRow_heap w b _ _ T _ hh
            have hother : ∀ b', b' ≠ b → w'.heap[b']? = w.heap[b']? := by
              intro b' hne
              rw [← hw']
              split
              · rfl
              · exact setRow_other w b b' _ hne
            have hsize : w'.heap.size = w.heap.size := by
              rw [← hw']
              split
              · rfl
              · exact setRow_size _ _ _
            have hkeep : Keep W0 Own w' := by
              rw [← hw']
              split
              · exact hs.keep
              · exact setRow_keep hs.keep (hs.priv k _ b hg rfl).2.1
            have hw := hs.rearr (ver' := ver + 1) (n' := len + ys.length) (loc' := some (b, of + off * esz, tot)) (w' := w') (ob := .arr (ver + 1) esz (xs.drop off ++ ys)) hg (.inl (Nat.lt_succ_self _)) hkeep (by omega)
              (fun b' hne _ => hother b' (fun e => hne (by rw [e]; rfl))) (fun b' hb' => .inl hb') (by
                simp only [ObOk]
                refine ⟨trivial, trivial, by rw [List.length_append, hdl], (fun h => by cases h), fun b2 o2 tot2 h => ?_⟩
                cases h
                exact ⟨_, T, hblk, by rw [hsplen, ht], by omega, hover⟩)
            refine done_w (μ := μ) (u := [(k, _)]) hw.1 (key hrun) ?_ (View.le_refl _) hw.2
            refine rep_hs_new ⟨A, cap, rfl, hroom, by omega, by omega, ?_, ?_⟩
            · simpa using hA'
            · rw [Nat.add_mul] at htot
              rw [Nat.zero_add]
              omega
        · have hgrow : cap < len + ys.length := by omega
          have holds : ∃ olds : List Value, olds.length = len * esz ∧ RepPL V (xs.drop off).flatten olds ∧ (∀ y ∈ olds, y.oneCell' = true) ∧ ((A = none ∧ cap = 0) ∨ ∃ b : Addr, A = some b ∧ ∀ j y, olds[j]? = some y → w.cell? (b.add j) = some y) ∧ (∀ c ∈ xs.drop off, c.length = esz) := by
            rcases hq with ⟨rfl, rfl, rfl, rfl⟩ | ⟨b, of, tot, us, T, rfl, hA', htot, hh, ht, hle, hr⟩
            · have hl0 : len = 0 := by simp at hol; omega
              subst hl0
              exact ⟨[], by simp, by simp [RepPL], (fun y hy => by cases hy), .inl ⟨rfl, rfl⟩, fun c hc => by simp at hc⟩
            · obtain ⟨vs, p1, p2, p3⟩ := (hr.drop off).vals
              have hdl : (xs.drop off).length = len := by simp; omega
              refine ⟨vs, by rw [p2, hdl], p1, fun y hy => ?_, ?_, fun c hc => ?_⟩
              · obtain ⟨j, hj⟩ := List.mem_iff_getElem?.1 hy
                exact (p3 j y hj).2
              · by_cases hc0 : cap = 0
                · have hl0 : len = 0 := by omega
                  have hv0 : vs = [] := List.eq_nil_of_length_eq_zero (by rw [p2, hdl, hl0]; simp)
                  subst hv0
                  cases A with
                  | none => exact .inl ⟨rfl, hc0⟩
                  | some A => exact .inr ⟨A, rfl, fun j y hy => by simp at hy⟩
                · refine .inr ⟨_, hA'.resolve_left hc0, fun j y hy => ?_⟩
                  rw [add_lit]
                  exact cell_of hh (p3 j y hy).1
              · obtain ⟨j, hj⟩ := List.mem_iff_getElem?.1 hc
                exact ((hr.drop off).get hj).1
          obtain ⟨olds, ho1, ho2, ho3, ho4, ho5⟩ := holds
          obtain ⟨cap', us, T, g1, g2, ⟨r, g3⟩, hrun⟩ := run_append_out (P := P) (ty := o.type) (c := c2) hu hi hz hisz hzs hb hsr hgrow hlc (by omega) (by omega) ho1 ho4
          have hdl : (xs.drop off).length = len := by simp; omega
          have hflat : RepPL V (xs.drop off ++ ys).flatten (olds ++ news) := by
            rw [List.flatten_append]
            exact ho2.append hnews
          have hrr : RepR V (fun i => us[i]?) esz 0 (xs.drop off ++ ys) := by
            refine RepR.of_flat hflat (fun c hc => ?_) fun j y hy => ?_
            · rcases List.mem_append.1 hc with hc | hc
              · exact ho5 c hc
              · exact hyl c hc
            · rw [Nat.zero_add]
              refine ⟨?_, ?_⟩
              · show us[j]? = some y
                rw [g3, List.getElem?_append_left (getElem?_lt hy)]
                exact hy
              · rcases List.mem_append.1 (List.mem_of_getElem? hy) with hc | hc
                · exact ho3 y hc
                · exact hsr.one y hc
          have hw := hs.rearr (ver' := ver + 1) (n' := len + ys.length) (loc' := some (w.heap.size, 0, cap' * esz)) (w' := w.drew.alloc (.cells us.toArray T)) (ob := .arr (ver + 1) esz (xs.drop off ++ ys)) hg (.inl (Nat.lt_succ_self _))
            (hs.keep.of_le rfl rfl rfl (by simp) (fun b h1 _ => heap_alloc_old (w := w.drew) (Nat.lt_of_lt_of_le h1 hs.keep.size))) (by simp)
            (fun b' _ hlt => heap_alloc_old (w := w.drew) hlt) (fun b' hb' => .inr (by cases hb'; exact ⟨rfl, by simp⟩)) (by
              simp only [ObOk]
              refine ⟨trivial, trivial, by rw [List.length_append, hdl], (fun h => by cases h), fun b2 o2 tot2 h => ?_⟩
              cases h
              refine ⟨us, T, heap_alloc_new (w := w.drew), g2, ?_, hrr⟩
              rw [Nat.zero_add]
              exact Nat.mul_le_mul_right _ g1)
          refine done_w (μ := μ) (u := [(k, _)]) hw.1 (key hrun) ?_ (View.le_refl _) hw.2
          refine rep_hs_new ⟨_, cap', rfl, g1, by omega, by omega, .inr (by simp), by simp⟩
    · cases h2
  · cases hok
end
end Go.AM
