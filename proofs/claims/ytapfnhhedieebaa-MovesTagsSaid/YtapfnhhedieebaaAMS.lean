/- Regions whose order is drawn: operations that do not touch the same come to the same in every order. -/
import Derived.Test.YtapfnhhedieebaaAMR
namespace Go.AM
open Go
set_option linter.unusedVariables false
set_option linter.unusedSimpArgs false
section
variable {P : Program}
theorem map_eq_of {ρ ρ' : Arg → AV} : ∀ {xs : List Arg}, (∀ x ∈ xs, ρ x = ρ' x) → xs.map ρ = xs.map ρ'
  | [], _ => rfl
  | x :: xs, h => by rw [List.map_cons, List.map_cons, h x List.mem_cons_self, map_eq_of fun y hy => h y (List.mem_cons_of_mem _ hy)]
theorem fillA_eq {ρ ρ' : Arg → AV} : ∀ {ps : List (Nat × Nat × Arg)} {z : List AV}, (∀ p ∈ ps, ρ p.2.2 = ρ' p.2.2) → fillA ρ ps z = fillA ρ' ps z
  | [], z, _ => rfl
  | (o, n, x) :: ps, z, h => by
    rw [fillA, fillA, h _ List.mem_cons_self]
    exact fillA_eq fun p hp => h p (List.mem_cons_of_mem _ hp)
theorem optI_eq {ρ ρ' : Arg → AV} {d : Int} {x : Option Arg} (h : ∀ y ∈ x.toList, ρ y = ρ' y) : optI ρ d x = optI ρ' d x := by
  cases x with
  | none => rfl
  | some y => simp only [optI, h y (by simp)]
theorem callee_eq {ρ ρ' : Arg → AV} {c : Cal} {args : List Arg} (h : ∀ y ∈ (AOp.callf none c args).args, ρ y = ρ' y) : callee ρ c = callee ρ' c ∧ args.map ρ = args.map ρ' := by
  cases c with
  | st f => exact ⟨rfl, map_eq_of h⟩
  | dy x => exact ⟨by simp only [callee, h x (by simp [AOp.args])], map_eq_of fun y hy => h y (by simp only [AOp.args]; exact List.mem_cons_of_mem _ hy)⟩
theorem bor0_eq {μ μ' : Nat → Option Ob} {x : AV} (h : ∀ k ∈ key0 x, μ k = μ' k) : bor0 μ x = bor0 μ' x := by
  cases x <;> simp only [bor0] <;> simp only [key0, List.mem_singleton, forall_eq] at h <;> first | rw [h] | rfl
theorem bor_eq {μ μ' : Nat → Option Ob} {x : AV} (h : ∀ k ∈ keysA x, μ k = μ' k) : bor μ x = bor μ' x := by
  cases x
  case fn f caps =>
    simp only [bor]
    congr 1
    refine List.map_congr_left fun y hy => bor0_eq fun k hk => h k ?_
    simp only [keysA, List.mem_flatMap]
    exact ⟨y, hy, hk⟩
  all_goals (simp only [bor]; exact bor0_eq fun k hk => h k (by simpa only [keysA] using hk))
theorem opR_frame {o : AOp} {ρ ρ' : Arg → AV} {μ μ' : Nat → Option Ob} {v : AV} {u : List (Nat × Ob)} {acc : Acc} (h : opR P o ρ μ v u acc) (hρ : ∀ x ∈ o.args, ρ x = ρ' x) (hμ : ∀ k, k ∈ acc.1 ∨ k ∈ acc.2 → μ k = μ' k) : opR P o ρ' μ' v u acc := by
  cases o <;> simp only [AOp.args, List.mem_cons, List.not_mem_nil, or_false, forall_eq_or_imp, forall_eq] at hρ <;> simp only [opR] at h ⊢
  case mov => rw [← hρ]; exact h
  case bin => rw [← hρ.1, ← hρ.2]; exact h
  case eq => rw [← hρ.1, ← hρ.2]; exact h
  case un => rw [← hρ]; exact h
  case conv => rw [← hρ]; exact h
  case len => rw [← hρ]; exact h
  case slen => rw [← hρ]; exact h
  case idx =>
    rw [← hρ.1, ← hρ.2]
    obtain ⟨h1, ik, z, h2, h3, h4⟩ := h
    refine ⟨h1, ik, z, h2, h3, ?_⟩
    rcases h4 with h4 | ⟨k, ver, off, len, xs, g1, g2, g3, g4, rfl⟩
    · exact .inl h4
    · exact .inr ⟨k, ver, off, len, xs, g1, g2, by rw [← hμ k (by simp)]; exact g3, g4, rfl⟩
  case aix => rw [← hρ.1, ← hρ.2]; exact h
  case fad => rw [← hρ]; exact h
  case load =>
    rw [← hρ]
    obtain ⟨h1, h4⟩ := h
    refine ⟨h1, ?_⟩
    rcases h4 with h4 | ⟨k, of, c, g1, g2, g3, rfl⟩ | ⟨k, of, c, g1, g2, g3, g4, rfl⟩ | ⟨k, ver, i, of, esz, xs, c, g1, g2, g3, g4, rfl⟩
    · exact .inl h4
    · exact .inr (.inl ⟨k, of, c, g1, by rw [← hμ k (by simp)]; exact g2, g3, rfl⟩)
    · exact .inr (.inr (.inl ⟨k, of, c, g1, by rw [← hμ k (by simp)]; exact g2, g3, g4, rfl⟩))
    · exact .inr (.inr (.inr ⟨k, ver, i, of, esz, xs, c, g1, by rw [← hμ k (by simp)]; exact g2, g3, g4, rfl⟩))
  case store =>
    rw [← hρ.1, ← hρ.2]
    obtain ⟨h1, hl, h4⟩ := h
    refine ⟨h1, hl, ?_⟩
    rcases h4 with ⟨k, of, c, g1, g2, g3, g4, g5, g6, rfl⟩ | ⟨k, of, c, g1, g2, g3, g4, g5, rfl⟩ | ⟨k, ver, i, of, esz, xs, c, g1, g2, g3, g4, g5, g6, g7, rfl⟩
    · exact .inl ⟨k, of, c, g1, by rw [← hμ k (by simp)]; exact g2, g3, g4, g5, g6, rfl⟩
    · exact .inr (.inl ⟨k, of, c, g1, by rw [← hμ k (by simp)]; exact g2, g3, g4, g5, rfl⟩)
    · exact .inr (.inr ⟨k, ver, i, of, esz, xs, c, g1, by rw [← hμ k (by simp)]; exact g2, g3, g4, g5, g6, g7, rfl⟩)
  case boxp => rw [← hρ]; exact h
  case boxo d key x =>
    rw [← hρ]
    obtain ⟨g1, g2, g3, g4, rfl⟩ := h
    exact ⟨g1, by rw [← hμ key (by simp)]; exact g2, g3, g4, rfl⟩
  case boxm d key x =>
    rw [← hρ]
    obtain ⟨g0, g1, g2, g3, g4, rfl⟩ := h
    exact ⟨g0, g1, by rw [← hμ key (by simp)]; exact g2, g3, g4, rfl⟩
  case alloc d key cells =>
    obtain ⟨g2, g3, g4, rfl⟩ := h
    exact ⟨by rw [← hμ key (by simp)]; exact g2, g3, g4, rfl⟩
  case alloca d key key2 esz =>
    obtain ⟨g1, g2, g3, g4, g5, rfl⟩ := h
    exact ⟨by rw [← hμ key (by simp)]; exact g1, by rw [← hμ key2 (by simp)]; exact g2, g3, g4, g5, rfl⟩
  case nilarr d key esz =>
    obtain ⟨g2, g3, g4, rfl⟩ := h
    exact ⟨by rw [← hμ key (by simp)]; exact g2, g3, g4, rfl⟩
  case build d zero parts =>
    have hp : ∀ p ∈ parts, ρ p.2.2 = ρ' p.2.2 := fun p hp => hρ _ (List.mem_map.2 ⟨p, hp, rfl⟩)
    obtain ⟨g1, g2, g3, g4⟩ := h
    refine ⟨fun p hp' => by rw [← hp p hp']; exact g1 p hp', by rw [← fillA_eq hp]; exact g2, g3, g4⟩
  case bslp d esz rows =>
    obtain ⟨g1, g2, g3, g4⟩ := h
    have e : (rows.map fun r => cellsOf (ρ r)) = rows.map fun r => cellsOf (ρ' r) := List.map_congr_left fun r hr => by rw [hρ r hr]
    exact ⟨fun r hr => by rw [← hρ r hr]; exact g1 r hr, by rw [← e]; exact g2, g3, g4⟩
  case bslo d key esz rows =>
    obtain ⟨g0, g1, g2, g3, rfl⟩ := h
    have e : (rows.map fun r => cellsOf (ρ r)) = rows.map fun r => cellsOf (ρ' r) := List.map_congr_left fun r hr => by rw [hρ r hr]
    exact ⟨by rw [← hμ key (by simp)]; exact g0, fun r hr => by rw [← hρ r hr]; exact g1 r hr, g2, by rw [← e]; exact g3, rfl⟩
  case slc d x lo hi esz =>
    obtain ⟨hx, hr⟩ := hρ
    have e1 : ∀ d, optI ρ d lo = optI ρ' d lo := fun d => optI_eq fun y hy => hr y (by simp [hy])
    have e2 : ∀ d, optI ρ d hi = optI ρ' d hi := fun d => optI_eq fun y hy => hr y (by simp [hy])
    obtain ⟨h1, h4⟩ := h
    refine ⟨h1, ?_⟩
    simp only [← hx, ← e1, ← e2]
    rcases h4 with h4 | ⟨k, ver, off, len, xs, l, h, g1, g2, g3, g4, g5, g6, g7, g8, rfl⟩
    · exact .inl h4
    · exact .inr ⟨k, ver, off, len, xs, l, h, g1, by rw [← hμ k (by simp)]; exact g2, g3, g4, g5, g6, g7, g8, rfl⟩
  case sslc d x lo hi =>
    obtain ⟨hx, hr⟩ := hρ
    have e1 : ∀ d, optI ρ d lo = optI ρ' d lo := fun d => optI_eq fun y hy => hr y (by simp [hy])
    have e2 : ∀ d, optI ρ d hi = optI ρ' d hi := fun d => optI_eq fun y hy => hr y (by simp [hy])
    simp only [← hx, ← e1, ← e2]
    exact h
  case slc3 d x lo hi mx esz =>
    obtain ⟨hx, hhi, hmx, hr⟩ := hρ
    have e1 : ∀ d, optI ρ d lo = optI ρ' d lo := fun d => optI_eq fun y hy => hr y (by simp at hy; simp [hy])
    have e2 : ∀ d, optI ρ d (some hi) = optI ρ' d (some hi) := fun d => optI_eq fun y hy => by simp at hy; rw [hy, hhi]
    have e3 : ∀ d, optI ρ d (some mx) = optI ρ' d (some mx) := fun d => optI_eq fun y hy => by simp at hy; rw [hy, hmx]
    simp only [← hx, ← e1, ← e2, ← e3]
    obtain ⟨h1, h4⟩ := h
    refine ⟨h1, ?_⟩
    rcases h4 with h4 | ⟨k, ver, off, len, e, xs, l, h, m, g1, g2, g3, g4, g5, g6, g7, g8, g9, g10, rfl⟩
    · exact .inl h4
    · exact .inr ⟨k, ver, off, len, e, xs, l, h, m, g1, by rw [← hμ k (by simp)]; exact g2, g3, g4, g5, g6, g7, g8, g9, g10, rfl⟩
  case sidx => simp only [← hρ.1, ← hρ.2]; exact h
  case mkfn d f caps => rw [← map_eq_of hρ]; exact h
  case ext => rw [← hρ]; exact h
  case pick => rw [← hρ.1, ← hρ.2.1, ← hρ.2.2]; exact h
  case callf d c args =>
    have hh : ∀ y ∈ (AOp.callf none c args).args, ρ y = ρ' y := by
      cases c with
      | st f => simpa [AOp.args] using hρ
      | dy x => simpa [AOp.args] using hρ
    obtain ⟨e1, e2⟩ := callee_eq hh
    rw [← e1, ← e2]
    exact h
  case callb d c args =>
    have hh : ∀ y ∈ (AOp.callf none c args).args, ρ y = ρ' y := by
      cases c with
      | st f => simpa [AOp.args] using hρ
      | dy x => simpa [AOp.args] using hρ
    obtain ⟨e1, e2⟩ := callee_eq hh
    rw [← e1, ← e2]
    obtain ⟨h1, f, caps, res, h2, rfl, h3, h4, h5, h6⟩ := h
    have e3 : (args.map ρ ++ caps).map (bor μ) = (args.map ρ ++ caps).map (bor μ') := List.map_congr_left fun y hy => bor_eq fun k hk => hμ k (.inl (by
      simp only [List.mem_flatMap]
      exact ⟨y, hy, hk⟩))
    exact ⟨h1, f, caps, res, h2, rfl, by rw [← e3]; exact h3, by rw [← e3]; exact h4, h5, h6⟩
  case appd =>
    rw [← hρ.1, ← hρ.2]
    obtain ⟨k, ver, off, len, xs, ys, rd, g1, g2, g3, g4, rfl⟩ := h
    refine ⟨k, ver, off, len, xs, ys, rd, g1, by rw [← hμ k (by simp)]; exact g2, ?_, g4, rfl⟩
    rcases g3 with g3 | ⟨k2, ver2, off2, len2, xs2, h1, h2, h3, rfl⟩
    · exact .inl g3
    · exact .inr ⟨k2, ver2, off2, len2, xs2, h1, by rw [← hμ k2 (by simp)]; exact h2, h3, rfl⟩
  case clear =>
    rw [← hρ]
    obtain ⟨h0, k, ver, off, len, esz, xs, g1, g2, g3, g4, g5, g6, rfl⟩ := h
    exact ⟨h0, k, ver, off, len, esz, xs, g1, by rw [← hμ k (by simp)]; exact g2, g3, g4, g5, g6, rfl⟩
  case mxn => rw [← hρ.1, ← hρ.2]; exact h
  case field => rw [← hρ]; exact h
  case nilc => rw [← hρ]; exact h
  case make d key esz bytes zero n c =>
    rw [← hρ.1, ← hρ.2]
    obtain ⟨nk, ck, z, zc, h1, h2, h3, h4, h5, h6, h7, h8, h9, rfl⟩ := h
    exact ⟨nk, ck, z, zc, h1, h2, h3, h4, h5, h6, by rw [← hμ key (by simp)]; exact h7, h8, h9, rfl⟩
theorem opR_keys {o : AOp} {ρ : Arg → AV} {μ : Nat → Option Ob} {v : AV} {u : List (Nat × Ob)} {acc : Acc} (h : opR P o ρ μ v u acc) : ∀ p ∈ u, p.1 ∈ acc.2 := by
  cases o <;> simp only [opR] at h
  all_goals first
    | (obtain ⟨_, rfl, rfl⟩ := h; intro p hp; cases hp; done)
    | (obtain ⟨_, _, rfl, rfl⟩ := h; intro p hp; cases hp; done)
    | (obtain ⟨rfl, rfl, _⟩ := h; intro p hp; cases hp; done)
    | (obtain ⟨rfl, _⟩ := h; intro p hp; cases hp; done)
    | (obtain ⟨_, _, _, rfl, rfl⟩ := h; intro p hp; simp at hp; try (subst hp; simp); done)
    | (obtain ⟨_, _, rfl, rfl⟩ := h; intro p hp; simp at hp; subst hp; simp; done)
    | skip
  case store =>
    obtain ⟨_, _, h⟩ := h
    rcases h with ⟨k, of, c, _, _, _, _, _, rfl, rfl⟩ | ⟨k, of, c, _, _, _, _, rfl, rfl⟩ | ⟨k, ver, i, of, esz, xs, c, _, _, _, _, _, _, rfl, rfl⟩
    all_goals intro p hp; simp at hp; subst hp; simp
  case boxm =>
    obtain ⟨_, _, _, _, rfl, rfl⟩ := h
    intro p hp; simp at hp; subst hp; simp
  case alloca =>
    obtain ⟨_, _, _, _, rfl, rfl⟩ := h
    intro p hp
    simp at hp
    rcases hp with rfl | rfl <;> simp
  case appd =>
    obtain ⟨k, ver, off, len, xs, ys, rd, _, _, _, h, rfl⟩ := h
    rcases h with ⟨_, _, rfl⟩ | ⟨_, _, _, rfl⟩
    all_goals intro p hp; simp at hp; subst hp; simp
  case clear =>
    obtain ⟨_, k, ver, off, len, esz, xs, _, _, _, _, _, rfl, rfl⟩ := h
    intro p hp; simp at hp; subst hp; simp
  case make =>
    obtain ⟨nk, ck, z, zc, _, _, _, _, _, _, _, _, rfl, rfl⟩ := h
    intro p hp; simp at hp; subst hp; simp
end
end Go.AM
