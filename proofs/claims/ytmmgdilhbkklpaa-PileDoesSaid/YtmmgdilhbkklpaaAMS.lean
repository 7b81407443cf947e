/- Regions whose order is drawn: operations that do not touch the same come to the same in every order. -/
import Derived.Test.YtmmgdilhbkklpaaAMR
namespace Go.AM
open Go
set_option linter.unusedVariables false
set_option linter.unusedSimpArgs false
section
variable {P : Program}
theorem map_eq_of {ρ ρ' : Arg → AV} : ∀ {xs : List Arg}, (∀ x ∈ xs, ρ x = ρ' x) → xs.map ρ = xs.map ρ'
  | [], _ => rfl
  | x :: xs, h => by rw [List.map_cons, List.map_cons, h x List.mem_cons_self, map_eq_of fun y hy => h y (List.mem_cons_of_mem _ hy)]
theorem fillA_eq {ρ ρ' : Arg → AV} : ∀ {ps : List (Nat × Nat × Arg)} {z : List AV}, (∀ p ∈ ps, ρ p.2.2 = ρ' p.2.2) → fillA ρ ps z = fillA ρ' ps z
  | [], z, _ => rfl
  | (o, n, x) :: ps, z, h => by
    rw [fillA, fillA, h _ List.mem_cons_self]
    exact fillA_eq fun p hp => h p (List.mem_cons_of_mem _ hp)
theorem fillM_eq {ρ ρ' : Arg → AV} : ∀ {ps : List (Nat × Nat × Arg)} {z : List AV}, (∀ p ∈ ps, ρ p.2.2 = ρ' p.2.2) → fillM ρ ps z = fillM ρ' ps z
  | [], z, _ => rfl
  | (o, n, x) :: ps, z, h => by
    rw [fillM, fillM, h _ List.mem_cons_self]
    exact fillM_eq fun p hp => h p (List.mem_cons_of_mem _ hp)
theorem optI_eq {ρ ρ' : Arg → AV} {d : Int} {x : Option Arg} (h : ∀ y ∈ x.toList, ρ y = ρ' y) : optI ρ d x = optI ρ' d x := by
  cases x with
  | none => rfl
  | some y => simp only [optI, h y (by simp)]
theorem callee_eq {ρ ρ' : Arg → AV} {c : Cal} {args : List Arg} (h : ∀ y ∈ (AOp.callf none c args).args, ρ y = ρ' y) : callee ρ c = callee ρ' c ∧ calV ρ c args = calV ρ' c args ∧ (calOk P ρ c → calOk P ρ' c) := by
  cases c with
  | st f => exact ⟨rfl, map_eq_of h, fun h => h⟩
  | dy x => exact ⟨by simp only [callee, h x (by simp [AOp.args])], map_eq_of fun y hy => h y (by simp only [AOp.args]; exact List.mem_cons_of_mem _ hy), fun h => h⟩
  | iv x t nm f =>
    have hx := h x (by simp [AOp.args])
    refine ⟨rfl, ?_, fun h => ?_⟩
    · simp only [calV, hx]
      rw [map_eq_of fun y hy => h y (by simp only [AOp.args]; exact List.mem_cons_of_mem _ hy)]
    · simp only [calOk] at h ⊢
      rw [← hx]
      exact h
theorem bor1_eq {μ μ' : Nat → Option Ob} {x : AV} (h : ∀ k ∈ key1 x, μ k = μ' k) : bor1 μ x = bor1 μ' x := by
  cases x <;> simp only [bor1] <;> simp only [key1, List.mem_singleton, forall_eq] at h <;> first | rw [h] | rfl
theorem bor2_eq {μ μ' : Nat → Option Ob} {x : AV} (h : ∀ k ∈ key2 μ x, μ k = μ' k) : bor2 μ x = bor2 μ' x := by
  cases x
  case ref k off =>
    have hk : μ k = μ' k := h k (by simp only [key2]; split <;> simp)
    simp only [bor2]
    rw [← hk]
    split
    · rename_i cs hm
      congr 1
      refine List.map_congr_left fun y hy => bor1_eq fun j hj => h j ?_
      simp only [key2, hm, List.mem_cons, List.mem_flatMap]
      exact .inr ⟨y, hy, hj⟩
    · rfl
    · rfl
  all_goals (simp only [bor2]; exact bor1_eq fun j hj => h j (by simpa only [key2] using hj))
theorem bor0_eq {μ μ' : Nat → Option Ob} {x : AV} (h : ∀ k ∈ key0 μ x, μ k = μ' k) : bor0 μ x = bor0 μ' x := by
  cases x
  case mif t x =>
    simp only [bor0]
    rw [bor2_eq (x := x) fun j hj => h j (by simpa only [key0] using hj)]
  all_goals (simp only [bor0]; exact bor2_eq fun j hj => h j (by simpa only [key0] using hj))
theorem bor_eq {μ μ' : Nat → Option Ob} {x : AV} (h : ∀ k ∈ keysA μ x, μ k = μ' k) : bor μ x = bor μ' x := by
  cases x
  case fn f caps =>
    simp only [bor]
    congr 1
    refine List.map_congr_left fun y hy => bor0_eq fun k hk => h k ?_
    simp only [keysA, List.mem_flatMap]
    exact ⟨y, hy, hk⟩
  all_goals (simp only [bor]; exact bor0_eq fun k hk => h k (by simpa only [keysA] using hk))
theorem key2_eq {μ μ' : Nat → Option Ob} {x : AV} (h : ∀ k ∈ key2 μ x, μ k = μ' k) : key2 μ x = key2 μ' x := by
  cases x
  case ref k off =>
    have hk : μ k = μ' k := h k (by simp only [key2]; split <;> simp)
    simp only [key2]
    rw [← hk]
  all_goals rfl
theorem key0_eq {μ μ' : Nat → Option Ob} {x : AV} (h : ∀ k ∈ key0 μ x, μ k = μ' k) : key0 μ x = key0 μ' x := by
  cases x
  case mif t x => simp only [key0] at h ⊢; exact key2_eq h
  all_goals (simp only [key0] at h ⊢; exact key2_eq h)
theorem flatMap_congr_left {α β : Type} {f g : α → List β} : ∀ {l : List α}, (∀ x ∈ l, f x = g x) → l.flatMap f = l.flatMap g
  | [], _ => rfl
  | x :: l, h => by rw [List.flatMap_cons, List.flatMap_cons, h x List.mem_cons_self, flatMap_congr_left fun y hy => h y (List.mem_cons_of_mem _ hy)]
theorem keysA_eq {μ μ' : Nat → Option Ob} {x : AV} (h : ∀ k ∈ keysA μ x, μ k = μ' k) : keysA μ x = keysA μ' x := by
  cases x
  case fn f caps =>
    simp only [keysA]
    exact flatMap_congr_left fun y hy => key0_eq fun k hk => h k (by simp only [keysA, List.mem_flatMap]; exact ⟨y, hy, hk⟩)
  all_goals (simp only [keysA] at h ⊢; exact key0_eq h)
theorem opR_frame {o : AOp} {ρ ρ' : Arg → AV} {μ μ' : Nat → Option Ob} {v : AV} {u : List (Nat × Ob)} {acc : Acc} (h : opR P o ρ μ v u acc) (hρ : ∀ x ∈ o.args, ρ x = ρ' x) (hμ : ∀ k, k ∈ acc.1 ∨ k ∈ acc.2 → μ k = μ' k) : opR P o ρ' μ' v u acc := by
  cases o <;> simp only [AOp.args, List.mem_cons, List.not_mem_nil, or_false, forall_eq_or_imp, forall_eq] at hρ <;> simp only [opR] at h ⊢
  case mov => rw [← hρ]; exact h
  case bin => rw [← hρ.1, ← hρ.2]; exact h
  case eq => rw [← hρ.1, ← hρ.2]; exact h
  case un => rw [← hρ]; exact h
  case conv => rw [← hρ]; exact h
  case len => rw [← hρ]; exact h
  case slen => rw [← hρ]; exact h
  case idx =>
    rw [← hρ.1, ← hρ.2]
    obtain ⟨h1, ik, z, h2, h3, h4⟩ := h
    refine ⟨h1, ik, z, h2, h3, ?_⟩
    rcases h4 with h4 | ⟨k, ver, off, len, xs, g1, g2, g3, g4, rfl⟩
    · exact .inl h4
    · exact .inr ⟨k, ver, off, len, xs, g1, g2, by rw [← hμ k (by simp)]; exact g3, g4, rfl⟩
  case aix => rw [← hρ.1, ← hρ.2]; exact h
  case fad => rw [← hρ]; exact h
  case load =>
    rw [← hρ]
    obtain ⟨h1, h4⟩ := h
    refine ⟨h1, ?_⟩
    rcases h4 with h4 | ⟨k, of, c, g1, g2, g3, rfl⟩ | ⟨k, of, c, g1, g2, g3, g4, rfl⟩ | ⟨k, ver, i, of, esz, xs, c, g1, g2, g3, g4, rfl⟩
    · exact .inl h4
    · exact .inr (.inl ⟨k, of, c, g1, by rw [← hμ k (by simp)]; exact g2, g3, rfl⟩)
    · exact .inr (.inr (.inl ⟨k, of, c, g1, by rw [← hμ k (by simp)]; exact g2, g3, g4, rfl⟩))
    · exact .inr (.inr (.inr ⟨k, ver, i, of, esz, xs, c, g1, by rw [← hμ k (by simp)]; exact g2, g3, g4, rfl⟩))
  case store =>
    rw [← hρ.1, ← hρ.2]
    obtain ⟨h1, hl, h4⟩ := h
    refine ⟨h1, hl, ?_⟩
    rcases h4 with ⟨k, of, c, g1, g2, g3, g4, g5, g6, rfl⟩ | ⟨k, of, c, g1, g2, g3, g4, g5, rfl⟩ | ⟨k, ver, i, of, esz, xs, c, g1, g2, g3, g4, g5, g6, g7, rfl⟩
    · exact .inl ⟨k, of, c, g1, by rw [← hμ k (by simp)]; exact g2, g3, g4, g5, g6, rfl⟩
    · exact .inr (.inl ⟨k, of, c, g1, by rw [← hμ k (by simp)]; exact g2, g3, g4, g5, rfl⟩)
    · exact .inr (.inr ⟨k, ver, i, of, esz, xs, c, g1, by rw [← hμ k (by simp)]; exact g2, g3, g4, g5, g6, g7, rfl⟩)
  case boxp => rw [← hρ]; exact h
  case boxo d key x =>
    rw [← hρ]
    obtain ⟨g1, g2, g3, g4, rfl⟩ := h
    exact ⟨g1, by rw [← hμ key (by simp)]; exact g2, g3, g4, rfl⟩
  case boxm d key x =>
    rw [← hρ]
    obtain ⟨g0, g1, g2, g3, g4, rfl⟩ := h
    exact ⟨g0, g1, by rw [← hμ key (by simp)]; exact g2, g3, g4, rfl⟩
  case alloc d key cells =>
    obtain ⟨g2, g3, g4, rfl⟩ := h
    exact ⟨by rw [← hμ key (by simp)]; exact g2, g3, g4, rfl⟩
  case alloca d key key2 esz =>
    obtain ⟨g1, g2, g3, g4, g5, rfl⟩ := h
    exact ⟨by rw [← hμ key (by simp)]; exact g1, by rw [← hμ key2 (by simp)]; exact g2, g3, g4, g5, rfl⟩
  case nilarr d key esz =>
    obtain ⟨g2, g3, g4, rfl⟩ := h
    exact ⟨by rw [← hμ key (by simp)]; exact g2, g3, g4, rfl⟩
  case build d zero parts =>
    have hp : ∀ p ∈ parts, ρ p.2.2 = ρ' p.2.2 := fun p hp => hρ _ (List.mem_map.2 ⟨p, hp, rfl⟩)
    obtain ⟨g1, g2, g3, g4⟩ := h
    refine ⟨fun p hp' => by rw [← hp p hp']; exact g1 p hp', by rw [← fillA_eq hp]; exact g2, g3, g4⟩
  case bslp d esz rows =>
    obtain ⟨g1, g2, g3, g4⟩ := h
    have e : (rows.map fun r => cellsOf (ρ r)) = rows.map fun r => cellsOf (ρ' r) := List.map_congr_left fun r hr => by rw [hρ r hr]
    exact ⟨fun r hr => by rw [← hρ r hr]; exact g1 r hr, by rw [← e]; exact g2, g3, g4⟩
  case bslo d key esz rows =>
    obtain ⟨g0, g1, g2, g3, rfl⟩ := h
    have e : (rows.map fun r => cellsOf (ρ r)) = rows.map fun r => cellsOf (ρ' r) := List.map_congr_left fun r hr => by rw [hρ r hr]
    exact ⟨by rw [← hμ key (by simp)]; exact g0, fun r hr => by rw [← hρ r hr]; exact g1 r hr, g2, by rw [← e]; exact g3, rfl⟩
  case slc d x lo hi esz =>
    obtain ⟨hx, hr⟩ := hρ
    have e1 : ∀ d, optI ρ d lo = optI ρ' d lo := fun d => optI_eq fun y hy => hr y (by simp [hy])
    have e2 : ∀ d, optI ρ d hi = optI ρ' d hi := fun d => optI_eq fun y hy => hr y (by simp [hy])
    obtain ⟨h1, h4⟩ := h
    refine ⟨h1, ?_⟩
    simp only [← hx, ← e1, ← e2]
    rcases h4 with h4 | ⟨k, ver, off, len, xs, l, h, g1, g2, g3, g4, g5, g6, g7, g8, rfl⟩
    · exact .inl h4
    · exact .inr ⟨k, ver, off, len, xs, l, h, g1, by rw [← hμ k (by simp)]; exact g2, g3, g4, g5, g6, g7, g8, rfl⟩
  case sslc d x lo hi =>
    obtain ⟨hx, hr⟩ := hρ
    have e1 : ∀ d, optI ρ d lo = optI ρ' d lo := fun d => optI_eq fun y hy => hr y (by simp [hy])
    have e2 : ∀ d, optI ρ d hi = optI ρ' d hi := fun d => optI_eq fun y hy => hr y (by simp [hy])
    simp only [← hx, ← e1, ← e2]
    exact h
  case slc3 d x lo hi mx esz =>
    obtain ⟨hx, hhi, hmx, hr⟩ := hρ
    have e1 : ∀ d, optI ρ d lo = optI ρ' d lo := fun d => optI_eq fun y hy => hr y (by simp at hy; simp [hy])
    have e2 : ∀ d, optI ρ d (some hi) = optI ρ' d (some hi) := fun d => optI_eq fun y hy => by simp at hy; rw [hy, hhi]
    have e3 : ∀ d, optI ρ d (some mx) = optI ρ' d (some mx) := fun d => optI_eq fun y hy => by simp at hy; rw [hy, hmx]
    simp only [← hx, ← e1, ← e2, ← e3]
    obtain ⟨h1, h4⟩ := h
    refine ⟨h1, ?_⟩
    rcases h4 with h4 | ⟨k, ver, off, len, e, xs, l, h, m, g1, g2, g3, g4, g5, g6, g7, g8, g9, g10, rfl⟩
    · exact .inl h4
    · exact .inr ⟨k, ver, off, len, e, xs, l, h, m, g1, by rw [← hμ k (by simp)]; exact g2, g3, g4, g5, g6, g7, g8, g9, g10, rfl⟩
  case sidx => simp only [← hρ.1, ← hρ.2]; exact h
  case mkfn d f caps => rw [← map_eq_of hρ]; exact h
  case ext => rw [← hρ]; exact h
  case pick => rw [← hρ.1, ← hρ.2.1, ← hρ.2.2]; exact h
  case callf d c args =>
    have hh : ∀ y ∈ (AOp.callf none c args).args, ρ y = ρ' y := by
      cases c with
      | st f => simpa [AOp.args] using hρ
      | dy x => simpa [AOp.args] using hρ
      | iv x t nm f => simpa [AOp.args] using hρ
    obtain ⟨e1, e2, e3⟩ := callee_eq (P := P) hh
    rw [← e1, ← e2]
    obtain ⟨h1, h2, f, caps, res, h3, h4, h5⟩ := h
    exact ⟨h1, h2, f, caps, res, h3, e3 h4, h5⟩
  case callb d c args =>
    have hh : ∀ y ∈ (AOp.callf none c args).args, ρ y = ρ' y := by
      cases c with
      | st f => simpa [AOp.args] using hρ
      | dy x => simpa [AOp.args] using hρ
      | iv x t nm f => simpa [AOp.args] using hρ
    obtain ⟨e1, e2, e4⟩ := callee_eq (P := P) hh
    rw [← e1, ← e2]
    obtain ⟨h1, f, caps, res, h2, h2', rfl, h3, h4, h5, h6⟩ := h
    have hk : ∀ y ∈ calV ρ c args ++ caps, ∀ k ∈ keysA μ y, μ k = μ' k := fun y hy k hk => hμ k (.inl (by
      simp only [List.mem_flatMap]
      exact ⟨y, hy, hk⟩))
    have e3 : (calV ρ c args ++ caps).map (bor μ) = (calV ρ c args ++ caps).map (bor μ') := List.map_congr_left fun y hy => bor_eq (hk y hy)
    have e5 : (calV ρ c args ++ caps).flatMap (keysA μ) = (calV ρ c args ++ caps).flatMap (keysA μ') := flatMap_congr_left fun y hy => keysA_eq (hk y hy)
    exact ⟨h1, f, caps, res, h2, e4 h2', by rw [e5], by rw [← e3]; exact h3, by rw [← e3]; exact h4, h5, h6⟩
  case appd =>
    rw [← hρ.1, ← hρ.2]
    obtain ⟨k, ver, off, len, xs, ys, rd, g1, g2, g3, g4, rfl⟩ := h
    refine ⟨k, ver, off, len, xs, ys, rd, g1, by rw [← hμ k (by simp)]; exact g2, ?_, g4, rfl⟩
    rcases g3 with g3 | ⟨k2, ver2, off2, len2, xs2, h1, h2, h3, rfl⟩
    · exact .inl g3
    · exact .inr ⟨k2, ver2, off2, len2, xs2, h1, by rw [← hμ k2 (by simp)]; exact h2, h3, rfl⟩
  case clear =>
    rw [← hρ]
    obtain ⟨h0, k, ver, off, len, esz, xs, g1, g2, g3, g4, g5, g6, rfl⟩ := h
    exact ⟨h0, k, ver, off, len, esz, xs, g1, by rw [← hμ k (by simp)]; exact g2, g3, g4, g5, g6, rfl⟩
  case mxn => rw [← hρ.1, ← hρ.2]; exact h
  case field => rw [← hρ]; exact h
  case nilc => rw [← hρ]; exact h
  case make d key esz bytes zero n c =>
    rw [← hρ.1, ← hρ.2]
    obtain ⟨nk, ck, z, zc, h1, h2, h3, h4, h5, h6, h7, h8, h9, rfl⟩ := h
    exact ⟨nk, ck, z, zc, h1, h2, h3, h4, h5, h6, by rw [← hμ key (by simp)]; exact h7, h8, h9, rfl⟩
  case buildm d zero parts =>
    have e : fillM ρ parts zero = fillM ρ' parts zero := fillM_eq fun p hp => hρ _ (List.mem_map.2 ⟨p, hp, rfl⟩)
    rw [← e]
    obtain ⟨h1, h2⟩ := h
    exact ⟨fun p hp => by rw [← hρ _ (List.mem_map.2 ⟨p, hp, rfl⟩)]; exact h1 p hp, h2⟩
  case boxg d key x =>
    rw [← hρ]
    obtain ⟨h1, h2, h3, h4, h5, rfl⟩ := h
    exact ⟨h1, h2, by rw [← hμ key (by simp)]; exact h3, h4, h5, rfl⟩
  case mkif => rw [← hρ]; exact h
  case tass => rw [← hρ]; exact h
  case callo d c args pass new =>
    have hh : ∀ y ∈ (AOp.callf none c args).args, ρ y = ρ' y := by
      cases c with
      | st f => simpa [AOp.args] using hρ
      | dy x => simpa [AOp.args] using hρ
      | iv x t nm f => simpa [AOp.args] using hρ
    obtain ⟨e1, e2, e3⟩ := callee_eq (P := P) hh
    rw [← e1, ← e2]
    obtain ⟨f, caps, obs, res, obs', h1, h2, h3, h4, h5, h6, h7, h8, rfl⟩ := h
    have g1 : ∀ (ks : List Nat), (∀ k ∈ ks, μ k = μ' k) → getObsM μ ks = getObsM μ' ks := by
      intro ks
      induction ks with
      | nil => intro _; rfl
      | cons k ks ih => intro h; simp only [getObsM, h k List.mem_cons_self, ih fun j hj => h j (List.mem_cons_of_mem _ hj)]
    have g2 : ∀ (ks : List Nat), (∀ k ∈ ks, μ k = μ' k) → allNoneM μ ks = allNoneM μ' ks := by
      intro ks
      induction ks with
      | nil => intro _; rfl
      | cons k ks ih => intro h; simp only [allNoneM, h k List.mem_cons_self, ih fun j hj => h j (List.mem_cons_of_mem _ hj)]
    exact ⟨f, caps, obs, res, obs', h1, e3 h2, by rw [← g1 pass fun k hk => hμ k (.inr (List.mem_append_left _ hk))]; exact h3, by rw [← g2 new fun k hk => hμ k (.inr (List.mem_append_right _ hk))]; exact h4, h5, h6, h7, h8, rfl⟩
  case eqs => rw [← hρ]; exact h
theorem opR_keys {o : AOp} {ρ : Arg → AV} {μ : Nat → Option Ob} {v : AV} {u : List (Nat × Ob)} {acc : Acc} (h : opR P o ρ μ v u acc) : ∀ p ∈ u, p.1 ∈ acc.2 := by
  cases o <;> simp only [opR] at h
  all_goals first
    | (obtain ⟨_, rfl, rfl⟩ := h; intro p hp; cases hp; done)
    | (obtain ⟨_, _, rfl, rfl⟩ := h; intro p hp; cases hp; done)
    | (obtain ⟨rfl, rfl, _⟩ := h; intro p hp; cases hp; done)
    | (obtain ⟨rfl, _⟩ := h; intro p hp; cases hp; done)
    | (obtain ⟨_, _, _, rfl, rfl⟩ := h; intro p hp; simp at hp; try (subst hp; simp); done)
    | (obtain ⟨_, _, rfl, rfl⟩ := h; intro p hp; simp at hp; subst hp; simp; done)
    | skip
  case store =>
    obtain ⟨_, _, h⟩ := h
    rcases h with ⟨k, of, c, _, _, _, _, _, rfl, rfl⟩ | ⟨k, of, c, _, _, _, _, rfl, rfl⟩ | ⟨k, ver, i, of, esz, xs, c, _, _, _, _, _, _, rfl, rfl⟩
    all_goals intro p hp; simp at hp; subst hp; simp
  case boxm =>
    obtain ⟨_, _, _, _, rfl, rfl⟩ := h
    intro p hp; simp at hp; subst hp; simp
  case alloca =>
    obtain ⟨_, _, _, _, rfl, rfl⟩ := h
    intro p hp
    simp at hp
    rcases hp with rfl | rfl <;> simp
  case appd =>
    obtain ⟨k, ver, off, len, xs, ys, rd, _, _, _, h, rfl⟩ := h
    rcases h with ⟨_, _, rfl⟩ | ⟨_, _, _, rfl⟩
    all_goals intro p hp; simp at hp; subst hp; simp
  case clear =>
    obtain ⟨_, k, ver, off, len, esz, xs, _, _, _, _, _, rfl, rfl⟩ := h
    intro p hp; simp at hp; subst hp; simp
  case make =>
    obtain ⟨nk, ck, z, zc, _, _, _, _, _, _, _, _, rfl, rfl⟩ := h
    intro p hp; simp at hp; subst hp; simp
  case boxg =>
    obtain ⟨_, _, _, _, rfl, rfl⟩ := h
    intro p hp; simp at hp; subst hp; simp
  case callo =>
    obtain ⟨f, caps, obs, res, obs', _, _, _, _, _, _, _, rfl, rfl⟩ := h
    have key : ∀ (ks : List Nat) (os : List Ob), ∀ p ∈ zipU ks os, p.1 ∈ ks := by
      intro ks
      induction ks with
      | nil => intro os p hp; simp [zipU] at hp
      | cons k ks ih =>
        intro os p hp
        cases os with
        | nil => simp [zipU] at hp
        | cons o os =>
          simp only [zipU, List.mem_cons] at hp
          rcases hp with rfl | hp
          · exact List.mem_cons_self
          · exact List.mem_cons_of_mem _ (ih os p hp)
    exact key _ _
end
end Go.AM
