/- A contract by positions is one by names. -/
import Derived.Test.YtgbmneoeggdaoaaGreatDoorXam4
import Derived.Below
namespace Go.AM
open Go
set_option linter.unusedVariables false
section
variable {P : Program}
theorem CtrG.mono {f : Nat} {xs : List AV} {objs : List (Nat × Ob)} {R R' : List AV → List (Nat × Ob) → Prop} (h : CtrG P f xs objs R) (hR : ∀ r o, R r o → R' r o) : CtrG P f xs objs R' := by
 refine ⟨h.1, fun V G w vs hs hrep => (h.2 V G w vs hs hrep).mono ?_⟩
 rintro e w' ⟨V', G', v, res, objs', hres, he, hv, hG, hs'⟩
 exact ⟨V', G', v, res, objs', hR _ _ hres, he, hv, hG, hs'⟩
/-- Objects by other lists that say the same. -/
theorem CtrG.same {f : Nat} {xs : List AV} {objs objs2 : List (Nat × Ob)} {R : List AV → List (Nat × Ob) → Prop} (h : CtrG P f xs objs R) (he : optA objs = optA objs2) : CtrG P f xs objs2 R := by
 refine ⟨h.1, fun V G w vs hs hrep => ?_⟩
 rw [← he] at hs
 exact h.2 V G w vs hs hrep
theorem CtrG.out {f : Nat} {xs : List AV} {objs : List (Nat × Ob)} {R : List AV → List (Nat × Ob) → Prop} {res : List AV} {objs2 : List (Nat × Ob)} (h : CtrG P f xs objs R) (hR : ∀ r o, R r o → r = res ∧ optA o = optA objs2) : CtrG P f xs objs (fun r o => r = res ∧ o = objs2) := by
 refine ⟨h.1, fun V G w vs hs hrep => (h.2 V G w vs hs hrep).mono ?_⟩
 rintro e w' ⟨V', G', v, r, o, hres, he, hv, hG, hs'⟩
 obtain ⟨rfl, ho⟩ := hR _ _ hres
 rw [ho] at hs'
 exact ⟨V', G', v, r, objs2, ⟨rfl, rfl⟩, he, hv, hG, hs'⟩
end
/- The rules by which what the abstract machine says is worked out. -/
set_option linter.unusedSimpArgs false
def bAnd (k : IntKind) (x y : Int) : Int := k.wrap (BitVec.ofInt k.bits x &&& BitVec.ofInt k.bits y).toNat
def bOr (k : IntKind) (x y : Int) : Int := k.wrap (BitVec.ofInt k.bits x ||| BitVec.ofInt k.bits y).toNat
def bXor (k : IntKind) (x y : Int) : Int := k.wrap (BitVec.ofInt k.bits x ^^^ BitVec.ofInt k.bits y).toNat
def bAndNot (k : IntKind) (x y : Int) : Int := k.wrap (BitVec.ofInt k.bits x &&& ~~~BitVec.ofInt k.bits y).toNat
section
variable {P : Program} {st : St} {Q : AEx → St → Prop} {K : KO} {ρ : Arg → AV} {μ : Nat → Option Ob} {α β : Type}
theorem w_skip : bwp P .skip st Q = Q .normal st := rfl
theorem w_lbl {l} : bwp P (.lbl l) st Q = Q .normal st := rfl
theorem w_ops {l} : bwp P (.ops l) st Q = btext P l st (Q .normal) := rfl
theorem w_draw {prec is} : bwp P (.draw prec is) st Q = bitems P is [] st fun A st' => @AccL prec A.reverse ⟨Q .normal st'⟩ := rfl
theorem w_pre {p x} : bwp P (.pre p x) st Q = bpse p st fun st' => bwp P x st' Q := rfl
theorem w_post {p x} : bwp P (.post x p) st Q = bwp P x st (AEx.then (fun st' => bpse p st' (Q .normal)) Q) := rfl
theorem w_alt {x y} : bwp P (.alt x y) st Q = @AltL ⟨bwp P x st Q⟩ ⟨bwp P y st Q⟩ := rfl
theorem w_seq {a b} : bwp P (.seq a b) st Q = bwp P a st (AEx.then (fun st' => bwp P b st' Q) Q) := rfl
theorem w_cond {c t e} : bwp P (.cond c t e) st Q = @VL _ (st.ev c) ⟨fun x => kCnd x fun b => @IfL b ⟨bwp P t st Q⟩ ⟨bwp P e st Q⟩⟩ := rfl
theorem w_block {i b} : bwp P (.block i b) st Q = bwp P b st (AEx.blk i Q) := rfl
theorem w_join {a b} : bwp P (.join a b) st Q = @JoinL P st ⟨a⟩ ⟨b⟩ ⟨Q⟩ := rfl
theorem w_loop {b} : bwp P (.loop b) st Q = @LoopL P st ⟨b⟩ ⟨Q⟩ := rfl
theorem w_exit {i} : bwp P (.exit i) st Q = Q (.exit i) st := rfl
theorem w_ret : bwp P .ret st Q = Q .ret st := rfl
theorem w_scope {b} : bwp P (.scope b) st Q = bwp P b st Q := rfl
theorem w_rfunc {lk ks g ps a b} : bwp P (.rfunc lk ks g ps a b) st Q = @RfuncL P st lk ks g ps ⟨a⟩ ⟨b⟩ ⟨Q⟩ := rfl
theorem l_nil {xs} : setL st [] xs = st := rfl
theorem l_cons {p ps x xs} : setL st (p :: ps) (x :: xs) = setL (st.set p x) ps xs := rfl
theorem th_n {n : St → Prop} : AEx.then n Q .normal st = n st := rfl
theorem th_e {n : St → Prop} {i} : AEx.then n Q (.exit i) st = Q (.exit i) st := rfl
theorem th_r {n : St → Prop} : AEx.then n Q .ret st = Q .ret st := rfl
theorem bk_n {i} : AEx.blk i Q .normal st = Q .normal st := rfl
theorem bk_r {i} : AEx.blk i Q .ret st = Q .ret st := rfl
theorem bk_e {i j} : AEx.blk i Q (.exit j) st = if j = i then Q .normal st else Q (.exit j) st := by
 by_cases h : j = i
 ·subst h; simp [AEx.blk]
 ·simp [AEx.blk, h, beq_ne h]
theorem t_nil {K : St → Prop} : btext P [] st K = K st := rfl
theorem t_it {i r} {K : St → Prop} : btext P (.it i :: r) st K = bitems P [i] [] st fun _ st' => btext P r st' K := rfl
theorem t_call {d c args pass new r} {K : St → Prop} : btext P (.call d c args pass new :: r) st K = bcall P d c args pass new st fun st' => btext P r st' K := rfl
theorem t_callg {d c args r} {K : St → Prop} : btext P (.callg d c args :: r) st K = bcallg P d c args st fun st' => btext P r st' K := rfl
theorem i_nil {A} {K : List Acc → St → Prop} : bitems P [] A st K = K A st := rfl
theorem i_one {o r A} {K : List Acc → St → Prop} : bitems P (.one o :: r) A st K = kop P o st.ev st.ob fun v u acc => bitems P r (acc :: A) ((st.puts u).setO o.dst v) K := rfl
theorem i_grp {j want os r A} {K : List Acc → St → Prop} : bitems P (.grp j want os :: r) A st K = @VL _ (st.reg j) ⟨fun x => kGrd x (fun b => @IfL (b == want) ⟨bseq P os A (st.set j (.bool want)) fun A st => bitems P r A st K⟩ ⟨bitems P r (skipA os A) (killD (st.set j (.bool (!want))) os) K⟩) (@VL _ (st.set j (.tup [])) ⟨fun st => bitems P r (skipA os A) (killD st os) K⟩)⟩ := rfl
theorem s_nil {A} {K : List Acc → St → Prop} : bseq P [] A st K = K A st := rfl
theorem s_cons {o l A} {K : List Acc → St → Prop} : bseq P (o :: l) A st K = kop P o st.ev st.ob fun v u acc => bseq P l (acc :: A) ((st.puts u).setO o.dst v) K := rfl
theorem c_call {d c args pass new} {K : St → Prop} : bcall P d c args pass new st K =
 kCal P st.ev c fun f pre caps => @VL2 _ _ (renL (idxM 0 pass) (pre ++ args.map st.ev ++ caps)) (getObs st pass) ⟨fun xs os => kSome os fun obs => @VL _ (mapOb (idxM 0 pass) obs) ⟨fun obs => @VL _ (allNone st new) ⟨fun t => @CkL (t = true) ⟨@CallO P f xs obs ⟨fun res obs' => obs'.length = pass.length + new.length ∧ K ((putAll st (pass ++ new) (mapOb (invL (idxM 0 (pass ++ new))) obs')).setO d (ren (invL (idxM 0 (pass ++ new))) (resA res)))⟩⟩⟩⟩⟩ := rfl
theorem c_callg {d c args} {K : St → Prop} : bcallg P d c args st K = kCal P st.ev c fun f pre caps => @VL2 _ _ (pre ++ args.map st.ev ++ caps) st.objs ⟨fun xs os => @CallG P f xs os ⟨fun res objs' => K ((St.mk st.regs objs').setO d (resA res))⟩⟩ := rfl
theorem e_rar {k} {K : St → Prop} : bpse (.rar k) st K = @VL _ (st.ob k) ⟨fun ob => kArr ob fun v e xs => @CkL (e = 1 ∧ xs = []) ⟨@VL _ (st.put k (.rarr v [])) ⟨K⟩⟩⟩ := rfl
theorem e_dynB {b} {K : St → Prop} : bpse (.dynB b) st K = @DynB b st ⟨K⟩ := rfl
theorem e_mv {rs m} {K : St → Prop} : bpse (.mv rs m) st K = @VL _ (st.mv rs m) ⟨K⟩ := rfl
theorem e_nil {x0 k esz v} {K : St → Prop} : bpse (.nil x0 k esz v) st K = @CkL (st.reg x0 = .yl 0 ∧ st.ob k = none) ⟨@VL _ ((st.put k (.arr v esz [])).set x0 (.hs k v 0 0)) ⟨K⟩⟩ := rfl
theorem e_dyn {ks} {K : St → Prop} : bpse (.dyn ks) st K = @DynL ks st ⟨K⟩ := rfl
theorem e_nilb {k o key esz} {K : St → Prop} : bpse (.nilb k o key esz) st K = @VL _ (st.ob k) ⟨fun x => match x with | some (.box cs) => @CkL (cs[o]? = some (.yl 0) ∧ st.ob key = none) ⟨@VL _ ((st.put key (.arr 0 esz [])).put k (.box (cs.set o (.hs key 0 0 0)))) ⟨K⟩⟩ | _ => False⟩ := rfl
theorem e_frz {k} {K : St → Prop} : bpse (.frz k) st K = @VL _ (st.ob k) ⟨fun o => kSome o fun ob => @CkL (frzOk ob = true) ⟨@VL _ (st.frz k ob) ⟨K⟩⟩⟩ := rfl
theorem o_mov {x0 a} : kop P (.mov x0 a) ρ μ K = (@VL _ (ρ a) ⟨fun x => K x [] n0⟩) := rfl
theorem o_bin {x0 op a b} : kop P (.bin x0 op a b) ρ μ K = (@VL2 _ _ (ρ a) (ρ b) ⟨fun x y => kBin op x y fun v => K v [] n0⟩) := rfl
theorem o_eq {x0 neg ks a b} : kop P (.eq x0 neg ks a b) ρ μ K = (@VL2 _ _ (ρ a) (ρ b) ⟨fun x y => kEq ks x y fun r => K (.bool (bif neg then !r else r)) [] n0⟩) := rfl
theorem o_un {x0 op a} : kop P (.un x0 op a) ρ μ K = (@VL _ (ρ a) ⟨fun x => kUn op x fun v => K v [] n0⟩) := rfl
theorem o_conv {x0 k a} : kop P (.conv x0 k a) ρ μ K = (@VL _ (ρ a) ⟨fun x => kInt x fun _ n => K (.int k (k.wrap n)) [] n0⟩) := rfl
theorem o_len {x0 a} : kop P (.len x0 a) ρ μ K = (@VL _ (ρ a) ⟨fun x => kLen x fun n => K (.int .i64 n) [] n0⟩) := rfl
theorem o_slen {x0 a} : kop P (.slen x0 a) ρ μ K = (@VL _ (ρ a) ⟨fun x => kStr x fun s => K (.int .i64 s.size) [] n0⟩) := rfl
theorem o_idx {x0 a i n} : kop P (.idx x0 a i n) ρ μ K = (@VL2 _ _ (ρ a) (ρ i) ⟨fun x y => kInt y fun _ z => kIdx x z n μ K⟩) := rfl
theorem o_aix {x0 a i n m} : kop P (.aix x0 a i n m) ρ μ K = (@VL2 _ _ (ρ a) (ρ i) ⟨fun x y => kInt y fun _ z => @CkL (0 ≤ z ∧ z < m) ⟨match x with
  | .rp c => K (.rp (c.drop (z.toNat * n))) [] n0
  | .ref k off => K (.ref k (off + z.toNat * n)) [] n0
  | .er k ver j off => K (.er k ver j (off + z.toNat * n)) [] n0
  | _ => False⟩⟩) := rfl
theorem o_fad {x0 a off} : kop P (.fad x0 a off) ρ μ K = (@VL _ (ρ a) ⟨fun x => match x with
  | .rp c => K (.rp (c.drop off)) [] n0
  | .ref k o => K (.ref k (o + off)) [] n0
  | .er k ver i o => K (.er k ver i (o + off)) [] n0
  | _ => False⟩) := rfl
theorem o_load {x0 a n ag} : kop P (.load x0 a n ag) ρ μ K = (@VL _ (ρ a) ⟨fun x => kLoad x n ag μ K⟩) := rfl
theorem o_store {a x n} : kop P (.store a x n) ρ μ K = (@VL2 _ _ (ρ a) (ρ x) ⟨fun a x => kStore a x n μ K⟩) := rfl
theorem o_boxp {x0 a} : kop P (.boxp x0 a) ρ μ K = (@VL _ (ρ a) ⟨fun x => @CkL (isP x = true ∧ oneAL (cellsOf x) = true) ⟨K (.rp (cellsOf x)) [] n0⟩⟩) := rfl
theorem o_boxo {x0 key a} : kop P (.boxo x0 key a) ρ μ K = (@VL2 _ _ (ρ a) (μ key) ⟨fun x o => kNone o (@CkL (oneA x = true) ⟨K (.ref key 0) [(key, .box [x])] ([], [key])⟩)⟩) := rfl
theorem o_boxm {x0 key a} : kop P (.boxm x0 key a) ρ μ K = (@VL2 _ _ (ρ a) (μ key) ⟨fun x o => kNone o (@CkL (isP x = true ∧ oneAL (cellsOf x) = true) ⟨K (.ref key 0) [(key, .pbox (cellsOf x))] ([], [key])⟩)⟩) := rfl
theorem o_alloc {x0 key cells} : kop P (.alloc x0 key cells) ρ μ K = (@VL _ (μ key) ⟨fun o => kNone o (K (.ref key 0) [(key, .pbox cells)] ([], [key]))⟩) := rfl
theorem o_allocm {x0 key cells} : kop P (.allocm x0 key cells) ρ μ K = (@VL _ (μ key) ⟨fun o => kNone o (K (.ref key 0) [(key, .box cells)] ([], [key]))⟩) := rfl
theorem o_alloca {x0 key key2 esz} : kop P (.alloca x0 key key2 esz) ρ μ K = (@VL2 _ _ (μ key) (μ key2) ⟨fun o o2 => kNone o (kNone o2 (@CkL (key ≠ key2) ⟨K (.ref key 0) [(key2, .arr 0 esz []), (key, .box [.hs key2 0 0 0])] ([], [key, key2])⟩))⟩) := rfl
theorem o_nilarr {x0 key esz} : kop P (.nilarr x0 key esz) ρ μ K = (@VL _ (μ key) ⟨fun o => kNone o (K (.hs key 0 0 0) [(key, .arr 0 esz [])] ([], [key]))⟩) := rfl
theorem o_build {x0 zero parts} : kop P (.build x0 zero parts) ρ μ K = (@VL2 _ _ (kParts ρ zero.length parts) (fillA ρ parts zero) ⟨fun b cs => @CkL (b = true) ⟨K (.agg cs) [] n0⟩⟩) := rfl
theorem o_bslp {x0 esz rows} : kop P (.bslp x0 esz rows) ρ μ K = (@VL2 _ _ (kRows ρ esz rows) (rows.map fun r => cellsOf (ρ r)) ⟨fun b rs => @CkL (b = true) ⟨K (.sl rs) [] n0⟩⟩) := rfl
theorem o_bslo {x0 key esz rows} : kop P (.bslo x0 key esz rows) ρ μ K = (@VL _ (μ key) ⟨fun o => kNone o (@VL2 _ _ (kRows ρ esz rows) (rows.map fun r => cellsOf (ρ r)) ⟨fun b rs => @CkL (b = true) ⟨K (.hs key 0 0 rows.length) [(key, .arr 0 esz rs)] ([], [key])⟩⟩)⟩) := rfl
theorem o_slc {x0 a lo hi esz} : kop P (.slc x0 a lo hi esz) ρ μ K = (@VL _ (ρ a) ⟨fun x => kSlc x ρ lo hi esz μ K⟩) := rfl
theorem o_sslc {x0 a lo hi} : kop P (.sslc x0 a lo hi) ρ μ K = (@VL _ (ρ a) ⟨fun x => kStr x fun s => kOptI ρ 0 lo fun l => kOptI ρ s.size hi fun h => @CkL (0 ≤ l ∧ l ≤ h ∧ h ≤ s.size) ⟨K (.str (s.extract l.toNat h.toNat)) [] n0⟩⟩) := rfl
theorem o_slc3 {x0 a lo hi mx esz} : kop P (.slc3 x0 a lo hi mx esz) ρ μ K = (@VL _ (ρ a) ⟨fun x => kSlc3 x ρ lo hi mx esz μ K⟩) := rfl
theorem o_sidx {x0 a i} : kop P (.sidx x0 a i) ρ μ K = (@VL2 _ _ (ρ a) (ρ i) ⟨fun x y => kStr x fun s => kInt y fun _ z => @CkL (0 ≤ z) ⟨@OptL _ s[z.toNat]? ⟨fun b => K (.int .u8 b.toNat) [] n0⟩⟩⟩) := rfl
theorem o_mkfn {x0 f caps} : kop P (.mkfn x0 f caps) ρ μ K = (@VL _ (caps.map ρ) ⟨fun cs => K (.fn f cs) [] n0⟩) := rfl
theorem o_mkmv {x0 f bs} : kop P (.mkmv x0 f bs) ρ μ K = (@VL _ (bs.map ρ) ⟨fun cs => K (.mfn f cs) [] n0⟩) := rfl
theorem o_calle {x0 c args} : kop P (.calle x0 c args) ρ μ K = (kCal P ρ c fun f pre caps => @VL _ (pre ++ args.map ρ ++ caps) ⟨fun xs => @CallE P f xs μ ⟨K⟩⟩) := rfl
theorem o_bslr {x0 key a} : kop P (.bslr x0 key a) ρ μ K = (@VL2 _ _ (ρ a) (μ key) ⟨fun x o => match x with | .ref k off => kNone o (K (.hs key 0 0 1) [(key, .rarr 0 [.ref k off])] ([], [key])) | _ => False⟩) := rfl
theorem o_ridx {x0 a i} : kop P (.ridx x0 a i) ρ μ K = (@VL2 _ _ (ρ a) (ρ i) ⟨fun x y => kInt y fun _ z => match x with | .hs k ver off len => @CkL (0 ≤ z ∧ z < len) ⟨@VL _ (μ k) ⟨fun o => kRar o fun v cs => @CkL (v = ver) ⟨K (.er k ver (off + z.toNat) 0) [] ([k], [])⟩⟩⟩ | _ => False⟩) := rfl
theorem o_rload {x0 a} : kop P (.rload x0 a) ρ μ K = (@VL _ (ρ a) ⟨fun x => match x with | .er k ver i o => @CkL (o = 0) ⟨@VL _ (μ k) ⟨fun ob => kRar ob fun v cs => @CkL (v = ver) ⟨@OptL _ cs[i]? ⟨fun c => K c [] ([k], [])⟩⟩⟩⟩ | _ => False⟩) := rfl
theorem o_rapp {x0 a x bytes} : kop P (.rapp x0 a x bytes) ρ μ K = (@VL2 _ _ (ρ a) (ρ x) ⟨fun y z => match y, z with | .hs k ver off len, .hs k2 ver2 off2 len2 => @VL2 _ _ (μ k) (μ k2) ⟨fun o o2 => kRar o fun v cs => kRar o2 fun v2 cs2 => @CkL ((v = ver ∧ v2 = ver2) ∧ (off2 + len2 ≤ cs2.length ∧ off + len = cs.length) ∧ ((len + len2 : Nat) : Int) * bytes ≤ 70368744177664) ⟨K (.hs k (ver + 1) 0 (len + len2)) [(k, .rarr (ver + 1) (cs.drop off ++ (cs2.drop off2).take len2))] ([k2], [k])⟩⟩ | _, _ => False⟩) := rfl
theorem o_vidx {x0 a i n m ag} : kop P (.vidx x0 a i n m ag) ρ μ K = (@VL2 _ _ (ρ a) (ρ i) ⟨fun x y => kInt y fun _ z => @CkL (0 ≤ z ∧ z < m) ⟨match x with | .agg c => kLd n ag (c.drop (z.toNat * n)) fun v => K v [] n0 | _ => False⟩⟩) := rfl
theorem o_ext {x0 a i} : kop P (.ext x0 a i) ρ μ K = (@VL _ (ρ a) ⟨fun x => match x with | .tup xs => @VL _ xs[i]? ⟨fun o => kSome o fun v => K v [] n0⟩ | _ => False⟩) := rfl
theorem o_pick {x0 c a b} : kop P (.pick x0 c a b) ρ μ K = (@VL _ (ρ c) ⟨fun x => kBool x fun t => @VL _ (bif t then ρ a else ρ b) ⟨fun v => K v [] n0⟩⟩) := rfl
theorem o_callf {x0 c args} : kop P (.callf x0 c args) ρ μ K = (kCal P ρ c fun f pre caps => @VL _ (pre ++ args.map ρ ++ caps) ⟨fun xs => @CkL (isPL xs = true) ⟨@CallL P f xs ⟨fun res => K (resA res) [] n0⟩⟩⟩) := rfl
theorem o_callb {x0 c args} : kop P (.callb x0 c args) ρ μ K = (kCal P ρ c fun f pre caps => @VL2 _ _ ((pre ++ args.map ρ ++ caps).map (bor μ)) ((pre ++ args.map ρ ++ caps).flatMap (keysA μ)) ⟨fun xs ks => @CkL (isPL xs = true) ⟨@CallL P f xs ⟨fun res => @CkL (res.all scalar = true) ⟨K (resA res) [] (ks, [])⟩⟩⟩⟩) := rfl
theorem o_appd {x0 a x esz bytes} : kop P (.appd x0 a x esz bytes) ρ μ K = (@VL2 _ _ (ρ a) (ρ x) ⟨fun a x => kApp a x esz bytes μ K⟩) := rfl
theorem o_clear {a zero} : kop P (.clear a zero) ρ μ K = (@VL _ (ρ a) ⟨fun x => match x with
  | .hs k ver off len => @VL _ (μ k) ⟨fun o => kArr o fun v e xs => @CkL (v = ver ∧ zero.length = e ∧ isPL zero = true ∧ oneAL zero = true) ⟨K .dead [(k, .arr ver e (xs.take off ++ List.replicate len zero ++ xs.drop (off + len)))] ([], [k])⟩⟩
  | _ => False⟩) := rfl
theorem o_mxn {x0 max a b} : kop P (.mxn x0 max a b) ρ μ K = (@VL2 _ _ (ρ a) (ρ b) ⟨fun x y => kInt x fun k x => kInt y fun k' y => @CkL (k = k') ⟨K (.int k (if max then (if y > x then y else x) else (if y < x then y else x))) [] n0⟩⟩) := rfl
theorem o_field {x0 a off n ag} : kop P (.field x0 a off n ag) ρ μ K = (@VL _ (ρ a) ⟨fun x => match x with | .agg c => kLd n ag (c.drop off) fun v => K v [] n0 | _ => False⟩) := rfl
theorem o_nilc {x0 a} : kop P (.nilc x0 a) ρ μ K = (@VL _ (ρ a) ⟨fun x => match x with
  | .rp c => K (.rp c) [] n0
  | .ref k o => K (.ref k o) [] n0
  | .er k w i o => K (.er k w i o) [] n0
  | .fn f c => K (.fn f c) [] n0
  | .mfn f c => K (.mfn f c) [] n0
  | _ => False⟩) := rfl
theorem o_make {x0 key esz bytes zero n c} : kop P (.make x0 key esz bytes zero n c) ρ μ K = (@VL2 _ _ (ρ n) (ρ c) ⟨fun n c => kInt n fun _ z => kInt c fun _ zc => @CkL (z = zc ∧ zero.length = esz) ⟨@CkL (0 ≤ z ∧ z * bytes ≤ 140737488355328) ⟨@VL _ (μ key) ⟨fun o => kNone o (K (.hs key 0 0 z.toNat) [(key, .arr 0 esz (List.replicate z.toNat zero))] ([], [key]))⟩⟩⟩⟩) := rfl
theorem o_makeb {x0 key bytes rows zero n c} : kop P (.makeb x0 key bytes rows zero n c) ρ μ K = (@VL2 _ _ (ρ n) (ρ c) ⟨fun n c => kInt n fun _ z => kInt c fun _ zc => @CkL (z = zc) ⟨@CkL (0 ≤ z ∧ z * bytes ≤ 140737488355328) ⟨@VL _ (μ key) ⟨fun o => kNone o (@CkL (mkbOk μ key rows z.toNat) ⟨K (.bs key 0 z.toNat) (mkbO rows z.toNat ++ [(key, .box (mkbC rows zero z.toNat))]) ([], key :: mkbK rows z.toNat)⟩)⟩⟩⟩⟩) := rfl
theorem o_buildm {x0 zero parts} : kop P (.buildm x0 zero parts) ρ μ K = (@VL2 _ _ (kPartsM ρ zero.length parts) (fillM ρ parts zero) ⟨fun b cs => @CkL (b = true) ⟨K (.mag cs) [] n0⟩⟩) := rfl
theorem o_boxg {x0 key a} : kop P (.boxg x0 key a) ρ μ K = (@VL2 _ _ (ρ a) (μ key) ⟨fun x o => kNone o (@CkL (cellM x = true ∧ oneAL (cellsM x) = true) ⟨K (.ref key 0) [(key, .box (cellsM x))] ([], [key])⟩)⟩) := rfl
theorem o_mkif {x0 t a} : kop P (.mkif x0 t a) ρ μ K = (@VL _ (ρ a) ⟨fun x => @VL _ (bif isP x then .ifc t x else .mif t x) ⟨fun v => K v [] n0⟩⟩) := rfl
theorem o_tass {x0 t a} : kop P (.tass x0 t a) ρ μ K = (@VL _ (ρ a) ⟨fun x => match x with | .ifc t' y => @CkL (t' = t) ⟨K (.tup [y, .bool true]) [] n0⟩ | _ => False⟩) := rfl
theorem o_eqs {x0 neg a} : kop P (.eqs x0 neg a) ρ μ K = (@VL _ (ρ a) ⟨fun x => kEqs neg x fun v => K v [] n0⟩) := rfl
theorem o_callo {x0 c args pass new} : kop P (.callo x0 c args pass new) ρ μ K = (kCal P ρ c fun f pre caps => @VL2 _ _ (renL (idxM 0 pass) (pre ++ args.map ρ ++ caps)) (getObsM μ pass) ⟨fun xs os => kSome os fun obs => @VL _ (mapOb (idxM 0 pass) obs) ⟨fun obs => @VL _ (allNoneM μ new) ⟨fun t => @CkL (t = true) ⟨@CallD P f xs obs ⟨fun res obs' => obs'.length = pass.length + new.length ∧
   @VL2 _ _ (ren (invL (idxM 0 (pass ++ new))) (resA res)) (zipU (pass ++ new) (mapOb (invL (idxM 0 (pass ++ new))) obs')) ⟨fun v u => K v u ([], pass ++ new)⟩⟩⟩⟩⟩⟩) := rfl
theorem o_callx {x0 c args pass new} : kop P (.callx x0 c args pass new) ρ μ K = (kCal P ρ c fun f pre caps => @VL2 _ _ ((pre ++ args.map ρ ++ caps).map (xbor pass μ)) (getObsM μ pass) ⟨fun xs os => kSome os fun obs => @VL2 _ _ (mapOb (idxM 0 pass) obs) ((pre ++ args.map ρ ++ caps).flatMap (keysA (hideM pass μ))) ⟨fun obs ks => @VL _ (allNoneM μ new) ⟨fun t => @CkL (t = true) ⟨@CallD P f xs obs ⟨fun res obs' => obs'.length = pass.length + new.length ∧ @CkL (res.all scalX = true) ⟨@CkL (obs'.all scalOb = true)
   ⟨@VL2 _ _ (ren (invL (idxM 0 (pass ++ new))) (resA res)) (zipU (pass ++ new) (mapOb (invL (idxM 0 (pass ++ new))) obs')) ⟨fun v u => K v u (ks, pass ++ new)⟩⟩⟩⟩⟩⟩⟩⟩) := rfl
theorem k_int {k n} {K : IntKind → Int → Prop} : kInt (.int k n) K = K k n := rfl
theorem k_str {s} {K : ByteArray → Prop} : kStr (.str s) K = K s := rfl
theorem k_bool {b} {K : Bool → Prop} : kBool (.bool b) K = K b := rfl
theorem k_grb {b N} {K : Bool → Prop} : kGrd (.bool b) K N = K b := rfl
theorem k_grt {N} {K : Bool → Prop} : kGrd (.tup []) K N = N := rfl
theorem k_some {x : α} {K : α → Prop} : kSome (some x) K = K x := rfl
theorem k_none {K : Prop} : kNone none K = K := rfl
theorem k_rar {v cs} {K : Nat → List AV → Prop} : kRar (some (.rarr v cs)) K = K v cs := rfl
theorem k_arr {v e xs} {K : Nat → Nat → List (List AV) → Prop} : kArr (some (.arr v e xs)) K = K v e xs := rfl
theorem k_lens {xs} {K : Nat → Prop} : kLen (.sl xs) K = K xs.length := rfl
theorem k_lenf {xs} {K : Nat → Prop} : kLen (.fl xs) K = K xs.length := rfl
theorem k_lenh {k v o n} {K : Nat → Prop} : kLen (.hs k v o n) K = K n := rfl
theorem k_lenb {k o n} {K : Nat → Prop} : kLen (.bs k o n) K = K n := rfl
theorem k_idxb {k off len z n} : kIdx (.bs k off len) z n μ K = @CkL (0 ≤ z) ⟨@CkL (z < len ∧ n = 1) ⟨K (.ref k (off + z.toNat)) [] n0⟩⟩ := rfl
theorem k_idxs {xs z n} : kIdx (.sl xs) z n μ K = @CkL (0 ≤ z) ⟨@OptL _ xs[z.toNat]? ⟨fun c => @CkL (c.length = n) ⟨K (.rp c) [] n0⟩⟩⟩ := rfl
theorem k_idxf {xs z n} : kIdx (.fl xs) z n μ K = @CkL (0 ≤ z) ⟨@OptL _ xs[z.toNat]? ⟨fun c => @CkL (c.length = n) ⟨K (.rp c) [] n0⟩⟩⟩ := rfl
theorem k_idxh {k ver off len z n} : kIdx (.hs k ver off len) z n μ K = @CkL (0 ≤ z) ⟨@CkL (z < len) ⟨@VL _ (μ k) ⟨fun o => kArr o fun v e xs => @CkL (v = ver ∧ e = n) ⟨K (.er k ver (off + z.toNat) 0) [] ([k], [])⟩⟩⟩⟩ := rfl
theorem k_ld {n ag c} {K : AV → Prop} : kLd n ag c K = @OptL _ (loadV ag n c) ⟨K⟩ := rfl
theorem k_loadp {c n ag} : kLoad (.rp c) n ag μ K = kLd n ag c fun v => K v [] n0 := rfl
theorem k_loadr {k o n ag} : kLoad (.ref k o) n ag μ K = @VL _ (μ k) ⟨fun ob => match ob with
  | some (.pbox c) => kLd n ag (c.drop o) fun v => K v [] ([k], [])
  | some (.box c) => @OptL _ (loadM ag n (c.drop o)) ⟨fun v => K v [] ([k], [])⟩
  | _ => False⟩ := rfl
theorem k_loade {k ver i o n ag} : kLoad (.er k ver i o) n ag μ K = @VL _ (μ k) ⟨fun ob => kArr ob fun v e xs => @CkL (v = ver) ⟨@OptL _ xs[i]? ⟨fun c => kLd n ag (c.drop o) fun v => K v [] ([k], [])⟩⟩⟩ := rfl
theorem k_storer {k o x n} : kStore (.ref k o) x n μ K = @VL _ (μ k) ⟨fun ob => match ob with
  | some (.pbox c) => @CkL (okSt x n = true ∧ o + n ≤ c.length) ⟨K .dead [(k, .pbox (setAt c o (cellsOf x)))] ([], [k])⟩
  | some (.box c) => @CkL (cellM x = true ∧ oneAL (cellsOf x) = true ∧ (cellsOf x).length = n ∧ o + n ≤ c.length) ⟨K .dead [(k, .box (setAt c o (cellsOf x)))] ([], [k])⟩
  | _ => False⟩ := rfl
theorem k_storee {k ver i o x n} : kStore (.er k ver i o) x n μ K = @VL _ (μ k) ⟨fun ob => kArr ob fun v e xs => @CkL (v = ver) ⟨@OptL _ xs[i]? ⟨fun c => @CkL (okSt x n = true ∧ o + n ≤ c.length) ⟨K .dead [(k, .arr ver e (xs.set i (setAt c o (cellsOf x))))] ([], [k])⟩⟩⟩⟩ := rfl
theorem k_oin {d} {K : Int → Prop} : kOptI ρ d none K = K d := rfl
theorem k_ois {d a} {K : Int → Prop} : kOptI ρ d (some a) K = @VL _ (ρ a) ⟨fun x => kInt x fun _ n => K n⟩ := rfl
theorem k_slcs {xs lo hi esz} : kSlc (.sl xs) ρ lo hi esz μ K = kOptI ρ 0 lo fun l => kOptI ρ xs.length hi fun h => @CkL (0 ≤ l ∧ l ≤ h ∧ h ≤ xs.length ∧ ∀ c ∈ xs, c.length = esz) ⟨K (.sl ((xs.take h.toNat).drop l.toNat)) [] n0⟩ := rfl
theorem k_slcf {xs lo hi esz} : kSlc (.fl xs) ρ lo hi esz μ K = kOptI ρ 0 lo fun l => kOptI ρ xs.length hi fun h => @CkL (0 ≤ l ∧ l ≤ h ∧ h ≤ xs.length ∧ ∀ c ∈ xs, c.length = esz) ⟨K (.sl ((xs.take h.toNat).drop l.toNat)) [] n0⟩ := rfl
theorem k_slch {k ver off len lo hi esz} : kSlc (.hs k ver off len) ρ lo hi esz μ K = kOptI ρ 0 lo fun l => kOptI ρ len hi fun h => @VL _ (μ k) ⟨fun ob => kArr ob fun v e xs => @CkL (v = ver ∧ e = esz) ⟨@CkL (0 ≤ l ∧ l ≤ h ∧ (h ≤ len ∨ off + h ≤ xs.length)) ⟨K (.hs k ver (off + l.toNat) (h.toNat - l.toNat)) [] ([k], [])⟩⟩⟩ := rfl
theorem k_slc3s {xs lo hi mx esz} : kSlc3 (.sl xs) ρ lo hi mx esz μ K = kOptI ρ 0 lo fun l => kOptI ρ 0 (some hi) fun h => kOptI ρ 0 (some mx) fun m => @CkL (0 ≤ l ∧ l ≤ h ∧ h = m ∧ m ≤ xs.length ∧ ∀ c ∈ xs, c.length = esz) ⟨K (.fl ((xs.take h.toNat).drop l.toNat)) [] n0⟩ := rfl
theorem k_slc3f {xs lo hi mx esz} : kSlc3 (.fl xs) ρ lo hi mx esz μ K = kOptI ρ 0 lo fun l => kOptI ρ 0 (some hi) fun h => kOptI ρ 0 (some mx) fun m => @CkL (0 ≤ l ∧ l ≤ h ∧ h = m ∧ m ≤ xs.length ∧ ∀ c ∈ xs, c.length = esz) ⟨K (.fl ((xs.take h.toNat).drop l.toNat)) [] n0⟩ := rfl
theorem k_slc3h {k ver off len lo hi mx esz} : kSlc3 (.hs k ver off len) ρ lo hi mx esz μ K = kOptI ρ 0 lo fun l => kOptI ρ 0 (some hi) fun h => kOptI ρ 0 (some mx) fun m => @VL _ (μ k) ⟨fun ob => kArr ob fun v e xs => @CkL (v = ver) ⟨@CkL (0 ≤ l ∧ l ≤ h ∧ h ≤ m ∧ m ≤ len) ⟨K (bif Nat.beq (off + m.toNat) xs.length && Nat.beq e esz then .hs k ver (off + l.toNat) (h.toNat - l.toNat) else .dead) [] ([k], [])⟩⟩⟩ := rfl
theorem k_app2 {k ver off len esz bytes ys rd} : kApp2 k ver off len esz bytes ys rd μ K = @VL _ (μ k) ⟨fun ob => kArr ob fun v e xs => @CkL (v = ver ∧ e = esz) ⟨@IfL (decide (off + len = xs.length))
  ⟨@CkL (((len + ys.length : Nat) : Int) * bytes ≤ 70368744177664) ⟨K (.hs k (ver + 1) 0 (len + ys.length)) [(k, .arr (ver + 1) esz (xs.drop off ++ ys))] (rd, [k])⟩⟩
  ⟨@CkL (off + len + ys.length ≤ xs.length) ⟨K (.hs k ver off (len + ys.length)) [(k, .arr ver esz (xs.take (off + len) ++ ys ++ xs.drop (off + len + ys.length)))] (rd, [k])⟩⟩⟩⟩ := rfl
theorem k_apps {k ver off len ys esz bytes} : kApp (.hs k ver off len) (.sl ys) esz bytes μ K = @CkL (∀ c ∈ ys, c.length = esz) ⟨kApp2 k ver off len esz bytes ys [] μ K⟩ := rfl
theorem k_appf {k ver off len ys esz bytes} : kApp (.hs k ver off len) (.fl ys) esz bytes μ K = @CkL (∀ c ∈ ys, c.length = esz) ⟨kApp2 k ver off len esz bytes ys [] μ K⟩ := rfl
theorem k_apph {k ver off len k2 ver2 off2 len2 esz bytes} : kApp (.hs k ver off len) (.hs k2 ver2 off2 len2) esz bytes μ K = @VL _ (μ k2) ⟨fun ob => kArr ob fun v e xs2 => @CkL (v = ver2 ∧ e = esz) ⟨kApp2 k ver off len esz bytes ((xs2.drop off2).take len2) [k2] μ K⟩⟩ := rfl
theorem k_cals {f} {K : Nat → List AV → List AV → Prop} : kCal P ρ (.st f) K = K f [] [] := rfl
theorem k_cald {a} {K : Nat → List AV → List AV → Prop} : kCal P ρ (.dy a) K = @VL _ (ρ a) ⟨fun x => match x with | .fn f caps => K f [] caps | .mfn f bs => K f bs [] | _ => False⟩ := rfl
theorem k_cali {a t nm f} {K : Nat → List AV → List AV → Prop} : kCal P ρ (.iv a t nm f) K = @VL _ (ρ a) ⟨fun x => @CkL (ifOk t x = true) ⟨@CkL (MethOk P t nm f) ⟨K f [unif x] []⟩⟩⟩ := rfl
theorem k_cnb {b} {K : Bool → Prop} : kCnd (.bool b) K = K b := rfl
theorem k_cna {K : Bool → Prop} : kCnd .anyb K = (K true ∧ K false) := rfl
theorem k_esn {neg} {K : AV → Prop} : kEqs neg (.sl []) K = K .anyb := rfl
theorem k_esc {neg c xs} {K : AV → Prop} : kEqs neg (.sl (c :: xs)) K = K (.bool neg) := rfl
theorem k_efn {neg} {K : AV → Prop} : kEqs neg (.fl []) K = K .anyb := rfl
theorem k_efc {neg c xs} {K : AV → Prop} : kEqs neg (.fl (c :: xs)) K = K (.bool neg) := rfl
theorem k_esh {neg k v o n} {K : AV → Prop} : kEqs neg (.hs k v o n) K = K .anyb := rfl
theorem b_add {k x y} {K : AV → Prop} : kBin .add (.int k x) (.int k y) K = K (.int k (k.wrap (x + y))) := by simp [kBin, evBin, intBin, kSome]
theorem b_sub {k x y} {K : AV → Prop} : kBin .sub (.int k x) (.int k y) K = K (.int k (k.wrap (x - y))) := by simp [kBin, evBin, intBin, kSome]
theorem b_mul {k x y} {K : AV → Prop} : kBin .mul (.int k x) (.int k y) K = K (.int k (k.wrap (x * y))) := by simp [kBin, evBin, intBin, kSome]
theorem b_quo {k x y} {K : AV → Prop} : kBin .quo (.int k x) (.int k y) K = @CkL (y ≠ 0) ⟨K (.int k (k.wrap (x.tdiv y)))⟩ := by by_cases h : y = 0 <;> simp [kBin, evBin, intBin, kSome, CkL, h]
theorem b_rem {k x y} {K : AV → Prop} : kBin .rem (.int k x) (.int k y) K = @CkL (y ≠ 0) ⟨K (.int k (x.tmod y))⟩ := by by_cases h : y = 0 <;> simp [kBin, evBin, intBin, kSome, CkL, h]
theorem b_and {k x y} {K : AV → Prop} : kBin .and (.int k x) (.int k y) K = K (.int k (bAnd k x y)) := by simp [kBin, evBin, intBin, kSome, bAnd]
theorem b_or {k x y} {K : AV → Prop} : kBin .or (.int k x) (.int k y) K = K (.int k (bOr k x y)) := by simp [kBin, evBin, intBin, kSome, bOr]
theorem b_xor {k x y} {K : AV → Prop} : kBin .xor (.int k x) (.int k y) K = K (.int k (bXor k x y)) := by simp [kBin, evBin, intBin, kSome, bXor]
theorem b_andNot {k x y} {K : AV → Prop} : kBin .andNot (.int k x) (.int k y) K = K (.int k (bAndNot k x y)) := by simp [kBin, evBin, intBin, kSome, bAndNot]
theorem b_eql {k x y} {K : AV → Prop} : kBin .eql (.int k x) (.int k y) K = K (.bool (x == y)) := by simp [kBin, evBin, intBin, kSome]
theorem b_neq {k x y} {K : AV → Prop} : kBin .neq (.int k x) (.int k y) K = K (.bool (x != y)) := by simp [kBin, evBin, intBin, kSome]
theorem b_lss {k x y} {K : AV → Prop} : kBin .lss (.int k x) (.int k y) K = K (.bool (decide (x < y))) := by simp [kBin, evBin, intBin, kSome]
theorem b_leq {k x y} {K : AV → Prop} : kBin .leq (.int k x) (.int k y) K = K (.bool (decide (x ≤ y))) := by simp [kBin, evBin, intBin, kSome]
theorem b_gtr {k x y} {K : AV → Prop} : kBin .gtr (.int k x) (.int k y) K = K (.bool (decide (x > y))) := by simp [kBin, evBin, intBin, kSome]
theorem b_geq {k x y} {K : AV → Prop} : kBin .geq (.int k x) (.int k y) K = K (.bool (decide (x ≥ y))) := by simp [kBin, evBin, intBin, kSome]
theorem b_shl {k k' x y} {K : AV → Prop} : kBin .shl (.int k x) (.int k' y) K = @CkL (0 ≤ y) ⟨K (.int k (k.wrap (x * 2 ^ min y.toNat k.bits)))⟩ := by
 by_cases h : y < 0
 ·simp [kBin, evBin, shBin, kSome, CkL, h]
  omega
 ·simp only [kBin, evBin, shBin, kSome, CkL, if_neg h, show 0 ≤ y by omega, true_and]
theorem b_shr {k k' x y} {K : AV → Prop} : kBin .shr (.int k x) (.int k' y) K = @CkL (0 ≤ y) ⟨K (.int k (x.fdiv (2 ^ min y.toNat k.bits)))⟩ := by
 by_cases h : y < 0
 ·simp [kBin, evBin, shBin, kSome, CkL, h]
  omega
 ·simp only [kBin, evBin, shBin, kSome, CkL, if_neg h, show 0 ≤ y by omega, true_and]
theorem b_seq {a b} {K : AV → Prop} : kBin .eql (.str a) (.str b) K = K (.bool (a == b)) := rfl
theorem b_sne {a b} {K : AV → Prop} : kBin .neq (.str a) (.str b) K = K (.bool (!(a == b))) := rfl
theorem b_slt {a b} {K : AV → Prop} : kBin .lss (.str a) (.str b) K = K (.bool (Op.bytesLess a.toList b.toList)) := rfl
theorem b_sad {a b} {K : AV → Prop} : kBin .add (.str a) (.str b) K = @CkL (a.size + b.size ≤ 9223372036854775807) ⟨K (.str (a ++ b))⟩ := by by_cases h : a.size + b.size ≤ 9223372036854775807 <;> simp [kBin, evBin, kSome, CkL, h]
theorem q_bool {a b} {K : Bool → Prop} : kEq .bool (.bool a) (.bool b) K = K (a == b) := rfl
theorem q_str {ks x y} {K : Bool → Prop} : kEq (.strct ks) (.agg x) (.agg y) K = @VL _ (eqC ks x y) ⟨fun o => kSome o K⟩ := rfl
theorem q_nil {x y} {K : Bool → Prop} : kEq .nil x y K = @VL _ (evNil x y) ⟨fun o => kSome o K⟩ := rfl
theorem q_nilf {x y} {K : Bool → Prop} : kEq .nilf x y K = @VL _ (evNilF x y) ⟨fun o => kSome o K⟩ := rfl
theorem u_not {b} {K : AV → Prop} : kUn .not (.bool b) K = K (.bool !b) := rfl
theorem u_neg {k n} {K : AV → Prop} : kUn .neg (.int k n) K = K (.int k (k.wrap (0 - n))) := rfl
theorem u_xor {k n} {K : AV → Prop} : kUn .xor (.int k n) K = K (.int k (k.wrap (BitVec.ofInt k.bits (if k.signed then -1 else k.max) ^^^ BitVec.ofInt k.bits n).toNat)) := rfl
theorem f_ret {nk ri ek R} : afin nk ri ek R .ret st = @VL2 _ _ (getObs st (upFrom 0 nk ++ ek)) (mapR st ri) ⟨fun a b => kSome a fun os => kSome b fun rs => R (renL (idxM 0 (upFrom 0 nk ++ ek)) rs) (mapOb (idxM 0 (upFrom 0 nk ++ ek)) os)⟩ := by
 simp only [afin, VL2]
 cases getObs st (upFrom 0 nk ++ ek) <;> cases mapR st ri <;> simp [kSome]
theorem f_nor {nk ri ek R} : afin nk ri ek R .normal st = @VL2 _ _ (getObs st (upFrom 0 nk ++ ek)) (mapR st ri) ⟨fun a b => kSome a fun os => kSome b fun rs => R (renL (idxM 0 (upFrom 0 nk ++ ek)) rs) (mapOb (idxM 0 (upFrom 0 nk ++ ek)) os)⟩ := by
 simp only [afin, VL2]
 cases getObs st (upFrom 0 nk ++ ek) <;> cases mapR st ri <;> simp [kSome]
theorem v_r {i} : st.ev (.r i) = st.reg i := rfl
theorem v_c {v} : st.ev (.c v) = v := rfl
theorem v_g {i} : st.ev (.g i) = globA GLOB i := rfl
theorem v_reg {r o i} : St.reg ⟨r, o⟩ i = getA .dead r i := rfl
theorem v_ob {r o i} : St.ob ⟨r, o⟩ i = optA o i := rfl
theorem v_set {r o i v} : St.set ⟨r, o⟩ i v = ⟨(i, v) :: delA r i, o⟩ := rfl
theorem v_put {r o k v} : St.put ⟨r, o⟩ k v = ⟨r, (k, v) :: delA o k⟩ := rfl
theorem v_so {i v} : St.setO st (some i) v = st.set i v := rfl
theorem v_sn {v} : St.setO st none v = st := rfl
theorem v_pn : St.puts st [] = st := rfl
theorem v_pc {k o r} : St.puts st ((k, o) :: r) = (st.put k o).puts r := rfl
theorem g_nil {d : α} {i} : getA d [] i = d := rfl
theorem d_nil {i} : delA ([] : List (Nat × α)) i = [] := rfl
theorem p_nil {i} : optA ([] : List (Nat × α)) i = none := rfl
theorem m_mv {r o rs m} : St.mv ⟨r, o⟩ rs m = ⟨keepR rs (getA .dead r) m, renA m o m⟩ := rfl
theorem m_fr {r o k ob} : St.frz ⟨r, o⟩ k ob = ⟨fzR k ob r, fzO k ob o⟩ := rfl
theorem z_nil : killD st [] = st := rfl
theorem z_cons {o l} : killD st (o :: l) = killD (st.setO o.dst (.tup [])) l := rfl
theorem z_an {A} : skipA [] A = A := rfl
theorem z_ac {o l A} : skipA (o :: l) A = skipA l (([], []) :: A) := rfl
theorem g_cons {d v : α} {j r i} : getA d ((j, v) :: r) i = if j = i then v else getA d r i := by by_cases h : j = i <;> simp [getA, h, beq_ne]
theorem d_cons {v : α} {j r i} : delA ((j, v) :: r) i = if j = i then delA r i else (j, v) :: delA r i := by by_cases h : j = i <;> simp [delA, h, beq_ne]
theorem p_cons {v : α} {j r i} : optA ((j, v) :: r) i = if j = i then some v else optA r i := by by_cases h : j = i <;> simp [optA, h, beq_ne]
theorem y_mov {d a} : AOp.dst (.mov d a) = some d := rfl
theorem y_bin {d op a b} : AOp.dst (.bin d op a b) = some d := rfl
theorem y_eq {d neg ks a b} : AOp.dst (.eq d neg ks a b) = some d := rfl
theorem y_un {d op a} : AOp.dst (.un d op a) = some d := rfl
theorem y_conv {d k a} : AOp.dst (.conv d k a) = some d := rfl
theorem y_len {d a} : AOp.dst (.len d a) = some d := rfl
theorem y_slen {d a} : AOp.dst (.slen d a) = some d := rfl
theorem y_idx {d a i n} : AOp.dst (.idx d a i n) = some d := rfl
theorem y_aix {d a i n m} : AOp.dst (.aix d a i n m) = some d := rfl
theorem y_fad {d a off} : AOp.dst (.fad d a off) = some d := rfl
theorem y_load {d a n ag} : AOp.dst (.load d a n ag) = some d := rfl
theorem y_store {a x n} : AOp.dst (.store a x n) = none := rfl
theorem y_boxp {d a} : AOp.dst (.boxp d a) = some d := rfl
theorem y_boxo {d key a} : AOp.dst (.boxo d key a) = some d := rfl
theorem y_boxm {d key a} : AOp.dst (.boxm d key a) = some d := rfl
theorem y_alloc {d key cells} : AOp.dst (.alloc d key cells) = some d := rfl
theorem y_alloca {d key key2 esz} : AOp.dst (.alloca d key key2 esz) = some d := rfl
theorem y_allocm {d key cells} : AOp.dst (.allocm d key cells) = some d := rfl
theorem y_nilarr {d key esz} : AOp.dst (.nilarr d key esz) = some d := rfl
theorem y_build {d zero parts} : AOp.dst (.build d zero parts) = some d := rfl
theorem y_bslp {d esz rows} : AOp.dst (.bslp d esz rows) = some d := rfl
theorem y_bslo {d key esz rows} : AOp.dst (.bslo d key esz rows) = some d := rfl
theorem y_slc {d a lo hi esz} : AOp.dst (.slc d a lo hi esz) = some d := rfl
theorem y_sslc {d a lo hi} : AOp.dst (.sslc d a lo hi) = some d := rfl
theorem y_slc3 {d a lo hi mx esz} : AOp.dst (.slc3 d a lo hi mx esz) = some d := rfl
theorem y_sidx {d a i} : AOp.dst (.sidx d a i) = some d := rfl
theorem y_mkfn {d f caps} : AOp.dst (.mkfn d f caps) = some d := rfl
theorem y_ext {d a i} : AOp.dst (.ext d a i) = some d := rfl
theorem y_pick {d c a b} : AOp.dst (.pick d c a b) = some d := rfl
theorem y_callf {d c args} : AOp.dst (.callf d c args) = d := rfl
theorem y_callb {d c args} : AOp.dst (.callb d c args) = d := rfl
theorem y_appd {d a x esz bytes} : AOp.dst (.appd d a x esz bytes) = some d := rfl
theorem y_clear {a zero} : AOp.dst (.clear a zero) = none := rfl
theorem y_mxn {d max a b} : AOp.dst (.mxn d max a b) = some d := rfl
theorem y_field {d a off n ag} : AOp.dst (.field d a off n ag) = some d := rfl
theorem y_nilc {d a} : AOp.dst (.nilc d a) = some d := rfl
theorem y_make {d key esz bytes zero n c} : AOp.dst (.make d key esz bytes zero n c) = some d := rfl
theorem y_makeb {d key bytes rows zero n c} : AOp.dst (.makeb d key bytes rows zero n c) = some d := rfl
theorem y_buildm {d zero parts} : AOp.dst (.buildm d zero parts) = some d := rfl
theorem y_boxg {d key a} : AOp.dst (.boxg d key a) = some d := rfl
theorem y_mkif {d t a} : AOp.dst (.mkif d t a) = some d := rfl
theorem y_tass {d t a} : AOp.dst (.tass d t a) = some d := rfl
theorem y_eqs {d neg a} : AOp.dst (.eqs d neg a) = some d := rfl
theorem y_callo {d c args pass new} : AOp.dst (.callo d c args pass new) = d := rfl
theorem y_mkmv {d f bs} : AOp.dst (.mkmv d f bs) = some d := rfl
theorem y_callx {d c args pass new} : AOp.dst (.callx d c args pass new) = d := rfl
theorem y_vidx {d a i n m ag} : AOp.dst (.vidx d a i n m ag) = some d := rfl
theorem y_bslr {d key a} : AOp.dst (.bslr d key a) = some d := rfl
theorem y_ridx {d a i} : AOp.dst (.ridx d a i) = some d := rfl
theorem y_rload {d a} : AOp.dst (.rload d a) = some d := rfl
theorem y_rapp {d a x bytes} : AOp.dst (.rapp d a x bytes) = some d := rfl
theorem y_calle {d c args} : AOp.dst (.calle d c args) = d := rfl
theorem nb_if {a b : Nat} {x y : α} : (bif Nat.beq a b then x else y) = if a = b then x else y := by by_cases h : a = b <;> simp [h, beq_ne]
theorem nbd {a b : Nat} : Nat.beq a b = decide (a = b) := by by_cases h : a = b <;> simp [h, beq_ne]
theorem VL_mk {x : α} {K : α → Prop} : @VL _ x ⟨K⟩ = K x := rfl
theorem VL2_mk {x : α} {y : β} {K : α → β → Prop} : @VL2 _ _ x y ⟨K⟩ = K x y := rfl
theorem If_t {X Y : Prop} : @IfL true ⟨X⟩ ⟨Y⟩ = X := by simp [IfL]
theorem If_f {X Y : Prop} : @IfL false ⟨X⟩ ⟨Y⟩ = Y := by simp [IfL]
theorem If_not {b} {X Y : Prop} : @IfL (!b) ⟨X⟩ ⟨Y⟩ = @IfL b ⟨Y⟩ ⟨X⟩ := by cases b <;> simp [IfL]
theorem If_and {a b} {X Y : Prop} : @IfL (a && b) ⟨X⟩ ⟨Y⟩ = @IfL a ⟨@IfL b ⟨X⟩ ⟨Y⟩⟩ ⟨Y⟩ := by cases a <;> cases b <;> simp [IfL]
theorem If_or {a b} {X Y : Prop} : @IfL (a || b) ⟨X⟩ ⟨Y⟩ = @IfL a ⟨X⟩ ⟨@IfL b ⟨X⟩ ⟨Y⟩⟩ := by cases a <;> cases b <;> simp [IfL]
theorem If_dt {q : Prop} [Decidable q] (h : q) {X Y : Prop} : @IfL (decide q) ⟨X⟩ ⟨Y⟩ = X := by simp [IfL, h]
theorem If_df {q : Prop} [Decidable q] (h : ¬ q) {X Y : Prop} : @IfL (decide q) ⟨X⟩ ⟨Y⟩ = Y := by simp [IfL, h]
theorem If_et {x y : Int} (h : x = y) {X Y : Prop} : @IfL (x == y) ⟨X⟩ ⟨Y⟩ = X := by simp [IfL, h]
theorem If_ef {x y : Int} (h : x ≠ y) {X Y : Prop} : @IfL (x == y) ⟨X⟩ ⟨Y⟩ = Y := by simp [IfL, h]
theorem If_ne {x y : Int} {X Y : Prop} : @IfL (x != y) ⟨X⟩ ⟨Y⟩ = @IfL (x == y) ⟨Y⟩ ⟨X⟩ := by by_cases h : x = y <;> simp [IfL, h]
theorem Ck_t {X : Prop} : @CkL True ⟨X⟩ = X := by simp [CkL]
theorem Ck_h {q : Prop} (h : q) {X : Prop} : @CkL q ⟨X⟩ = X := by simp [CkL, h]
theorem Opt_s {m : α} {K : α → Prop} : @OptL _ (some m) ⟨K⟩ = K m := by simp [OptL]
theorem ld_a {n c} : loadV true n c = if n ≤ c.length then some (.agg (c.take n)) else none := rfl
theorem ld_c {n x r} : loadV false n (x :: r) = some x := rfl
theorem lm_a {n c} : loadM true n c = if n ≤ c.length then some (mkMag (c.take n)) else none := rfl
theorem lm_c {n x r} : loadM false n (x :: r) = some x := rfl
theorem bq_t {b : Bool} : (b == true) = b := by cases b <;> rfl
theorem bq_f {b : Bool} : (b == false) = !b := by cases b <;> rfl
theorem bs_iff {a b : ByteArray} : (a == b) = true ↔ a = b := by
 constructor
 ·intro h
  cases a with
  | mk x => cases b with
   | mk y =>
    have : (x == y) = true := h
    rw [eq_of_beq this]
 ·rintro rfl
  cases a with
  | mk x =>
   show (x == x) = true
   simp
theorem bs_self {a : ByteArray} : (a == a) = true := bs_iff.2 rfl
theorem bs_dec {a b : ByteArray} : (a == b) = decide (a = b) := by
 rw [Bool.eq_iff_iff, bs_iff, decide_eq_true_iff]
theorem tk_map {α β : Type} {f : α → β} {l : List α} : (l.map f).take l.length = l.map f := List.take_of_length_le (by simp)
theorem tk_app {α β : Type} {f : α → β} {l : List α} {j : List β} : (l.map f ++ j).take l.length = l.map f := by rw [List.take_append_of_le_length (by simp), tk_map]
theorem all_nil {n : Nat} : (∀ c ∈ ([] : List (List AV)), c.length = n) = True := by simp
theorem nb_self {n : Nat} : Nat.beq n n = true := Nat.beq_refl n
theorem wrap64 {n : Int} (h1 : -9223372036854775808 ≤ n) (h2 : n ≤ 9223372036854775807) : IntKind.i64.wrap n = n := by
 simp only [IntKind.wrap, IntKind.bits, IntKind.signed]
 simp
 omega
theorem wrap8 {n : Int} (h1 : 0 ≤ n) (h2 : n < 256) : IntKind.u8.wrap n = n := by
 simp only [IntKind.wrap, IntKind.bits, IntKind.signed]
 simp
 omega
theorem ifL {b : Bool} {X Y : Prop} (h : b = true → X) (k : b = false → Y) : @IfL b ⟨X⟩ ⟨Y⟩ := ⟨h, k⟩
theorem ifD {q : Prop} [Decidable q] {X Y : Prop} (h : q → X) (k : ¬ q → Y) : @IfL (decide q) ⟨X⟩ ⟨Y⟩ := ⟨fun e => h (by simpa using e), fun e => k (by simpa using e)⟩
theorem ifE {α : Type} [BEq α] [LawfulBEq α] {x y : α} {X Y : Prop} (h : x = y → X) (k : x ≠ y → Y) : @IfL (x == y) ⟨X⟩ ⟨Y⟩ := ⟨fun e => h (by simpa using e), fun e => k (by simpa using e)⟩
theorem ckL {q : Prop} {X : Prop} (h : q) (k : X) : @CkL q ⟨X⟩ := ⟨h, k⟩
theorem optL {m : α} {o : Option α} {K : α → Prop} (h : o = some m) (k : K m) : @OptL _ o ⟨K⟩ := ⟨m, h, k⟩
theorem callL {f : Nat} {args res : List AV} {K : List AV → Prop} (h : Ctr P f args [] (ret res)) (k : K res) : @CallL P f args ⟨K⟩ := ⟨res, h, k⟩
theorem callO {f : Nat} {args : List AV} {obs : List Ob} {R : List AV → List Ob → Prop} {K : List AV → List Ob → Prop} (h : Ctr P f args obs R) (k : ∀ res obs', R res obs' → K res obs') : @CallO P f args obs ⟨K⟩ := ⟨R, h, k⟩
theorem callD {f : Nat} {args res : List AV} {obs obs' : List Ob} {K : List AV → List Ob → Prop} (h : Ctr P f args obs (retO res obs')) (k : K res obs') : @CallD P f args obs ⟨K⟩ := ⟨res, obs', h, k⟩
theorem callE {f : Nat} {xs : List AV} {μ : Nat → Option Ob} {K : KO} (pass new : List Nat) {ys : List AV} {ks : List Nat} {obs : List Ob} {res : List AV} {obs' : List Ob} (h1 : keysOk (idxM 0 (pass ++ new)) = true ∧ keysOk (idxM 0 pass) = true) (h2 : getObsM μ pass = some obs) (h3 : allNoneM μ new = true) (h4 : ArgL μ pass xs ys ks)
 (h5 : Ctr P f ys (mapOb (idxM 0 pass) obs) (retO res obs')) (h6 : obs'.length = pass.length + new.length ∧ res.all scalX = true ∧ obs'.all scalOb = true) (k : K (ren (invL (idxM 0 (pass ++ new))) (resA res)) (zipU (pass ++ new) (mapOb (invL (idxM 0 (pass ++ new))) obs')) (ks, pass ++ new)) : @CallE P f xs μ ⟨K⟩ := ⟨pass, new, ys, ks, obs, res, obs', h1, h2, h3, h4, h5, h6, k⟩
theorem callG {f : Nat} {args res : List AV} {objs objs' : List (Nat × Ob)} {K : List AV → List (Nat × Ob) → Prop} (h : CtrG P f args objs (retG res objs')) (k : K res objs') : @CallG P f args objs ⟨K⟩ := ⟨_, h, by rintro _ _ ⟨rfl, rfl⟩; exact k⟩
theorem callGR {f : Nat} {args : List AV} {objs : List (Nat × Ob)} {R : List AV → List (Nat × Ob) → Prop} {K : List AV → List (Nat × Ob) → Prop} (h : CtrG P f args objs R) (k : ∀ res objs', R res objs' → K res objs') : @CallG P f args objs ⟨K⟩ := ⟨R, h, k⟩
theorem dynB {b : Nat} {st st' : St} {K : St → Prop} (h : StpB b st st') (k : K st') : @DynB b st ⟨K⟩ := ⟨st', h, k⟩
theorem dynL {ks : List Nat} {st st' : St} {K : St → Prop} (h : Stp ks st st') (k : K st') : @DynL ks st ⟨K⟩ := ⟨st', h, k⟩
theorem accL {prec : List (List Nat)} {A : List Acc} {X : Prop} (h : accsOk prec A = true) (k : X) : @AccL prec A ⟨X⟩ := ⟨h, k⟩
end
/- A statement's contract, as a run. -/
open Go Go.RowKit
theorem ctr_law {P : Program} {f : Nat} {args : List AV} {vs : List Value} {W : World} (h : Ctr P f args [] (ret [.bool true])) (hr : RepPL (fun b o => W.cell? ⟨b, o, none⟩) args vs) (hg : Glob (fun b o => W.cell? ⟨b, o, none⟩) := by intro p hp; cases hp) :
  Calls P f vs.toArray W fun e W' => e = .returned (.bool true) ∧ Below W.heap.size W W' := by
 obtain ⟨_, h⟩ := h
 let V : View := fun b o => W.cell? ⟨b, o, none⟩
 let G : Ctx := fun _ => none
 have hs : Sat W V G.owns V G W (fun k => ([] : List Ob)[k]?) := {
  keep := ⟨rfl, rfl, rfl, Nat.le_refl _, fun _ _ _ => rfl⟩
  view := fun b o v h => h
  vle := V.le_refl
  vnew := fun _ _ _ => rfl
  obs := fun k ob e => by simp at e
  dom := fun k s e => by cases e
  priv := fun k s b e => by cases e
  inj := fun k k' s s' b e => by cases e
  loc := fun k s b e => by cases e
  glob := hg }
 refine (h V G W vs hs (RepPL.rep G hr)).mono fun e w' hh => ?_
 obtain ⟨V', G', v, res, obs', ⟨rfl, rfl⟩, rfl, hv, _, hs'⟩ := hh
 refine ⟨?_, ?_⟩
 ·have : v = .bool true := by simpa only [RepRes, Rep, RepP] using hv
  rw [this]
 ·obtain ⟨k1, k2, k3, k4, k5⟩ := hs'.keep
  exact ⟨k1, k2, k3, k4, fun b hb => k5 b hb (by rintro ⟨k, s, e, _⟩; cases e)⟩
end Go.AM
