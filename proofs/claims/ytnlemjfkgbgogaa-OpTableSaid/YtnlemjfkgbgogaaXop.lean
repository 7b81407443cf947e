/- The operations' table of package op: what its functions answer, walked. -/
import Derived.Test.YtnlemjfkgbgogaaProg
import Derived.WalkKit
import Derived.WalkLawsBesides
import Derived.WalkSpells
import Derived.Deep.QuietTactic
import Derived.BigQuiet
namespace Go.Proofs.Ytnlemjfkgbgogaa.X
open Go.RowKit
/-- What is known of an operation: its name, what its places may have, its labels, is it of machine code alone. -/
structure Row where
  nm : ByteArray
  d : Int
  a0 : Int
  a1 : Int
  lb : Int
  mc : Bool
def rowN : Nat → Row
  | 1 => ⟨⟨#[97, 100, 100]⟩, 1, 1, 5, 0, false⟩
  | 2 => ⟨⟨#[115, 117, 98]⟩, 1, 1, 5, 0, false⟩
  | 3 => ⟨⟨#[109, 117, 108]⟩, 1, 1, 5, 0, false⟩
  | 4 => ⟨⟨#[97, 110, 100]⟩, 1, 1, 5, 0, false⟩
  | 5 => ⟨⟨#[111, 114]⟩, 1, 1, 5, 0, false⟩
  | 6 => ⟨⟨#[120, 111, 114]⟩, 1, 1, 5, 0, false⟩
  | 7 => ⟨⟨#[115, 104, 108]⟩, 1, 1, 5, 0, false⟩
  | 8 => ⟨⟨#[115, 104, 114]⟩, 1, 1, 5, 0, false⟩
  | 9 => ⟨⟨#[115, 97, 114]⟩, 1, 1, 5, 0, false⟩
  | 10 => ⟨⟨#[100, 105, 118]⟩, 1, 1, 5, 0, false⟩
  | 11 => ⟨⟨#[114, 101, 109]⟩, 1, 1, 5, 0, false⟩
  | 12 => ⟨⟨#[101, 113]⟩, 1, 1, 5, 0, false⟩
  | 13 => ⟨⟨#[110, 101]⟩, 1, 1, 5, 0, false⟩
  | 14 => ⟨⟨#[108, 116]⟩, 1, 1, 5, 0, false⟩
  | 15 => ⟨⟨#[108, 101]⟩, 1, 1, 5, 0, false⟩
  | 16 => ⟨⟨#[99, 111, 112, 121]⟩, 3, 7, 0, 0, false⟩
  | 17 => ⟨⟨#[108, 111, 97, 100]⟩, 1, 2, 0, 0, false⟩
  | 18 => ⟨⟨#[115, 116, 111, 114, 101]⟩, 0, 1, 2, 0, false⟩
  | 19 => ⟨⟨#[99, 97, 108, 108]⟩, 17, 13, 0, 0, false⟩
  | 20 => ⟨⟨#[98, 114]⟩, 0, 0, 0, 1, false⟩
  | 21 => ⟨⟨#[98, 114, 105, 102]⟩, 0, 1, 0, 2, false⟩
  | 22 => ⟨⟨#[115, 119, 105, 116, 99, 104]⟩, 0, 1, 0, (-1), false⟩
  | 23 => ⟨⟨#[114, 101, 116]⟩, 0, 5, 0, 0, false⟩
  | 24 => ⟨⟨#[109, 111, 118, 101]⟩, 3, 3, 0, 0, true⟩
  | 25 => ⟨⟨#[115, 112, 105, 108, 108]⟩, 8, 3, 0, 0, true⟩
  | 26 => ⟨⟨#[114, 101, 108, 111, 97, 100]⟩, 3, 8, 0, 0, true⟩
  | 27 => ⟨⟨#[115, 119, 97, 112]⟩, 0, 11, 11, 0, true⟩
  | _ => ⟨⟨#[]⟩, 0, 0, 0, 0, false⟩
def rowOf (op : Int) : Row := rowN op.toNat
def isOp (op : Int) : Bool := decide (1 ≤ op ∧ op ≤ 27)
def rowV (r : Row) : Value := .agg #[.string r.nm, .int .i64 r.d, .int .i64 r.a0, .int .i64 r.a1, .int .i64 r.lb, .bool r.mc]
def FindPost (op : Int) (w : World) (e : Ending) (w' : World) : Prop := e = .returned (.tuple #[rowV (rowOf op), .bool (isOp op)]) ∧ Below w.heap.size w w'
theorem range_of (op : Int) : op = 1 ∨ op = 2 ∨ op = 3 ∨ op = 4 ∨ op = 5 ∨ op = 6 ∨ op = 7 ∨ op = 8 ∨ op = 9 ∨ op = 10 ∨ op = 11 ∨ op = 12 ∨ op = 13 ∨ op = 14 ∨ op = 15 ∨ op = 16 ∨ op = 17 ∨ op = 18 ∨ op = 19 ∨ op = 20 ∨ op = 21 ∨ op = 22 ∨ op = 23 ∨ op = 24 ∨ op = 25 ∨ op = 26 ∨ op = 27 ∨ op < 1 ∨ 27 < op := by omega

set_option maxRecDepth 100000 in
set_option maxHeartbeats 1000000 in
theorem find_1 (w : World) : Calls Try.prog 22 #[.int .i64 1] w (FindPost 1 w) := by
  have hi : ∀ w, (Instr.index 54 (.agg #[.string ⟨#[97, 100, 100]⟩, .string ⟨#[115, 117, 98]⟩, .string ⟨#[109, 117, 108]⟩, .string ⟨#[97, 110, 100]⟩, .string ⟨#[111, 114]⟩, .string ⟨#[120, 111, 114]⟩, .string ⟨#[115, 104, 108]⟩, .string ⟨#[115, 104, 114]⟩, .string ⟨#[115, 97, 114]⟩, .string ⟨#[100, 105, 118]⟩, .string ⟨#[114, 101, 109]⟩, .string ⟨#[101, 113]⟩, .string ⟨#[110, 101]⟩, .string ⟨#[108, 116]⟩, .string ⟨#[108, 101]⟩]) (.int .i64 0)).run Try.prog w = .ok (.string ⟨#[97, 100, 100]⟩) w := fun _ => by kernel_rfl
  go_enter Try.func22, Try.ntmps22
  go_wp2
  refine bodyPost_ret (v := .tuple #[rowV (rowOf 1), .bool (isOp 1)]) ?_ rfl (show FindPost _ _ _ _ from ⟨rfl, ((Below.refl _ _).alloc (Nat.le_refl _) _).alloc (by simp) _⟩)
  simp [results, Try.results22, go_sem, rowV, rowOf, rowN, isOp]
set_option maxRecDepth 100000 in
set_option maxHeartbeats 1000000 in
theorem find_2 (w : World) : Calls Try.prog 22 #[.int .i64 2] w (FindPost 2 w) := by
  have hi : ∀ w, (Instr.index 54 (.agg #[.string ⟨#[97, 100, 100]⟩, .string ⟨#[115, 117, 98]⟩, .string ⟨#[109, 117, 108]⟩, .string ⟨#[97, 110, 100]⟩, .string ⟨#[111, 114]⟩, .string ⟨#[120, 111, 114]⟩, .string ⟨#[115, 104, 108]⟩, .string ⟨#[115, 104, 114]⟩, .string ⟨#[115, 97, 114]⟩, .string ⟨#[100, 105, 118]⟩, .string ⟨#[114, 101, 109]⟩, .string ⟨#[101, 113]⟩, .string ⟨#[110, 101]⟩, .string ⟨#[108, 116]⟩, .string ⟨#[108, 101]⟩]) (.int .i64 1)).run Try.prog w = .ok (.string ⟨#[115, 117, 98]⟩) w := fun _ => by kernel_rfl
  go_enter Try.func22, Try.ntmps22
  go_wp2
  refine bodyPost_ret (v := .tuple #[rowV (rowOf 2), .bool (isOp 2)]) ?_ rfl (show FindPost _ _ _ _ from ⟨rfl, ((Below.refl _ _).alloc (Nat.le_refl _) _).alloc (by simp) _⟩)
  simp [results, Try.results22, go_sem, rowV, rowOf, rowN, isOp]
set_option maxRecDepth 100000 in
set_option maxHeartbeats 1000000 in
theorem find_3 (w : World) : Calls Try.prog 22 #[.int .i64 3] w (FindPost 3 w) := by
  have hi : ∀ w, (Instr.index 54 (.agg #[.string ⟨#[97, 100, 100]⟩, .string ⟨#[115, 117, 98]⟩, .string ⟨#[109, 117, 108]⟩, .string ⟨#[97, 110, 100]⟩, .string ⟨#[111, 114]⟩, .string ⟨#[120, 111, 114]⟩, .string ⟨#[115, 104, 108]⟩, .string ⟨#[115, 104, 114]⟩, .string ⟨#[115, 97, 114]⟩, .string ⟨#[100, 105, 118]⟩, .string ⟨#[114, 101, 109]⟩, .string ⟨#[101, 113]⟩, .string ⟨#[110, 101]⟩, .string ⟨#[108, 116]⟩, .string ⟨#[108, 101]⟩]) (.int .i64 2)).run Try.prog w = .ok (.string ⟨#[109, 117, 108]⟩) w := fun _ => by kernel_rfl
  go_enter Try.func22, Try.ntmps22
  go_wp2
  refine bodyPost_ret (v := .tuple #[rowV (rowOf 3), .bool (isOp 3)]) ?_ rfl (show FindPost _ _ _ _ from ⟨rfl, ((Below.refl _ _).alloc (Nat.le_refl _) _).alloc (by simp) _⟩)
  simp [results, Try.results22, go_sem, rowV, rowOf, rowN, isOp]
set_option maxRecDepth 100000 in
set_option maxHeartbeats 1000000 in
theorem find_4 (w : World) : Calls Try.prog 22 #[.int .i64 4] w (FindPost 4 w) := by
  have hi : ∀ w, (Instr.index 54 (.agg #[.string ⟨#[97, 100, 100]⟩, .string ⟨#[115, 117, 98]⟩, .string ⟨#[109, 117, 108]⟩, .string ⟨#[97, 110, 100]⟩, .string ⟨#[111, 114]⟩, .string ⟨#[120, 111, 114]⟩, .string ⟨#[115, 104, 108]⟩, .string ⟨#[115, 104, 114]⟩, .string ⟨#[115, 97, 114]⟩, .string ⟨#[100, 105, 118]⟩, .string ⟨#[114, 101, 109]⟩, .string ⟨#[101, 113]⟩, .string ⟨#[110, 101]⟩, .string ⟨#[108, 116]⟩, .string ⟨#[108, 101]⟩]) (.int .i64 3)).run Try.prog w = .ok (.string ⟨#[97, 110, 100]⟩) w := fun _ => by kernel_rfl
  go_enter Try.func22, Try.ntmps22
  go_wp2
  refine bodyPost_ret (v := .tuple #[rowV (rowOf 4), .bool (isOp 4)]) ?_ rfl (show FindPost _ _ _ _ from ⟨rfl, ((Below.refl _ _).alloc (Nat.le_refl _) _).alloc (by simp) _⟩)
  simp [results, Try.results22, go_sem, rowV, rowOf, rowN, isOp]
set_option maxRecDepth 100000 in
set_option maxHeartbeats 1000000 in
theorem find_5 (w : World) : Calls Try.prog 22 #[.int .i64 5] w (FindPost 5 w) := by
  have hi : ∀ w, (Instr.index 54 (.agg #[.string ⟨#[97, 100, 100]⟩, .string ⟨#[115, 117, 98]⟩, .string ⟨#[109, 117, 108]⟩, .string ⟨#[97, 110, 100]⟩, .string ⟨#[111, 114]⟩, .string ⟨#[120, 111, 114]⟩, .string ⟨#[115, 104, 108]⟩, .string ⟨#[115, 104, 114]⟩, .string ⟨#[115, 97, 114]⟩, .string ⟨#[100, 105, 118]⟩, .string ⟨#[114, 101, 109]⟩, .string ⟨#[101, 113]⟩, .string ⟨#[110, 101]⟩, .string ⟨#[108, 116]⟩, .string ⟨#[108, 101]⟩]) (.int .i64 4)).run Try.prog w = .ok (.string ⟨#[111, 114]⟩) w := fun _ => by kernel_rfl
  go_enter Try.func22, Try.ntmps22
  go_wp2
  refine bodyPost_ret (v := .tuple #[rowV (rowOf 5), .bool (isOp 5)]) ?_ rfl (show FindPost _ _ _ _ from ⟨rfl, ((Below.refl _ _).alloc (Nat.le_refl _) _).alloc (by simp) _⟩)
  simp [results, Try.results22, go_sem, rowV, rowOf, rowN, isOp]
set_option maxRecDepth 100000 in
set_option maxHeartbeats 1000000 in
theorem find_6 (w : World) : Calls Try.prog 22 #[.int .i64 6] w (FindPost 6 w) := by
  have hi : ∀ w, (Instr.index 54 (.agg #[.string ⟨#[97, 100, 100]⟩, .string ⟨#[115, 117, 98]⟩, .string ⟨#[109, 117, 108]⟩, .string ⟨#[97, 110, 100]⟩, .string ⟨#[111, 114]⟩, .string ⟨#[120, 111, 114]⟩, .string ⟨#[115, 104, 108]⟩, .string ⟨#[115, 104, 114]⟩, .string ⟨#[115, 97, 114]⟩, .string ⟨#[100, 105, 118]⟩, .string ⟨#[114, 101, 109]⟩, .string ⟨#[101, 113]⟩, .string ⟨#[110, 101]⟩, .string ⟨#[108, 116]⟩, .string ⟨#[108, 101]⟩]) (.int .i64 5)).run Try.prog w = .ok (.string ⟨#[120, 111, 114]⟩) w := fun _ => by kernel_rfl
  go_enter Try.func22, Try.ntmps22
  go_wp2
  refine bodyPost_ret (v := .tuple #[rowV (rowOf 6), .bool (isOp 6)]) ?_ rfl (show FindPost _ _ _ _ from ⟨rfl, ((Below.refl _ _).alloc (Nat.le_refl _) _).alloc (by simp) _⟩)
  simp [results, Try.results22, go_sem, rowV, rowOf, rowN, isOp]
set_option maxRecDepth 100000 in
set_option maxHeartbeats 1000000 in
theorem find_7 (w : World) : Calls Try.prog 22 #[.int .i64 7] w (FindPost 7 w) := by
  have hi : ∀ w, (Instr.index 54 (.agg #[.string ⟨#[97, 100, 100]⟩, .string ⟨#[115, 117, 98]⟩, .string ⟨#[109, 117, 108]⟩, .string ⟨#[97, 110, 100]⟩, .string ⟨#[111, 114]⟩, .string ⟨#[120, 111, 114]⟩, .string ⟨#[115, 104, 108]⟩, .string ⟨#[115, 104, 114]⟩, .string ⟨#[115, 97, 114]⟩, .string ⟨#[100, 105, 118]⟩, .string ⟨#[114, 101, 109]⟩, .string ⟨#[101, 113]⟩, .string ⟨#[110, 101]⟩, .string ⟨#[108, 116]⟩, .string ⟨#[108, 101]⟩]) (.int .i64 6)).run Try.prog w = .ok (.string ⟨#[115, 104, 108]⟩) w := fun _ => by kernel_rfl
  go_enter Try.func22, Try.ntmps22
  go_wp2
  refine bodyPost_ret (v := .tuple #[rowV (rowOf 7), .bool (isOp 7)]) ?_ rfl (show FindPost _ _ _ _ from ⟨rfl, ((Below.refl _ _).alloc (Nat.le_refl _) _).alloc (by simp) _⟩)
  simp [results, Try.results22, go_sem, rowV, rowOf, rowN, isOp]
set_option maxRecDepth 100000 in
set_option maxHeartbeats 1000000 in
theorem find_8 (w : World) : Calls Try.prog 22 #[.int .i64 8] w (FindPost 8 w) := by
  have hi : ∀ w, (Instr.index 54 (.agg #[.string ⟨#[97, 100, 100]⟩, .string ⟨#[115, 117, 98]⟩, .string ⟨#[109, 117, 108]⟩, .string ⟨#[97, 110, 100]⟩, .string ⟨#[111, 114]⟩, .string ⟨#[120, 111, 114]⟩, .string ⟨#[115, 104, 108]⟩, .string ⟨#[115, 104, 114]⟩, .string ⟨#[115, 97, 114]⟩, .string ⟨#[100, 105, 118]⟩, .string ⟨#[114, 101, 109]⟩, .string ⟨#[101, 113]⟩, .string ⟨#[110, 101]⟩, .string ⟨#[108, 116]⟩, .string ⟨#[108, 101]⟩]) (.int .i64 7)).run Try.prog w = .ok (.string ⟨#[115, 104, 114]⟩) w := fun _ => by kernel_rfl
  go_enter Try.func22, Try.ntmps22
  go_wp2
  refine bodyPost_ret (v := .tuple #[rowV (rowOf 8), .bool (isOp 8)]) ?_ rfl (show FindPost _ _ _ _ from ⟨rfl, ((Below.refl _ _).alloc (Nat.le_refl _) _).alloc (by simp) _⟩)
  simp [results, Try.results22, go_sem, rowV, rowOf, rowN, isOp]
set_option maxRecDepth 100000 in
set_option maxHeartbeats 1000000 in
theorem find_9 (w : World) : Calls Try.prog 22 #[.int .i64 9] w (FindPost 9 w) := by
  have hi : ∀ w, (Instr.index 54 (.agg #[.string ⟨#[97, 100, 100]⟩, .string ⟨#[115, 117, 98]⟩, .string ⟨#[109, 117, 108]⟩, .string ⟨#[97, 110, 100]⟩, .string ⟨#[111, 114]⟩, .string ⟨#[120, 111, 114]⟩, .string ⟨#[115, 104, 108]⟩, .string ⟨#[115, 104, 114]⟩, .string ⟨#[115, 97, 114]⟩, .string ⟨#[100, 105, 118]⟩, .string ⟨#[114, 101, 109]⟩, .string ⟨#[101, 113]⟩, .string ⟨#[110, 101]⟩, .string ⟨#[108, 116]⟩, .string ⟨#[108, 101]⟩]) (.int .i64 8)).run Try.prog w = .ok (.string ⟨#[115, 97, 114]⟩) w := fun _ => by kernel_rfl
  go_enter Try.func22, Try.ntmps22
  go_wp2
  refine bodyPost_ret (v := .tuple #[rowV (rowOf 9), .bool (isOp 9)]) ?_ rfl (show FindPost _ _ _ _ from ⟨rfl, ((Below.refl _ _).alloc (Nat.le_refl _) _).alloc (by simp) _⟩)
  simp [results, Try.results22, go_sem, rowV, rowOf, rowN, isOp]
set_option maxRecDepth 100000 in
set_option maxHeartbeats 1000000 in
theorem find_10 (w : World) : Calls Try.prog 22 #[.int .i64 10] w (FindPost 10 w) := by
  have hi : ∀ w, (Instr.index 54 (.agg #[.string ⟨#[97, 100, 100]⟩, .string ⟨#[115, 117, 98]⟩, .string ⟨#[109, 117, 108]⟩, .string ⟨#[97, 110, 100]⟩, .string ⟨#[111, 114]⟩, .string ⟨#[120, 111, 114]⟩, .string ⟨#[115, 104, 108]⟩, .string ⟨#[115, 104, 114]⟩, .string ⟨#[115, 97, 114]⟩, .string ⟨#[100, 105, 118]⟩, .string ⟨#[114, 101, 109]⟩, .string ⟨#[101, 113]⟩, .string ⟨#[110, 101]⟩, .string ⟨#[108, 116]⟩, .string ⟨#[108, 101]⟩]) (.int .i64 9)).run Try.prog w = .ok (.string ⟨#[100, 105, 118]⟩) w := fun _ => by kernel_rfl
  go_enter Try.func22, Try.ntmps22
  go_wp2
  refine bodyPost_ret (v := .tuple #[rowV (rowOf 10), .bool (isOp 10)]) ?_ rfl (show FindPost _ _ _ _ from ⟨rfl, ((Below.refl _ _).alloc (Nat.le_refl _) _).alloc (by simp) _⟩)
  simp [results, Try.results22, go_sem, rowV, rowOf, rowN, isOp]
set_option maxRecDepth 100000 in
set_option maxHeartbeats 1000000 in
theorem find_11 (w : World) : Calls Try.prog 22 #[.int .i64 11] w (FindPost 11 w) := by
  have hi : ∀ w, (Instr.index 54 (.agg #[.string ⟨#[97, 100, 100]⟩, .string ⟨#[115, 117, 98]⟩, .string ⟨#[109, 117, 108]⟩, .string ⟨#[97, 110, 100]⟩, .string ⟨#[111, 114]⟩, .string ⟨#[120, 111, 114]⟩, .string ⟨#[115, 104, 108]⟩, .string ⟨#[115, 104, 114]⟩, .string ⟨#[115, 97, 114]⟩, .string ⟨#[100, 105, 118]⟩, .string ⟨#[114, 101, 109]⟩, .string ⟨#[101, 113]⟩, .string ⟨#[110, 101]⟩, .string ⟨#[108, 116]⟩, .string ⟨#[108, 101]⟩]) (.int .i64 10)).run Try.prog w = .ok (.string ⟨#[114, 101, 109]⟩) w := fun _ => by kernel_rfl
  go_enter Try.func22, Try.ntmps22
  go_wp2
  refine bodyPost_ret (v := .tuple #[rowV (rowOf 11), .bool (isOp 11)]) ?_ rfl (show FindPost _ _ _ _ from ⟨rfl, ((Below.refl _ _).alloc (Nat.le_refl _) _).alloc (by simp) _⟩)
  simp [results, Try.results22, go_sem, rowV, rowOf, rowN, isOp]
set_option maxRecDepth 100000 in
set_option maxHeartbeats 1000000 in
theorem find_12 (w : World) : Calls Try.prog 22 #[.int .i64 12] w (FindPost 12 w) := by
  have hi : ∀ w, (Instr.index 54 (.agg #[.string ⟨#[97, 100, 100]⟩, .string ⟨#[115, 117, 98]⟩, .string ⟨#[109, 117, 108]⟩, .string ⟨#[97, 110, 100]⟩, .string ⟨#[111, 114]⟩, .string ⟨#[120, 111, 114]⟩, .string ⟨#[115, 104, 108]⟩, .string ⟨#[115, 104, 114]⟩, .string ⟨#[115, 97, 114]⟩, .string ⟨#[100, 105, 118]⟩, .string ⟨#[114, 101, 109]⟩, .string ⟨#[101, 113]⟩, .string ⟨#[110, 101]⟩, .string ⟨#[108, 116]⟩, .string ⟨#[108, 101]⟩]) (.int .i64 11)).run Try.prog w = .ok (.string ⟨#[101, 113]⟩) w := fun _ => by kernel_rfl
  go_enter Try.func22, Try.ntmps22
  go_wp2
  refine bodyPost_ret (v := .tuple #[rowV (rowOf 12), .bool (isOp 12)]) ?_ rfl (show FindPost _ _ _ _ from ⟨rfl, ((Below.refl _ _).alloc (Nat.le_refl _) _).alloc (by simp) _⟩)
  simp [results, Try.results22, go_sem, rowV, rowOf, rowN, isOp]
set_option maxRecDepth 100000 in
set_option maxHeartbeats 1000000 in
theorem find_13 (w : World) : Calls Try.prog 22 #[.int .i64 13] w (FindPost 13 w) := by
  have hi : ∀ w, (Instr.index 54 (.agg #[.string ⟨#[97, 100, 100]⟩, .string ⟨#[115, 117, 98]⟩, .string ⟨#[109, 117, 108]⟩, .string ⟨#[97, 110, 100]⟩, .string ⟨#[111, 114]⟩, .string ⟨#[120, 111, 114]⟩, .string ⟨#[115, 104, 108]⟩, .string ⟨#[115, 104, 114]⟩, .string ⟨#[115, 97, 114]⟩, .string ⟨#[100, 105, 118]⟩, .string ⟨#[114, 101, 109]⟩, .string ⟨#[101, 113]⟩, .string ⟨#[110, 101]⟩, .string ⟨#[108, 116]⟩, .string ⟨#[108, 101]⟩]) (.int .i64 12)).run Try.prog w = .ok (.string ⟨#[110, 101]⟩) w := fun _ => by kernel_rfl
  go_enter Try.func22, Try.ntmps22
  go_wp2
  refine bodyPost_ret (v := .tuple #[rowV (rowOf 13), .bool (isOp 13)]) ?_ rfl (show FindPost _ _ _ _ from ⟨rfl, ((Below.refl _ _).alloc (Nat.le_refl _) _).alloc (by simp) _⟩)
  simp [results, Try.results22, go_sem, rowV, rowOf, rowN, isOp]
set_option maxRecDepth 100000 in
set_option maxHeartbeats 1000000 in
theorem find_14 (w : World) : Calls Try.prog 22 #[.int .i64 14] w (FindPost 14 w) := by
  have hi : ∀ w, (Instr.index 54 (.agg #[.string ⟨#[97, 100, 100]⟩, .string ⟨#[115, 117, 98]⟩, .string ⟨#[109, 117, 108]⟩, .string ⟨#[97, 110, 100]⟩, .string ⟨#[111, 114]⟩, .string ⟨#[120, 111, 114]⟩, .string ⟨#[115, 104, 108]⟩, .string ⟨#[115, 104, 114]⟩, .string ⟨#[115, 97, 114]⟩, .string ⟨#[100, 105, 118]⟩, .string ⟨#[114, 101, 109]⟩, .string ⟨#[101, 113]⟩, .string ⟨#[110, 101]⟩, .string ⟨#[108, 116]⟩, .string ⟨#[108, 101]⟩]) (.int .i64 13)).run Try.prog w = .ok (.string ⟨#[108, 116]⟩) w := fun _ => by kernel_rfl
  go_enter Try.func22, Try.ntmps22
  go_wp2
  refine bodyPost_ret (v := .tuple #[rowV (rowOf 14), .bool (isOp 14)]) ?_ rfl (show FindPost _ _ _ _ from ⟨rfl, ((Below.refl _ _).alloc (Nat.le_refl _) _).alloc (by simp) _⟩)
  simp [results, Try.results22, go_sem, rowV, rowOf, rowN, isOp]
set_option maxRecDepth 100000 in
set_option maxHeartbeats 1000000 in
theorem find_15 (w : World) : Calls Try.prog 22 #[.int .i64 15] w (FindPost 15 w) := by
  have hi : ∀ w, (Instr.index 54 (.agg #[.string ⟨#[97, 100, 100]⟩, .string ⟨#[115, 117, 98]⟩, .string ⟨#[109, 117, 108]⟩, .string ⟨#[97, 110, 100]⟩, .string ⟨#[111, 114]⟩, .string ⟨#[120, 111, 114]⟩, .string ⟨#[115, 104, 108]⟩, .string ⟨#[115, 104, 114]⟩, .string ⟨#[115, 97, 114]⟩, .string ⟨#[100, 105, 118]⟩, .string ⟨#[114, 101, 109]⟩, .string ⟨#[101, 113]⟩, .string ⟨#[110, 101]⟩, .string ⟨#[108, 116]⟩, .string ⟨#[108, 101]⟩]) (.int .i64 14)).run Try.prog w = .ok (.string ⟨#[108, 101]⟩) w := fun _ => by kernel_rfl
  go_enter Try.func22, Try.ntmps22
  go_wp2
  refine bodyPost_ret (v := .tuple #[rowV (rowOf 15), .bool (isOp 15)]) ?_ rfl (show FindPost _ _ _ _ from ⟨rfl, ((Below.refl _ _).alloc (Nat.le_refl _) _).alloc (by simp) _⟩)
  simp [results, Try.results22, go_sem, rowV, rowOf, rowN, isOp]
set_option maxRecDepth 100000 in
set_option maxHeartbeats 1000000 in
theorem find_16 (w : World) : Calls Try.prog 22 #[.int .i64 16] w (FindPost 16 w) := by
  go_enter Try.func22, Try.ntmps22
  go_wp2
  refine bodyPost_ret (v := .tuple #[rowV (rowOf 16), .bool (isOp 16)]) ?_ rfl (show FindPost _ _ _ _ from ⟨rfl, ((Below.refl _ _).alloc (Nat.le_refl _) _).alloc (by simp) _⟩)
  simp [results, Try.results22, go_sem, rowV, rowOf, rowN, isOp]
set_option maxRecDepth 100000 in
set_option maxHeartbeats 1000000 in
theorem find_17 (w : World) : Calls Try.prog 22 #[.int .i64 17] w (FindPost 17 w) := by
  go_enter Try.func22, Try.ntmps22
  go_wp2
  refine bodyPost_ret (v := .tuple #[rowV (rowOf 17), .bool (isOp 17)]) ?_ rfl (show FindPost _ _ _ _ from ⟨rfl, ((Below.refl _ _).alloc (Nat.le_refl _) _).alloc (by simp) _⟩)
  simp [results, Try.results22, go_sem, rowV, rowOf, rowN, isOp]
set_option maxRecDepth 100000 in
set_option maxHeartbeats 1000000 in
theorem find_18 (w : World) : Calls Try.prog 22 #[.int .i64 18] w (FindPost 18 w) := by
  go_enter Try.func22, Try.ntmps22
  go_wp2
  refine bodyPost_ret (v := .tuple #[rowV (rowOf 18), .bool (isOp 18)]) ?_ rfl (show FindPost _ _ _ _ from ⟨rfl, ((Below.refl _ _).alloc (Nat.le_refl _) _).alloc (by simp) _⟩)
  simp [results, Try.results22, go_sem, rowV, rowOf, rowN, isOp]
set_option maxRecDepth 100000 in
set_option maxHeartbeats 1000000 in
theorem find_19 (w : World) : Calls Try.prog 22 #[.int .i64 19] w (FindPost 19 w) := by
  go_enter Try.func22, Try.ntmps22
  go_wp2
  refine bodyPost_ret (v := .tuple #[rowV (rowOf 19), .bool (isOp 19)]) ?_ rfl (show FindPost _ _ _ _ from ⟨rfl, ((Below.refl _ _).alloc (Nat.le_refl _) _).alloc (by simp) _⟩)
  simp [results, Try.results22, go_sem, rowV, rowOf, rowN, isOp]
set_option maxRecDepth 100000 in
set_option maxHeartbeats 1000000 in
theorem find_20 (w : World) : Calls Try.prog 22 #[.int .i64 20] w (FindPost 20 w) := by
  go_enter Try.func22, Try.ntmps22
  go_wp2
  refine bodyPost_ret (v := .tuple #[rowV (rowOf 20), .bool (isOp 20)]) ?_ rfl (show FindPost _ _ _ _ from ⟨rfl, ((Below.refl _ _).alloc (Nat.le_refl _) _).alloc (by simp) _⟩)
  simp [results, Try.results22, go_sem, rowV, rowOf, rowN, isOp]
set_option maxRecDepth 100000 in
set_option maxHeartbeats 1000000 in
theorem find_21 (w : World) : Calls Try.prog 22 #[.int .i64 21] w (FindPost 21 w) := by
  go_enter Try.func22, Try.ntmps22
  go_wp2
  refine bodyPost_ret (v := .tuple #[rowV (rowOf 21), .bool (isOp 21)]) ?_ rfl (show FindPost _ _ _ _ from ⟨rfl, ((Below.refl _ _).alloc (Nat.le_refl _) _).alloc (by simp) _⟩)
  simp [results, Try.results22, go_sem, rowV, rowOf, rowN, isOp]
set_option maxRecDepth 100000 in
set_option maxHeartbeats 1000000 in
theorem find_22 (w : World) : Calls Try.prog 22 #[.int .i64 22] w (FindPost 22 w) := by
  go_enter Try.func22, Try.ntmps22
  go_wp2
  refine bodyPost_ret (v := .tuple #[rowV (rowOf 22), .bool (isOp 22)]) ?_ rfl (show FindPost _ _ _ _ from ⟨rfl, ((Below.refl _ _).alloc (Nat.le_refl _) _).alloc (by simp) _⟩)
  simp [results, Try.results22, go_sem, rowV, rowOf, rowN, isOp]
set_option maxRecDepth 100000 in
set_option maxHeartbeats 1000000 in
theorem find_23 (w : World) : Calls Try.prog 22 #[.int .i64 23] w (FindPost 23 w) := by
  go_enter Try.func22, Try.ntmps22
  go_wp2
  refine bodyPost_ret (v := .tuple #[rowV (rowOf 23), .bool (isOp 23)]) ?_ rfl (show FindPost _ _ _ _ from ⟨rfl, ((Below.refl _ _).alloc (Nat.le_refl _) _).alloc (by simp) _⟩)
  simp [results, Try.results22, go_sem, rowV, rowOf, rowN, isOp]
set_option maxRecDepth 100000 in
set_option maxHeartbeats 1000000 in
theorem find_24 (w : World) : Calls Try.prog 22 #[.int .i64 24] w (FindPost 24 w) := by
  go_enter Try.func22, Try.ntmps22
  go_wp2
  refine bodyPost_ret (v := .tuple #[rowV (rowOf 24), .bool (isOp 24)]) ?_ rfl (show FindPost _ _ _ _ from ⟨rfl, ((Below.refl _ _).alloc (Nat.le_refl _) _).alloc (by simp) _⟩)
  simp [results, Try.results22, go_sem, rowV, rowOf, rowN, isOp]
set_option maxRecDepth 100000 in
set_option maxHeartbeats 1000000 in
theorem find_25 (w : World) : Calls Try.prog 22 #[.int .i64 25] w (FindPost 25 w) := by
  go_enter Try.func22, Try.ntmps22
  go_wp2
  refine bodyPost_ret (v := .tuple #[rowV (rowOf 25), .bool (isOp 25)]) ?_ rfl (show FindPost _ _ _ _ from ⟨rfl, ((Below.refl _ _).alloc (Nat.le_refl _) _).alloc (by simp) _⟩)
  simp [results, Try.results22, go_sem, rowV, rowOf, rowN, isOp]
set_option maxRecDepth 100000 in
set_option maxHeartbeats 1000000 in
theorem find_26 (w : World) : Calls Try.prog 22 #[.int .i64 26] w (FindPost 26 w) := by
  go_enter Try.func22, Try.ntmps22
  go_wp2
  refine bodyPost_ret (v := .tuple #[rowV (rowOf 26), .bool (isOp 26)]) ?_ rfl (show FindPost _ _ _ _ from ⟨rfl, ((Below.refl _ _).alloc (Nat.le_refl _) _).alloc (by simp) _⟩)
  simp [results, Try.results22, go_sem, rowV, rowOf, rowN, isOp]
set_option maxRecDepth 100000 in
set_option maxHeartbeats 1000000 in
theorem find_27 (w : World) : Calls Try.prog 22 #[.int .i64 27] w (FindPost 27 w) := by
  go_enter Try.func22, Try.ntmps22
  go_wp2
  refine bodyPost_ret (v := .tuple #[rowV (rowOf 27), .bool (isOp 27)]) ?_ rfl (show FindPost _ _ _ _ from ⟨rfl, ((Below.refl _ _).alloc (Nat.le_refl _) _).alloc (by simp) _⟩)
  simp [results, Try.results22, go_sem, rowV, rowOf, rowN, isOp]
theorem rowN_none (n : Nat) (h : n = 0 ∨ 27 < n) : rowN n = ⟨⟨#[]⟩, 0, 0, 0, 0, false⟩ := by
  unfold rowN
  split <;> first | rfl | omega
set_option maxRecDepth 100000 in
set_option maxHeartbeats 1000000 in
theorem find_lo (op : Int) (hop : op < 1) (w : World) : Calls Try.prog 22 #[.int .i64 op] w (FindPost op w) := by
  have h1 : Hid (rowOf op = ⟨⟨#[]⟩, 0, 0, 0, 0, false⟩) := rowN_none _ (by omega)
  have h2 : Hid (isOp op = false) := (show isOp op = false by simp only [isOp, decide_eq_false_iff_not]; omega)
  go_enter Try.func22, Try.ntmps22
  go_wp2
  exact bodyPost_ret (v := .tuple #[rowV ⟨⟨#[]⟩, 0, 0, 0, 0, false⟩, .bool false]) (by simp [results, Try.results22, go_sem, rowV]) rfl (show FindPost _ _ _ _ from ⟨by rw [h1.out, h2.out], ((Below.refl _ _).alloc (Nat.le_refl _) _).alloc (by simp) _⟩)
set_option maxRecDepth 100000 in
set_option maxHeartbeats 1000000 in
theorem find_hi (op : Int) (hop : 27 < op) (w : World) : Calls Try.prog 22 #[.int .i64 op] w (FindPost op w) := by
  have h1 : Hid (rowOf op = ⟨⟨#[]⟩, 0, 0, 0, 0, false⟩) := rowN_none _ (by omega)
  have h2 : Hid (isOp op = false) := (show isOp op = false by simp only [isOp, decide_eq_false_iff_not]; omega)
  go_enter Try.func22, Try.ntmps22
  go_wp2
  exact bodyPost_ret (v := .tuple #[rowV ⟨⟨#[]⟩, 0, 0, 0, 0, false⟩, .bool false]) (by simp [results, Try.results22, go_sem, rowV]) rfl (show FindPost _ _ _ _ from ⟨by rw [h1.out, h2.out], ((Below.refl _ _).alloc (Nat.le_refl _) _).alloc (by simp) _⟩)
theorem find_any (op : Int) (w : World) : Calls Try.prog 22 #[.int .i64 op] w (FindPost op w) := by
  rcases range_of op with rfl | rfl | rfl | rfl | rfl | rfl | rfl | rfl | rfl | rfl | rfl | rfl | rfl | rfl | rfl | rfl | rfl | rfl | rfl | rfl | rfl | rfl | rfl | rfl | rfl | rfl | rfl | h | h
  · exact find_1 w
  · exact find_2 w
  · exact find_3 w
  · exact find_4 w
  · exact find_5 w
  · exact find_6 w
  · exact find_7 w
  · exact find_8 w
  · exact find_9 w
  · exact find_10 w
  · exact find_11 w
  · exact find_12 w
  · exact find_13 w
  · exact find_14 w
  · exact find_15 w
  · exact find_16 w
  · exact find_17 w
  · exact find_18 w
  · exact find_19 w
  · exact find_20 w
  · exact find_21 w
  · exact find_22 w
  · exact find_23 w
  · exact find_24 w
  · exact find_25 w
  · exact find_26 w
  · exact find_27 w
  · exact find_lo op h w
  · exact find_hi op h w
end Go.Proofs.Ytnlemjfkgbgogaa.X
