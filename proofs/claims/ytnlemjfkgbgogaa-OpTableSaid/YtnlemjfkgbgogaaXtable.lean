/- Package op against its reference: the table's numbers, for every operation; and the statement OpTable, walked. -/
import Derived.Test.YtnlemjfkgbgogaaPureOpPlaces
import Derived.Deep.RegionHeld3
import Derived.Deep.DeepCutAuto
namespace Go.Proofs.Ytnlemjfkgbgogaa.Tbl
open Go.RowKit Go.Proofs.Ytnlemjfkgbgogaa.P Go.Proofs.YtnlemjfkgbgogaaW.PrintWords Go.Proofs.YtnlemjfkgbgogaaW.PrintLast Go.Proofs.YtnlemjfkgbgogaaW.PrintMore
set_option linter.unusedVariables false
set_option linter.unusedSimpArgs false
def tchk (n : Int) : Bool := match dyehouseref11_Find.f 64 n with
  | none => false
  | some x => (X.isOp n == x.2.2.2.2.2) && decide ((X.rowOf n).nm = x.1) && ((X.rowOf n).mc == x.2.2.2.2.1) && decide ((X.argsOf n).1 = (if n = 19 then 0 else (x.2.2.1.length : Int))) && decide ((X.argsOf n).2 = (x.2.2.1.length : Int))
    && (((X.rowOf n).d != 0) == decide (x.2.1 ≠ ⟨#[]⟩)) && (((X.rowOf n).d != 0 && Go.bits .and .i64 (X.rowOf n).d 16 == 0) == decide (x.2.1 ≠ ⟨#[]⟩ ∧ n ≠ 19)) && decide ((X.rowOf n).lb = x.2.2.2.1) && decide (x.2.2.1.length ≤ 8)
theorem tchk_all : ((List.range 27).all fun n => tchk ((n : Int) + 1)) = true := by kernel_rfl
structure Tb (n : Int) (nm dst : ByteArray) (args : List ByteArray) (lb : Int) (al ok : Bool) : Prop where
  find : dyehouseref11_Find.f 64 n = some (nm, dst, args, lb, al, ok)
  is : X.isOp n = ok
  nm : (X.rowOf n).nm = nm
  mc : (X.rowOf n).mc = al
  args1 : (X.argsOf n).1 = (if n = 19 then 0 else (args.length : Int))
  args2 : (X.argsOf n).2 = (args.length : Int)
  may : ((X.rowOf n).d != 0) = decide (dst ≠ ⟨#[]⟩)
  must : ((X.rowOf n).d != 0 && Go.bits .and .i64 (X.rowOf n).d 16 == 0) = decide (dst ≠ ⟨#[]⟩ ∧ n ≠ 19)
  lb : (X.rowOf n).lb = lb
theorem tb (n : Int) : ∃ nm dst args lb al ok, Tb n nm dst args lb al ok := by
  by_cases hn : n < 1 ∨ 27 < n
  · have hr := Pure.row_out n hn
    have hi : X.isOp n = false := by
      unfold X.isOp
      exact decide_eq_false (by omega)
    have ha : X.argsOf n = (0, 0) := by
      unfold X.argsOf
      rw [if_neg (by omega), if_pos hi]
    refine ⟨_, _, _, _, _, _, ⟨Pure.find_out n hn, hi, by rw [hr], by rw [hr], by rw [ha]; split <;> rfl, by rw [ha]; rfl, by rw [hr]; rfl, by rw [hr]; exact (decide_eq_false (fun h => h.1 rfl)).symm, by rw [hr]⟩⟩
  · have h := List.all_eq_true.mp tchk_all (n - 1).toNat (List.mem_range.mpr (by omega))
    rw [show (((n - 1).toNat : Int) + 1) = n by omega] at h
    unfold tchk at h
    split at h
    · cases h
    · rename_i x hx
      simp only [Bool.and_eq_true, decide_eq_true_eq, beq_iff_eq] at h
      obtain ⟨⟨⟨⟨⟨⟨⟨⟨h1, h2⟩, h3⟩, h4⟩, h5⟩, h6⟩, h7⟩, h8⟩, h9⟩ := h
      exact ⟨_, _, _, _, _, _, ⟨hx, h1, h2, h3, h4, h5, h6, h7, h8⟩⟩
end Go.Proofs.Ytnlemjfkgbgogaa.Tbl
