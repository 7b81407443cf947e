/- The statement OpTable, walked: the cases joined. -/
import Derived.Test.YtnlemjfkgbgogaaXtab00
import Derived.Test.YtnlemjfkgbgogaaXtab01
import Derived.Test.YtnlemjfkgbgogaaXtab10
import Derived.Test.YtnlemjfkgbgogaaXtab11
namespace Go.Proofs.Ytnlemjfkgbgogaa.Tbl
open Go.RowKit Go.Proofs.Ytnlemjfkgbgogaa.P
theorem table_walk (n c : Int) (w : World) : Calls Try.prog 3 #[.int .i64 n, .int .i64 c] w fun e w' => e = .returned (.bool true) ∧ Below w.heap.size w w' := by
  by_cases h : c < 0 ∨ 4096 < c
  · exact table_out n c h w
  · obtain ⟨nm, dst, args, lb, al, ok, hT⟩ := tb n
    by_cases hd : dst = ⟨#[]⟩ <;> rcases Int.lt_or_le n 20 with hn | hn
    · exact table_in00 n c (by omega) (by omega) nm dst args lb al ok hT hd hn w
    · exact table_in01 n c (by omega) (by omega) nm dst args lb al ok hT hd hn w
    · exact table_in10 n c (by omega) (by omega) nm dst args lb al ok hT hd hn w
    · exact table_in11 n c (by omega) (by omega) nm dst args lb al ok hT hd hn w
end Go.Proofs.Ytnlemjfkgbgogaa.Tbl
