/- The reference's absolute value. -/
import Derived.Test.YtcdlfnhjpjpbjaaInts
namespace Go.Proofs.Ytcdlfnhjpjpbjaa
open Go Go.RowKit

theorem l4Abs_any (n : Int) (w : World) (h0 : -9223372036854775808 < n) (h1 : n ≤ 9223372036854775807) :
    Calls Try.prog 57 #[.int .i64 n] w fun e w' => e = .returned (.int .i64 n.natAbs) ∧ w = w' := by
  by_cases h : n < 0
  all_goals
    go_enter Try.func57, Try.ntmps57
    go_wp2
    go_ret
    exact ⟨ret_int (by omega), rfl⟩
end Go.Proofs.Ytcdlfnhjpjpbjaa
