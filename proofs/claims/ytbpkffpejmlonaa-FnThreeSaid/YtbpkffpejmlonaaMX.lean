/- The greatest of three numbers, as the machine finds it. Conditions: none. -/
import Derived.Test.YtbpkffpejmlonaaBase
import Derived.Test.YtbpkffpejmlonaaM19
namespace Go.Proofs.Ytbpkffpejmlonaa
open Go.RowKit
theorem run_max3' (a b c : Int) (w : World) : (Builtin.max_ #[3, 3, 3] 3 #[.int .i64 a, .int .i64 b, .int .i64 c]).run Try.prog w = .ok (.int .i64 (if c > (if b > a then b else a) then c else if b > a then b else a)) w := rfl
theorem run_max3 (a b c : Int) (w : World) : (Builtin.max_ #[3, 3, 3] 3 #[.int .i64 a, .int .i64 b, .int .i64 c]).run Try.prog w = .ok (.int .i64 (mx3 a b c)) w := by
  rw [run_max3']
  congr 2
  unfold mx3
  (repeat' split) <;> omega
end Go.Proofs.Ytbpkffpejmlonaa
