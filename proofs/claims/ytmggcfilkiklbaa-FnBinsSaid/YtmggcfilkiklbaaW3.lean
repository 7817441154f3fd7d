/- Chapter 8 of the reference: what is told, sizes, searches. Conditions: stated in each. -/
import Derived.Test.YtmggcfilkiklbaaW1
import Derived.Test.YtmggcfilkiklbaaM8
namespace Go.Proofs.Ytmggcfilkiklbaa
open Go.RowKit

def FoundPostD (w : World) (p : Nat → Bool) (m : Nat) (e : Ending) (w' : World) : Prop := ∃ r ok, e = .returned (.tuple #[.int .i64 r, .bool ok]) ∧ FirstIs p m r ok ∧ ∃ n, w' = w.drewN n

end Go.Proofs.Ytmggcfilkiklbaa
