/- The program's regions of an open order follow the kit's wider rule. -/
import Derived.Test.YtoeghipbkmaccaaProg
import Derived.Test.YtoeghipbkmaccaaWwU
namespace Go.Proofs
open Go Go.Aw
theorem Try.mixed : Try.prog.follows .mixedOrders = true := by kernel_rfl
end Go.Proofs
