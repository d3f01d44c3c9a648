/- The program's regions of an open order follow the kit's wider rule. -/
import Derived.Test.YtoeghipbkmaccaaDoorProg
import Derived.Test.YtoeghipbkmaccaaDoorWwU
namespace Go.Proofs
open Go Go.Aw
theorem Tryd.mixed : Tryd.prog.follows .mixedOrders = true := by kernel_rfl
end Go.Proofs
