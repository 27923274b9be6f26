/- P0, put together. Conditions: none. -/
import Derived.Test.YtkkccabchhnebaaNHcZ
import Derived.Test.YtkkccabchhnebaaChecked
/- The program follows what the framework asks. -/
section
namespace Go.Proofs.Ytkkccabchhnebaa
open Go.SB
theorem fol : Try.prog.follows .mixedOrders = true := by kernel_rfl
end Go.Proofs.Ytkkccabchhnebaa
end
