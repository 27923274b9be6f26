/- P0, put together. Conditions: none. -/
import Derived.Test.YtapoilcpollmpaaNHcZ
import Derived.Test.YtapoilcpollmpaaChecked
/- The program follows what the framework asks. -/
section
namespace Go.Proofs.Ytapoilcpollmpaa
open Go.SB
theorem fol : Try.prog.follows .mixedOrders = true := by kernel_rfl
end Go.Proofs.Ytapoilcpollmpaa
end
