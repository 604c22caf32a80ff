/- alive of law20. -/
import Derived.Test.YtnloolhaojoimaaAlive
import Derived.Test.YtnloolhaojoimaaDc
namespace Go.Proofs.Ytnloolhaojoimaa.Ev
set_option maxRecDepth 100000
set_option maxHeartbeats 4000000
theorem alive20 {σ : Sig} (H : Hp) : Good Try.prog σ n_law20_alive [] H (.lit (.bool true)) H := alive_of (by kernel_rfl) H
end Go.Proofs.Ytnloolhaojoimaa.Ev
