/- alive of law11. -/
import Derived.Test.YtikcninaepoojaaAlive
import Derived.Test.YtikcninaepoojaaDc0
namespace Go.Proofs.Ytikcninaepoojaa.Ev
set_option maxRecDepth 100000
set_option maxHeartbeats 4000000
theorem alive11 {σ : Sig} (H : Hp) : Good Try.prog σ n_law11_alive [] H (.lit (.bool true)) H := alive_of (by kernel_rfl) H
end Go.Proofs.Ytikcninaepoojaa.Ev
