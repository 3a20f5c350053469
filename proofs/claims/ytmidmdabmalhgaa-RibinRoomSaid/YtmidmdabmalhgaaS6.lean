/- The document's example of layer 18. -/
import Derived.Test.YtmidmdabmalhgaaR0
namespace Go.Sim
open Go.RowKit Go.Proofs
set_option maxRecDepth 100000
theorem awake18 (M : Nat) : callP env (M + 40) 16 [] = .ok (.bool true) := by kernel_rfl
end Go.Sim
