/- The example of the chapter: a closed run of the console, by the kernel. -/
import Derived.Test.YtdbmocohcljbiaaGreatDoorRunA
namespace Go.Proofs.YtdbmocohcljbiaaGreatDoor
open Go Go.AE Go.Proofs
theorem run_live : isStr liveOut (callVF T (runAF T 100000) 3 h0 (.func (.func 13) [] []) [.str liveIn]) = true := by kernel_rfl
end Go.Proofs.YtdbmocohcljbiaaGreatDoor
