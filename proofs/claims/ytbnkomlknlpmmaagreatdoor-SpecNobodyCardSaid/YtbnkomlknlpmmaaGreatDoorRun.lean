/-
  The abstract machine runs 'SpecNobody' over names for the arguments' cells, and ends with true: one closed computation of the kernel.
-/
import Derived.Test.YtbnkomlknlpmmaaGreatDoorRows
import Derived.Test.YtbnkomlknlpmmaaGreatDoorDmI
import Derived.KernelRfl
namespace Go.Proofs.YtbnkomlknlpmmaaGreatDoor
open Go Go.Dm

theorem noCount : NoCount Tryz.prog := noCount_of (by kernel_rfl)
theorem run : saysTrue ((recN Tryz.prog Tab.none 100000).call 3 (symArgs Tryz.prog Tryz.f3.params.toList 0) St.empty) = true := by kernel_rfl
end Go.Proofs.YtbnkomlknlpmmaaGreatDoor
