/-
  The row's closed facts, each by itself.
-/
import Derived.Test.YtbnkomlknlpmmaaGreatDoorRows
import Derived.Test.YtbnkomlknlpmmaaGreatDoorDmK
import Derived.KernelRfl
namespace Go.Proofs.YtbnkomlknlpmmaaGreatDoor
open Go Go.Dm
abbrev row : OpenClaim := Rows.specNobodyRow
abbrev spec : ChangeSpec := Rows.specNobodySpec
theorem k10 : (row.inPlace == Tryz.prog.inPlace 3) = true := by kernel_rfl
theorem k11 : (row.unfollowed == Tryz.prog.unfollowed 3) = true := by kernel_rfl
theorem k12 : (row.recurses == Tryz.prog.recurses 3) = true := by kernel_rfl
theorem k13 : (row.named == Tryz.prog.varsNamed 3) = true := by kernel_rfl
end Go.Proofs.YtbnkomlknlpmmaaGreatDoor
