/-
  The row's closed facts, each by itself: the others.
-/
import Derived.Test.YtbnkomlknlpmmaaGreatDoorRows
import Derived.Test.YtbnkomlknlpmmaaGreatDoorDmK
import Derived.Test.YtbnkomlknlpmmaaGreatDoorFacts
import Derived.KernelRfl
namespace Go.Proofs.YtbnkomlknlpmmaaGreatDoor
open Go Go.Dm
theorem k1 : row.wf (OpenSpec.ofChange spec) = true := by kernel_rfl
theorem k2 : laidOutB Tryz.prog = true := by kernel_rfl
theorem k3 : mapsRowed Tryz.prog = true := by kernel_rfl
theorem k4 : Tryz.f3.params.all (Tryz.prog.readableRec ·) = true := by kernel_rfl
theorem k5 : namedTie Tryz.prog row.named spec.vars = true := by kernel_rfl
theorem k16 : (row.mapsOut == Tryz.prog.mapsAmong Tryz.f3.resultTypes.toList) = true := by kernel_rfl
theorem k23 : (row.plainKeys == Tryz.prog.plainKeys) = true := by kernel_rfl
theorem k25 : Tryz.prog.stopsHeard = true := by kernel_rfl
theorem k26 : Tryz.prog.mayEnter = true := by kernel_rfl
theorem k27 : (row.lifted == Tryz.prog.liftsFinal) = true := by kernel_rfl
theorem k28 : (Tryz.prog.make == some row.make) = true := by kernel_rfl
theorem k14 : (row.maps == (Tryz.f3.params.toList ++ spec.plain.varTypes Tryz.prog).any (Tryz.prog.mapsRec ·)) = true := by kernel_rfl
theorem k15 : (row.ifaces == (Tryz.f3.params.toList ++ spec.plain.varTypes Tryz.prog).any (Tryz.prog.ifacesRec ·)) = true := by kernel_rfl
theorem k17 : (row.loops == (Tryz.f3.params.toList ++ spec.plain.varTypes Tryz.prog).any (Tryz.prog.loopsFrom ·)) = true := by kernel_rfl
theorem k18 : (row.wideKeys == (Tryz.f3.params.toList ++ spec.plain.varTypes Tryz.prog ++ Tryz.f3.resultTypes.toList).any (Tryz.prog.wideKeysFrom ·)) = true := by kernel_rfl
theorem k20 : Tryz.f3.resultTypes.all (fun t => Tryz.prog.readableRec t && decide (t < Tryz.prog.types.size)) = true := by kernel_rfl
theorem k31 : (row.veiled == (Tryz.f3.params.toList ++ spec.plain.varTypes Tryz.prog ++ Tryz.f3.resultTypes.toList).any (Tryz.prog.veiledRec ·)) = true := by kernel_rfl
theorem k32 : row.veiledFits Tryz.prog Tryz.f3.params.toList (Tryz.f3.params.toList ++ spec.plain.varTypes Tryz.prog ++ Tryz.f3.resultTypes.toList) = true := by kernel_rfl
theorem named3 : Tryz.prog.funcNamed "jobber/jobberlaw29.SpecNobody" = some 3 := by kernel_rfl
theorem inst3 : Tryz.f3.isInstance Tryz.prog row.origin row.targs := of_decide_eq_true (by kernel_rfl)
theorem closed : joinedFacts Tryz.prog 3 Tryz.f3 spec row = true :=
  joinedFacts_of k1 k2 k3 k4 k5 (by kernel_rfl) (by kernel_rfl) (by kernel_rfl) (by kernel_rfl) k10 k11 k12 k13 k14 k15 k16 k17 k18 (by kernel_rfl) k20 (by kernel_rfl) (by kernel_rfl) k23 (by kernel_rfl) k25 k26 k27 k28 (by kernel_rfl) (by kernel_rfl) k31 k32
end Go.Proofs.YtbnkomlknlpmmaaGreatDoor
