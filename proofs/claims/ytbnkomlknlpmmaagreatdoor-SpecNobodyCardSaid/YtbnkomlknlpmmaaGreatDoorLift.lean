/-
  'SpecNobody' returns true, and leaves all memory that was there as it was, whatever its arguments: the run, lifted to the row's frame.
-/
import Derived.Test.YtbnkomlknlpmmaaGreatDoorRows
import Derived.Test.YtbnkomlknlpmmaaGreatDoorRun
import Derived.ChangeVars
import Derived.LaidLaws
import Derived.LaidHandle
import Derived.RowKitTokens
import Derived.Stop.Joined
import Derived.JoinedOf
import Derived.SevenTiedAt
namespace Go.Proofs.YtbnkomlknlpmmaaGreatDoor
open Go Go.ChangeShapes Go.WideShapes Go.RowKit Go.Dm

theorem own : ownKnob Tryz.prog.godebug = none := by kernel_rfl
theorem laidOut : laidOutB Tryz.prog = true := by kernel_rfl

/-- A world that meets the condition. -/
noncomputable def laidWorld (os : Os) : World :=
  let w0 := World.holding Tryz.prog os ⟨#[], #[], []⟩
  { w0 with heap := w0.heap.modify 0 fun
      | .cells _ t frozen => .cells #[.iface 433 (.agg #[typeHandle Tryz.prog 170])] t frozen
      | o => o }
abbrev laid : List (String × DataW Unit) := Rows.specNobodyRow.laid
theorem laidWorld_met (os : Os) (args : Array Value) : laidMetH Tryz.prog laid ((laidWorld os).forCall (fun _ _ => 0) ⟨#[], args, []⟩).memory :=
  laidMetH_of_parts (laidMet_nil _ _) (by kernel_rfl)

theorem isLaw : IsLaw Rows.specNobodySpec Tryz.f3.params.toList.length := ⟨rfl, fun H l h => by
  have h : l.length = 2 := h
  match l, h with
  | [d1, d2], _ => rfl⟩

set_option maxRecDepth 100000 in
theorem lifted (os : Os) (started : os.Started) (H : Type) (enc : TypeId × Value → H) :
    ReturnsInHanded {} Tryz.checked os 3 .any (fun w args => (Rows.specNobodySpec.pre enc Tryz.prog Tryz.f3 [] false w args ∧ laidMetH Tryz.prog laid w) ∧ sizedMet enc Tryz.prog Tryz.f3 (OpenSpec.ofChange Rows.specNobodySpec) false w args)
      (Rows.specNobodySpec.post enc Tryz.prog Tryz.f3 false true false false) :=
  law_of_run_and (A := Tryz.checked) (Y := fun w _ => laidMetH Tryz.prog laid w) (tb := 4) (fun _ _ _ hh h => h.of_heap hh) own started (by kernel_rfl) Tryz.func3 laidOut (by kernel_rfl) isLaw (by kernel_rfl) Tryz.underlying4
    (ChangeSpec.witness_at (enc := enc) (C := Tryz.checked) (os := os) (X := fun w _ => laidMetH Tryz.prog laid w) false (laidWorld os) #[.slice none 0 0, .int .i64 0] 8 rfl (by kernel_rfl) (by kernel_rfl) (by kernel_rfl) (by kernel_rfl) (by kernel_rfl) (laidWorld_met os _))
    noCount run fun _ _ _ _ X _ => tabNone_ok _ _
end Go.Proofs.YtbnkomlknlpmmaaGreatDoor
