/-
  'SpecNobody' (an exchange that is nil, or that no call made, does nothing) returns true for every input, and leaves its arguments as they were. Conditions: those of the given card, no others.
-/
import Derived.Test.YtbnkomlknlpmmaaGreatDoorCards
import Derived.Test.YtbnkomlknlpmmaaGreatDoorTie
import Derived.Test.YtbnkomlknlpmmaaGreatDoorLift
import Derived.Test.YtbnkomlknlpmmaaGreatDoorFacts2
import Derived.JoinedOf
import Derived.SevenTiedAt
import Derived.Stop.Joined
import Derived.KernelRfl
namespace Go.Proofs.YtbnkomlknlpmmaaGreatDoor
open Go Go.ChangeShapes Go.WideShapes Go.RowKit Go.Dm

theorem holds : Rows.SpecNobodySaid :=
  OpenClaim.holds_of_wide 3 Tryz.f3 rfl rfl rfl rfl rfl rfl rfl ⟨rfl, rfl, rfl, rfl, rfl⟩ rfl rfl rfl rfl rfl named3 Tryz.func3 closed
    inst3 (by unfold Func.isWrapper; first | (rw [if_pos (by decide +kernel)]; kernel_rfl) | (rw [if_neg (by decide +kernel)]; exact ⟨rfl, rfl⟩))
    (fun os started H enc _ => lifted os started H enc)

theorem card_holds : Rows.SpecNobodyCardSaid :=
  Claim7.holds_tied_plain_at .later [] [.handle] true (true, "631f9859bcb78eec2b6ac8ff17b857a643b56f8a86047b71d0f8664f3e298e9e") true
    holds (fun _ h => by cases h) (by kernel_rfl) (fun _ h => by cases h) specNobody_row_tie rfl ⟨rfl, rfl⟩ (by kernel_rfl) rfl
    (fun f fn hf hfn => by
      obtain rfl : f = 3 := Option.some.inj (named3.symm.trans hf) |>.symm
      obtain rfl : fn = Tryz.f3 := (Option.some.inj (Tryz.func3.symm.trans hfn)).symm
      exact ⟨by kernel_rfl, fun j t ht => by
        rw [Tryz.params3] at ht
        have hm : t ∈ [22, 3] := by simpa using Array.mem_of_getElem? ht
        have hall : ([22, 3].all fun u => !Tryz.prog.wantsStandIn u) = true := by kernel_rfl
        exact (show Tryz.prog.wantsStandIn t = false by simpa using List.all_eq_true.1 hall t hm)⟩)
    (by kernel_rfl)
#print axioms card_holds
end Go.Proofs.YtbnkomlknlpmmaaGreatDoor
