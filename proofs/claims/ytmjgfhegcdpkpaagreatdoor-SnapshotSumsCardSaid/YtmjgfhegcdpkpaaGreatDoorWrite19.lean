/- A part of the proof of the statement of this claim: Write19. -/
import Derived.Test.YtmjgfhegcdpkpaaGreatDoorSum19
namespace Go.Proofs.YtmjgfhegcdpkpaaGreatDoor.snapshotSums
open Go.ChangeShapes Go.WideShapes Go.ChangeAt Go.RowKit
set_option linter.unusedVariables false
theorem write_nil (w : World) :
    Calls Tryz.prog 9 #[.pointer none] w fun e w' => e = .returned (.string ⟨#[]⟩) ∧ w' = w := by
  go_enter Tryz.func9, Tryz.ntmps9
  go_wp2
  go_ret
  exact ⟨rfl, rfl⟩
end Go.Proofs.YtmjgfhegcdpkpaaGreatDoor.snapshotSums
