/- A part of the proof of the statement of this claim: Fr26c. -/
import Derived.Test.YtblpmmociahklaaGreatDoorFr26a
import Derived.Test.YtblpmmociahklaaGreatDoorFacts26
namespace Go.Proofs.YtblpmmociahklaaGreatDoor.lifeNone
open Go.ChangeShapes Go.WideShapes Go.ChangeAt Go.RowKit
theorem o3 : Tryz.f10.isWrapper Tryz.pinned.checked.prog Rows.lifeNoneRow.wrapper Rows.lifeNoneRow.mainSum := by unfold Func.isWrapper; first | (rw [if_pos (by decide +kernel)]; kernel_rfl) | (rw [if_neg (by decide +kernel)]; exact ⟨rfl, rfl⟩)
theorem o4 : joinedFacts Tryz.pinned.checked.prog 10 Tryz.f10 Rows.lifeNoneSpec Rows.lifeNoneRow = true := closed
end Go.Proofs.YtblpmmociahklaaGreatDoor.lifeNone
