/- A part of the proof of the statement of this claim: Fr26f. -/
import Derived.Test.YtblpmmociahklaaGreatDoorRows
import Derived.KernelRfl
import Derived.SevenTiedAt
namespace Go.Proofs.YtblpmmociahklaaGreatDoor.lifeNone
theorem c4 : false = Rows.lifeNoneRow.goesBy Tryz.pinned.checked.prog := by kernel_rfl
end Go.Proofs.YtblpmmociahklaaGreatDoor.lifeNone
