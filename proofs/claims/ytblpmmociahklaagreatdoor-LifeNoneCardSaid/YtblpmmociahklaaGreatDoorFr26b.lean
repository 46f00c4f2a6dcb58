/- A part of the proof of the statement of this claim: Fr26b. -/
import Derived.Test.YtblpmmociahklaaGreatDoorFr26a
import Derived.Test.YtblpmmociahklaaGreatDoorFacts26
namespace Go.Proofs.YtblpmmociahklaaGreatDoor.lifeNone
open Go.ChangeShapes Go.WideShapes Go.ChangeAt Go.RowKit
theorem o1 : Tryz.pinned.checked.prog.funcNamed Rows.lifeNoneRow.func = some 10 := by kernel_rfl
theorem o2 : Tryz.f10.isInstance Tryz.pinned.checked.prog Rows.lifeNoneRow.origin Rows.lifeNoneRow.targs := of_decide_eq_true (by kernel_rfl)
end Go.Proofs.YtblpmmociahklaaGreatDoor.lifeNone
