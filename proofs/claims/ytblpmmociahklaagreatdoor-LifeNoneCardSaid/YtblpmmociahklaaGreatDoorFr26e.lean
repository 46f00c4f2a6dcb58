/- A part of the proof of the statement of this claim: Fr26e. -/
import Derived.Test.YtblpmmociahklaaGreatDoorRows
import Derived.KernelRfl
import Derived.SevenTiedAt
namespace Go.Proofs.YtblpmmociahklaaGreatDoor.lifeNone
theorem c1 : Rows.lifeNoneRow.wfByText (OpenSpec.ofChange Rows.lifeNoneSpec) = true := by kernel_rfl
theorem c2 : Tryz.pinned.checked.prog.mainIs = some (true, "988c0c38d4a4dfc053c71da333c0d242b6c026f1538f8d1c0aa271e168f8d78d".toList) := by kernel_rfl
theorem c3 : true = Tryz.pinned.checked.prog.looks [] := by kernel_rfl
end Go.Proofs.YtblpmmociahklaaGreatDoor.lifeNone
