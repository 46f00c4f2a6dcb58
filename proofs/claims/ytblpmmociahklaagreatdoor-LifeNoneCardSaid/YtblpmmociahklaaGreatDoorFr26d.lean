/- A part of the proof of the statement of this claim: Fr26d. -/
import Derived.Test.YtblpmmociahklaaGreatDoorFr26b
import Derived.Test.YtblpmmociahklaaGreatDoorFr26c
namespace Go.Proofs.YtblpmmociahklaaGreatDoor.lifeNone
open Go.ChangeShapes Go.WideShapes Go.ChangeAt Go.RowKit
theorem o5 : Tryz.pinned.checked.prog.funcs[10]? = some Tryz.f10 := Tryz.func10
theorem over : Rows.lifeNoneRow.holds Tryz.pinned (OpenSpec.ofChange Rows.lifeNoneSpec) :=
  OpenClaim.holds_of_wide 10 Tryz.f10 rfl rfl rfl rfl rfl rfl rfl ⟨rfl, rfl, rfl, rfl, rfl⟩ rfl rfl rfl rfl rfl o1 o5 o4 o2 o3
    (fun os started H enc _ => lifted os started H enc)
end Go.Proofs.YtblpmmociahklaaGreatDoor.lifeNone
