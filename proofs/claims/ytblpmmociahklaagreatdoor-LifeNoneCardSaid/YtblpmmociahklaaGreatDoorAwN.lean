/- A part of the proof of the statement of this claim: AwN. -/
import Derived.Test.YtblpmmociahklaaGreatDoorAwG
namespace Go.Proofs.YtblpmmociahklaaGreatDoor.V
open Go Go.Proofs.YtblpmmociahklaaGreatDoor.Sx
def isTrue : Option (AV × Heap) → Bool
  | some (.bool true, _) => true
  | _ => false
set_option maxRecDepth 100000 in
theorem aw26 : isTrue (ev Tryz.prog (hkD tabL 148) 100000 200 .fn 50 [] H0) = true := by decide +kernel
end Go.Proofs.YtblpmmociahklaaGreatDoor.V
