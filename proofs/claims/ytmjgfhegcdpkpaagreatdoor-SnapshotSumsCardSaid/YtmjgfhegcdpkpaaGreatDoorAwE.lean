/- A part of the proof of the statement of this claim: AwE. -/
import Derived.Test.YtmjgfhegcdpkpaaGreatDoorAwT
namespace Go.Proofs.YtmjgfhegcdpkpaaGreatDoor
open Go Go.Proofs.YtmjgfhegcdpkpaaGreatDoor.Sx
def isTrue : Option (AV × Heap) → Bool
  | some (.bool true, _) => true
  | _ => false
set_option maxRecDepth 100000 in
theorem aw19 : isTrue (ev Tryz.prog (hkOf aw19T) 100000 200 .fn 7 [] H0) = true := by decide +kernel
end Go.Proofs.YtmjgfhegcdpkpaaGreatDoor
