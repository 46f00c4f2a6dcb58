/- A part of the proof of the statement of this claim: Fr26g. -/
import Derived.Test.YtblpmmociahklaaGreatDoorFr26d
import Derived.Test.YtblpmmociahklaaGreatDoorFr26e
import Derived.Test.YtblpmmociahklaaGreatDoorFr26f
import Derived.Test.YtblpmmociahklaaGreatDoorTie
import Derived.Test.YtblpmmociahklaaGreatDoorCards
namespace Go.Proofs.YtblpmmociahklaaGreatDoor.lifeNone
open Go.ChangeShapes Go.WideShapes Go.ChangeAt Go.RowKit
theorem named : Tryz.prog.funcNamed "flange/flangelaw26.LifeNone" = some 10 := by kernel_rfl
theorem stands : ([132].all fun u => !Tryz.prog.wantsStandIn u) = true := by kernel_rfl
theorem card : Rows.LifeNoneCardSaid :=
  Claim7.holds_tied_plain_at .later [] [.data, .data, .data, .data, .sentinel, .sentinel, .pinned] true (true, "988c0c38d4a4dfc053c71da333c0d242b6c026f1538f8d1c0aa271e168f8d78d") true over (fun _ h => by cases h) c1 (fun _ h => by cases h) lifeNone_row_tie rfl ⟨rfl, rfl⟩ c2 rfl
    (fun f fn hf hfn => by
      obtain rfl : f = 10 := Option.some.inj (named.symm.trans hf) |>.symm
      obtain rfl : fn = Tryz.f10 := (Option.some.inj (Tryz.func10.symm.trans hfn)).symm
      exact ⟨c3, fun j t ht => by
        rw [Tryz.params10] at ht
        have hm : t ∈ [132] := by simpa using Array.mem_of_getElem? ht
        exact (show Tryz.prog.wantsStandIn t = false by simpa using List.all_eq_true.1 stands t hm)⟩)
    c4
end Go.Proofs.YtblpmmociahklaaGreatDoor.lifeNone
