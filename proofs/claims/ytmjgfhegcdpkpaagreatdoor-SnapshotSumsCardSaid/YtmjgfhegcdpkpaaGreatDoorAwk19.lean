/- A part of the proof of the statement of this claim: Awk19. -/
import Derived.Test.YtmjgfhegcdpkpaaGreatDoorAwE
import Derived.Below
namespace Go.Proofs.YtmjgfhegcdpkpaaGreatDoor.snapshotSums
open Go Go.RowKit
theorem of_isTrue {r : Option (Sx.AV × Sx.Heap)} (h : isTrue r = true) : ∃ H', r = some (.bool true, H') := by
  unfold isTrue at h
  split at h
  · exact ⟨_, rfl⟩
  · cases h
theorem bod7 : Sx.bodied Tryz.prog 7 = true := by kernel_rfl
theorem awake_ok (w : World) : Calls Tryz.prog 7 #[] w fun e w' => e = .returned (.bool true) ∧ Below w.heap.size w w' := by
  obtain ⟨H', heq⟩ := of_isTrue aw19
  refine (Sx.calls_of_ev (σ := fun _ => .nilFunc) (fun _ => rfl) (Sx.tab_ok tab19) mixes (Sx.enters_of all_named) bod7 heq (vs := []) rfl w).mono ?_
  rintro e w' ⟨x, ν', rfl, hx, _, h1, h2, h3, h4, h5⟩
  simp only [Sx.VR] at hx
  subst hx
  exact ⟨rfl, h1, h2, h3, h4, h5⟩
end Go.Proofs.YtmjgfhegcdpkpaaGreatDoor.snapshotSums
