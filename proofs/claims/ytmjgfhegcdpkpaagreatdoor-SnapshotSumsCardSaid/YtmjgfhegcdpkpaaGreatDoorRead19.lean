/- A part of the proof of the statement of this claim: Read19. -/
import Derived.Test.YtmjgfhegcdpkpaaGreatDoorSum19
namespace Go.Proofs.YtmjgfhegcdpkpaaGreatDoor.snapshotSums
open Go.ChangeShapes Go.WideShapes Go.ChangeAt Go.RowKit
set_option linter.unusedVariables false
section cells
variable (w : World) (x y z : Value) (s t u : TypeId)
def three : World := ((w.alloc (.cells #[x] s)).alloc (.cells #[y] t)).alloc (.cells #[z] u)
theorem three0 : (three w x y z s t u).cell? ⟨w.heap.size, 0, none⟩ = some x := by
  simp only [three, World.cell?, World.alloc, Array.getElem?_push]
  simp [show w.heap.size ≠ w.heap.size + 1 + 1 by omega]
theorem three1 : (three w x y z s t u).cell? ⟨w.heap.size + 1, 0, none⟩ = some y := by
  simp only [three, World.cell?, World.alloc, Array.getElem?_push]
  simp
theorem three2 : (three w x y z s t u).cell? ⟨w.heap.size + 1 + 1, 0, none⟩ = some z := by
  simp only [three, World.cell?, World.alloc, Array.getElem?_push]
  simp
theorem three_below : Below w.heap.size w (three w x y z s t u) :=
  (((Below.refl _ _).alloc (Nat.le_refl _) _).alloc (by simp) _).alloc (by simp; omega) _
end cells
theorem read_long (a : ByteArray) (h1 : 1048576 < a.size) (h2 : a.size ≤ 9223372036854775807) (w : World) :
    Calls Tryz.prog 8 #[.string a] w fun e w' => e = .returned (.tuple #[.pointer none, .int .i64 0, .int .i64 3]) ∧ Below w.heap.size w w' := by
  go_enter Tryz.func8, Tryz.ntmps8
  go_wp2
  refine ⟨rfl, .tuple #[.pointer none, .int .i64 0, .int .i64 3], ?_, rfl, three_below w _ _ _ _ _ _⟩
  have c0 := three0 w (.pointer none) (.int .i64 0) (.int .i64 3) 23 3 24
  have c1 := three1 w (.pointer none) (.int .i64 0) (.int .i64 3) 23 3 24
  have c2 := three2 w (.pointer none) (.int .i64 0) (.int .i64 3) 23 3 24
  unfold three at c0 c1 c2
  simp [results, Tryz.results8, asAddr, loadVar, isAgg, run_underlying Tryz.underlying23, run_underlying Tryz.underlying3, run_underlying Tryz.underlying24, c0, c1, c2]
end Go.Proofs.YtmjgfhegcdpkpaaGreatDoor.snapshotSums
