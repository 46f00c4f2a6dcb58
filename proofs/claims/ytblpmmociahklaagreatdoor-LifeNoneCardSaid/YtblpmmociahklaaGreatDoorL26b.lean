/- A part of the proof of the statement of this claim: L26b. -/
import Derived.Test.YtblpmmociahklaaGreatDoorL26a
import Derived.ChangeReads
namespace Go.Proofs.YtblpmmociahklaaGreatDoor.V
open Go Go.RowKit Go.ChangeShapes Go.WideShapes
set_option linter.unusedVariables false
set_option maxRecDepth 100000

section
variable {H : Type} {enc : TypeId × Value → H} {P : Program} {w : World} {base : Nat} {spare : Nat → Bool} {held : Bool}
theorem slice_one {t e : TypeId} {fuel : Nat} {cs : List Value} {x : DataW H × List MemPlace} (ht : P.underlying t = some (.slice e)) (h : DataW.trod enc P w base spare held fuel t cs = some x) : ∃ A l k, cs = [.slice A l k] := by
  rcases DataW.trod_slice ht h with ⟨rfl, _⟩ | ⟨a, len, cap, elems, rest, n', _, rfl, _⟩
  · exact ⟨_, _, _, rfl⟩
  · exact ⟨_, _, _, rfl⟩
theorem list12 {α : Type} {cs : List α} (h : cs.length = 12) : ∃ a0 a1 a2 a3 a4 a5 a6 a7 a8 a9 a10 a11, cs = [a0, a1, a2, a3, a4, a5, a6, a7, a8, a9, a10, a11] := by
  match cs, h with
  | [a0, a1, a2, a3, a4, a5, a6, a7, a8, a9, a10, a11], _ => exact ⟨_, _, _, _, _, _, _, _, _, _, _, _, rfl⟩
end

section
variable {H : Type} {enc : TypeId × Value → H} {w : World} {base : Nat} {spare : Nat → Bool} {held : Bool}
theorem open_P {r : Reach} {b0 : Nat} {v : Value} {d : DataW H} {ps : List MemPlace} (hv : Value.okWide Tryz.prog w r b0 132 v) (h : DataW.Trod enc Tryz.prog w base spare held 132 v d ps) (hw : WB Tryz.prog 132 d) :
    ∃ f rv n A1 l1 k1 c0 c1 c2 c3 c4 c5 c6 q0 q1 A2 l2 k2, v = .agg #[.int .i64 n, .slice A1 l1 k1, c0, c1, c2, c3, c4, c5, c6, q0, q1, .slice A2 l2 k2] ∧ RIn w f rv c0 c1 c2 c3 c4 c5 c6 := by
  obtain ⟨cs, rfl, hsz⟩ := okWide_struct Tryz.underlying132 hv
  obtain ⟨fuel, hf⟩ := h
  obtain ⟨m, rfl, hlen, hfs⟩ := open_fields Tryz.underlying132 hf hw
  have hc : Tryz.prog.cellsOf 132 = 12 := by kernel_rfl
  rw [hc] at hlen
  obtain ⟨a0, a1, a2, a3, a4, a5, a6, a7, a8, a9, a10, a11, he⟩ := list12 hlen
  have hcs : cs = #[a0, a1, a2, a3, a4, a5, a6, a7, a8, a9, a10, a11] := by
    have : cs.toList = [a0, a1, a2, a3, a4, a5, a6, a7, a8, a9, a10, a11] := he
    exact Array.toList_inj.1 (by rw [this])
  rw [he] at hfs
  have n0 : Tryz.prog.cellsOf 3 = 1 := by kernel_rfl
  have n1 : Tryz.prog.cellsOf 129 = 1 := by kernel_rfl
  have n2 : Tryz.prog.cellsOf 25 = 7 := by kernel_rfl
  have n5 : Tryz.prog.cellsOf 130 = 1 := by kernel_rfl
  obtain ⟨d0, p0, h0, w0⟩ := hfs 0 _ rfl
  obtain ⟨d1, p1, h1, w1⟩ := hfs 1 _ rfl
  obtain ⟨d2, p2, h2, w2⟩ := hfs 2 _ rfl
  obtain ⟨d5, p5, h5, w5⟩ := hfs 5 _ rfl
  replace h0 : DataW.trod enc Tryz.prog w base spare held m 3 (([a0, a1, a2, a3, a4, a5, a6, a7, a8, a9, a10, a11].drop 0).take (Tryz.prog.cellsOf 3)) = some (d0, p0) := h0
  replace h1 : DataW.trod enc Tryz.prog w base spare held m 129 (([a0, a1, a2, a3, a4, a5, a6, a7, a8, a9, a10, a11].drop 1).take (Tryz.prog.cellsOf 129)) = some (d1, p1) := h1
  replace h2 : DataW.trod enc Tryz.prog w base spare held m 25 (([a0, a1, a2, a3, a4, a5, a6, a7, a8, a9, a10, a11].drop 2).take (Tryz.prog.cellsOf 25)) = some (d2, p2) := h2
  replace h5 : DataW.trod enc Tryz.prog w base spare held m 130 (([a0, a1, a2, a3, a4, a5, a6, a7, a8, a9, a10, a11].drop 11).take (Tryz.prog.cellsOf 130)) = some (d5, p5) := h5
  rw [n0] at h0; rw [n1] at h1; rw [n2] at h2; rw [n5] at h5
  replace h0 : DataW.trod enc Tryz.prog w base spare held m 3 [a0] = some (d0, p0) := h0
  replace h1 : DataW.trod enc Tryz.prog w base spare held m 129 [a1] = some (d1, p1) := h1
  replace h2 : DataW.trod enc Tryz.prog w base spare held m 25 [a2, a3, a4, a5, a6, a7, a8] = some (d2, p2) := h2
  replace h5 : DataW.trod enc Tryz.prog w base spare held m 130 [a11] = some (d5, p5) := h5
  obtain ⟨n, e0, _, _⟩ := DataW.trod_int Tryz.underlying3 h0
  obtain ⟨A1, l1, k1, e1⟩ := slice_one Tryz.underlying129 h1
  obtain ⟨A2, l2, k2, e5⟩ := slice_one Tryz.underlying130 h5
  obtain ⟨rv, c0, c1, c2, c3, c4, c5, c6, e2, hr⟩ := rin_of_trod m h2 w2
  cases e0; cases e1; cases e5; cases e2
  exact ⟨m, rv, n, A1, l1, k1, _, _, _, _, _, _, _, a9, a10, A2, l2, k2, by rw [hcs], hr⟩
end
end Go.Proofs.YtblpmmociahklaaGreatDoor.V
