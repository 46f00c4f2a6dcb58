/- A part of the proof of the statement of this claim: AwT. -/
import Derived.Test.YtmjgfhegcdpkpaaGreatDoorChecked
import Derived.Test.YtmjgfhegcdpkpaaGreatDoorSx25
import Derived.Laws.Externs
namespace Go.Proofs.YtmjgfhegcdpkpaaGreatDoor
open Go Go.Proofs.YtmjgfhegcdpkpaaGreatDoor.Sx
def aw19T : List (Nat × HkF) := [(220, hkIndex), (151, hkSame), (225, hkMake 5)]
theorem look220 (args w) : (callFunc 220 args).run Tryz.prog w = ((Extern.BytealgIndexByte.indexByte args).run Tryz.prog w).andThen fun v w' => .ok (.value v) w' :=
  run_callFunc_extern Tryz.func220 (by kernel_rfl) (by kernel_rfl) (by kernel_rfl) (by kernel_rfl) args w
theorem look151 (args w) : (callFunc 151 args).run Tryz.prog w = ((Extern.AbiNoEscape.same args).run Tryz.prog w).andThen fun v w' => .ok (.value v) w' :=
  run_callFunc_extern Tryz.func151 (by kernel_rfl) (by kernel_rfl) (by kernel_rfl) (by kernel_rfl) args w
theorem look225 (args w) : (callFunc 225 args).run Tryz.prog w = ((Extern.BytealgMakeNoZero.makeNoZero Tryz.f225.params Tryz.f225.resultTypes args).run Tryz.prog w).andThen fun v w' => .ok (.value v) w' :=
  run_callFunc_extern Tryz.func225 (by kernel_rfl) (by kernel_rfl) (by kernel_rfl) (by kernel_rfl) args w
theorem all_named : (Tryz.prog.funcs.toList.all fun fn => fn.body.isNone || !(fn.name == "runtime.NumGoroutine")) = true := by kernel_rfl
theorem mixes : Tryz.prog.follows .mixedOrders = true := by kernel_rfl
theorem tab19 {σ : Nat → Value} : TabOk Tryz.prog σ aw19T := by
  intro x hx
  simp only [aw19T, List.mem_cons, List.mem_nil_iff, or_false] at hx
  rcases hx with rfl | rfl | rfl
  · exact ⟨_, look220, hkIndex_ok⟩
  · exact ⟨_, look151, hkSame_ok⟩
  · exact ⟨_, look225, hkMake_ok (by kernel_rfl)⟩
end Go.Proofs.YtmjgfhegcdpkpaaGreatDoor
