/- A part of the proof of the statement of this claim: AwG. -/
import Derived.Test.YtblpmmociahklaaGreatDoorChecked
import Derived.Test.YtblpmmociahklaaGreatDoorSx25
import Derived.Laws.Externs
import Derived.RecoverIn
namespace Go.Proofs.YtblpmmociahklaaGreatDoor.V
open Go Go.Proofs.YtblpmmociahklaaGreatDoor.Sx
def tabL : List (Nat × HkF) := [(294, hkIndex), (323, hkSame), (324, hkMake 5), (305, hkCount), (278, hkClone)]
theorem lookIx (args w) : (callFunc 294 args).run Tryz.prog w = ((Extern.BytealgIndexByte.indexByte args).run Tryz.prog w).andThen fun v w' => .ok (.value v) w' :=
  run_callFunc_extern Tryz.func294 (by kernel_rfl) (by kernel_rfl) (by kernel_rfl) (by kernel_rfl) args w
theorem lookNE (args w) : (callFunc 323 args).run Tryz.prog w = ((Extern.AbiNoEscape.same args).run Tryz.prog w).andThen fun v w' => .ok (.value v) w' :=
  run_callFunc_extern Tryz.func323 (by kernel_rfl) (by kernel_rfl) (by kernel_rfl) (by kernel_rfl) args w
theorem lookMk (args w) : (callFunc 324 args).run Tryz.prog w = ((Extern.BytealgMakeNoZero.makeNoZero Tryz.f324.params Tryz.f324.resultTypes args).run Tryz.prog w).andThen fun v w' => .ok (.value v) w' :=
  run_callFunc_extern Tryz.func324 (by kernel_rfl) (by kernel_rfl) (by kernel_rfl) (by kernel_rfl) args w
theorem lookCt (args w) : (callFunc 305 args).run Tryz.prog w = ((Extern.BytealgCount.count args).run Tryz.prog w).andThen fun v w' => .ok (.value v) w' :=
  run_callFunc_extern Tryz.func305 (by kernel_rfl) (by kernel_rfl) (by kernel_rfl) (by kernel_rfl) args w
theorem lookCl (args w) : (callFunc 278 args).run Tryz.prog w = ((Extern.MapsClone.clone args).run Tryz.prog w).andThen fun v w' => .ok (.value v) w' :=
  run_callFunc_extern Tryz.func278 (by kernel_rfl) (by kernel_rfl) (by kernel_rfl) (by kernel_rfl) args w
theorem all_named : (Tryz.prog.funcs.toList.all fun fn => fn.body.isNone || !(fn.name == "runtime.NumGoroutine")) = true := by kernel_rfl
theorem mixes : Tryz.prog.follows .mixedOrders = true := by kernel_rfl
theorem tabOk {σ : Nat → Value} : TabOk Tryz.prog σ tabL := by
  intro x hx
  simp only [tabL, List.mem_cons, List.mem_nil_iff, or_false] at hx
  rcases hx with rfl | rfl | rfl | rfl | rfl
  · exact ⟨_, lookIx, hkIndex_ok⟩
  · exact ⟨_, lookNE, hkSame_ok⟩
  · exact ⟨_, lookMk, hkMake_ok (by kernel_rfl)⟩
  · exact ⟨_, lookCt, hkCount_ok⟩
  · exact ⟨_, lookCl, hkClone_ok⟩

/-- The deferred guard, entered of a frame that returns: it turns nothing. -/
theorem guard_idle {n : Nat} (p : Option Addr) (w : World) :
    CallsDIn Fence.wide n Tryz.prog 148 #[.pointer p] .returning w fun e u' w' => e = .returned (.tuple #[]) ∧ u' = .returning ∧ w' = w := by
  have hneq : ∀ w : World, (binOp BinOp.neq 20 .nilIface .nilIface).run Tryz.prog w = .ok (.bool false) w := fun _ => by kernel_rfl
  refine callsDIn_of_wpSIn Tryz.func148 rfl trivial fun c₀ cs hu => ?_
  refine wpSIn_seq ?_
  refine wpSIn_region ?_
  simp [wpOpsSIn, go_sem, recoverD, hu, Tryz.ntmps148, Exit.thenS, hneq]
  refine ⟨fun _ _ => trivial, fun _ _ => trivial, wpSIn_cond (t := false) (by simp [Act.eval, Array.replicate]) ?_⟩
  simp only [Bool.false_eq_true, if_false]
  refine wpSIn_of_wpIn rfl (wpIn_skip ?_)
  cases c₀
  simp_all [bodyPostS, results, Tryz.results148, Exit.thenS]

/-- The table of hooks; the one deferred function whose recover finds nothing. -/
def hkD (l : List (Nat × HkF)) (d : Nat) : Hook
  | .fn, f => l.lookup f
  | .dn, f => if f = d then some (fun args H => match args with | [.ptr _ _] => some (.tup [], H) | _ => none) else none
  | _, _ => none

theorem hooks (N : Nat) {σ : Nat → Value} : HookOk Tryz.prog N σ (hkD tabL 148) := by
  have h0 := tab_ok (tabOk (σ := σ)) N
  refine ⟨h0.fn, ?_⟩
  intro f g hg args H v H' hgo hbod ν w vs n hv hr hN
  simp only [hkD] at hg
  split at hg
  rotate_left
  · cases hg
  rename_i hf
  subst hf
  cases hg
  simp only at hgo
  split at hgo
  rotate_left
  · cases hgo
  cases hgo
  simp only [VRs, VR] at hv
  obtain ⟨v, ws, rfl, ⟨c, p, hc, rfl⟩, rfl⟩ := hv
  exact (guard_idle _ w).mono fun e u' w' ⟨he, hu, hw⟩ => ⟨hu, by subst he; subst hw; exact ⟨_, ν, rfl, by simp [VR, VRs], hr, Ext.refl _ _ _⟩⟩
end Go.Proofs.YtblpmmociahklaaGreatDoor.V
