/- A part of the proof of the statement of this claim: L26a. -/
import Derived.Test.YtblpmmociahklaaGreatDoorR3
import Derived.Test.YtblpmmociahklaaGreatDoorAwN
namespace Go.Proofs.YtblpmmociahklaaGreatDoor.V
open Go Go.Proofs.YtblpmmociahklaaGreatDoor.Sx Go.RowKit
set_option linter.unusedVariables false
set_option maxRecDepth 100000

theorem calls_nil (w : World) : Calls Tryz.prog 58 #[.pointer none] w fun e w' => e = .returned (.int .i64 0) ∧ Below w.heap.size w w' := by
  have heq : ∀ w : World, (binOp BinOp.eql 120 (.pointer none) (.pointer none)).run Tryz.prog w = .ok (.bool true) w := fun _ => by kernel_rfl
  go_enter Tryz.func58, Tryz.ntmps58
  go_wp2_with fail
  go_ret
  exact ⟨rfl, Below.refl _ _⟩

theorem ask_nil (w : World) : Calls Tryz.prog 59 #[.pointer none] w fun e w' => e = .returned (.tuple #[.agg #[.int .i64 0, .int .i64 0, .string ⟨#[]⟩, .nilIface, .nilIface, .nilIface, .slice none 0 0, .int .i64 0, .string ⟨#[]⟩], .bool false]) ∧ Below w.heap.size w w' := by
  have heq : ∀ w : World, (binOp BinOp.eql 120 (.pointer none) (.pointer none)).run Tryz.prog w = .ok (.bool true) w := fun _ => by kernel_rfl
  go_enter Tryz.func59, Tryz.ntmps59
  go_wp2_with fail
  exact bodyPost_ret (v := .tuple #[.agg #[.int .i64 0, .int .i64 0, .string ⟨#[]⟩, .nilIface, .nilIface, .nilIface, .slice none 0 0, .int .i64 0, .string ⟨#[]⟩], .bool false]) (by simp [results, Tryz.results59, go_sem]) rfl ⟨rfl, (Below.refl _ _).alloc (Nat.le_refl _) _⟩
theorem done_nil (w : World) : Calls Tryz.prog 56 #[.pointer none] w fun e w' => e = .returned (.tuple #[.agg #[.int .i64 0, .string ⟨#[]⟩, .string ⟨#[]⟩, .string ⟨#[]⟩, .string ⟨#[]⟩, .int .i64 0, .int .i64 0, .nilIface, .slice none 0 0, .slice none 0 0, .bool false, .bool false, .int .i64 0, .string ⟨#[]⟩, .slice none 0 0], .bool false]) ∧ Below w.heap.size w w' := by
  have heq : ∀ w : World, (binOp BinOp.eql 120 (.pointer none) (.pointer none)).run Tryz.prog w = .ok (.bool true) w := fun _ => by kernel_rfl
  go_enter Tryz.func56, Tryz.ntmps56
  go_wp2_with fail
  exact bodyPost_ret (v := .tuple #[.agg #[.int .i64 0, .string ⟨#[]⟩, .string ⟨#[]⟩, .string ⟨#[]⟩, .string ⟨#[]⟩, .int .i64 0, .int .i64 0, .nilIface, .slice none 0 0, .slice none 0 0, .bool false, .bool false, .int .i64 0, .string ⟨#[]⟩, .slice none 0 0], .bool false]) (by simp [results, Tryz.results56, go_sem]) rfl ⟨rfl, (Below.refl _ _).alloc (Nat.le_refl _) _⟩
theorem answer_nil (w : World) (r0 r1 r2 r3 r4 r5 : Value) : Calls Tryz.prog 60 #[.pointer none, .agg #[r0, r1, r2, r3, r4, r5]] w fun e w' => e = .returned (.bool false) ∧ Below w.heap.size w w' := by
  have heq : ∀ w : World, (binOp BinOp.eql 120 (.pointer none) (.pointer none)).run Tryz.prog w = .ok (.bool true) w := fun _ => by kernel_rfl
  go_enter Tryz.func60, Tryz.ntmps60
  go_wp2_with fail
  go_ret
  exact ⟨rfl, (Below.refl _ _).alloc (Nat.le_refl _) _⟩
theorem of_isTrue {r : Option (AV × Heap)} (h : isTrue r = true) : ∃ H', r = some (.bool true, H') := by
  unfold isTrue at h
  split at h
  · exact ⟨_, rfl⟩
  · cases h
theorem awake_of {f : FuncId} (hb : bodied Tryz.prog f = true) (h : isTrue (ev Tryz.prog (hkD tabL 148) 100000 200 .fn f [] H0) = true) (w : World) : Calls Tryz.prog f #[] w fun e w' => e = .returned (.bool true) ∧ Below w.heap.size w w' := by
  obtain ⟨H', heq⟩ := of_isTrue h
  refine (calls_of_ev (σ := fun _ => .nilFunc) (fun _ => rfl) (fun N => hooks N) mixes (enters_of all_named) hb heq (vs := []) rfl w).mono ?_
  rintro e w' ⟨x, ν', rfl, hx, _, h1, h2, h3, h4, h5⟩
  simp only [VR] at hx
  subst hx
  exact ⟨rfl, h1, h2, h3, h4, h5⟩
theorem awake26 (w : World) : Calls Tryz.prog 50 #[] w fun e w' => e = .returned (.bool true) ∧ Below w.heap.size w w' := awake_of (by kernel_rfl) aw26 w

theorem step_below {w x y : World} (a : Below w.heap.size w x) (b : Below x.heap.size x y) : Below w.heap.size w y := a.trans (b.mono a.size)

/-- Of no job nothing comes. -/
theorem law_none (f : Nat) (rv : RV) (n : Int) (A1 A2 : Option Addr) (l1 k1 l2 k2 : Nat) (c0 c1 c2 c3 c4 c5 c6 q0 q1 : Value) (w : World) (h : RIn w f rv c0 c1 c2 c3 c4 c5 c6) :
    Calls Tryz.prog 10 #[.agg #[.int .i64 n, .slice A1 l1 k1, c0, c1, c2, c3, c4, c5, c6, q0, q1, .slice A2 l2 k2]] w fun e w' => e = .returned (.bool true) ∧ Below w.heap.size w w' := by
  have hal : Below w.heap.size w (w.alloc (.cells #[.int .i64 n, .slice A1 l1 k1, c0, c1, c2, c3, c4, c5, c6, q0, q1, .slice A2 l2 k2] 132)) := (Below.refl _ _).alloc (Nat.le_refl _) _
  have HR := As.mk (RIn.below hal _ _ _ _ _ _ _ _ _ h)
  have HA := As.mk hal
  clear h hal
  have heq3 : ∀ w : World, (binOp BinOp.eql 3 (.int .i64 0) (.int .i64 0)).run Tryz.prog w = .ok (.bool true) w := fun _ => by kernel_rfl
  go_enter Tryz.func10, Tryz.ntmps10
  go_wp2_with fail
  refine (great_any _ _ _ _ _ _ _ _ _ _ HR.out).mono ?_
  rintro e w1 ⟨g, rfl, hb1⟩
  have b0 := cell_later hb1 (box_cell w _ _ 0 _ rfl)
  have b1 := cell_later hb1 (box_cell w _ _ 1 _ rfl)
  have b11 := cell_later hb1 (box_cell w _ _ 11 _ rfl)
  have hw1 := HA.out.trans (hb1.mono (by simp))
  have H1 := As.mk hw1
  clear hb1 hw1
  have fin : ∀ (e : Ending) (w' : World), e = .returned (.bool true) → Below w1.heap.size w1 w' → (e = .returned (.bool true) ∧ Below w.heap.size w w') := fun e w' he hb => ⟨he, H1.out.trans (hb.mono H1.out.size)⟩
  by_cases hg : 0 < g
  · go_wp2_with (go_at_call 50; refine (awake26 _).mono ?_; rintro e w2 ⟨rfl, hb2⟩)
    go_ret
    exact fin _ _ rfl hb2
  by_cases hl1 : (10 : Int) < (l1 : Int)
  · go_wp2_with (go_at_call 50; refine (awake26 _).mono ?_; rintro e w2 ⟨rfl, hb2⟩)
    go_ret
    exact fin _ _ rfl hb2
  by_cases hl2 : (8 : Int) < (l2 : Int)
  · go_wp2_with (go_at_call 50; refine (awake26 _).mono ?_; rintro e w2 ⟨rfl, hb2⟩)
    go_ret
    exact fin _ _ rfl hb2
  go_wp2_with fail
  refine (awake26 _).mono ?_
  rintro e w2 ⟨rfl, hb2⟩
  have d0 := cell_later hb2 b0
  go_wp2_with fail
  refine (ask_nil _).mono ?_
  rintro e w3 ⟨rfl, hb3⟩
  have e0 := cell_later hb3 d0
  have K3 := As.mk (step_below (step_below H1.out hb2) hb3)
  clear fin hb2 hb3 b0 b1 b11 d0
  go_wp2_with fail
  refine (done_nil _).mono ?_
  rintro e w4 ⟨rfl, hb4⟩
  have f0 := cell_later hb4 (cell_later ((Below.refl _ w3).alloc (Nat.le_refl _) _) e0)
  have K4 := As.mk (step_below (step_below K3.out ((Below.refl _ w3).alloc (Nat.le_refl _) _)) hb4)
  clear hb4 e0
  have hsz : w.heap.size < w4.heap.size := World.block_lt_of_cell? w4 _ f0
  go_wp2_with fail
  refine (answer_nil _ _ _ _ _ _ _).mono ?_
  rintro e w5 ⟨rfl, hb5⟩
  go_wp2_with fail
  refine (calls_nil _).mono ?_
  rintro e w6 ⟨rfl, hb6⟩
  go_wp2_with fail
  go_ret
  exact ⟨rfl, step_below (step_below (step_below K4.out ((Below.refl _ w4).alloc (Nat.le_refl _) _)) hb5) hb6⟩
end Go.Proofs.YtblpmmociahklaaGreatDoor.V
