/- A part of the proof of the statement of this claim: Law19. -/
import Derived.Test.YtmjgfhegcdpkpaaGreatDoorRead19
import Derived.Test.YtmjgfhegcdpkpaaGreatDoorWrite19
import Derived.Test.YtmjgfhegcdpkpaaGreatDoorAwk19
import Derived.Test.YtmjgfhegcdpkpaaGreatDoorConv19
import Derived.OwnWalk
namespace Go.Proofs.YtmjgfhegcdpkpaaGreatDoor.snapshotSums
open Go.ChangeShapes Go.WideShapes Go.ChangeAt Go.RowKit
set_option linter.unusedVariables false
theorem walk (a0 : ByteArray) (a1 : ByteArray) (w0 : a0.size ≤ maxLen) (w1 : a1.size ≤ maxLen) (w : World) :
    Calls Tryz.prog 5 #[.string a0, .string a1] w fun e w' => e = .returned (.bool true) ∧ Below w.heap.size w w' := by
  unfold maxLen at w0 w1
  go_enter Tryz.func5, Tryz.ntmps5
  go_wp2_with fail
  rotate_left
  · refine (awake_ok w).mono fun e w1 ⟨he, hb⟩ => ?_
    subst he
    go_wp2
    go_ret
    exact ⟨rfl, hb⟩
  · refine (awake_ok w).mono fun e w1 ⟨he, hb⟩ => ?_
    subst he
    go_wp2
    go_ret
    exact ⟨rfl, hb⟩
  · refine (awake_ok w).mono fun e w1 ⟨he, hb⟩ => ?_
    subst he
    go_wp2_with fail
    have hb' : Hid (Below w.heap.size w w1) := hb
    clear hb
    go_loop [5, 6] (fun n i => ∃ k : Nat, k ≤ a0.size ∧ i = .int .i64 k ∧ ∃ z, n = .int .u64 z ∧ z = fnv (a0.data.toList.take k) basis)
                   (fun _ i => a0.size - (intOf i).toNat)
    case atStart => exact ⟨0, Nat.zero_le _, rfl, _, rfl, rfl⟩
    case round =>
      obtain ⟨k, hk, rfl, z, rfl, hz⟩ := hrel
      have hz' : Hid (z = fnv (a0.data.toList.take k) basis) := hz
      clear hz
      go_wp2_with fail
      · have hlt : k < a0.size := by omega
        refine ⟨⟨k + 1, by omega, by go_num, _, rfl, ?_⟩, by simp [intOf]; omega⟩
        rw [fnv_succ a0 basis k hlt, ← (hz' : z = fnv (a0.data.toList.take k) basis)]
      · have hge : k = a0.size := by omega
        subst hge
        go_loop [7, 8] (fun n i => ∃ j : Nat, j ≤ a1.size ∧ i = .int .i64 j ∧ ∃ y, n = .int .u64 y ∧ y = fnv (a1.data.toList.take j) z)
                       (fun _ i => a1.size - (intOf i).toNat)
        case atStart => exact ⟨0, Nat.zero_le _, rfl, _, rfl, rfl⟩
        case round =>
          obtain ⟨j, hj, rfl, y, rfl, hy⟩ := hrel
          have hy' : Hid (y = fnv (a1.data.toList.take j) z) := hy
          clear hy
          go_wp2_with (first
            | (at_make; refine wpList_mil rfl rfl rfl rfl (fun _ => rfl) ?_; intro v2 S w2 hS1 hS2 hgrow))
          · have hlt : j < a1.size := by omega
            refine ⟨⟨j + 1, by omega, by go_num, _, rfl, ?_⟩, by simp [intOf]; omega⟩
            rw [fnv_succ a1 z j hlt, ← (hy' : y = fnv (a1.data.toList.take j) z)]
          · have hge : j = a1.size := by omega
            subst hge
            obtain rfl : z = fnv a0.data.toList basis := by rw [(hz'.out : z = _), fnv_all]
            obtain rfl : y = fnv a1.data.toList (fnv a0.data.toList basis) := by rw [(hy'.out : y = _), fnv_all]
            clear hz' hy'
            refine (read_long S hS1 hS2 w2).mono fun e w3 ⟨he, hb3⟩ => ?_
            subst he
            have hb3' : Hid (Below w2.heap.size w2 w3) := hb3
            clear hb3
            go_wp2_with fail
            refine (sum_walk a0 w0 w3).mono fun e w4 ⟨he, hw⟩ => ?_
            subst he
            subst hw
            go_wp2_with fail
            have hcat : fnv (a0 ++ a1).data.toList basis = fnv a1.data.toList (fnv a0.data.toList basis) := by
              rw [← fnv_append]
              congr 1
            have hsz : (a0 ++ a1).size ≤ 9223372036854775807 := by
              rw [ByteArray.size_append]
              omega
            refine (sum_walk (a0 ++ a1) hsz w4).mono fun e w5 ⟨he, hw5⟩ => ?_
            subst he
            subst hw5
            rw [hcat]
            clear hcat hsz
            go_wp2_with fail
            refine (write_nil w5).mono fun e w6 ⟨he, hw6⟩ => ?_
            subst he
            subst hw6
            go_wp2
            go_ret
            refine ⟨?_, ((hb'.out).trans (((Below.refl w.heap.size w1).grown hgrow hb'.out.size (fun k h => by cases h)).trans (hb3'.out.mono ?_)))⟩
            · rfl
            · exact Nat.le_trans hb'.out.size hgrow.size
end Go.Proofs.YtmjgfhegcdpkpaaGreatDoor.snapshotSums
