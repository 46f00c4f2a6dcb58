/- A part of the proof of the statement of this claim: Sum19. -/
import Derived.Test.YtmjgfhegcdpkpaaGreatDoorRows
import Derived.WalkKit
import Derived.ProofKit
import Derived.OpenShut
import Derived.ShutString
import Derived.LoopTactic
namespace Go.Proofs.YtmjgfhegcdpkpaaGreatDoor.snapshotSums
open Go.ChangeShapes Go.WideShapes Go.ChangeAt Go.RowKit
open Go.ChangeMaps (open_string shut_string)
set_option linter.unusedVariables false
def step (z : Int) (c : UInt8) : Int := IntKind.u64.wrap (bits BinOp.xor IntKind.u64 z (IntKind.u64.wrap ↑c.toNat) * 1099511628211)
def fnv (l : List UInt8) (z : Int) : Int := l.foldl step z
theorem fnv_append (l m : List UInt8) (z : Int) : fnv (l ++ m) z = fnv m (fnv l z) := List.foldl_append ..
theorem fnv_succ (a : ByteArray) (z : Int) (k : Nat) (hk : k < a.size) : fnv (a.data.toList.take (k + 1)) z = IntKind.u64.wrap (bits BinOp.xor IntKind.u64 (fnv (a.data.toList.take k) z) (IntKind.u64.wrap ↑(a[k]'hk).toNat) * 1099511628211) := by
  have h : k < a.data.toList.length := by simpa using hk
  rw [List.take_succ_eq_append_getElem h, fnv_append]
  have e : a.data.toList[k] = a[k]'hk := rfl
  rw [e]
  rfl
theorem fnv_all (a : ByteArray) (z : Int) : fnv (a.data.toList.take a.size) z = fnv a.data.toList z := by
  rw [List.take_of_length_le (by rw [Array.length_toList]; exact Nat.le_refl _)]
def basis : Int := 14695981039346656037
theorem sum_walk (a : ByteArray) (ha : a.size ≤ 9223372036854775807) (w : World) :
    Calls Tryz.prog 18 #[.string a] w fun e w' => e = .returned (.int .u64 (fnv a.data.toList basis)) ∧ w' = w := by
  go_enter Tryz.func18, Tryz.ntmps18
  go_wp2
  go_loop [3, 7] (fun n i => ∃ k : Nat, k ≤ a.size ∧ i = .int .i64 k ∧ ∃ z, n = .int .u64 z ∧ z = fnv (a.data.toList.take k) basis)
                 (fun _ i => a.size - (intOf i).toNat)
  case atStart => exact ⟨0, Nat.zero_le _, rfl, _, rfl, rfl⟩
  case round =>
    obtain ⟨k, hk, rfl, z, rfl, hz⟩ := hrel
    have hz' : Hid (z = fnv (a.data.toList.take k) basis) := hz
    clear hz
    go_wp2
    · have hlt : k < a.size := by omega
      refine ⟨⟨k + 1, by omega, by go_num, _, rfl, ?_⟩, by simp [intOf]; omega⟩
      rw [fnv_succ a basis k hlt, ← (hz' : z = fnv (a.data.toList.take k) basis)]
    · have hge : k = a.size := by omega
      go_ret
      refine ⟨?_, rfl⟩
      rw [(hz' : z = fnv (a.data.toList.take k) basis), hge, fnv_all]
      rfl
end Go.Proofs.YtmjgfhegcdpkpaaGreatDoor.snapshotSums
