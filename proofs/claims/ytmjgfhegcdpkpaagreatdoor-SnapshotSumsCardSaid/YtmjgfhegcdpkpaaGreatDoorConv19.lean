/- A part of the proof of the statement of this claim: Conv19. -/
import Derived.Test.YtmjgfhegcdpkpaaGreatDoorRead19
import Derived.Test.YtmjgfhegcdpkpaaGreatDoorSx9
import Derived.OwnWalk
import Derived.Laws.IdiomStrings
namespace Go.Proofs.YtmjgfhegcdpkpaaGreatDoor.snapshotSums
open Go.ChangeShapes Go.WideShapes Go.ChangeAt Go.RowKit
set_option linter.unusedVariables false
theorem wpList_convert {P : Program} {w : World} {ops : Array Oper} {rest : List Oper} {o : Oper} {a : Act} {Q : Exit → Act → World → Prop} {s d : TypeId} {x : Operand} {v : Value} (hg : o.guard = none) (hop : o.op = Op.convert s d x) (hrun : (convert s d (a.eval x)).run P w = .ok v w)
    (hK : wpList P ops Q rest (a.put o.dst v) w) : wpList P ops Q (o :: rest) a w := by
  refine wpList_plain hg fun K hK' => ?_
  unfold Oper.wp
  simp [execOp, hop, hrun, Result.andThen]
  exact hK' _ _ hK
theorem info5 : ∃ i, Tryz.prog.info? 5 = some i ∧ i.zero = some (.int .u8 0) ∧ i.size = 1 ∧ i.bytes = 1 :=
  info_parts (by kernel_rfl)
def zeros (N : Nat) : ByteArray := ⟨(List.replicate N (0 : UInt8)).toArray⟩
theorem zeros_size (N : Nat) : (zeros N).size = N := by
  show (List.replicate N (0 : UInt8)).toArray.size = N
  simp
theorem conv_ok {w : World} {base g N : Nat} {z : Value} (hz : z.cells = #[.int .u8 0]) (h : w.ownsRow base 5 1 (.slice (some ⟨g, 0, none⟩) N N) N (madeCells z.cells (N * 1)).toList) :
    (convert 33 9 (.slice (some ⟨g, 0, none⟩) N N)).run Tryz.prog w = .ok (.string (zeros N)) w := by
  rw [run_convert_bytes_string w 33 9 5 _ _ _ Tryz.underlying33 Tryz.underlying5 Tryz.underlying9]
  have hc : (loadCells ⟨g, 0, none⟩ N).run Tryz.prog w = .ok ((List.replicate N (0 : Int)).map (Value.int .u8)).toArray w := by
    have := run_loadCells_list (P := Tryz.prog) w ⟨g, 0, none⟩ ((List.replicate N (0 : Int)).map (Value.int .u8)) (fun j v hj => by
      have hjN : j < N := by
        have := (List.getElem?_eq_some_iff.1 hj).1
        simpa using this
      have e : (⟨g, 0, none⟩ : Addr).add j = ⟨g, j, none⟩ := by unfold Addr.add; split <;> simp_all
      rw [e, h.cellAt j (by omega)]
      rw [List.getElem?_map, List.getElem?_replicate, if_pos hjN] at hj
      rw [← hj, hz]
      unfold madeCells
      simp [hjN, Nat.mod_one])
    simpa using this
  rw [run_bytesToString w ⟨g, 0, none⟩ N N _ hc]
  congr 2
  rw [Sx.fold_push]
  simp [zeros]
theorem wpList_mil {w : World} {ops : Array Oper} {rest : List Oper} {o o2 : Oper} {a : Act} {Q : Exit → Act → World → Prop} (hg : o.guard = none) (hop : o.op = Op.makeSlice 33 (.const (.int .i64 1048577)) (.const (.int .i64 1048577)))
    (hg2 : o2.guard = none) (hop2 : o2.op = Op.convert 33 9 (.tmp 53)) (hev : ∀ v, (a.put o.dst v).eval (.tmp 53) = v)
    (hK : ∀ (v : Value) (S : ByteArray) (w' : World), 1048576 < S.size → S.size ≤ 9223372036854775807 → w.grownBy w' none → wpList Tryz.prog ops Q rest ((a.put o.dst v).put o2.dst (.string S)) w') : wpList Tryz.prog ops Q (o :: o2 :: rest) a w := by
  obtain ⟨i0, hi, hz0, hz1, hz2⟩ := info5
  obtain ⟨N, hN⟩ : ∃ N : Nat, N = 1048577 := ⟨_, rfl⟩
  refine wpList_make_full w hg _ _ 33 hop w.heap.size 5 i0 (.int .u8 0) 1 Tryz.underlying33 hi hz0 hz1 .i64 .i64 1048577 1048577 N rfl rfl (by omega) (by omega) (by rw [hz2]; omega) (by unfold maxLen; omega) (Nat.le_refl _) ?_
  intro w2 hown hgrow
  refine wpList_convert hg2 hop2 (v := .string (zeros N)) ?_ (hK _ _ _ (by rw [zeros_size]; omega) (by rw [zeros_size]; omega) hgrow)
  rw [hev]
  exact conv_ok rfl hown
end Go.Proofs.YtmjgfhegcdpkpaaGreatDoor.snapshotSums
