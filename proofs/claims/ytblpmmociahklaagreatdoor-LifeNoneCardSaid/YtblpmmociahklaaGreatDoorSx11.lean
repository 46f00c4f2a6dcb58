/- What makes new blocks is sound. -/
import Derived.Test.YtblpmmociahklaaGreatDoorSx10
namespace Go.Proofs.YtblpmmociahklaaGreatDoor.Sx
open Go

variable {P : Program} {ν : Pl} {σ : Nat → Value} {w : World}

/-- Where a new block begins, and how many cells it has. -/
def ptOf : Obj → Pt
  | .cells c _ _ => ⟨0, c.size⟩
  | _ => Pt.z

/-- A new block of the machine's holds what the evaluator's does, wherever the evaluator's number for it leads there. -/
def NewOk (ν : Pl) (σ : Nat → Value) (w : World) (a : NewA) (v : Value) (obj : Obj) : Prop :=
  ∀ (ν' : Pl) (b : Nat), PlLe ν ν' → ν' b = some (w.heap.size, ptOf obj) → VR ν' σ (a.val b) v ∧ ∀ w'' : World, w''.heap[w.heap.size]? = some obj → OR ν' σ w'' b a.obj

theorem newOk_ptr {e : TypeId} {cs : List AV} {arr : Array Value} (h : VRs ν σ cs arr.toList) : NewOk ν σ w (.ptr (.cells e cs true)) (.pointer (some ⟨w.heap.size, 0, none⟩)) (.cells arr e) := by
  intro ν' b hle hb
  have hl : cs.length = arr.size := by simpa using h.length
  refine ⟨by simp only [NewA.val, VR]; exact ⟨_, _, hb, rfl⟩, fun w'' hw => ?_⟩
  refine ⟨w.heap.size, ⟨0, arr.size⟩, arr, (0, 0), hb, hw, .inl rfl, ⟨fun _ => ⟨rfl, hl.symm⟩, rfl⟩, by simp [hl], ?_⟩
  rw [List.drop_zero, List.take_of_length_le (by simp [hl])]
  exact VRs.mono hle _ _ h

theorem newOk_slc {e : TypeId} {cs : List AV} {arr : Array Value} {l c : Nat} (h : VRs ν σ cs arr.toList) (hlc : l ≤ c) : NewOk ν σ w (.slc (.cells e cs true) l c) (.slice (some ⟨w.heap.size, 0, none⟩) l c) (.cells arr e) := by
  intro ν' b hle hb
  have hl : cs.length = arr.size := by simpa using h.length
  refine ⟨by simp only [NewA.val, VR]; exact ⟨_, _, c, 0, hb, Nat.le_refl _, fun _ => rfl, hlc, .inl ⟨rfl, fun s e => by cases e⟩, rfl⟩, fun w'' hw => ?_⟩
  refine ⟨w.heap.size, ⟨0, arr.size⟩, arr, (0, 0), hb, hw, .inl rfl, ⟨fun _ => ⟨rfl, hl.symm⟩, rfl⟩, by simp [hl], ?_⟩
  rw [List.drop_zero, List.take_of_length_le (by simp [hl])]
  exact VRs.mono hle _ _ h

theorem newOk_map : NewOk ν σ w .map (.map (some w.heap.size)) (.map #[] 0) := by
  intro ν' b hle hb
  refine ⟨by simp only [NewA.val, VR]; exact ⟨_, hb, rfl⟩, fun w'' hw => ?_⟩
  exact ⟨w.heap.size, #[], hb, hw, by simp [MRs]⟩

theorem run_newRow {e : TypeId} {arr : Array Value} : (newRow e arr).run P w = .ok ⟨w.heap.size, 0, none⟩ (w.alloc (.cells arr e)) := by
  simp [newRow]

theorem rep_rel {z zs : List AV} {zv : List Value} {n : Nat} (h : repF z n = some zs) (hz : VRs ν σ z zv) : VRs ν σ zs ((Array.range n).map fun i => zv.toArray[i % zv.toArray.size]!).toList := by
  unfold repF at h
  split at h
  · cases h
  · rename_i hn
    injection h with h; subst h
    refine VRs.of_get (by simp) fun i a v ha hv => ?_
    have hin : i < n := by
      rcases Nat.lt_or_ge i n with h | h
      · exact h
      · rw [List.getElem?_eq_none (by simpa using h)] at ha; cases ha
    have hl := hz.length
    have hzl : z.length ≠ 0 := by omega
    have hlt : i % z.length < z.length := Nat.mod_lt _ (by omega)
    simp [hin] at ha hv
    subst ha; subst hv
    have h1 : z[i % z.length]? = some z[i % z.length] := List.getElem?_eq_getElem hlt
    obtain ⟨u, hu, ru⟩ := hz.get h1
    rw [← hl] at *
    rw [h1]
    simp only [Option.getD_some]
    rw [hu]
    exact ru

theorem zero_pick (hσ : ∀ i, (σ i).oneCell' = true) {e : TypeId} {n : Nat} {z : List AV} (hz : (if n = 0 then some [] else (match zeroT P e with | some z => some (cellsA z) | none => none)) = some z) :
    ∃ zv : List Value, VRs ν σ z zv ∧ ((n = 0 ∧ zv = []) ∨ (n ≠ 0 ∧ ∃ u, (zeroValue e).run P w = .ok u w ∧ u.cells = zv.toArray)) := by
  split at hz
  · rename_i h0
    injection hz with hz; subst hz
    exact ⟨[], by simp [VRs], .inl ⟨h0, rfl⟩⟩
  · rename_i h0
    split at hz
    · rename_i za hza
      injection hz with hz; subst hz
      obtain ⟨zv, hzv, rz⟩ := run_zero (ν := ν) (σ := σ) (w := w) hza
      exact ⟨zv.cells.toList, cells_rel hσ rz, .inr ⟨h0, zv, hzv, by simp⟩⟩
    · cases hz

set_option maxHeartbeats 1000000 in
theorem alloc_sound (hσ : ∀ i, (σ i).oneCell' = true) {o : Oper} {xs : List AV} {a : NewA} (h : allocF P o.op xs = some a) {ρ : Operand → Value}
    (hx : VRs ν σ xs ((opnds o.op).map ρ)) : ∃ v obj, (execOp ρ o).run P w = .ok (.value v) (w.alloc obj) ∧ NewOk ν σ w a v obj := by
  obtain ⟨dst, op, ty, pos, after, guard⟩ := o
  simp only at h hx
  cases op with
  | alloc e =>
    rcases xs with _ | ⟨x, xs⟩
    · simp only [allocF] at h
      split at h
      · rename_i z hz
        injection h with h; subst h
        obtain ⟨zv, hzv, rz⟩ := run_zero (ν := ν) (σ := σ) (w := w) hz
        refine ⟨_, _, run_v (v := .pointer (some ⟨w.heap.size, 0, none⟩)) (w' := w.alloc (.cells zv.cells e)) ?_, newOk_ptr (cells_rel hσ rz)⟩
        simp only [Instr.alloc, Sem.run_bind, hzv, Result.andThen_ok, newVar, run_newRow, Sem.run_pure]
      · cases h
    · cases h
  | box e x =>
    rcases xs with _ | ⟨x0, _ | ⟨y, xs⟩⟩
    · cases h
    · injection h with h; subst h
      have hx' := one_rel hx
      refine ⟨_, _, run_v (v := .pointer (some ⟨w.heap.size, 0, none⟩)) (w' := w.alloc (.cells (ρ x).cells e)) ?_, newOk_ptr (cells_rel hσ hx')⟩
      simp only [Instr.box, Sem.run_bind, newVar, run_newRow, Result.andThen_ok, Sem.run_pure]
    · cases h
  | buildSlice t len ps =>
    have h' : allocF P (.buildSlice t len ps) xs = some a := h
    clear h
    simp only [allocF] at h'
    cases hu : P.underlying t with
    | none => simp [hu] at h'
    | some d =>
      simp only [hu] at h'
      cases d <;> (first | (cases h'; done) | skip)
      rename_i e
      simp only at h'
      cases hs : sizeT P e with
      | none => simp [hs] at h'
      | some s =>
        simp only [hs] at h'
        split at h'
        · rename_i hle
          split at h'
          · rename_i z hz
            split at h'
            · rename_i zs hzs
              split at h'
              · rename_i cs hcs
                injection h' with h'; subst h'
                have hx' : VRs ν σ xs (ps.toList.map fun p => ρ p.2) := by simpa [opnds, Function.comp_def] using hx
                have hp := parts_rel hx'
                obtain ⟨zv, hzr, hcase⟩ := zero_pick (ν := ν) (w := w) hσ hz
                obtain ⟨rs', h1, h2⟩ := fill_sound hσ _ _ _ _ _ _ hcs (rep_rel hzs hzr) hp
                refine ⟨_, _, run_v (v := .slice (some ⟨w.heap.size, 0, none⟩) len len) (w' := w.alloc (.cells rs'.toArray e)) ?_, newOk_slc h2 (Nat.le_refl _)⟩
                have h24 : ¬ (len * s > 2 ^ 24) := by omega
                simp only [Array.toArray_toList] at h1
                have hps : (ps.map fun (i, x) => (i, ρ x)).toList = ps.toList.map fun p => (p.1, ρ p.2) := by simp
                have hps' : (List.map (fun x : Nat × Operand => (x.fst, ρ x.snd)) ps.toList) = ps.toList.map fun p => (p.1, ρ p.2) := rfl
                simp only [Instr.buildSlice, Sem.run_bind, run_und hu, Result.andThen_ok, run_size hs, if_neg h24]
                rcases hcase with ⟨h0, rfl⟩ | ⟨h0, u, hu1, hu2⟩
                · simp only [if_pos h0, Sem.run_bind, Sem.run_pure, Result.andThen_ok, hps]
                  simp only [h1, Sem.run_bind, run_newRow, Result.andThen_ok, Sem.run_pure]
                · simp only [if_neg h0, Sem.run_bind, Sem.run_pure, Result.andThen_ok, hps, hu1, hu2]
                  simp only [h1, Sem.run_bind, run_newRow, Result.andThen_ok, Sem.run_pure]
              · cases h'
            · cases h'
          · cases h'
        · cases h'
  | makeMap t r =>
    cases r with
    | none =>
      rcases xs with _ | ⟨x, xs⟩
      · injection h with h; subst h
        refine ⟨_, _, run_v (v := .map (some w.heap.size)) (w' := w.alloc (.map #[] 0)) ?_, newOk_map⟩
        simp [Instr.makeMap]
      · cases h
    | some y =>
      rcases xs with _ | ⟨x, _ | ⟨z, xs⟩⟩
      · cases h
      · cases x <;> (first | (cases h; done) | skip)
        simp only [allocF] at h
        cases hu : P.underlying t with
        | none => simp [hu] at h
        | some d =>
          simp only [hu] at h
          cases d <;> (first | (cases h; done) | skip)
          injection h with h; subst h
          have hx' := one_rel hx
          simp only [VR] at hx'
          refine ⟨_, _, run_v (v := .map (some w.heap.size)) (w' := w.alloc (.map #[] 0)) ?_, newOk_map⟩
          simp [Instr.makeMap, run_und hu, hx', asInt, asIntOf]
      · cases x <;> cases h
  | makeSlice t l c =>
    have hl := hx.length
    rcases xs with _ | ⟨x, _ | ⟨y, _ | ⟨z, xs⟩⟩⟩ <;> simp [opnds] at hl
    obtain ⟨h1, h2⟩ := two_rel hx
    cases x <;> (first | (cases h; done) | skip)
    rename_i k1 li
    cases y <;> (first | (cases h; done) | skip)
    rename_i k2 ci
    simp only [VR] at h1 h2
    simp only [allocF] at h
    cases hu : P.underlying t with
    | none => simp [hu] at h
    | some d =>
      simp only [hu] at h
      cases d <;> (first | (cases h; done) | skip)
      rename_i e
      simp only at h
      cases hi : P.info? e with
      | none => simp [hi] at h
      | some i =>
        simp only [hi] at h
        split at h
        · rename_i hbd
          split at h
          · rename_i z hz
            split at h
            · rename_i zs hzs
              injection h with h; subst h
              obtain ⟨zv, hzr, hcase⟩ := zero_pick (ν := ν) (w := w) hσ hz
              have hsz : sizeT P e = some i.size := by simp [sizeT, hi]
              refine ⟨_, _, run_v (v := .slice (some ⟨w.heap.size, 0, none⟩) li.toNat ci.toNat) (w' := w.alloc (.cells ((Array.range (ci.toNat * i.size)).map fun j => zv.toArray[j % zv.toArray.size]!) e)) ?_,
                newOk_slc (rep_rel hzs hzr) (by omega)⟩
              have w1 : IntKind.i64.wrap li = li := by rw [← wrapF_eq]; unfold wrapF inKind; rw [if_pos (by simp; omega)]
              have w2 : IntKind.i64.wrap ci = ci := by rw [← wrapF_eq]; unfold wrapF inKind; rw [if_pos (by simp; omega)]
              have hmul : (i.bytes : Int) * ci ≤ 65536 * 65536 := by
                calc (i.bytes : Int) * ci ≤ 65536 * ci := Int.mul_le_mul_of_nonneg_right (by omega) (by omega)
                  _ ≤ 65536 * 65536 := by omega
              have t1 : ((decide (ci < 0) || decide ((i.bytes : Int) * ci > 2 ^ 48)) || decide (li < 0) || decide (li > ci)) = false := by
                simp; omega
              have hti : (typeInfo e).run P w = .ok i w := by simp [typeInfo, hi]
              simp only [Instr.makeSlice, Sem.run_bind, run_und hu, Result.andThen_ok, h1, h2, asInt, asIntOf, Sem.run_pure, hti, w1, w2, t1, Bool.false_eq_true, if_false, run_askRoom, run_size hsz]
              rcases hcase with ⟨h0, rfl⟩ | ⟨h0, u, hu1, hu2⟩
              · simp only [if_pos h0, Sem.run_bind, Sem.run_pure, Result.andThen_ok, run_newRow]
              · simp only [if_neg h0, Sem.run_bind, Sem.run_pure, Result.andThen_ok, hu1, hu2, run_newRow]
            · cases h
          · cases h
        · cases h
  | _ => exfalso; rcases xs with _ | ⟨x, _ | ⟨y, xs⟩⟩ <;> cases h

end Go.Proofs.YtblpmmociahklaaGreatDoor.Sx
