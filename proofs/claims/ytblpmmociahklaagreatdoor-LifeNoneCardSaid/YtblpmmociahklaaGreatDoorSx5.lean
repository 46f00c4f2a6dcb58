/- Structs, slices, and the whole of the pure operations. -/
import Derived.Test.YtblpmmociahklaaGreatDoorSx4
namespace Go.Proofs.YtblpmmociahklaaGreatDoor.Sx
open Go

variable {P : Program} {ν : Pl} {σ : Nat → Value} {w : World}

theorem cells_rel (hσ : ∀ i, (σ i).oneCell' = true) {a : AV} {v : Value} (h : VR ν σ a v) : VRs ν σ (cellsA a) v.cells.toList := by
  have one : ∀ {v : Value}, v.oneCell' = true → v.cells.toList = [v] := by intro v hv; cases v <;> simp_all [Value.oneCell', Value.cells]
  cases a with
  | agg cs => obtain ⟨ds, hds, rfl⟩ := h.agg_inv; simpa [cellsA, Value.cells] using hds
  | sym i =>
    have h0 := h
    simp only [VR] at h
    rw [one (h ▸ hσ i)]; exact VRs.one h0
  | any =>
    have h0 := h
    simp only [VR] at h
    rw [one h]; exact VRs.one h0
  | tup cs =>
    have h0 := h
    obtain ⟨ds, hds, rfl⟩ := h.tup_inv
    exact VRs.one h0
  | bool _ | int _ _ | str _ | flt _ _ | cpx _ _ _ | nilp | glob _ | nils | nilm | nilf | nili =>
    have h0 := h
    simp only [VR] at h
    subst h
    exact VRs.one h0
  | ptr _ _ => have h0 := h; simp only [VR] at h; obtain ⟨c, p, _, rfl⟩ := h; exact VRs.one h0
  | slc _ _ _ _ _ => have h0 := h; simp only [VR] at h; obtain ⟨c, p, k, q, _, _, _, _, _, rfl⟩ := h; exact VRs.one h0
  | map _ => have h0 := h; simp only [VR] at h; obtain ⟨c, _, rfl⟩ := h; exact VRs.one h0
  | fn _ _ _ => have h0 := h; simp only [VR] at h; obtain ⟨_, _, _, _, _, rfl⟩ := h; exact VRs.one h0
  | yld _ => have h0 := h; simp only [VR] at h; obtain ⟨c, _, rfl⟩ := h; exact VRs.one h0
  | ifc _ _ => have h0 := h; simp only [VR] at h; obtain ⟨c, _, rfl⟩ := h; exact VRs.one h0

theorem foldl_set (off : Nat) : ∀ (xs : List (Value × Nat)) (arr : Array Value),
    (xs.foldl (fun (cs : Array Value) (x : Value × Nat) => cs.setIfInBounds (off + x.2) x.1) arr).toList = xs.foldl (fun cs x => cs.set (off + x.2) x.1) arr.toList
  | [], _ => rfl
  | x :: xs, arr => by simp only [List.foldl_cons]; rw [foldl_set off xs]; simp

theorem foldl_rel (off : Nat) : ∀ (as : List AV) (vs : List Value) (k : Nat) (cs : List AV) (ds : List Value), VRs ν σ as vs → VRs ν σ cs ds →
    VRs ν σ ((as.zipIdx k).foldl (fun cs x => cs.set (off + x.2) x.1) cs) ((vs.zipIdx k).foldl (fun cs x => cs.set (off + x.2) x.1) ds)
  | [], _, _, _, _, h, r => by simp only [VRs] at h; subst h; simpa using r
  | a :: as, _, k, cs, ds, h, r => by
    simp only [VRs] at h
    obtain ⟨v, ws, rfl, hv, hw⟩ := h
    simp only [List.zipIdx_cons, List.foldl_cons]
    exact foldl_rel off as ws (k + 1) _ _ hw (r.set _ hv)

/-- Parts of a struct or an array, by their places. -/
def PRs (ν : Pl) (σ : Nat → Value) : List (Nat × AV) → List (Nat × Value) → Prop
  | [], vs => vs = []
  | (i, a) :: as, vs => ∃ v ws, vs = (i, v) :: ws ∧ VR ν σ a v ∧ PRs ν σ as ws

theorem fill_sound (hσ : ∀ i, (σ i).oneCell' = true) (place : Nat → Option (Nat × Nat)) : ∀ (parts : List (Nat × AV)) (parts' : List (Nat × Value)) (cs rs : List AV) (ds : List Value),
    fillF place cs parts = some rs → VRs ν σ cs ds → PRs ν σ parts parts' → ∃ rs', Instr.fill place ds.toArray parts' = some rs'.toArray ∧ VRs ν σ rs rs'
  | [], parts', cs, rs, ds, h, r, hp => by
    simp only [PRs] at hp; subst hp
    simp only [fillF, Option.some.injEq] at h; subst h
    exact ⟨ds, rfl, r⟩
  | (i, a) :: rest, parts', cs, rs, ds, h, r, hp => by
    simp only [PRs] at hp
    obtain ⟨v, ws, rfl, hv, hw⟩ := hp
    simp only [fillF] at h
    simp only [Instr.fill]
    cases hpl : place i with
    | none => simp [hpl] at h
    | some x =>
      obtain ⟨off, size⟩ := x
      simp only [hpl] at h
      have hc := cells_rel hσ hv
      have hl : (cellsA a).length = v.cells.size := by have := hc.length; simpa using this
      have hl2 : cs.length = ds.toArray.size := by simpa using r.length
      split at h
      · cases h
      · rename_i hn
        have hn' : ¬ ((decide (v.cells.size ≠ size) || decide (off + v.cells.size > ds.toArray.size)) = true) := by
          rw [← hl, ← hl2]; simpa using hn
        simp only []
        rw [if_neg hn']
        obtain ⟨rs', h1, h2⟩ := fill_sound hσ place rest ws _ rs
          ((v.cells.toList.zipIdx 0).foldl (fun cs x => cs.set (off + x.2) x.1) ds) h (by simpa using foldl_rel off _ _ 0 _ _ hc r) hw
        refine ⟨rs', ?_, h2⟩
        rw [← h1]
        congr 1
        apply Array.toList_inj.1
        rw [← Array.foldl_toList, foldl_set, Array.toList_zipIdx]

theorem parts_rel {ps : List (Nat × Operand)} {ρ : Operand → Value} : ∀ {xs : List AV}, VRs ν σ xs (ps.map fun p => ρ p.2) → PRs ν σ ((ps.map (·.1)).zip xs) (ps.map fun p => (p.1, ρ p.2)) := by
  induction ps with
  | nil => intro xs h; simp [PRs]
  | cons p ps ih =>
    intro xs h
    cases xs with
    | nil => simp [VRs] at h
    | cons x xs =>
      simp only [List.map_cons, VRs] at h
      obtain ⟨v, ws, he, hv, hw⟩ := h
      injection he with e1 e2; subst e1; subst e2
      simp only [List.map_cons, List.zip_cons_cons, PRs]
      exact ⟨_, _, rfl, hv, ih hw⟩

theorem places_sound : ∀ (fs : List Field) (l : List (Nat × Nat)), placesF P fs = some l → (fs.mapM (fun f => do pure (f.offset, ← sizeOf f.type)) : Sem (List (Nat × Nat))).run P w = .ok l w
  | [], l, h => by simp only [placesF, Option.some.injEq] at h; subst h; simp
  | f :: fs, l, h => by
    simp only [placesF] at h
    split at h
    · rename_i n hn
      split at h
      · rename_i l' hl'
        injection h with h; subst h
        have ih := places_sound fs l' hl'
        simp only [List.mapM_cons, Sem.run_bind, run_size hn, Result.andThen_ok, Sem.run_pure, ih]
      · cases h
    · cases h

theorem build_sound (hσ : ∀ i, (σ i).oneCell' = true) {t : TypeId} {parts : List (Nat × AV)} {parts' : Array (Nat × Value)} {r : AV} (h : buildF P t parts = some r) (hp : PRs ν σ parts parts'.toList) :
    ∃ v, (Instr.build t parts').run P w = .ok v w ∧ VR ν σ r v := by
  unfold buildF at h
  cases hz : zeroT P t with
  | none => simp [hz] at h
  | some z =>
    simp only [hz] at h
    obtain ⟨zv, hzv, rz⟩ := run_zero (ν := ν) (σ := σ) (w := w) hz
    have hcz := cells_rel hσ rz
    split at h
    · rename_i fs hu
      split at h
      · rename_i l hl
        split at h
        · rename_i cs hcs
          injection h with h; subst h
          obtain ⟨rs', h1, h2⟩ := fill_sound hσ _ _ _ _ _ _ hcs hcz hp
          refine ⟨.agg rs'.toArray, ?_, by simp only [VR]; exact ⟨rs', h2, rfl⟩⟩
          have hm : (fs.mapM (fun f => do pure (f.offset, ← sizeOf f.type)) : Sem (Array (Nat × Nat))).run P w = .ok l.toArray w := by
            rw [Array.mapM_eq_mapM_toList]
            simp only [Sem.run_map, places_sound _ _ hl, Result.andThen_ok]
          have hpl : (fun (i : Nat) => (l.toArray)[i]?) = fun (i : Nat) => l[i]? := by funext i; simp
          simp only [Array.toArray_toList] at h1
          simp only [Instr.build, Sem.run_bind, hzv, Result.andThen_ok, run_und hu]
          rw [hm]
          simp only [Result.andThen_ok, hpl, h1, Sem.run_pure]
        · cases h
      · cases h
    · rename_i n e hu
      split at h
      · rename_i s hs
        split at h
        · rename_i cs hcs
          injection h with h; subst h
          obtain ⟨rs', h1, h2⟩ := fill_sound hσ _ _ _ _ _ _ hcs hcz hp
          refine ⟨.agg rs'.toArray, ?_, by simp only [VR]; exact ⟨rs', h2, rfl⟩⟩
          simp only [Array.toArray_toList] at h1
          simp only [Instr.build, Sem.run_bind, hzv, Result.andThen_ok, run_und hu, run_size hs, h1, Sem.run_pure]
        · cases h
      · cases h
    · cases h

end Go.Proofs.YtblpmmociahklaaGreatDoor.Sx
