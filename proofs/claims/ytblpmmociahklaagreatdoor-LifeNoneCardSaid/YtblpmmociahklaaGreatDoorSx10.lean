/- Reads, whole; what makes new blocks. -/
import Derived.Test.YtblpmmociahklaaGreatDoorSx9
namespace Go.Proofs.YtblpmmociahklaaGreatDoor.Sx
open Go

variable {P : Program} {ν : Pl} {σ : Nat → Value} {w : World}

theorem run_shape_cells {c : Nat} {arr : Array Value} {t : TypeId} {fr : Nat × Nat} (h : w.heap[c]? = some (.cells arr t fr)) : (shape c).run P w = .ok (some (t, arr.size)) w := by
  simp [World.shape?, h]

theorem run_seenAt {c q : Nat} {arr : Array Value} {t : TypeId} {fr : Nat × Nat} (h : w.heap[c]? = some (.cells arr t fr)) : (Conv.seenAt ⟨c, q, none⟩).run P w = .ok ⟨c, q, none⟩ w := by
  simp [Conv.seenAt, viewAt, World.shape?, h]

theorem conv_read {N : Nat} {H : Heap} (hr : HR N ν σ H w) {s d : TypeId} {y : Operand} {x r : AV} (h : readF P (.convert s d y) [x] H = some r) {x' : Value} (hx : VR ν σ x x') :
    ∃ v, (convert s d x').run P w = .ok v w ∧ VR ν σ r v := by
  simp only [readF] at h
  cases hus : P.underlying s with
  | none => simp [hus] at h
  | some us =>
    cases hud : P.underlying d with
    | none => cases us <;> simp [hus, hud] at h
    | some ud =>
      simp only [hus, hud] at h
      cases us <;> cases ud <;> (first | (cases h; done) | skip)
      case unsafePointer.pointer u =>
        simp only at h
        cases x <;> (first | (cases h; done) | skip)
        case nilp =>
          injection h with h; subst h
          simp only [VR] at hx; subst hx
          refine ⟨.pointer none, ?_, by simp only [VR]⟩
          simp only [convert, Sem.run_bind, run_und hus, run_und hud, Result.andThen_ok, Conv.unsafePointer]
          rfl
        case ptr b off =>
          simp only at h
          split at h
          · rename_i e cs n hb hsz
            split at h
            · rename_i hlies
              injection h with h; subst h
              obtain ⟨c, p, arr, fr, hν, hc, hf, hfx, hl, hv⟩ := hr.rel _ _ hb
              obtain ⟨hp0, hsize⟩ := hfx.1 rfl
              have hx0 := hx
              simp only [VR] at hx
              obtain ⟨c', p', hν', rfl⟩ := hx
              rw [hν] at hν'; injection hν' with hν'; injection hν' with e1 e2; subst e1; subst e2
              refine ⟨_, ?_, hx0⟩
              simp only [convert, Sem.run_bind, run_und hus, run_und hud, Result.andThen_ok, Conv.unsafePointer, run_seenAt hc, run_size hsz, variablesAt, run_program, run_shape_cells hc, hsize, hp0, Nat.zero_add, Sem.run_pure]
              simp [hlies]
            · cases h
          · cases h
      case pointer.unsafePointer t =>
        simp only at h
        cases x <;> (first | (cases h; done) | skip)
        case nilp =>
          injection h with h; subst h
          simp only [VR] at hx; subst hx
          refine ⟨.pointer none, ?_, by simp only [VR]⟩
          simp only [convert, Sem.run_bind, run_und hus, run_und hud, Result.andThen_ok, Conv.unsafePointer]
          rfl
        case ptr b off =>
          simp only at h
          split at h
          · rename_i e cs fx n hb hsz
            split at h
            · rename_i hlt
              injection h with h; subst h
              obtain ⟨c, p, arr, fr, hν, hc, hf, hfx, hl, hv⟩ := hr.rel _ _ hb
              have hx0 := hx
              simp only [VR] at hx
              obtain ⟨c', p', hν', rfl⟩ := hx
              rw [hν] at hν'; injection hν' with hν'; injection hν' with e1 e2; subst e1; subst e2
              refine ⟨_, ?_, hx0⟩
              simp only [convert, Sem.run_bind, run_und hus, run_und hud, Result.andThen_ok, Conv.unsafePointer, run_seenAt hc, run_size hsz, cellsIn, run_shape_cells hc, Sem.run_pure]
              have hge : ¬ (p.o + off ≥ arr.size) := by omega
              simp [hge]
            · cases h
          · cases h
      case slice.string e =>
        simp only at h
        cases hue : P.underlying e with
        | none => simp [hue] at h
        | some ue =>
          simp only [hue] at h
          cases ue <;> (first | (cases h; done) | skip)
          rename_i k
          cases k <;> (first | (cases h; done) | skip)
          simp only at h
          cases x <;> (first | (cases h; done) | skip)
          case nils =>
            injection h with h; subst h
            simp only [VR] at hx; subst hx
            refine ⟨.string .empty, ?_, by simp only [VR]; rfl⟩
            simp only [convert, Sem.run_bind, run_und hus, run_und hud, Result.andThen_ok, run_und hue]
            rfl
          case slc b off len cap ex =>
            simp only at h
            split at h
            · rename_i e2 cs fx hb
              split at h
              · rename_i hle
                split at h
                · rename_i l hl
                  injection h with h; subst h
                  obtain ⟨c, p, arr, fr, hν, hc, hf, hfx, hlen, hv⟩ := hr.rel _ _ hb
                  simp only [VR] at hx
                  obtain ⟨c', p', kk, q, hν', h1, h2, h3, h4, rfl⟩ := hx
                  rw [hν] at hν'; injection hν' with hν'; injection hν' with e1 e2; subst e1; subst e2
                  have hvv := (hv.drop off).take len
                  rw [List.drop_take, List.take_take, List.drop_drop, Nat.min_eq_left (by omega)] at hvv
                  obtain ⟨ns, hns, rfl⟩ := bytes_rel hl hvv
                  have hload : (loadCells ⟨c, q, none⟩ len).run P w = .ok (ns.map (Value.int .u8)).toArray w := by
                    rcases h4 with ⟨h4, _⟩ | h4
                    · subst h4
                      rw [run_load_cells hc (by omega : p.o + off + len ≤ arr.size), hns]
                    · have : len = 0 := by omega
                      subst this
                      simp at hns
                      subst hns
                      rfl
                  refine ⟨.string (ns.foldl (fun r n => r.push (UInt8.ofNat n.toNat)) ByteArray.empty), ?_, ?_⟩
                  · simp only [convert, Sem.run_bind, run_und hus, run_und hud, Result.andThen_ok, run_und hue]
                    exact run_bytesToString w _ _ _ _ hload
                  · simp only [VR]
                    rw [fold_push]
                    simp
                · cases h
              · cases h
            · cases h

theorem run_getObj {c : Nat} {o : Obj} (h : w.heap[c]? = some o) (hn : ∀ a t f, o ≠ .cells a t f) : (getObj c).run P w = .ok o w := by
  cases o <;> first | (exact absurd rfl (hn _ _ _)) | simp only [getObj, Sem.run, h]

theorem entry_read {N : Nat} {H : Heap} (hr : HR N ν σ H w) {y : Operand} {x r : AV} (h : readF P (.entry y) [x] H = some r) {x' : Value} (hx : VR ν σ x x') :
    ∃ v, (Instr.entry x').run P w = .ok v w ∧ VR ν σ r v := by
  cases x <;> (first | (cases h; done) | skip)
  rename_i b o
  cases o with
  | succ o => cases h
  | zero =>
    simp only [readF] at h
    split at h
    · rename_i m since stamp seen stepped hb
      split at h
      · rename_i es clock hm
        split at h
        · rename_i hcl
          split at h
          · rename_i e he
            injection h with h; subst h
            obtain ⟨c, m', hν, hc, cm, hνm, rfl⟩ := hr.rel _ _ hb
            obtain ⟨cm2, fs, hνm2, hcm, hms⟩ := hr.rel _ _ hm
            rw [hνm] at hνm2; injection hνm2 with hνm2; injection hνm2 with e1 _; subst e1
            simp only [VR] at hx
            obtain ⟨c', p', hν', rfl⟩ := hx
            rw [hν] at hν'; injection hν' with hν'; injection hν' with e1 e2; subst e1; subst e2
            obtain ⟨f, hf, hk, hv⟩ := hms.find stamp he
            refine ⟨.tuple #[f.key, f.val], ?_, ?_⟩
            · have hback : (stamp :: seen).reverse.toArray.back? = some stamp := by simp
              have hf' : fs.find? (fun e => e.born == stamp) = some f := by simpa using hf
              simp only [Pt.z, Nat.add_zero, Instr.entry, Sem.run_bind, run_getObj hc (by simp), Result.andThen_ok, hback, run_getObj_map hcm, hcl, bne_self_eq_false, Bool.false_eq_true, if_false, Sem.run_pure, hf']
            · simp only [VR, VRs]
              exact ⟨_, ⟨f.key, _, rfl, hk, f.val, _, rfl, hv, rfl⟩, rfl⟩
          · cases h
        · cases h
      · cases h
    · cases h

theorem len_read {N : Nat} {H : Heap} (hr : HR N ν σ H w) {c : Call} {x r : AV} (h : readF P (.call c) [x] H = some r) {ρ : Operand → Value} (hx : VRs ν σ [x] ((opnds (.call c)).map ρ)) {t : TypeId} :
    ∃ v, (do let d ← resolve ρ c t; invoke d.target d.args : Sem Next).run P w = .ok (.value v) w ∧ VR ν σ r v := by
  obtain ⟨cal, args, ats⟩ := c
  have h' : (match (generalizing := false) cal with | .builtin .len => lenR P ats[0]? x H | _ => none) = some r := h
  cases cal with
  | value f => cases h'
  | invoke f m => cases h'
  | builtin b =>
    cases b <;> (first | (cases h'; done) | skip)
    have h2 : lenR P ats[0]? x H = some r := h'
    have hx' : VRs ν σ [x] (args.toList.map ρ) := by simpa [opnds] using hx
    have hargs : args.map ρ = (args.toList.map ρ).toArray := map_arr _ _
    rw [res_builtin]
    simp only [VRs] at hx'
    obtain ⟨v, ws, he, hv, hw⟩ := hx'
    subst hw
    rw [hargs, he]
    unfold lenR at h2
    cases ha : ats[0]? with
    | none => simp [ha] at h2
    | some t0 =>
      simp only [ha] at h2
      have e0 : ∀ v : Value, ([v].toArray : Array Value)[0]? = some v := fun v => by simp
      cases hu : P.underlying t0 with
      | none => simp [hu] at h2
      | some d =>
        simp only [hu] at h2
        cases d <;> (first | (cases h2; done) | skip)
        cases x <;> (first | (cases h2; done) | skip)
        case map.nilm =>
          injection h2 with h2; subst h2
          simp only [VR] at hv; subst hv
          refine ⟨.int .i64 0, ?_, by simp only [VR]⟩
          simp only [builtin, Builtin.len_, ha, e0, Sem.run_bind, run_und hu, Result.andThen_ok, Sem.run_pure, goInt]
        case map.map b =>
          simp only at h2
          split at h2
          · rename_i es clock hb
            injection h2 with h2; subst h2
            obtain ⟨c, fs, hν, hcc, hms⟩ := hr.rel _ _ hb
            simp only [VR] at hv
            obtain ⟨c', hν', rfl⟩ := hv
            rw [hν] at hν'; injection hν' with hν'; injection hν' with e1 _; subst e1
            refine ⟨.int .i64 (es.length : Nat), ?_, by simp only [VR]⟩
            have hl := hms.length
            simp only [builtin, Builtin.len_, ha, e0, Sem.run_bind, run_und hu, Result.andThen_ok, Sem.run_pure, goInt, run_getObj_map hcc]
            rw [hl]; simp
          · cases h2

theorem read_sound {N : Nat} {H : Heap} (hr : HR N ν σ H w) {o : Oper} {xs : List AV} {r : AV} (hc : clsOf P o.op = .read) (h : readF P o.op xs H = some r) {ρ : Operand → Value}
    (hx : VRs ν σ xs ((opnds o.op).map ρ)) : ∃ v, (execOp ρ o).run P w = .ok (.value v) w ∧ VR ν σ r v := by
  obtain ⟨dst, op, ty, pos, after, guard⟩ := o
  simp only at hc h hx
  have one : ∀ {a : Operand} {xs : List AV}, VRs ν σ xs ([a].map ρ) → ∃ x, xs = [x] := by
    intro a xs h; have := h.length; rcases xs with _ | ⟨x, _ | ⟨y, xs⟩⟩ <;> simp at this; exact ⟨x, rfl⟩
  cases op with
  | load t x =>
    obtain ⟨a, rfl⟩ := one hx
    cases a <;> (first | (cases h; done) | skip)
    obtain ⟨v, hv, rv⟩ := load_sound hr h (one_rel hx)
    exact ⟨v, run_v hv, rv⟩
  | lookup t x y ok =>
    have hl := hx.length
    rcases xs with _ | ⟨xm, _ | ⟨xk, _ | ⟨z, xs⟩⟩⟩ <;> simp [opnds] at hl
    obtain ⟨h1, h2⟩ := two_rel hx
    cases xm <;> (first | (cases h; done) | skip)
    case nilm =>
      simp only [VR] at h1
      have h' : lookupF P t [] xk ok = some r := h
      obtain ⟨v, hv, rv⟩ := lookup_sound (w := w) (fs := #[]) h' h2 (by simp [MRs]) (.inl ⟨rfl, rfl⟩)
      exact ⟨v, run_v (by rw [h1]; exact hv), rv⟩
    case map b =>
      simp only [readF] at h
      split at h
      · rename_i es clock hb
        obtain ⟨c, fs, hν, hcc, hms⟩ := hr.rel _ _ hb
        simp only [VR] at h1
        obtain ⟨c', hν', he⟩ := h1
        rw [hν] at hν'; injection hν' with hν'; injection hν' with e1 e2; subst e1
        obtain ⟨v, hv, rv⟩ := lookup_sound (w := w) h h2 hms (.inr ⟨c, clock, rfl, hcc⟩)
        exact ⟨v, run_v (by rw [he]; exact hv), rv⟩
      · cases h
  | entry x =>
    obtain ⟨a, rfl⟩ := one hx
    obtain ⟨v, hv, rv⟩ := entry_read hr h (one_rel hx)
    exact ⟨v, run_v hv, rv⟩
  | convert s d x =>
    obtain ⟨a, rfl⟩ := one hx
    obtain ⟨v, hv, rv⟩ := conv_read hr h (one_rel hx)
    exact ⟨v, run_v hv, rv⟩
  | call c =>
    rcases xs with _ | ⟨x, _ | ⟨y, xs⟩⟩
    · cases h
    · exact len_read hr h hx
    · cases h
  | _ => exfalso; simp [clsOf] at hc

end Go.Proofs.YtblpmmociahklaaGreatDoor.Sx
