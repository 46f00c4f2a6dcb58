/- Reads are sound. -/
import Derived.Test.YtblpmmociahklaaGreatDoorSx8
import Derived.Laws.BytesString
namespace Go.Proofs.YtblpmmociahklaaGreatDoor.Sx
open Go

variable {P : Program} {ν : Pl} {σ : Nat → Value} {w : World}

theorem load_sound {N : Nat} {H : Heap} (hr : HR N ν σ H w) {t : TypeId} {b o : Nat} {r : AV} (h : loadF P t H b o = some r) {v' : Value} (hx : VR ν σ (.ptr b o) v') :
    ∃ v, (Instr.loadAt t v').run P w = .ok v w ∧ VR ν σ r v := by
  unfold loadF at h
  split at h
  · rename_i e cs fx hb
    obtain ⟨c, p, arr, fr, hν, hc, hf, hfx, hl, hv⟩ := hr.rel _ _ hb
    simp only [VR] at hx
    obtain ⟨c', p', hν', rfl⟩ := hx
    rw [hν] at hν'; injection hν' with hν'; injection hν' with e1 e2; subst e1; subst e2
    split at h
    · rename_i ha
      split at h
      · rename_i n hn
        split at h
        · rename_i hle
          injection h with h; subst h
          refine ⟨.agg ((arr.toList.drop (p.o + o)).take n).toArray, ?_, ?_⟩
          · simp only [Instr.loadAt, Instr.sureAddr, Sem.run_bind, Sem.run_pure, Result.andThen_ok, loadVar, run_agg ha, if_true, run_size hn, run_load_cells hc (by omega : p.o + o + n ≤ arr.size)]
          · simp only [VR]
            refine ⟨_, ?_, rfl⟩
            have := (hv.drop o).take n
            rw [List.drop_take, List.take_take, List.drop_drop] at this
            rwa [Nat.min_eq_left (by omega)] at this
        · cases h
      · cases h
    · rename_i ha
      obtain ⟨v, hv1, hv2⟩ := hv.get h
      refine ⟨v, ?_, hv2⟩
      have hlt : o < cs.length := by
        rcases Nat.lt_or_ge o cs.length with h1 | h1
        · exact h1
        · rw [List.getElem?_eq_none h1] at h; cases h
      rw [List.getElem?_take, if_pos hlt, List.getElem?_drop] at hv1
      have hcell : w.cell? ⟨c, p.o + o, none⟩ = some v := by rw [cell_eq hc]; simpa using hv1
      simp only [Instr.loadAt, Instr.sureAddr, Sem.run_bind, Sem.run_pure, Result.andThen_ok, loadVar, run_agg ha, Bool.false_eq_true, if_false, run_load, hcell]
    · cases h
  · cases h

theorem partF_some {t : TypeId} {cs : List AV} {ds : List Value} {off : Nat} {r : AV} (hr : VRs ν σ cs ds) (h : partF P t cs off = some r) :
    ∃ v, (∀ w, (part t ds.toArray off).run P w = .ok v w) ∧ VR ν σ r v := by
  obtain ⟨v, hv, rv⟩ := run_part (w := default) hr h
  refine ⟨v, fun w => ?_, rv⟩
  obtain ⟨v2, hv2, rv2⟩ := run_part (w := w) hr h
  -- the value does not hang on the world
  have key : ∀ w1 w2 u1 u2, (part t ds.toArray off).run P w1 = .ok u1 w1 → (part t ds.toArray off).run P w2 = .ok u2 w2 → u1 = u2 := by
    intro w1 w2 u1 u2 h1 h2
    unfold partF at h
    cases ha : isAggT P t with
    | none => simp [ha] at h
    | some b =>
      cases b with
      | true =>
        simp only [ha] at h
        cases hs : sizeT P t with
        | none => simp [hs] at h
        | some n =>
          simp only [part, Sem.run_bind, run_agg ha, Result.andThen_ok, if_true, run_size hs, Sem.run_pure] at h1 h2
          injection h1 with h1 _; injection h2 with h2 _; rw [← h1, ← h2]
      | false =>
        simp only [ha] at h
        obtain ⟨v, hv, _⟩ := hr.get h
        have hv' : ds.toArray[off]? = some v := by simpa using hv
        simp only [part, Sem.run_bind, run_agg ha, Result.andThen_ok, Bool.false_eq_true, if_false, hv', Sem.run_pure] at h1 h2
        injection h1 with h1 _; injection h2 with h2 _; rw [← h1, ← h2]
  rw [hv2, key _ _ _ _ hv hv2]

theorem forIn_unit {α : Type} (f : α → Sem Unit) : ∀ (l : List α), (∀ a ∈ l, (f a).run P w = .ok () w) →
    (forIn l PUnit.unit (fun a _ => do f a; pure (ForInStep.yield PUnit.unit)) : Sem PUnit).run P w = .ok PUnit.unit w
  | [], _ => rfl
  | a :: l, h => by
    simp only [List.forIn_cons, Sem.run_bind, h a (List.mem_cons_self ..), Result.andThen_ok, Sem.run_pure]
    exact forIn_unit f l (fun b hb => h b (List.mem_cons_of_mem _ hb))

theorem keyFits_check : ∀ (d : Nat) (t : TypeId) (k : AV) (k' : Value) (em : Bool) (n : Nat), keyFits P d t k = true → VR ν σ k k' → d ≤ n → (Instr.checkKey em n t k').run P w = .ok () w := by
  intro d
  induction d with
  | zero => intro t k k' em n h; simp [keyFits] at h
  | succ d ih =>
    intro t k k' em n h hk hn
    obtain ⟨m, rfl⟩ : ∃ m, n = m + 1 := ⟨n - 1, by omega⟩
    unfold keyFits at h
    cases hu : P.underlying t with
    | none => simp [hu] at h
    | some u =>
      simp only [hu] at h
      cases u <;> (first | (cases h; done) | skip)
      case bool => simp [Instr.checkKey, run_und hu]
      case int => simp [Instr.checkKey, run_und hu]
      case string => simp [Instr.checkKey, run_und hu]
      case struct fs =>
        cases k <;> (first | (cases h; done) | skip)
        rename_i cs
        obtain ⟨ds, hds, rfl⟩ := hk.agg_inv
        simp only [Instr.checkKey, Sem.run_bind, run_und hu, Result.andThen_ok]
        rw [← Array.forIn_toList]
        have hall : ∀ f ∈ fs.toList, (if f.name ≠ "_" then (do Instr.checkKey em m f.type (← part f.type ds.toArray f.offset)) else pure () : Sem Unit).run P w = .ok () w := by
          intro f hf
          have := List.all_eq_true.1 h f hf
          split at this
          · rename_i a ha
            obtain ⟨v, hv, rv⟩ := run_part (w := w) hds ha
            split
            · simp only [Sem.run_bind, hv, Result.andThen_ok]
              exact ih _ _ _ _ _ this rv (by omega)
            · rfl
          · cases this
        have := forIn_unit (P := P) (w := w) _ _ hall
        revert this
        generalize fs.toList = l
        intro this
        have e : (forIn l PUnit.unit fun f r => if f.name ≠ "_" then (do let x ← part f.type ds.toArray f.offset; Instr.checkKey em m f.type x; pure (ForInStep.yield PUnit.unit)) else (pure (ForInStep.yield PUnit.unit) : Sem (ForInStep PUnit))) =
            (forIn l PUnit.unit fun f _ => do (if f.name ≠ "_" then (do Instr.checkKey em m f.type (← part f.type ds.toArray f.offset)) else pure () : Sem Unit); pure (ForInStep.yield PUnit.unit) : Sem PUnit) := by
          congr 1; funext f r
          split <;> simp
        first
          | (rw [e, this]; rfl)
          | (simp only [this])

def FRel (ν : Pl) (σ : Nat → Value) : Option (Nat × AV) → Option (Nat × Value) → Prop
  | none, none => True
  | some (i, a), some (j, v) => i = j ∧ VR ν σ a v
  | _, _ => False

theorem asking_sound {t : TypeId} {k : AV} {k' : Value} (hk : VR ν σ k k') : ∀ (es : List ME) (fs : List MapEntry) (i : Nat) (r : Option (Nat × AV)), findK P t k es i = some r → MRs ν σ es fs →
    ∃ r', (Instr.findAsking t k' fs i).run P w = .ok r' w ∧ FRel ν σ r r'
  | [], fs, i, r, h, hm => by
    simp only [MRs] at hm; subst hm
    simp only [findK, Option.some.injEq] at h; subst h
    exact ⟨none, by simp [Instr.findAsking], trivial⟩
  | e :: es, fs, i, r, h, hm => by
    obtain ⟨f, gs, rfl, h1, h2, h3, h4⟩ := hm
    simp only [findK] at h
    split at h
    · rename_i he
      injection h with h; subst h
      refine ⟨some (i, f.val), ?_, rfl, h2⟩
      simp only [Instr.findAsking, Op.equal, Sem.run_bind, eqF_sound _ _ _ _ _ he _ _ hk h1 Op.maxDepth (by decide), Result.andThen_ok, if_true, Sem.run_pure]
    · rename_i he
      obtain ⟨r', hr', rr⟩ := asking_sound hk es gs (i + 1) r h h4
      refine ⟨r', ?_, rr⟩
      simp only [Instr.findAsking, Op.equal, Sem.run_bind, eqF_sound _ _ _ _ _ he _ _ hk h1 Op.maxDepth (by decide), Result.andThen_ok, Bool.false_eq_true, if_false, hr']
    · cases h

theorem sameNow_eq {t : TypeId} {d : TypeDesc} (hu : P.underlying t = some d) {k e : AV} {k' e' : Value} (hk : VR ν σ k k') (he : VR ν σ e e') {n : Nat} {r : Bool} (h : eqF P n t k e = some r) {s : Bool}
    (hs : Instr.sameNow d k' e' = some s) : s = r := by
  cases n with
  | zero => simp [eqF] at h
  | succ n =>
    unfold eqF at h
    simp only [hu] at h
    unfold Instr.sameNow at hs
    split at hs
    · rename_i kk a k2 b
      split at hs
      · rename_i hkk
        injection hs with hs; subst hs; subst hkk
        have shape : ∀ {x : AV} {a : Int}, VR ν σ x (.int kk a) → x = .int kk a ∨ (∃ i, x = .sym i) ∨ x = .any := by
          intro x a hx
          cases x <;> simp [VR] at hx ⊢
          · exact ⟨hx.1.symm, hx.2.symm⟩
        rcases shape hk with rfl | ⟨i, rfl⟩ | rfl
        · rcases shape he with rfl | ⟨i, rfl⟩ | rfl
          · simp at h; exact h
          · cases h
          · cases h
        · cases e <;> cases h
        · cases e <;> cases h
      · cases hs
    · rename_i a b
      injection hs with hs; subst hs
      have shape : ∀ {x : AV} {a : ByteArray}, VR ν σ x (.string a) → (∃ l, x = .str l ∧ a = ⟨l.toArray⟩) ∨ (∃ i, x = .sym i) ∨ x = .any := by
        intro x a hx
        cases x <;> simp [VR] at hx ⊢
        · exact hx
      rcases shape hk with ⟨l, rfl, rfl⟩ | ⟨i, rfl⟩ | rfl
      · rcases shape he with ⟨l2, rfl, rfl⟩ | ⟨i, rfl⟩ | rfl
        · rw [ba_beq]; simp at h; exact h
        · cases h
        · cases h
      · cases e <;> cases h
      · cases e <;> cases h
    · rename_i a b
      injection hs with hs; subst hs
      have shape : ∀ {x : AV} {a : Bool}, VR ν σ x (.bool a) → x = .bool a ∨ (∃ i, x = .sym i) ∨ x = .any := by
        intro x a hx
        cases x <;> simp [VR] at hx ⊢
        · exact hx.symm
      rcases shape hk with rfl | ⟨i, rfl⟩ | rfl
      · rcases shape he with rfl | ⟨i, rfl⟩ | rfl
        · simp at h; exact h
        · cases h
        · cases h
      · cases e <;> cases h
      · cases e <;> cases h
    · cases hs

theorem findNow_rel {t : TypeId} {d : TypeDesc} (hu : P.underlying t = some d) {k : AV} {k' : Value} (hk : VR ν σ k k') : ∀ (es : List ME) (fs : List MapEntry) (i : Nat) (r : Option (Nat × AV)) (x : Option (Nat × Value)),
    findK P t k es i = some r → MRs ν σ es fs → Instr.findNow d k' fs i = some x → FRel ν σ r x
  | [], fs, i, r, x, h, hm, hn => by
    simp only [MRs] at hm; subst hm
    simp only [findK, Option.some.injEq] at h; subst h
    simp only [Instr.findNow, Option.some.injEq] at hn; subst hn
    trivial
  | e :: es, fs, i, r, x, h, hm, hn => by
    obtain ⟨f, gs, rfl, h1, h2, h3, h4⟩ := hm
    simp only [findK] at h
    simp only [Instr.findNow] at hn
    split at hn
    · rename_i hs
      injection hn with hn; subst hn
      split at h
      · injection h with h; subst h; exact ⟨rfl, h2⟩
      · rename_i he
        have := sameNow_eq hu hk h1 he hs
        cases this
      · cases h
    · rename_i hs
      split at h
      · rename_i he
        have := sameNow_eq hu hk h1 he hs
        cases this
      · exact findNow_rel hu hk es gs (i + 1) r x h h4 hn
      · cases h
    · cases hn

theorem findKey_sound {t : TypeId} {k : AV} {k' : Value} (hk : VR ν σ k k') {es : List ME} {fs : List MapEntry} {r : Option (Nat × AV)} (h : findK P t k es 0 = some r) (hm : MRs ν σ es fs) {d : TypeDesc} (hu : P.underlying t = some d) :
    ∃ r', (Instr.findKey t k' fs).run P w = .ok r' w ∧ FRel ν σ r r' := by
  unfold Instr.findKey
  simp only [Sem.run_bind, run_und hu, Result.andThen_ok]
  split
  · rename_i x hx
    exact ⟨x, rfl, findNow_rel hu hk _ _ _ _ _ h hm hx⟩
  · exact asking_sound hk _ _ _ _ h hm

theorem keyFits_und {d : Nat} {t : TypeId} {k : AV} (h : keyFits P d t k = true) : ∃ u, P.underlying t = some u := by
  cases d with
  | zero => simp [keyFits] at h
  | succ d =>
    unfold keyFits at h
    cases hu : P.underlying t with
    | none => simp [hu] at h
    | some u => exact ⟨u, rfl⟩

theorem tup2 {a : AV} {v : Value} {b : Bool} (hv : VR ν σ a v) : VR ν σ (.tup [a, .bool b]) (.tuple #[v, .bool b]) := by
  simp only [VR, VRs]
  exact ⟨[v, .bool b], ⟨v, _, rfl, hv, .bool b, [], rfl, rfl, rfl⟩, rfl⟩

theorem run_getObj_map {c clock : Nat} {fs : Array MapEntry} (h : w.heap[c]? = some (.map fs clock)) : (getObj c).run P w = .ok (.map fs clock) w := by
  simp only [getObj, Sem.run, h]

/-- The part of a look-up behind the map's own reading. -/
theorem lookup_sound {t : TypeId} {es : List ME} {fs : Array MapEntry} {k r : AV} {k' : Value} {ok : Bool} (h : lookupF P t es k ok = some r) (hk : VR ν σ k k') (hm : MRs ν σ es fs.toList) {m : Value}
    (hmv : (m = .map none ∧ fs = #[]) ∨ ∃ c clock, m = .map (some c) ∧ w.heap[c]? = some (.map fs clock)) : ∃ v, (Instr.lookup t m k' ok).run P w = .ok v w ∧ VR ν σ r v := by
  unfold lookupF at h
  cases hu : P.underlying t with
  | none => simp [hu] at h
  | some u =>
    simp only [hu] at h
    cases u <;> (first | (cases h; done) | skip)
    rename_i kt et
    simp only at h
    split at h
    · rename_i hfit
      obtain ⟨ud, hud⟩ := keyFits_und hfit
      have hchk : ∀ em, (Instr.checkKey em 10000 kt k').run P w = .ok () w := fun em => keyFits_check _ _ _ _ _ _ hfit hk (by decide)
      split at h
      · rename_i i v hfind
        injection h with h
        obtain ⟨r', hr', rr⟩ := findKey_sound (w := w) hk hfind hm hud
        cases r' with
        | none => exact rr.elim
        | some x =>
          obtain ⟨j, u⟩ := x
          refine ⟨if ok then .tuple #[u, .bool true] else u, ?_, ?_⟩
          · rcases hmv with ⟨rfl, rfl⟩ | ⟨c, clock, rfl, hc⟩
            · simp only [Instr.lookup, Sem.run_bind, run_und hu, Result.andThen_ok, hchk, hr', Sem.run_pure]
            · simp only [Instr.lookup, Sem.run_bind, run_und hu, Result.andThen_ok, run_getObj_map hc, hchk, hr', Sem.run_pure]
          · subst h; cases ok
            · exact rr.2
            · exact tup2 rr.2
      · rename_i hfind
        obtain ⟨r', hr', rr⟩ := findKey_sound (w := w) hk hfind hm hud
        cases r' with
        | some x => exact rr.elim
        | none =>
          split at h
          · rename_i z hz
            injection h with h
            obtain ⟨zv, hzv, rz⟩ := run_zero (ν := ν) (σ := σ) (w := w) hz
            refine ⟨if ok then .tuple #[zv, .bool false] else zv, ?_, ?_⟩
            · rcases hmv with ⟨rfl, rfl⟩ | ⟨c, clock, rfl, hc⟩
              · simp only [Instr.lookup, Sem.run_bind, run_und hu, Result.andThen_ok, hchk, hr', hzv, Sem.run_pure]
              · simp only [Instr.lookup, Sem.run_bind, run_und hu, Result.andThen_ok, run_getObj_map hc, hchk, hr', hzv, Sem.run_pure]
            · subst h; cases ok
              · exact rz
              · exact tup2 rz
          · cases h
      · cases h
    · cases h


theorem MRs.length : ∀ {es : List ME} {fs : List MapEntry}, MRs ν σ es fs → es.length = fs.length
  | [], _, h => by simp only [MRs] at h; subst h; rfl
  | _ :: es, _, h => by obtain ⟨f, gs, rfl, _, _, _, h4⟩ := h; simp [h4.length]

theorem MRs.find {es : List ME} {fs : List MapEntry} (h : MRs ν σ es fs) (st : Nat) {e : ME} (he : es.find? (fun e => e.born == st) = some e) :
    ∃ f, fs.find? (fun e => e.born == st) = some f ∧ VR ν σ e.key f.key ∧ VR ν σ e.val f.val := by
  induction es generalizing fs with
  | nil => simp at he
  | cons x es ih =>
    obtain ⟨f, gs, rfl, h1, h2, h3, h4⟩ := h
    rw [List.find?_cons] at he ⊢
    rw [h3]
    split at he
    · injection he with he; subst he; exact ⟨f, by simp_all, h1, h2⟩
    · rename_i hne
      obtain ⟨g, hg, r⟩ := ih h4 he
      exact ⟨g, by simp_all, r⟩

theorem bytes_rel : ∀ {cs : List AV} {l : List UInt8} {ds : List Value}, bytesF cs = some l → VRs ν σ cs ds → ∃ ns : List Int, ds = ns.map (Value.int .u8) ∧ l = ns.map (fun n => UInt8.ofNat n.toNat)
  | [], l, ds, h, hv => by
    simp only [VRs] at hv; subst hv
    simp only [bytesF, Option.some.injEq] at h; subst h
    exact ⟨[], rfl, rfl⟩
  | a :: cs, l, ds, h, hv => by
    simp only [VRs] at hv
    obtain ⟨v, ws, rfl, h1, h2⟩ := hv
    cases a <;> (first | (cases h; done) | skip)
    rename_i k n
    cases k <;> (first | (cases h; done) | skip)
    simp only [bytesF] at h
    split at h
    · rename_i l' hl'
      injection h with h; subst h
      obtain ⟨ns, rfl, rfl⟩ := bytes_rel hl' h2
      simp only [VR] at h1; subst h1
      exact ⟨n :: ns, rfl, rfl⟩
    · cases h

theorem fold_push (ns : List Int) : ∀ r : ByteArray, ns.foldl (fun r n => r.push (UInt8.ofNat n.toNat)) r = ⟨(r.data.toList ++ ns.map fun n => UInt8.ofNat n.toNat).toArray⟩ := by
  induction ns with
  | nil => intro r; apply ByteArray.ext; simp
  | cons n ns ih => intro r; simp only [List.foldl_cons, ih]; apply ByteArray.ext; simp

end Go.Proofs.YtblpmmociahklaaGreatDoor.Sx
