/- What writes is sound: stores, maps. -/
import Derived.Test.YtblpmmociahklaaGreatDoorSx11
namespace Go.Proofs.YtblpmmociahklaaGreatDoor.Sx
open Go

variable {P : Program} {ν : Pl} {σ : Nat → Value} {w : World}

theorem HR.congr {N : Nat} {H H' : Heap} (h : HR N ν σ H w) (hg : ∀ b, H'.get b = H.get b) (hn : H'.next = H.next) : HR N ν σ H' w :=
  ⟨by rw [hn]; exact h.fresh, fun b o hb => h.rel b o (by rw [← hg]; exact hb), fun b b' o o' c p p' h1 h2 h3 h4 => h.sep b b' o o' c p p' (by rw [← hg]; exact h1) h2 (by rw [← hg]; exact h3) h4, h.base,
   fun b o hb => by rw [hn]; exact h.dom b o (by rw [← hg]; exact hb)⟩
theorem Live.congr {H H' : Heap} (hg : ∀ b, H'.get b = H.get b) {c : Nat} (h : Live H' ν c) : Live H ν c := by
  obtain ⟨b, o, p, h1, h2, h3⟩ := h
  exact ⟨b, o, p, by rw [← hg]; exact h1, h2, h3⟩
theorem Ext.congr {H H1 H2 : Heap} {ν' : Pl} {w' : World} (h : Ext H ν w H1 ν' w') (hg : ∀ b, H2.get b = H1.get b) (hn : H2.next = H1.next) : Ext H ν w H2 ν' w' :=
  ⟨h.le, by rw [hn]; exact h.next, h.old, h.os, h.tape, h.output, h.size, h.keep, fun c hc l => h.live c hc (l.congr hg)⟩

theorem put_get_same {H : Heap} {b : Nat} {o : AO} (hb : H.get b = some o) : ∀ j, (H.put b o).get j = H.get j := by
  intro j
  rw [Heap.get_put]
  split
  · rename_i e; rw [e, hb]
  · rfl

/-- Some cells of one of the evaluator's blocks are written. -/
theorem write_cells (hσ : ∀ i, (σ i).oneCell' = true) {N : Nat} {H : Heap} (hr : HR N ν σ H w) {b : Nat} {e : TypeId} {cs : List AV} {fx : Bool} (hb : H.get b = some (.cells e cs fx)) {new : List AV} {vs : List Value}
    (hn : VRs ν σ new vs) (h1 : new.all leaf = true) {o : Nat} (hle : o + new.length ≤ cs.length) {c : Nat} {p : Pt} (hν : ν b = some (c, p)) :
    ∃ w', (storeCells ⟨c, p.o + o, none⟩ vs 0).run P w = .ok () w' ∧ HR N ν σ (H.put b (.cells e (setCells cs o new) fx)) w' ∧ Ext H ν w (H.put b (.cells e (setCells cs o new) fx)) ν w' := by
  obtain ⟨c', p', arr, fr, hν', hc, hf, hfx, hl, hv⟩ := hr.rel _ _ hb
  rw [hν] at hν'; injection hν' with hν'; injection hν' with e1 e2; subst e1; subst e2
  have hnl := hn.length
  obtain ⟨w', arr', hrun, hc', hs', hl', ho', hz', h4⟩ := run_store_cells (P := P) (q := p.o + o) vs 0 w arr hc hf (by omega) (leaf_all hσ hn h1)
  refine ⟨w', hrun, hr.put hb rfl hν ho' hz' ?_, Ext.put hb rfl hν ho' hz' h4⟩
  refine ⟨c, p, arr', fr, hν, hc', by rw [hs']; exact hf, ⟨fun e => ⟨(hfx.1 e).1, by rw [hs', setCells_length]; exact (hfx.1 e).2⟩, by rw [hs']; exact hfx.2⟩, by rw [setCells_length, hs']; exact hl, ?_⟩
  rw [hl', setCells_length, Nat.add_zero, setV_part _ _ _ _ _ (by omega)]
  exact setCells_rel _ _ _ _ _ hn hv

theorem store_big (hσ : ∀ i, (σ i).oneCell' = true) {N : Nat} {H H' : Heap} (hr : HR N ν σ H w) {t : TypeId} {b off : Nat} {v : AV} (h : storeF P t H b off v = some H') {a' v' : Value} (hx : VR ν σ (.ptr b off) a') (hv : VR ν σ v v') :
    ∃ w', (Instr.storeAt t a' v').run P w = .ok () w' ∧ HR N ν σ H' w' ∧ Ext H ν w H' ν w' := by
  unfold storeF at h
  split at h
  · rename_i e cs fx hb
    split at h
    · rename_i n hn
      split at h
      · rename_i hcond
        injection h with h; subst h
        simp only [VR] at hx
        obtain ⟨c, p, hν, rfl⟩ := hx
        have hc := cells_rel hσ hv
        obtain ⟨w', hrun, hr', he'⟩ := write_cells (P := P) hσ hr hb hc hcond.2.2 (o := off) (by omega) hν
        refine ⟨w', ?_, hr', he'⟩
        have hsz : v'.cells.size = n := by have := hc.length; rw [← hcond.1, this]; simp
        simp only [Instr.storeAt, Instr.sureAddr, Sem.run_bind, Sem.run_pure, Result.andThen_ok, storeVar, run_size hn, hsz, ne_eq, not_true_eq_false, if_false]
        exact hrun
      · cases h
    · cases h
  · cases h

/-! ### Maps -/

theorem run_setObj {c : Nat} {o : Obj} (h : w.heap[c]? = some o) (hn : ∀ a t f, o ≠ .cells a t f) (o' : Obj) : (setObj c o').run P w = .ok () { w with heap := w.heap.setIfInBounds c o' } := by
  cases o <;> first | (exact absurd rfl (hn _ _ _)) | simp only [setObj, Sem.run, h]

theorem put_obj {N : Nat} {H : Heap} (hr : HR N ν σ H w) {b : Nat} {x x' : AO} (hb : H.get b = some x) (ha : alive x = true) {c : Nat} {p : Pt} (hν : ν b = some (c, p)) {o o' : Obj} (hc : w.heap[c]? = some o)
    (hrel : ∀ w' : World, w'.heap[c]? = some o' → OR ν σ w' b x') :
    HR N ν σ (H.put b x') { w with heap := w.heap.setIfInBounds c o' } ∧ Ext H ν w (H.put b x') ν { w with heap := w.heap.setIfInBounds c o' } := by
  have hlt : c < w.heap.size := by
    rcases Nat.lt_or_ge c w.heap.size with h | h
    · exact h
    · rw [Array.getElem?_eq_none h] at hc; cases hc
  have ho : ∀ k, k ≠ c → (w.heap.setIfInBounds c o')[k]? = w.heap[k]? := fun k hk => by
    rw [Array.getElem?_setIfInBounds, if_neg (fun e => hk e.symm)]
  refine ⟨hr.put hb ha hν ho (by simp) (hrel _ ?_), Ext.put hb ha hν ho (by simp) ⟨rfl, rfl, rfl⟩⟩
  simp [hlt]

theorem MRs.modify (f : ME → ME) (g : MapEntry → MapEntry) : ∀ {es : List ME} {fs : List MapEntry} (i : Nat), MRs ν σ es fs →
    (∀ e x, es[i]? = some e → fs[i]? = some x → VR ν σ e.key x.key → VR ν σ e.val x.val → x.born = e.born → VR ν σ (f e).key (g x).key ∧ VR ν σ (f e).val (g x).val ∧ (g x).born = (f e).born) →
    MRs ν σ (es.modify i f) (fs.modify i g)
  | [], _, i, h, _ => by simp only [MRs] at h; subst h; cases i <;> simp [MRs]
  | e :: es, _, 0, h, hfg => by
    obtain ⟨x, gs, rfl, h1, h2, h3, h4⟩ := h
    obtain ⟨k1, k2, k3⟩ := hfg e x (by simp) (by simp) h1 h2 h3
    simp only [List.modify_zero_cons, MRs]
    exact ⟨_, _, rfl, k1, k2, k3, h4⟩
  | e :: es, _, i + 1, h, hfg => by
    obtain ⟨x, gs, rfl, h1, h2, h3, h4⟩ := h
    simp only [List.modify_succ_cons, MRs]
    exact ⟨_, _, rfl, h1, h2, h3, h4.modify f g i (fun e' x' he hx => hfg e' x' (by simpa using he) (by simpa using hx))⟩

theorem MRs.get : ∀ {es : List ME} {fs : List MapEntry} {i : Nat} {e : ME}, MRs ν σ es fs → es[i]? = some e → ∃ x, fs[i]? = some x ∧ VR ν σ e.key x.key ∧ VR ν σ e.val x.val ∧ x.born = e.born
  | [], _, i, e, _, he => by simp at he
  | e0 :: es, _, 0, e, h, he => by
    obtain ⟨x, gs, rfl, h1, h2, h3, h4⟩ := h
    simp at he; subst he
    exact ⟨x, by simp, h1, h2, h3⟩
  | e0 :: es, _, i + 1, e, h, he => by
    obtain ⟨x, gs, rfl, h1, h2, h3, h4⟩ := h
    obtain ⟨y, hy, r⟩ := h4.get (i := i) (by simpa using he)
    exact ⟨y, by simpa using hy, r⟩

theorem MRs.push {es : List ME} {fs : List MapEntry} (h : MRs ν σ es fs) {e : ME} {x : MapEntry} (h1 : VR ν σ e.key x.key) (h2 : VR ν σ e.val x.val) (h3 : x.born = e.born) : MRs ν σ (es ++ [e]) (fs ++ [x]) := by
  induction es generalizing fs with
  | nil => simp only [MRs] at h; subst h; exact ⟨x, [], rfl, h1, h2, h3, rfl⟩
  | cons a es ih =>
    obtain ⟨y, gs, rfl, k1, k2, k3, k4⟩ := h
    exact ⟨y, _, rfl, k1, k2, k3, ih k4⟩

theorem MRs.erase : ∀ {es : List ME} {fs : List MapEntry} (i : Nat), MRs ν σ es fs → MRs ν σ (es.eraseIdx i) (fs.eraseIdx i)
  | [], _, i, h => by simp only [MRs] at h; subst h; simp [MRs]
  | e :: es, _, 0, h => by obtain ⟨x, gs, rfl, h1, h2, h3, h4⟩ := h; exact h4
  | e :: es, _, i + 1, h => by obtain ⟨x, gs, rfl, h1, h2, h3, h4⟩ := h; exact ⟨_, _, rfl, h1, h2, h3, h4.erase i⟩

theorem same_bits : ∀ (f n : Nat) (x y : AV) (a b : Value), AV.same x y = true → plainKey f y = true → VR ν σ x a → VR ν σ y b → f ≤ n → Instr.sameBits n a b = true := by
  intro f
  induction f with
  | zero =>
    intro n x y a b hs hp hx hy _
    cases y <;> (first | (cases hp; done) | skip) <;> cases x <;> (first | (cases hs; done) | skip) <;> simp only [VR] at hx hy <;> subst hx <;> subst hy <;> simp [AV.same] at hs <;> (cases n <;> simp_all [Instr.sameBits, ba_beq])
  | succ f ih =>
    intro n x y a b hs hp hx hy hn
    obtain ⟨m, rfl⟩ : ∃ m, n = m + 1 := ⟨n - 1, by omega⟩
    cases y <;> (first | (cases hp; done) | skip) <;> cases x <;> (first | (cases hs; done) | skip)
    case agg.agg ys xs =>
      simp only [VR] at hx hy
      obtain ⟨us, hu, rfl⟩ := hx
      obtain ⟨vs, hv, rfl⟩ := hy
      have hs' : AV.same.sames xs ys = true := hs
      have hp' : ys.all (plainKey f) = true := hp
      simp only [Instr.sameBits, Bool.and_eq_true, beq_iff_eq, List.size_toArray]
      have key : ∀ (xs ys : List AV) (us vs : List Value), AV.same.sames xs ys = true → ys.all (plainKey f) = true → VRs ν σ xs us → VRs ν σ ys vs → us.length = vs.length ∧ ((us.zip vs).all fun (x, y) => Instr.sameBits m x y) = true := by
        intro xs
        induction xs with
        | nil =>
          intro ys us vs hs hp hu hv
          cases ys with
          | nil => simp only [VRs] at hu hv; subst hu; subst hv; simp
          | cons y ys => cases hs
        | cons x xs ihx =>
          intro ys us vs hs hp hu hv
          cases ys with
          | nil => cases hs
          | cons y ys =>
            simp only [AV.same.sames, Bool.and_eq_true] at hs
            simp only [List.all_cons, Bool.and_eq_true] at hp
            simp only [VRs] at hu hv
            obtain ⟨u, us, rfl, h1, h2⟩ := hu
            obtain ⟨v, vs, rfl, h3, h4⟩ := hv
            obtain ⟨r1, r2⟩ := ihx ys us vs hs.2 hp.2 h2 h4
            refine ⟨by simp [r1], ?_⟩
            simp only [List.zip_cons_cons, List.all_cons, Bool.and_eq_true]
            exact ⟨ih m x y u v hs.1 hp.1 h1 h3 (by omega), r2⟩
      obtain ⟨r1, r2⟩ := key xs ys us vs hs' hp' hu hv
      exact ⟨r1, by simpa using r2⟩
    all_goals (simp only [VR] at hx hy; subst hx; subst hy; simp [AV.same] at hs; simp_all [Instr.sameBits, ba_beq])

theorem key_stays {x y : AV} {a b : Value} (h : (AV.same x y && plainKey 6 y) = true) (hx : VR ν σ x a) (hy : VR ν σ y b) : (Instr.keyThatStays a b).run P w = .ok b w := by
  rw [Bool.and_eq_true] at h
  simp only [Instr.keyThatStays, same_bits 6 10000 x y a b h.1 h.2 hx hy (by decide), if_true, Sem.run_pure]

theorem upd_big {N : Nat} {H : Heap} (hr : HR N ν σ H w) {t : TypeId} {b : Nat} {es es' : List ME} {clock clock' : Nat} (hb : H.get b = some (.map es clock)) {k v : AV} (h : updF P t es clock k v = some (es', clock'))
    {m' k' v' : Value} (hm : VR ν σ (.map b) m') (hk : VR ν σ k k') (hv : VR ν σ v v') :
    ∃ w', (Instr.mapUpdate t m' k' v').run P w = .ok () w' ∧ HR N ν σ (H.put b (.map es' clock')) w' ∧ Ext H ν w (H.put b (.map es' clock')) ν w' := by
  obtain ⟨c, fs, hν, hc, hms⟩ := hr.rel _ _ hb
  simp only [VR] at hm
  obtain ⟨c', hν', rfl⟩ := hm
  rw [hν] at hν'; injection hν' with hν'; injection hν' with e1 _; subst e1
  unfold updF at h
  cases hu : P.underlying t with
  | none => simp [hu] at h
  | some u =>
    simp only [hu] at h
    cases u <;> (first | (cases h; done) | skip)
    rename_i kt et
    simp only at h
    split at h
    · rename_i hfit
      obtain ⟨ud, hud⟩ := keyFits_und hfit
      have hchk : ∀ em, (Instr.checkKey em 10000 kt k').run P w = .ok () w := fun em => keyFits_check _ _ _ _ _ _ hfit hk (by decide)
      split at h
      · rename_i i v0 hfind
        split at h
        · rename_i e he
          split at h
          · rename_i hsame
            injection h with h; injection h with e1 e2; subst e1; subst e2
            obtain ⟨r', hr', rr⟩ := findKey_sound (w := w) hk hfind hms hud
            cases r' with
            | none => exact rr.elim
            | some x =>
              obtain ⟨j, u⟩ := x
              obtain ⟨rfl, _⟩ := rr
              obtain ⟨x, hx, hxk, hxv, hxb⟩ := hms.get he
              obtain ⟨h1, h2⟩ := put_obj (o' := .map (fs.modify i fun e => { e with key := k', val := v' }) clock) (x' := .map (es.modify i fun e => { e with key := k, val := v }) clock) hr hb rfl hν hc (fun w' hw' =>
                ⟨c, _, hν, hw', by rw [Array.toList_modify]; exact hms.modify _ _ i (fun e x _ _ _ _ h3 => ⟨hk, hv, h3⟩)⟩)
              refine ⟨_, ?_, h1, h2⟩
              have hfi : fs[i]? = some x := by simpa using hx
              simp only [Instr.mapUpdate, Sem.run_bind, run_und hu, Result.andThen_ok, run_getObj_map hc, hchk, hr', hfi, Option.map_some, Option.getD_some, key_stays hsame hxk hk, run_setObj hc (by simp)]
          · cases h
        · cases h
      · rename_i hfind
        injection h with h; injection h with e1 e2; subst e1; subst e2
        obtain ⟨r', hr', rr⟩ := findKey_sound (w := w) hk hfind hms hud
        cases r' with
        | some x => exact rr.elim
        | none =>
          obtain ⟨h1, h2⟩ := put_obj (o' := .map (fs.push { key := k', val := v', born := clock }) (clock + 1)) (x' := .map (es ++ [{ key := k, val := v, born := clock }]) (clock + 1)) hr hb rfl hν hc (fun w' hw' =>
            ⟨c, _, hν, hw', by rw [Array.toList_push]; exact hms.push hk hv rfl⟩)
          refine ⟨_, ?_, h1, h2⟩
          simp only [Instr.mapUpdate, Sem.run_bind, run_und hu, Result.andThen_ok, run_getObj_map hc, hchk, hr', run_setObj hc (by simp)]
      · cases h
    · cases h

theorem ent_big {N : Nat} {H : Heap} (hr : HR N ν σ H w) {t : TypeId} {b : Nat} {es es' : List ME} {clock clock' st : Nat} (hb : H.get b = some (.map es clock)) {k v : AV} (h : entF P t es clock k = some (v, st, es', clock'))
    {m' k' : Value} (hm : VR ν σ (.map b) m') (hk : VR ν σ k k') :
    ∃ u w', (Instr.mapEntry t m' k').run P w = .ok u w' ∧ VR ν σ (.tup [v, .int .i64 (st : Nat)]) u ∧ HR N ν σ (H.put b (.map es' clock')) w' ∧ Ext H ν w (H.put b (.map es' clock')) ν w' := by
  obtain ⟨c, fs, hν, hc, hms⟩ := hr.rel _ _ hb
  simp only [VR] at hm
  obtain ⟨c', hν', rfl⟩ := hm
  rw [hν] at hν'; injection hν' with hν'; injection hν' with e1 _; subst e1
  have hpair : ∀ (v : AV) (u : Value) (st : Nat), VR ν σ v u → VR ν σ (.tup [v, .int .i64 (st : Nat)]) (.tuple #[u, goInt st]) := by
    intro v u st hv
    simp only [VR, VRs]
    exact ⟨[u, goInt st], ⟨u, _, rfl, hv, _, [], rfl, rfl, rfl⟩, rfl⟩
  unfold entF at h
  cases hu : P.underlying t with
  | none => simp [hu] at h
  | some u =>
    simp only [hu] at h
    cases u <;> (first | (cases h; done) | skip)
    rename_i kt et
    simp only at h
    split at h
    · rename_i hfit
      obtain ⟨ud, hud⟩ := keyFits_und hfit
      have hchk : ∀ em, (Instr.checkKey em 10000 kt k').run P w = .ok () w := fun em => keyFits_check _ _ _ _ _ _ hfit hk (by decide)
      split at h
      · rename_i i v0 hfind
        split at h
        · rename_i e he
          split at h
          · rename_i hsame
            injection h with h; injection h with e0 h; injection h with e1 h; injection h with e2 e3; subst e0; subst e1; subst e2; subst e3
            obtain ⟨r', hr', rr⟩ := findKey_sound (w := w) hk hfind hms hud
            cases r' with
            | none => exact rr.elim
            | some x =>
              obtain ⟨j, u⟩ := x
              obtain ⟨rfl, rv⟩ := rr
              obtain ⟨x, hx, hxk, hxv, hxb⟩ := hms.get he
              obtain ⟨h1, h2⟩ := put_obj (o' := .map (fs.modify i fun e => { e with key := k' }) clock) (x' := .map (es.modify i fun e => { e with key := k }) clock) hr hb rfl hν hc (fun w' hw' =>
                ⟨c, _, hν, hw', by rw [Array.toList_modify]; exact hms.modify _ _ i (fun e x _ _ _ hv h3 => ⟨hk, hv, h3⟩)⟩)
              refine ⟨_, _, ?_, hpair _ u e.born rv, h1, h2⟩
              have hfi : fs[i]? = some x := by simpa using hx
              simp only [Instr.mapEntry, Sem.run_bind, run_und hu, Result.andThen_ok, run_getObj_map hc, hchk, hr', hfi, Option.map_some, Option.getD_some, key_stays hsame hxk hk, run_setObj hc (by simp), Sem.run_pure, hxb]
          · cases h
        · cases h
      · rename_i hfind
        split at h
        · rename_i z hz
          injection h with h; injection h with e0 h; injection h with e1 h; injection h with e2 e3; subst e0; subst e1; subst e2; subst e3
          obtain ⟨r', hr', rr⟩ := findKey_sound (w := w) hk hfind hms hud
          cases r' with
          | some x => exact rr.elim
          | none =>
            obtain ⟨zv, hzv, rz⟩ := run_zero (ν := ν) (σ := σ) (w := w) hz
            obtain ⟨h1, h2⟩ := put_obj (o' := .map (fs.push { key := k', val := zv, born := clock }) (clock + 1)) (x' := .map (es ++ [{ key := k, val := z, born := clock }]) (clock + 1)) hr hb rfl hν hc (fun w' hw' =>
              ⟨c, _, hν, hw', by rw [Array.toList_push]; exact hms.push hk rz rfl⟩)
            refine ⟨_, _, ?_, hpair _ zv clock rz, h1, h2⟩
            simp only [Instr.mapEntry, Sem.run_bind, run_und hu, Result.andThen_ok, run_getObj_map hc, hchk, hr', hzv, run_setObj hc (by simp), Sem.run_pure]
        · cases h
      · cases h
    · cases h

theorem del_big {N : Nat} {H : Heap} (hr : HR N ν σ H w) {ats : Array TypeId} {t : TypeId} (ha : ats[0]? = some t) {b : Nat} {es es' : List ME} {clock : Nat} (hb : H.get b = some (.map es clock)) {k : AV} (h : delF P t es k = some es')
    {m' k' : Value} (hm : VR ν σ (.map b) m') (hk : VR ν σ k k') (ty : TypeId) :
    ∃ w', (Builtin.delete_ ats ty #[m', k']).run P w = .ok (.tuple #[]) w' ∧ HR N ν σ (H.put b (.map es' clock)) w' ∧ Ext H ν w (H.put b (.map es' clock)) ν w' := by
  obtain ⟨c, fs, hν, hc, hms⟩ := hr.rel _ _ hb
  simp only [VR] at hm
  obtain ⟨c', hν', rfl⟩ := hm
  rw [hν] at hν'; injection hν' with hν'; injection hν' with e1 _; subst e1
  have a0 : (#[Value.map (some c), k'] : Array Value)[0]? = some (.map (some c)) := rfl
  have a1 : (#[Value.map (some c), k'] : Array Value)[1]? = some k' := rfl
  unfold delF at h
  cases hu : P.underlying t with
  | none => simp [hu] at h
  | some u =>
    simp only [hu] at h
    cases u <;> (first | (cases h; done) | skip)
    rename_i kt et
    simp only at h
    split at h
    · rename_i hfit
      obtain ⟨ud, hud⟩ := keyFits_und hfit
      have hchk : ∀ em, (Instr.checkKey em 10000 kt k').run P w = .ok () w := fun em => keyFits_check _ _ _ _ _ _ hfit hk (by decide)
      split at h
      · rename_i i v0 hfind
        injection h with h; subst h
        obtain ⟨r', hr', rr⟩ := findKey_sound (w := w) hk hfind hms hud
        cases r' with
        | none => exact rr.elim
        | some x =>
          obtain ⟨j, u⟩ := x
          obtain ⟨rfl, rv⟩ := rr
          obtain ⟨h1, h2⟩ := put_obj (o' := .map (fs.eraseIdxIfInBounds i) clock) (x' := .map (es.eraseIdx i) clock) hr hb rfl hν hc (fun w' hw' =>
            ⟨c, _, hν, hw', by rw [Array.toList_eraseIdxIfInBounds]; exact hms.erase i⟩)
          refine ⟨_, ?_, h1, h2⟩
          simp only [Builtin.delete_, ha, a0, a1, Sem.run_bind, run_und hu, Result.andThen_ok, run_getObj_map hc, hchk, hr', run_setObj hc (by simp), Sem.run_pure]
      · rename_i hfind
        injection h with h; subst h
        obtain ⟨r', hr', rr⟩ := findKey_sound (w := w) hk hfind hms hud
        cases r' with
        | some x => exact rr.elim
        | none =>
          obtain ⟨h1, h2⟩ := put_obj (o' := .map fs clock) (x' := .map es clock) hr hb rfl hν hc (fun w' hw' => ⟨c, _, hν, hw', hms⟩)
          refine ⟨_, ?_, h1, h2⟩
          simp only [Builtin.delete_, ha, a0, a1, Sem.run_bind, run_und hu, Result.andThen_ok, run_getObj_map hc, hchk, hr', run_setObj hc (by simp), Sem.run_pure]
      · cases h
    · cases h

theorem set_born {st : Int} {v : AV} {v' : Value} (hv : VR ν σ v v') : ∀ {es es' : List ME} {fs : List MapEntry}, setBorn st v es = some es' → MRs ν σ es fs →
    ∃ i, fs.findIdx? (fun e => (e.born : Int) == st) = some i ∧ MRs ν σ es' (fs.modify i fun e => { e with val := v' })
  | [], es', fs, h, _ => by cases h
  | e :: es, es', _, h, hm => by
    obtain ⟨x, gs, rfl, h1, h2, h3, h4⟩ := hm
    simp only [setBorn] at h
    split at h
    · rename_i hb
      injection h with h; subst h
      refine ⟨0, by rw [List.findIdx?_cons, h3, hb]; rfl, ?_⟩
      simp only [List.modify_zero_cons, MRs]
      exact ⟨_, _, rfl, h1, hv, h3, h4⟩
    · rename_i hb
      split at h
      · rename_i es2 hes2
        injection h with h; subst h
        obtain ⟨i, hi, hm⟩ := set_born hv hes2 h4
        refine ⟨i + 1, ?_, ?_⟩
        · have hb' : ((e.born : Int) == st) = false := by simpa using hb
          rw [List.findIdx?_cons, h3, hb', hi]; rfl
        · simp only [List.modify_succ_cons, MRs]
          exact ⟨_, _, rfl, h1, h2, h3, hm⟩
      · cases h

theorem entst_big {N : Nat} {H : Heap} (hr : HR N ν σ H w) {t : TypeId} {b : Nat} {es es' : List ME} {clock : Nat} (hb : H.get b = some (.map es clock)) {st : Int} {k : IntKind} {v : AV} (h : setBorn st v es = some es')
    {m' s' v' : Value} (hm : VR ν σ (.map b) m') (hs : VR ν σ (.int k st) s') (hv : VR ν σ v v') :
    ∃ w', (Instr.entryStore t m' s' v').run P w = .ok () w' ∧ HR N ν σ (H.put b (.map es' clock)) w' ∧ Ext H ν w (H.put b (.map es' clock)) ν w' := by
  obtain ⟨c, fs, hν, hc, hms⟩ := hr.rel _ _ hb
  simp only [VR] at hm hs
  obtain ⟨c', hν', rfl⟩ := hm
  rw [hν] at hν'; injection hν' with hν'; injection hν' with e1 _; subst e1
  subst hs
  obtain ⟨i, hi, hm2⟩ := set_born hv h hms
  obtain ⟨h1, h2⟩ := put_obj (o' := .map (fs.modify i fun e => { e with val := v' }) clock) (x' := .map es' clock) hr hb rfl hν hc (fun w' hw' => ⟨c, _, hν, hw', by rw [Array.toList_modify]; exact hm2⟩)
  refine ⟨_, ?_, h1, h2⟩
  have hi' : fs.findIdx? (fun e => (e.born : Int) == st) = some i := by
    rw [← hi]
    exact (List.findIdx?_toArray (p := fun e : MapEntry => (e.born : Int) == st) (l := fs.toList)).symm ▸ rfl
  simp only [Instr.entryStore, Sem.run_bind, Result.andThen_ok, run_getObj_map hc, asInt, asIntOf, Sem.run_pure, hi', run_setObj hc (by simp)]

theorem run_newObj {o : Obj} : (newObj o).run P w = .ok w.heap.size (w.alloc o) := rfl

theorem range_big {N : Nat} {H : Heap} (hr : HR N ν σ H w) (hN : N ≤ w.heap.size) {t : TypeId} {x : AV} {x' : Value} (hx : VR ν σ x x') {v : AV} {H' : Heap}
    (h : (match P.underlying t, x with
     | some (.map _ _), .nilm => some (Out.val (.ptr H.next 0) (H.new (.miter none 0 [] 0)))
     | some (.map _ _), .map b => (match H.get b with | some (.map _ clock) => some (.val (.ptr H.next 0) (H.new (.miter (some b) clock [] clock))) | _ => none)
     | _, _ => none) = some (.val v H')) :
    ∃ u w' ν', (Instr.range t x').run P w = .ok u w' ∧ VR ν' σ v u ∧ HR N ν' σ H' w' ∧ Ext H ν w H' ν' w' := by
  cases hu : P.underlying t with
  | none => simp [hu] at h
  | some d =>
    simp only [hu] at h
    cases d <;> (first | (cases h; done) | skip)
    rename_i kt et
    cases x <;> (first | (cases h; done) | skip)
    case nilm =>
      injection h with h; injection h with e1 e2; subst e1; subst e2
      simp only [VR] at hx; subst hx
      refine ⟨.pointer (some ⟨w.heap.size, 0, none⟩), w.alloc (.mapIter none 0 #[] 0), addPl ν H.next (w.heap.size, Pt.z), ?_, ?_, hr.new hN rfl ?_, Ext.new hr rfl ⟨rfl, rfl, rfl⟩⟩
      · simp only [Instr.range, Sem.run_bind, run_und hu, Result.andThen_ok, Sem.run_pure, run_newObj]
      · simp only [VR]; exact ⟨_, _, addPl_self, rfl⟩
      · exact ⟨w.heap.size, none, addPl_self, heap_alloc_new w _, rfl⟩
    case map b =>
      simp only at h
      split at h
      · rename_i es clock hb
        injection h with h; injection h with e1 e2; subst e1; subst e2
        obtain ⟨c, fs, hν, hc, hms⟩ := hr.rel _ _ hb
        simp only [VR] at hx
        obtain ⟨c', hν', rfl⟩ := hx
        rw [hν] at hν'; injection hν' with hν'; injection hν' with e1 _; subst e1
        refine ⟨.pointer (some ⟨w.heap.size, 0, none⟩), w.alloc (.mapIter (some c) clock #[] clock), addPl ν H.next (w.heap.size, Pt.z), ?_, ?_, hr.new hN rfl ?_, Ext.new hr rfl ⟨rfl, rfl, rfl⟩⟩
        · simp only [Instr.range, Sem.run_bind, run_und hu, Result.andThen_ok, Sem.run_pure, run_getObj_map hc, run_newObj]
        · simp only [VR]; exact ⟨_, _, addPl_self, rfl⟩
        · exact ⟨w.heap.size, some c, addPl_self, heap_alloc_new w _, c, addPl_le (hr.fresh _ (Nat.le_refl _)) _ _ hν, rfl⟩
      · cases h

theorem MRs.filter {p : ME → Bool} {q : MapEntry → Bool} (hpq : ∀ e x, x.born = e.born → q x = p e) : ∀ {es : List ME} {fs : List MapEntry}, MRs ν σ es fs → MRs ν σ (es.filter p) (fs.filter q)
  | [], _, h => by simp only [MRs] at h; subst h; simp [MRs]
  | e :: es, _, h => by
    obtain ⟨x, gs, rfl, h1, h2, h3, h4⟩ := h
    rw [List.filter_cons, List.filter_cons, hpq e x h3]
    split
    · exact ⟨x, _, rfl, h1, h2, h3, h4.filter hpq⟩
    · exact h4.filter hpq
theorem MRs.all {p : ME → Bool} {q : MapEntry → Bool} (hpq : ∀ e x, x.born = e.born → q x = p e) : ∀ {es : List ME} {fs : List MapEntry}, MRs ν σ es fs → fs.all q = es.all p
  | [], _, h => by simp only [MRs] at h; subst h; rfl
  | e :: es, _, h => by
    obtain ⟨x, gs, rfl, h1, h2, h3, h4⟩ := h
    rw [List.all_cons, List.all_cons, hpq e x h3, h4.all hpq]
end Go.Proofs.YtblpmmociahklaaGreatDoor.Sx
