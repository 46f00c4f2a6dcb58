/- A statement whose order is fixed. -/
import Derived.Test.YtblpmmociahklaaGreatDoorSx16
namespace Go.Proofs.YtblpmmociahklaaGreatDoor.Sx
open Go

variable {P : Program} {ν : Pl} {σ : Nat → Value} {w : World}

theorem SR.step {N : Nat} {s : St} {a : Act} (h : SR N ν σ s a w) {dst : Option Tmp} (hd : ∀ d, dst = some d → d < a.tmps.size) {v : AV} {x : Value} {ν' : Pl} {w' : World} {H' : Heap} (hv : VR ν' σ v x) (hr : HR N ν' σ H' w') (he : Ext s.H ν w H' ν' w') :
    SR N ν' σ { tm := putT s.tm dst v, df := s.df, H := H' } (a.put dst x) w' :=
  ⟨(h.tm.mono he.le).put hd hv, by rw [put_defers]; exact h.df.mono he.le, hr, Nat.le_trans h.hN he.size⟩

theorem new_step {N : Nat} {H : Heap} (hr : HR N ν σ H w) (hN : N ≤ w.heap.size) {na : NewA} {x : Value} {obj : Obj} (h : NewOk ν σ w na x obj) :
    ∃ ν', VR ν' σ (na.val H.next) x ∧ HR N ν' σ (H.new na.obj) (w.alloc obj) ∧ Ext H ν w (H.new na.obj) ν' (w.alloc obj) := by
  have hle : PlLe ν (addPl ν H.next (w.heap.size, ptOf obj)) := addPl_le (hr.fresh _ (Nat.le_refl _))
  obtain ⟨h1, h2⟩ := h _ H.next hle addPl_self
  exact ⟨_, h1, hr.new hN rfl (h2 _ (heap_alloc_new w _)), Ext.new hr rfl ⟨rfl, rfl, rfl⟩⟩

section ops
variable {r : Option Nat} {n : Nat} {Q : Exit → Act → World → Prop}

theorem op_wp (hσ : ∀ i, (σ i).oneCell' = true) {call : CallF} {N : Nat} (hcall : CallOk P N σ call) {o : Oper} {s s' : St} (h : opF P call o s = some s') {a : Act} {K : Act → World → Prop} (hs : SR N ν σ s a w)
    (hd : ∀ d, o.dst = some d → d < a.tmps.size) (hdf : r ≠ none → ∀ c, o.op ≠ .defer c)
    (k : ∀ ν' a' w', SR N ν' σ s' a' w' → a'.tmps.size = a.tmps.size → Ext s.H ν w s'.H ν' w' → K a' w') : o.wpIn (FR r) n P a w K Q := by
  unfold opF at h
  split at h
  · cases h
  · rename_i xs hxs
    have hx : VRs ν σ xs ((opnds o.op).map a.eval) := opds_rel (fun t _ => hs.tm t) hxs
    split at h
    · rename_i hc
      split at h
      · rename_i v hv
        injection h with h; subst h
        exact pure_wp hσ hc hv hx (fun x hxv => k ν _ w (hs.step hd hxv hs.hr (Ext.refl _ _ _)) put_size (Ext.refl _ _ _))
      · cases h
    · rename_i hc
      split at h
      · rename_i v hv
        injection h with h; subst h
        exact read_wp hs.hr hc hv hx (fun x hxv => k ν _ w (hs.step hd hxv hs.hr (Ext.refl _ _ _)) put_size (Ext.refl _ _ _))
      · cases h
    · rename_i hc
      split at h
      · rename_i na hna
        injection h with h; subst h
        refine alloc_wp hσ hc hna hx (fun x obj hok => ?_)
        obtain ⟨ν', h1, h2, h3⟩ := new_step hs.hr hs.hN hok
        exact k ν' _ _ (hs.step hd h1 h2 h3) put_size h3
      · cases h
    · rename_i hc
      split at h
      · rename_i out hout
        refine big_wp hσ hcall hs.hr hs.hN hout h hx hdf ?_ ?_
        · intro v x ν' w' htm hv hr he hdf'
          have := hs.step hd hv hr he
          rw [← htm, ← hdf'] at this
          exact k ν' _ w' this put_size he
        · intro d D hdf' hH htm hD
          refine k ν _ w ⟨?_, ?_, by rw [hH]; exact hs.hr, hs.hN⟩ put_size (by rw [hH]; exact Ext.refl _ _ _)
          · rw [htm]
            exact TmR.put (a := { a with defers := D :: a.defers }) hs.tm hd undef_rel
          · rw [hdf', put_defers]
            exact ⟨D, a.defers, rfl, hD, hs.df⟩
      · cases h

theorem seq_wp (hσ : ∀ i, (σ i).oneCell' = true) {call : CallF} {N : Nat} (hcall : CallOk P N σ call) {ops : Array Oper} {sz : Nat} (hdst : ∀ (i : Nat) o, ops[i]? = some o → ∀ d, o.dst = some d → d < sz) (hdf : r ≠ none → ∀ (i : Nat) o, ops[i]? = some o → ∀ c, o.op ≠ .defer c) :
    ∀ (rest : List Oper) (i : Nat), ops.toList.drop i = rest → ∀ (s s' : St), seqF P call ops.toList rest s = some s' → ∀ (ν : Pl) (a : Act) (w : World), SR N ν σ s a w → a.tmps.size = sz →
      (∀ ν' a' w', SR N ν' σ s' a' w' → a'.tmps.size = sz → Ext s.H ν w s'.H ν' w' → Q .normal a' w') → wpOpsIn (FR r) n P ops Q (List.range' i rest.length) a w
  | [], i, _, s, s', h, ν, a, w, hs, hsz, k => by
    injection h with h; subst h
    exact k ν a w hs hsz (Ext.refl _ _ _)
  | o :: rest, i, hi, s, s', h, ν, a, w, hs, hsz, k => by
    have ho : ops[i]? = some o := by
      have : ops.toList[i]? = some o := by
        have := congrArg (·[0]?) hi
        simpa using this
      simpa using this
    have hrest : ops.toList.drop (i + 1) = rest := by
      rw [← List.tail_drop, hi]; rfl
    simp only [seqF] at h
    rw [List.length_cons, List.range'_succ]
    have hwant : ∀ b, wantF ops.toList s.tm o.guard = some b → Region.wanted o (yielded ops a.tmps) = b := fun b hb => want_rel hb (fun j w oj d _ _ _ => hs.tm d)
    simp only [wpOpsIn, ho]
    split at h
    · rename_i hw
      rw [hwant _ hw]
      simp only [if_true]
      split at h
      · rename_i s1 h1
        refine op_wp hσ hcall h1 hs (fun d hd => by rw [hsz]; exact hdst i o ho d hd) (fun hr => hdf hr i o ho) ?_
        intro ν1 a1 w1 hs1 hz1 he1
        exact seq_wp hσ hcall hdst hdf rest (i + 1) hrest s1 s' h ν1 a1 w1 hs1 (hz1.trans hsz) (fun ν' a' w' hs' hz' he' => k ν' a' w' hs' hz' (he1.trans he'))
      · cases h
    · rename_i hw
      rw [hwant _ hw]
      simp only [Bool.false_eq_true, if_false]
      refine ⟨fun _ _ => trivial, ?_⟩
      have hs1 : SR N ν σ { tm := putT s.tm o.dst undefA, df := s.df, H := s.H } (a.put o.dst undef) w := hs.step (fun d hd => by rw [hsz]; exact hdst i o ho d hd) undef_rel hs.hr (Ext.refl _ _ _)
      exact seq_wp hσ hcall hdst hdf rest (i + 1) hrest _ s' h ν _ w hs1 (put_size.trans hsz) (fun ν' a' w' hs' hz' he' => k ν' a' w' hs' hz' he')
    · cases h
end ops
end Go.Proofs.YtblpmmociahklaaGreatDoor.Sx
