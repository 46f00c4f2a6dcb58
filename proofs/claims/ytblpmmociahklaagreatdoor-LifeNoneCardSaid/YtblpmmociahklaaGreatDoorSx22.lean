/- Code. -/
import Derived.Test.YtblpmmociahklaaGreatDoorSx21
namespace Go.Proofs.YtblpmmociahklaaGreatDoor.Sx
open Go

variable {P : Program} {ν : Pl} {σ : Nat → Value} {w : World}

def exOf : AEx → Exit
  | .nrm => .normal
  | .exit id => .exit id
  | .goto l => .goto l
  | .ret => .ret

def RndOk (ν : Pl) (rnd r : Option Nat) : Prop :=
  match rnd with
  | none => r = none
  | some b => ∃ c, ν b = some (c, Pt.z) ∧ r = some c

theorem RndOk.mono {ν' : Pl} (hle : PlLe ν ν') {rnd r : Option Nat} (h : RndOk ν rnd r) : RndOk ν' rnd r := by
  cases rnd with
  | none => exact h
  | some b => obtain ⟨c, h1, h2⟩ := h; exact ⟨c, hle _ _ h1, h2⟩

theorem run_getLoop {c : Nat} {lp : Loop} (h : w.heap[c]? = some (.loop lp)) : (Instr.getLoop c).run P w = .ok lp w := by
  simp only [Instr.getLoop, Sem.run_bind, run_getObj h (by simp), Result.andThen_ok, Sem.run_pure]

theorem DRs.append : ∀ {xs : List ADf} {ds : List Deferred} {ys : List ADf} {es : List Deferred}, DRs ν σ xs ds → DRs ν σ ys es → DRs ν σ (xs ++ ys) (ds ++ es)
  | [], _, _, _, h, k => by simp only [DRs] at h; subst h; exact k
  | _ :: _, _, _, es, ⟨d, ds', e, h1, h2⟩, k => ⟨d, ds' ++ es, by rw [e]; rfl, h1, h2.append k⟩

/-- What walked functions are entered by. -/
def Enters (P : Program) : Prop := ∀ f vs w, bodied P f = true → (callFunc f vs).run P w = .ok (.enter f vs) w

section code
variable {r : Option Nat} {n : Nat} {call : CallF} {N : Nat} {rnd : Option Nat} {L : Nat}

set_option maxHeartbeats 1000000 in
theorem range_wp (hcall : CallOk P N σ call) (hen : Enters P) {f : Operand} {ps : Array Tmp} {assign body : Code} {s s' : St} {e : AEx} (h : codeF P call L rnd (.rangeFunc f ps assign body) s = some (e, s')) {a : Act} (hs : SR N ν σ s a w)
    (hd : dOk a.tmps.size (.rangeFunc f ps assign body) = true) (hrnd : RndOk ν rnd r) {Q : Exit → Act → World → Prop}
    (k : ∀ ν' a' w', SR N ν' σ s' a' w' → a'.tmps.size = a.tmps.size → Ext s.H ν w s'.H ν' w' → Q (exOf e) a' w') : (Code.rangeFunc f ps assign body).wpIn (FR r) n P Q a w := by
  simp only [dOk, Bool.and_eq_true] at hd
  obtain ⟨⟨hd1, hd2⟩, hd3⟩ := hd
  simp only [codeF] at h
  split at h
  rotate_left
  · cases h
  rename_i g first cap hf
  split at h
  · cases h
  rename_i hbod
  have hbod : bodied P g = true := by simpa using hbod
  split at h
  · cases h
  rename_i d H1 mark hpre
  split at h
  · cases h
  rename_i v2 H2 hc
  -- the block of the rounds' calls
  obtain ⟨ν1, w1, mk1, D, g1, g2, g3, g4, g5, g6⟩ : ∃ (ν1 : Pl) (w1 : World) (mk1 : List Deferred) (D : Nat), HR N ν1 σ H1 w1 ∧ Ext s.H ν w H1 ν1 w1 ∧ ν1 d = some (D, Pt.z) ∧ DRs ν1 σ mark mk1 ∧ N ≤ w1.heap.size ∧
      (∀ fn, (Instr.enterLoop fn a.tmps ps assign body r).run P w = .ok (w1.heap.size, mk1) (w1.alloc (.loop { state := .ready, pending := none, fn := fn, tmps := a.tmps, params := ps, assign := assign, body := body, defers := D }))) := by
    cases rnd with
    | none =>
      simp only [Option.some.injEq, Prod.mk.injEq] at hpre
      obtain ⟨rfl, rfl, rfl⟩ := hpre
      have hr0 : r = none := hrnd
      subst hr0
      refine ⟨addPl ν s.H.next (w.heap.size, Pt.z), w.alloc (.deferred (some [])), [{ target := .collected w.heap.size, args := #[] }], w.heap.size, hs.hr.new hs.hN rfl ⟨w.heap.size, addPl_self, heap_alloc_new w _⟩, Ext.new hs.hr rfl ⟨rfl, rfl, rfl⟩, addPl_self,
        ⟨_, [], rfl, ⟨w.heap.size, addPl_self, rfl⟩, rfl⟩, Nat.le_trans hs.hN (by simp), fun fn => ?_⟩
      simp only [Instr.enterLoop, Sem.run_bind, run_newObj, Result.andThen_ok, Sem.run_pure]
    | some l =>
      obtain ⟨c, hν, hr0⟩ := hrnd
      subst hr0
      simp only at hpre
      split at hpre
      rotate_left
      · cases hpre
      rename_i st pd tm' ps' as' bo' d' hb
      simp only [Option.some.injEq, Prod.mk.injEq] at hpre
      obtain ⟨rfl, rfl, rfl⟩ := hpre
      obtain ⟨c', D, f', tmps, hν', hνd, hheap, _⟩ := hs.hr.rel _ _ hb
      rw [hν] at hν'; injection hν' with hν'; injection hν' with e1 _; subst e1
      refine ⟨ν, w, [], D, hs.hr, Ext.refl _ _ _, hνd, rfl, hs.hN, fun fn => ?_⟩
      simp only [Instr.enterLoop, Sem.run_bind, run_getLoop hheap, run_newObj, Result.andThen_ok, Sem.run_pure]
  refine wpIn_rangeFunc fun fn _ => ?_
  have hfr := opd_rel hs.tm hf
  simp only [VR] at hfr
  obtain ⟨_, xs', ys', hx1, hy1, hfe⟩ := hfr
  -- the loop's record
  let lp : Loop := { state := .ready, pending := none, fn := fn, tmps := a.tmps, params := ps, assign := assign, body := body, defers := D }
  let ν2 := addPl ν1 H1.next (w1.heap.size, Pt.z)
  let o2 : AO := .loop .ready none s.tm ps.toList assign body d
  have hle2 : PlLe ν1 ν2 := addPl_le (g1.fresh _ (Nat.le_refl _))
  have h2 : HR N ν2 σ (H1.new o2) (w1.alloc (.loop lp)) := g1.new g5 rfl (by
    refine ⟨w1.heap.size, D, fn, a.tmps, addPl_self, hle2 _ _ g3, ?_, fun t => VR.mono (g2.le.trans hle2) _ _ (hs.tm t), hd1, hd2, hd3⟩
    rw [heap_alloc_new])
  have e2 : Ext H1 ν1 w1 (H1.new o2) ν2 (w1.alloc (.loop lp)) := Ext.new g1 rfl ⟨rfl, rfl, rfl⟩
  have hargs : VRs ν2 σ (first ++ [.yld H1.next] ++ cap) (xs' ++ [Value.func (.yield w1.heap.size) #[] #[]] ++ ys') := by
    refine ((hx1.mono (g2.le.trans hle2)).append (VRs.one ?_)).append (hy1.mono (g2.le.trans hle2))
    simp only [VR]
    exact ⟨w1.heap.size, addPl_self, rfl⟩
  have hN2 : N ≤ (w1.alloc (.loop lp)).heap.size := Nat.le_trans g5 (by simp)
  have hfn := hcall.fn _ _ _ _ _ hc ν2 (w1.alloc (.loop lp)) _ (n - 1) hargs h2 hN2
  have hent := hen g (xs' ++ [Value.func (.yield w1.heap.size) #[] #[]] ++ ys').toArray (w1.alloc (.loop lp)) hbod
  have hcalls : CallsIn Fence.wide (n - 1) P g (xs' ++ [Value.func (.yield w1.heap.size) #[] #[]] ++ ys').toArray (w1.alloc (.loop lp)) (RetOk N σ (H1.new o2) ν2 (w1.alloc (.loop lp)) v2 H2) := by
    rcases hfn with ⟨x, w', ν', k1, _⟩ | ⟨_, k2⟩
    · rw [hent] at k1; cases k1
    · exact k2
  refine ⟨w1.heap.size, mk1, w1.alloc (.loop lp), { target := .fn (.func g) ys'.toArray, args := xs'.toArray ++ #[Value.func (.yield w1.heap.size) #[] #[]] }, w1.alloc (.loop lp), g, (xs' ++ [Value.func (.yield w1.heap.size) #[] #[]] ++ ys').toArray, w1.alloc (.loop lp), g6 fn, ?_, fun _ _ => trivial, ?_, fun h => (by cases h), CallsIn.mono (callsIn_FR hcalls) ?_⟩
  · have : a.eval f = .func (.func g) xs'.toArray ys'.toArray := hfe
    simp only [resolve, this, Deferred.ofValue, Sem.run_pure]
    simp [Act.eval]
  · simp only [invoke]
    rw [← hent]
    congr 2
    simp
  · rintro en w3 ⟨x, ν3, rfl, _, h3, e3⟩
    split at h
    rotate_left
    · cases h
    rename_i st pend tm3 ps3 as3 bo3 d3 hb3
    have hnb : st ≠ .busy := by
      intro e; subst e; simp at h
    obtain ⟨c3, D3, f3, tmps3, j1, j2, j3, j4, j5, j6, j7⟩ := h3.rel _ _ hb3
    have hc3 : c3 = w1.heap.size := by
      have := e3.le _ _ (addPl_self (ν := ν1) (b := H1.next) (x := (w1.heap.size, Pt.z)))
      rw [this] at j1; injection j1 with j1; injection j1 with j1 _; exact j1.symm
    subst hc3
    obtain ⟨p1, p2⟩ := put_obj (x' := .loop .exhausted pend tm3 ps3 as3 bo3 d3) (o' := .loop { state := .exhausted, pending := pend, fn := f3, tmps := tmps3, params := ps3.toArray, assign := as3, body := bo3, defers := D3 }) h3 hb3 rfl j1 j3 (fun w' hw' =>
      ⟨w1.heap.size, D3, f3, tmps3, j1, j2, hw', j4, j5, j6, j7⟩)
    have hend : (Instr.endLoop w1.heap.size).run P w3 = .ok pend { w3 with heap := w3.heap.setIfInBounds w1.heap.size (.loop { state := .exhausted, pending := pend, fn := f3, tmps := tmps3, params := ps3.toArray, assign := as3, body := bo3, defers := D3 }) } := by
      have hst : (st == LoopState.busy) = false := by cases st <;> first | rfl | exact (hnb rfl).elim
      simp only [Instr.endLoop, Sem.run_bind, run_getLoop j3, Result.andThen_ok, hst, Bool.false_eq_true, if_false, run_setObj j3 (by simp), Sem.run_pure]
    have hext : Ext s.H ν w (H2.put H1.next (.loop .exhausted pend tm3 ps3 as3 bo3 d3)) ν3 _ := (g2.trans (e2.trans e3)).trans p2
    have hSR : SR N ν3 σ { tm := s.tm, df := mark ++ s.df, H := H2.put H1.next (.loop .exhausted pend tm3 ps3 as3 bo3 d3) } { a with defers := mk1 ++ a.defers } { w3 with heap := w3.heap.setIfInBounds w1.heap.size (.loop { state := .exhausted, pending := pend, fn := f3, tmps := tmps3, params := ps3.toArray, assign := as3, body := bo3, defers := D3 }) } := by
      refine ⟨hs.tm.mono hext.le, ?_, p1, Nat.le_trans hs.hN hext.size⟩
      exact (g4.mono (hle2.trans e3.le)).append (hs.df.mono hext.le)
    have hmain : ∀ ex, exOf e = ex → some (e, ({ s with df := mark ++ s.df, H := H2.put H1.next (.loop .exhausted pend tm3 ps3 as3 bo3 d3) } : St)) = some (e, s') → Q ex { a with defers := mk1 ++ a.defers } { w3 with heap := w3.heap.setIfInBounds w1.heap.size (.loop { state := .exhausted, pending := pend, fn := f3, tmps := tmps3, params := ps3.toArray, assign := as3, body := bo3, defers := D3 }) } := by
      intro ex hex hss
      injection hss with hss; injection hss with _ hss
      subst hss; subst hex
      exact k ν3 _ _ hSR rfl hext
    refine ⟨pend, _, hend, ?_⟩
    have h' : (match (generalizing := false) pend with
        | none => some (AEx.nrm, ({ s with df := mark ++ s.df, H := H2.put H1.next (.loop .exhausted pend tm3 ps3 as3 bo3 d3) } : St))
        | some .ret => some (.ret, { s with df := mark ++ s.df, H := H2.put H1.next (.loop .exhausted pend tm3 ps3 as3 bo3 d3) })
        | some (.exit id) => some (.exit id, { s with df := mark ++ s.df, H := H2.put H1.next (.loop .exhausted pend tm3 ps3 as3 bo3 d3) })
        | some _ => none) = some (e, s') := by
      cases st
      · exact h
      · exact (hnb rfl).elim
      · exact h
      · exact h
    cases pend with
    | none =>
      simp only at h' ⊢
      have he : e = .nrm := by injection h' with h'; injection h' with h' _; exact h'.symm
      subst he
      exact hmain _ rfl h'
    | some jc =>
      cases jc <;> (first | (cases h'; done) | skip)
      case exit id =>
        simp only at h' ⊢
        have he : e = .exit id := by injection h' with h'; injection h' with h' _; exact h'.symm
        subst he
        exact wpIn_exit (hmain _ rfl h')
      case ret =>
        simp only at h' ⊢
        have he : e = .ret := by injection h' with h'; injection h' with h' _; exact h'.symm
        subst he
        exact wpIn_ret (hmain _ rfl h')

theorem then_not {e : AEx} (he : e ≠ .nrm) {K : Act → World → Prop} {Q : Exit → Act → World → Prop} {a : Act} {w : World} (h : Q (exOf e) a w) : Exit.then K Q (exOf e) a w := by
  cases e <;> first | exact absurd rfl he | exact h

open Classical in
theorem least_mono {J : Nat → Prop} (h : ∃ m, J m) : ∃ m, J m ∧ ∀ k, J k → m ≤ k := by
  obtain ⟨m, hm⟩ := h
  induction m using Nat.strongRecOn with
  | _ m ih =>
    by_cases hk : ∃ k, k < m ∧ J k
    · obtain ⟨k, h1, h2⟩ := hk
      exact ih k h1 h2
    · refine ⟨m, hm, fun k hk' => ?_⟩
      rcases Nat.lt_or_ge k m with h | h
      · exact absurd ⟨k, h, hk'⟩ hk
      · exact h

open Classical in
theorem loop_wp {c : Code} {e : AEx} {s' : St} {sz : Nat} {s0 : St} {ν0 : Pl} {w0 : World} {Q : Exit → Act → World → Prop}
    (ih : ∀ (s : St) (e : AEx) (s' : St), codeF P call L rnd c s = some (e, s') → ∀ (ν : Pl) (a : Act) (w : World), SR N ν σ s a w → a.tmps.size = sz → Ext s0.H ν0 w0 s.H ν w → ∀ Q : Exit → Act → World → Prop,
      (∀ ν' a' w', SR N ν' σ s' a' w' → a'.tmps.size = sz → Ext s.H ν w s'.H ν' w' → Q (exOf e) a' w') → c.wpIn (FR r) n P Q a w)
    (k : ∀ ν' a' w', SR N ν' σ s' a' w' → a'.tmps.size = sz → Ext s0.H ν0 w0 s'.H ν' w' → Q (exOf e) a' w') {m0 : Nat} {a : Act} {s : St} (h0 : loopF (codeF P call L rnd c) m0 s = some (e, s')) (hs : SR N ν σ s a w) (hsz : a.tmps.size = sz) (he : Ext s0.H ν0 w0 s.H ν w) :
    (Code.loop c).wpIn (FR r) n P Q a w := by
  let J : Act → World → Nat → Prop := fun a w m => ∃ (ν : Pl) (s : St), loopF (codeF P call L rnd c) m s = some (e, s') ∧ SR N ν σ s a w ∧ a.tmps.size = sz ∧ Ext s0.H ν0 w0 s.H ν w
  let μ : Act → World → Nat := fun a w => if h : ∃ m, J a w m then Classical.choose (least_mono h) else 0
  have hμ : ∀ a w, (∃ m, J a w m) → J a w (μ a w) ∧ ∀ k, J a w k → μ a w ≤ k := by
    intro a w h
    have : μ a w = Classical.choose (least_mono h) := by simp only [μ]; rw [dif_pos h]
    rw [this]
    exact Classical.choose_spec (least_mono h)
  refine wpIn_loop (fun a w => ∃ m, J a w m) μ ⟨m0, ν, s, h0, hs, hsz, he⟩ ?_
  intro a1 w1 hI
  obtain ⟨⟨ν1, s1, h1, hs1, hz1, he1⟩, hmin⟩ := hμ a1 w1 hI
  generalize hm : μ a1 w1 = m at *
  cases m with
  | zero => simp [loopF] at h1
  | succ m =>
    simp only [loopF] at h1
    cases hc : codeF P call L rnd c s1 with
    | none => rw [hc] at h1; simp at h1
    | some r1 =>
      obtain ⟨e1, s2⟩ := r1
      rw [hc] at h1
      by_cases hn : e1 = .nrm
      · subst hn
        simp only at h1
        refine ih s1 _ s2 hc ν1 a1 w1 hs1 hz1 he1 _ (fun ν2 a2 w2 hs2 hz2 he2 => ?_)
        have hJ : J a2 w2 m := ⟨ν2, s2, h1, hs2, hz2, he1.trans he2⟩
        refine ⟨⟨m, hJ⟩, ?_⟩
        have := (hμ a2 w2 ⟨m, hJ⟩).2 m hJ
        omega
      · have : some (e1, s2) = some (e, s') := by cases e1 <;> first | exact absurd rfl hn | exact h1
        injection this with this; injection this with t1 t2; subst t1; subst t2
        exact ih s1 _ _ hc ν1 a1 w1 hs1 hz1 he1 _ (fun ν2 a2 w2 hs2 hz2 he2 => then_not hn (k ν2 a2 w2 hs2 hz2 (he1.trans he2)))

set_option maxHeartbeats 1000000 in
theorem code_wp (hσ : ∀ i, (σ i).oneCell' = true) (hcall : CallOk P N σ call) (hmix : P.follows .mixedOrders = true) (hen : Enters P) : ∀ (c : Code) (s : St) (e : AEx) (s' : St), codeF P call L rnd c s = some (e, s') →
    ∀ (ν : Pl) (a : Act) (w : World), SR N ν σ s a w → dOk a.tmps.size c = true → RndOk ν rnd r → ∀ Q : Exit → Act → World → Prop,
      (∀ ν' a' w', SR N ν' σ s' a' w' → a'.tmps.size = a.tmps.size → Ext s.H ν w s'.H ν' w' → Q (exOf e) a' w') → c.wpIn (FR r) n P Q a w := by
  intro c
  induction c with
  | skip =>
    intro s e s' h ν a w hs _ _ Q k
    simp only [codeF] at h
    injection h with h; injection h with h1 h2; subst h1; subst h2
    exact wpIn_skip (k ν a w hs rfl (Ext.refl _ _ _))
  | label l =>
    intro s e s' h ν a w hs _ _ Q k
    simp only [codeF] at h
    injection h with h; injection h with h1 h2; subst h1; subst h2
    exact wpIn_label (k ν a w hs rfl (Ext.refl _ _ _))
  | exit id =>
    intro s e s' h ν a w hs _ _ Q k
    simp only [codeF] at h
    injection h with h; injection h with h1 h2; subst h1; subst h2
    exact wpIn_exit (k ν a w hs rfl (Ext.refl _ _ _))
  | goto l =>
    intro s e s' h ν a w hs _ _ Q k
    simp only [codeF] at h
    injection h with h; injection h with h1 h2; subst h1; subst h2
    exact wpIn_goto (k ν a w hs rfl (Ext.refl _ _ _))
  | ret =>
    intro s e s' h ν a w hs _ _ Q k
    simp only [codeF] at h
    injection h with h; injection h with h1 h2; subst h1; subst h2
    exact wpIn_ret (k ν a w hs rfl (Ext.refl _ _ _))
  | scope c ih =>
    intro s e s' h
    simp [codeF] at h
  | refuse what =>
    intro s e s' h
    simp [codeF] at h
  | region id ops draw =>
    intro s e s' h ν a w hs hd hrnd Q k
    simp only [codeF] at h
    split at h
    · cases h
    rename_i hdef
    split at h
    · rename_i s1 h1
      injection h with h; injection h with e1 e2; subst e1; subst e2
      refine region_wp hσ hcall hmix h1 hs (fun i o ho d hdst => ?_) (fun hr i o ho c hc => ?_) (fun ν' a' w' h2 h3 h4 => k ν' a' w' h2 h3 h4)
      · simp only [dOk, List.all_eq_true] at hd
        have := hd o (by rw [Array.mem_toList_iff]; exact Array.mem_of_getElem? ho)
        rw [hdst] at this
        simpa using this
      · apply hdef
        have hsome : rnd.isSome = true := by
          cases rnd with
          | none => exact absurd hrnd hr
          | some b => rfl
        rw [hsome, Bool.true_and, List.any_eq_true]
        exact ⟨o, by rw [Array.mem_toList_iff]; exact Array.mem_of_getElem? ho, by rw [hc]; rfl⟩
    · cases h
  | seq x y ihx ihy =>
    intro s e s' h ν a w hs hd hrnd Q k
    simp only [dOk, Bool.and_eq_true] at hd
    simp only [codeF] at h
    cases hx : codeF P call L rnd x s with
    | none => rw [hx] at h; simp at h
    | some r1 =>
      obtain ⟨e1, s1⟩ := r1
      rw [hx] at h
      refine wpIn_seq (ihx s e1 s1 hx ν a w hs hd.1 hrnd _ (fun ν1 a1 w1 hs1 hz1 he1 => ?_))
      by_cases hn : e1 = .nrm
      · subst hn
        simp only at h
        exact ihy s1 e s' h ν1 a1 w1 hs1 (by rw [hz1]; exact hd.2) (hrnd.mono he1.le) Q (fun ν2 a2 w2 hs2 hz2 he2 => k ν2 a2 w2 hs2 (hz2.trans hz1) (he1.trans he2))
      · have : some (e1, s1) = some (e, s') := by cases e1 <;> first | exact absurd rfl hn | exact h
        injection this with this; injection this with t1 t2; subst t1; subst t2
        exact then_not hn (k ν1 a1 w1 hs1 hz1 he1)
  | cond c x y ihx ihy =>
    intro s e s' h ν a w hs hd hrnd Q k
    simp only [dOk, Bool.and_eq_true] at hd
    simp only [codeF] at h
    split at h
    · rename_i hc
      have hcv := opd_rel hs.tm hc
      simp only [VR] at hcv
      exact wpIn_cond_true hcv (ihx s e s' h ν a w hs hd.1 hrnd Q k)
    · rename_i hc
      have hcv := opd_rel hs.tm hc
      simp only [VR] at hcv
      exact wpIn_cond_false hcv (ihy s e s' h ν a w hs hd.2 hrnd Q k)
    · cases h
  | block id c ih =>
    intro s e s' h ν a w hs hd hrnd Q k
    simp only [dOk] at hd
    simp only [codeF] at h
    cases hx : codeF P call L rnd c s with
    | none => rw [hx] at h; simp at h
    | some r1 =>
      obtain ⟨e1, s1⟩ := r1
      rw [hx] at h
      refine wpIn_block (ih s e1 s1 hx ν a w hs hd hrnd _ (fun ν1 a1 w1 hs1 hz1 he1 => ?_))
      cases e1 with
      | exit id' =>
        simp only at h
        simp only [exOf, Exit.inBlock]
        split at h
        · rename_i he
          injection h with h; injection h with t1 t2; subst t1; subst t2
          rw [if_pos he]
          exact k ν1 a1 w1 hs1 hz1 he1
        · rename_i he
          injection h with h; injection h with t1 t2; subst t1; subst t2
          rw [if_neg he]
          exact k ν1 a1 w1 hs1 hz1 he1
      | nrm =>
        simp only at h
        injection h with h; injection h with t1 t2; subst t1; subst t2
        exact k ν1 a1 w1 hs1 hz1 he1
      | goto l =>
        simp only at h
        injection h with h; injection h with t1 t2; subst t1; subst t2
        exact k ν1 a1 w1 hs1 hz1 he1
      | ret =>
        simp only at h
        injection h with h; injection h with t1 t2; subst t1; subst t2
        exact k ν1 a1 w1 hs1 hz1 he1
  | loop c ih =>
    intro s e s' h ν a w hs hd hrnd Q k
    simp only [dOk] at hd
    simp only [codeF] at h
    refine loop_wp (s0 := s) (ν0 := ν) (w0 := w) (sz := a.tmps.size) (fun s1 e1 s1' h1 ν1 a1 w1 hs1 hz1 hext Q1 k1 => ?_) (fun ν' a' w' h1 h2 h3 => k ν' a' w' h1 h2 h3) h hs rfl (Ext.refl _ _ _)
    exact ih s1 e1 s1' h1 ν1 a1 w1 hs1 (by rw [hz1]; exact hd) (hrnd.mono hext.le) Q1 (fun ν' a' w' q1 q2 q3 => k1 ν' a' w' q1 (q2.trans hz1) q3)
  | rangeFunc f ps assign body _ _ =>
    intro s e s' h ν a w hs hd hrnd Q k
    exact range_wp hcall hen h hs hd hrnd k
end code
end Go.Proofs.YtblpmmociahklaaGreatDoor.Sx
