/- The evaluator is sound. -/
import Derived.Test.YtblpmmociahklaaGreatDoorSx23
namespace Go.Proofs.YtblpmmociahklaaGreatDoor.Sx
open Go

variable {P : Program} {ν : Pl} {σ : Nat → Value} {w : World}

/-- What deferred calls come to. -/
def DnOk (P : Program) (N : Nat) (σ : Nat → Value) (call : CallF) : Prop :=
  ∀ f args H v H', call .dn f args H = some (v, H') → bodied P f = true → ∀ ν w vs n, VRs ν σ args vs → HR N ν σ H w → N ≤ w.heap.size →
    CallsDIn Fence.wide n P f vs.toArray .returning w (fun e u' w' => u' = .returning ∧ RetOk N σ H ν w v H' e w')

section fns
variable {call : CallF} {N : Nat} {L : Nat}

theorem leave_ok (hen : Enters P) (hdn : DnOk P N σ call) {n : Nat} {fn : Func} {tmps : Array Value} {R : Ending → World → Prop} : ∀ (ds : List ADf) (H H' : Heap), leaveF P call ds H = some H' → ∀ (ν : Pl) (w : World) (Ds : List Deferred), DRs ν σ ds Ds → HR N ν σ H w → N ≤ w.heap.size →
    (∀ ν' w', HR N ν' σ H' w' → N ≤ w'.heap.size → Ext H ν w H' ν' w' → ∃ v, (results fn tmps).run P w' = .ok v w' ∧ R (.returned v) w') → LeavesInM Fence.wide n P fn tmps R Ds .returning w
  | [], H, H', h, ν, w, Ds, hds, hr, hN, k => by
    simp only [DRs] at hds; subst hds
    injection h with h; subst h
    exact k ν w hr hN (Ext.refl _ _ _)
  | .mark b :: ds, H, H', h, ν, w, Ds, hds, hr, hN, k => by
    obtain ⟨d, ds', rfl, ⟨c, hν, rfl⟩, hds'⟩ := hds
    simp only [leaveF] at h
    split at h
    rotate_left
    · cases h
    rename_i hb
    obtain ⟨c', hν', hc⟩ := hr.rel _ _ hb
    rw [hν] at hν'; injection hν' with hν'; injection hν' with e1 _; subst e1
    obtain ⟨p1, p2⟩ := put_obj (x' := .dead) (o' := .deferred none) hr hb rfl hν hc (fun _ _ => trivial)
    refine ⟨by simp, .inl ⟨c, { w with heap := w.heap.setIfInBounds c (.deferred none) }, rfl, ?_, ?_⟩⟩
    · simp only [Instr.takeDeferred, Sem.run_bind, run_getObj hc (by simp), Result.andThen_ok, run_setObj hc (by simp), Sem.run_pure]
    · exact leave_ok hen hdn ds _ H' h ν _ ds' hds' p1 (Nat.le_trans hN p2.size) (fun ν' w' h1 h2 h3 => k ν' w' h1 h2 (p2.trans h3))
  | .fn g cap args :: ds, H, H', h, ν, w, Ds, hds, hr, hN, k => by
    obtain ⟨d, ds', rfl, ⟨hpl, cap', args', hcap, hargs, rfl⟩, hds'⟩ := hds
    clear hpl
    cases g <;> (first | (cases h; done) | skip)
    rename_i g
    simp only [leaveF] at h
    split at h
    · cases h
    rename_i hbod
    have hbod : bodied P g = true := by simpa using hbod
    split at h
    rotate_left
    · cases h
    rename_i v H1 hc
    have hd := hdn g _ H v H1 hc hbod ν w _ (n - 1) (hargs.append hcap) hr hN
    refine ⟨by simp, .inr ⟨fun h => (by cases h), .func g, cap'.toArray, g, (args' ++ cap').toArray, rfl, ?_, fun _ _ => trivial, CallsDIn.mono hd ?_⟩⟩
    · have := hen g (args' ++ cap').toArray w hbod
      simp only [invoke]
      rw [← this]
      congr 2
      simp
    · rintro e u' w' ⟨rfl, x, ν', rfl, _, h2, h3⟩
      exact leave_ok hen hdn ds H1 H' h ν' w' ds' (hds'.mono h3.le) h2 (Nat.le_trans hN h3.size) (fun ν'' w'' q1 q2 q3 => k ν'' w'' q1 q2 (h3.trans q3))

theorem body_wp (hσ : ∀ i, (σ i).oneCell' = true) (hcall : CallOk P N σ call) (hmix : P.follows .mixedOrders = true) (hen : Enters P) {fn : Func} {c : Code} {args : List AV} {H : Heap} {n : Nat} (hlen : args.length ≤ fn.ntmps) (hd : dOk fn.ntmps c = true)
    {e : AEx} {s : St} (h : codeF P call L none c { tm := argsT 0 args .e, df := [], H := H } = some (e, s)) {vs : List Value} (hargs : VRs ν σ args vs) (hr : HR N ν σ H w) (hN : N ≤ w.heap.size) {Q : Exit → Act → World → Prop}
    (k : ∀ ν' a' w', SR N ν' σ s a' w' → Ext H ν w s.H ν' w' → Q (exOf e) a' w') :
    c.wpIn Fence.wide n P Q { tmps := vs.toArray ++ Array.replicate (fn.ntmps - vs.toArray.size) undef, defers := [] } w := by
  have hl := hargs.length
  have h0 : SR N ν σ { tm := argsT 0 args .e, df := [], H := H } { tmps := vs.toArray ++ Array.replicate (fn.ntmps - vs.toArray.size) undef, defers := [] } w := ⟨argsT_rel hargs _, rfl, hr, hN⟩
  refine code_wp (r := none) (n := n) hσ hcall hmix hen c _ e s h ν _ w h0 ?_ rfl Q (fun ν' a' w' h1 _ h3 => k ν' a' w' h1 h3)
  have : (vs.toArray ++ Array.replicate (fn.ntmps - vs.toArray.size) undef).size = fn.ntmps := by simp; omega
  simp only
  rw [this]
  exact hd

theorem fn_ok (hσ : ∀ i, (σ i).oneCell' = true) (hcall : CallOk P N σ call) (hdn : DnOk P N σ call) (hmix : P.follows .mixedOrders = true) (hen : Enters P) {f : FuncId} {fn : Func} {c : Code} (hf : P.funcs[f]? = some fn) (hb : fn.body = some c) {args : List AV} {H : Heap} {v : AV} {H' : Heap}
    (h : bodyF P call L false fn c args H = some (v, H')) {vs : List Value} {n : Nat} (hargs : VRs ν σ args vs) (hr : HR N ν σ H w) (hN : N ≤ w.heap.size) : CallsIn Fence.wide n P f vs.toArray w (RetOk N σ H ν w v H') := by
  unfold bodyF at h
  split at h
  rotate_left
  · cases h
  rename_i hcond
  split at h
  rotate_left
  · cases h
  rename_i e s hc
  have hfin : ∀ (l : Option Heap), (match l with | some H' => (match ressF P s.tm H' fn.results.toList with | some vs => some (retV vs, H') | none => none) | none => none) = some (v, H') →
      l = some H' ∧ ∃ us, ressF P s.tm H' fn.results.toList = some us ∧ v = retV us := by
    intro l hl
    cases l with
    | none => cases hl
    | some H1 =>
      simp only at hl
      split at hl
      · rename_i us hus
        injection hl with hl; injection hl with e1 e2; subst e1; subst e2
        exact ⟨rfl, us, hus, rfl⟩
      · cases hl
  have hend : e = .nrm ∨ e = .ret := by cases e <;> simp at h ⊢
  have h2 : (match (leaveF P call s.df s.H) with | some H' => (match ressF P s.tm H' fn.results.toList with | some vs => some (retV vs, H') | none => none) | none => none) = some (v, H') := by
    rcases hend with rfl | rfl <;> exact h
  obtain ⟨hl, us, hus, rfl⟩ := hfin _ h2
  refine callsIn_of_wp_marks hf hb trivial (body_wp hσ hcall hmix hen hcond.1 hcond.2 hc hargs hr hN (fun ν1 a1 w1 hs1 he1 => ?_))
  have hleave : LeavesInM Fence.wide n P fn a1.tmps (RetOk N σ H ν w (retV us) H') a1.defers .returning w1 :=
    leave_ok hen hdn _ _ _ hl ν1 w1 a1.defers hs1.df hs1.hr hs1.hN (fun ν2 w2 h1 h2 h3 => by
      obtain ⟨u, hu, ru⟩ := res_ok (P := P) h1 (hs1.tm.mono h3.le) (fn := fn) hus
      exact ⟨u, hu, u, ν2, rfl, ru, h1, he1.trans h3⟩)
  rcases hend with rfl | rfl <;> exact hleave

theorem dn_ok (hσ : ∀ i, (σ i).oneCell' = true) (hcall : CallOk P N σ call) (hmix : P.follows .mixedOrders = true) (hen : Enters P) {f : FuncId} {fn : Func} {c : Code} (hf : P.funcs[f]? = some fn) (hb : fn.body = some c) {args : List AV} {H : Heap} {v : AV} {H' : Heap}
    (h : bodyF P call L true fn c args H = some (v, H')) {vs : List Value} {n : Nat} (hargs : VRs ν σ args vs) (hr : HR N ν σ H w) (hN : N ≤ w.heap.size) :
    CallsDIn Fence.wide n P f vs.toArray .returning w (fun e u' w' => u' = .returning ∧ RetOk N σ H ν w v H' e w') := by
  unfold bodyF at h
  split at h
  rotate_left
  · cases h
  rename_i hcond
  split at h
  rotate_left
  · cases h
  rename_i e s hc
  have hend : e = .nrm ∨ e = .ret := by cases e <;> simp at h ⊢
  have h2 : s.df = [] ∧ ∃ us, ressF P s.tm s.H fn.results.toList = some us ∧ v = retV us ∧ H' = s.H := by
    have h3 : (match (match s.df with | [] => some s.H | _ => none) with | some H' => (match ressF P s.tm H' fn.results.toList with | some vs => some (retV vs, H') | none => none) | none => none) = some (v, H') := by
      rcases hend with rfl | rfl <;> exact h
    cases hdf : s.df with
    | nil =>
      rw [hdf] at h3
      simp only at h3
      split at h3
      · rename_i us hus
        injection h3 with h3; injection h3 with e1 e2
        exact ⟨rfl, us, hus, e1.symm, e2.symm⟩
      · cases h3
    | cons x xs => rw [hdf] at h3; simp at h3
  obtain ⟨hdf, us, hus, rfl, rfl⟩ := h2
  refine callsDIn_of_wp hf hb trivial (body_wp hσ hcall hmix hen hcond.1 hcond.2 hc hargs hr hN (fun ν1 a1 w1 hs1 he1 => ?_))
  have hdfs := hs1.df
  rw [hdf] at hdfs
  obtain ⟨u, hu, ru⟩ := res_ok (P := P) hs1.hr hs1.tm (fn := fn) hus
  have : a1.defers = [] ∧ ∃ v, (results fn a1.tmps).run P w1 = .ok v w1 ∧ RetOk N σ H ν w (retV us) s.H (.returned v) w1 := ⟨hdfs, u, hu, u, ν1, rfl, ru, hs1.hr, he1⟩
  rcases hend with rfl | rfl <;> exact this
end fns

/-- What is told of the functions that are not walked. -/
structure HookOk (P : Program) (N : Nat) (σ : Nat → Value) (hk : Hook) : Prop where
  fn : ∀ f g, hk .fn f = some g → ∀ args H v H', g args H = some (v, H') → ∀ ν w vs n, VRs ν σ args vs → HR N ν σ H w → N ≤ w.heap.size →
    (∃ x w' ν', (callFunc f vs.toArray).run P w = .ok (.value x) w' ∧ VR ν' σ v x ∧ HR N ν' σ H' w' ∧ Ext H ν w H' ν' w') ∨
    ((callFunc f vs.toArray).run P w = .ok (.enter f vs.toArray) w ∧ CallsIn Fence.wide n P f vs.toArray w (RetOk N σ H ν w v H'))
  dn : ∀ f g, hk .dn f = some g → ∀ args H v H', g args H = some (v, H') → bodied P f = true → ∀ ν w vs n, VRs ν σ args vs → HR N ν σ H w → N ≤ w.heap.size →
    CallsDIn Fence.wide n P f vs.toArray .returning w (fun e u' w' => u' = .returning ∧ RetOk N σ H ν w v H' e w')

theorem ev_ok (hσ : ∀ i, (σ i).oneCell' = true) {N : Nat} {hk : Hook} (hh : HookOk P N σ hk) (hmix : P.follows .mixedOrders = true) (hen : Enters P) (L : Nat) : ∀ n, CallOk P N σ (ev P hk L n) ∧ DnOk P N σ (ev P hk L n)
  | 0 => ⟨⟨fun _ _ _ _ _ h => (by cases h), fun _ _ _ _ _ h => (by cases h)⟩, fun _ _ _ _ _ h => (by cases h)⟩
  | k + 1 => by
    obtain ⟨ih1, ih2⟩ := ev_ok hσ hh hmix hen L k
    refine ⟨⟨?_, ?_⟩, ?_⟩
    · intro f args H v H' h ν w vs n hargs hr hN
      simp only [ev] at h
      split at h
      · rename_i g hg
        exact hh.fn f g hg args H v H' h ν w vs n hargs hr hN
      · split at h
        rotate_left
        · cases h
        rename_i fn hf
        split at h
        rotate_left
        · cases h
        rename_i c hc
        right
        have hbod : bodied P f = true := by unfold bodied; rw [hf]; simp [hc]
        exact ⟨hen f _ w hbod, fn_ok hσ ih1 ih2 hmix hen hf hc h hargs hr hN⟩
    · intro b args H v H' h ν w vs n c hν hargs hr hN
      simp only [ev] at h
      exact round_ok hσ ih1 hmix hen h hν hargs hr hN
    · intro f args H v H' h hbod ν w vs n hargs hr hN
      simp only [ev] at h
      split at h
      · rename_i g hg
        exact hh.dn f g hg args H v H' h hbod ν w vs n hargs hr hN
      · split at h
        rotate_left
        · cases h
        rename_i fn hf
        split at h
        rotate_left
        · cases h
        rename_i c hc
        exact dn_ok hσ ih1 hmix hen hf hc h hargs hr hN

/-- No memory of its own. -/
def H0 : Heap := { t := .e, next := 0 }
theorem start_hr : HR w.heap.size (fun _ => none) σ H0 w :=
  ⟨fun _ _ => rfl, fun b o h => (by simp [H0, Heap.get, Tr.get] at h), fun b b' o o' c p p' h => (by simp [H0, Heap.get, Tr.get] at h), fun b c p h => (by cases h), fun b o h => (by simp [H0, Heap.get, Tr.get] at h)⟩

/-- A closed call: what the evaluator says comes, and the memory that was there is as it was. -/
theorem calls_of_ev (hσ : ∀ i, (σ i).oneCell' = true) {hk : Hook} (hh : ∀ N, HookOk P N σ hk) (hmix : P.follows .mixedOrders = true) (hen : Enters P) {L n : Nat} {f : FuncId} {args : List AV} {vs : List Value} {v : AV} {H' : Heap} (hbod : bodied P f = true)
    (h : ev P hk L n .fn f args H0 = some (v, H')) (hargs : VRs (fun _ => none) σ args vs) (w : World) :
    Calls P f vs.toArray w (fun e w' => ∃ x ν', e = .returned x ∧ VR ν' σ v x ∧ HR w.heap.size ν' σ H' w' ∧ w'.os = w.os ∧ w'.tape = w.tape ∧ w'.output = w.output ∧ w.heap.size ≤ w'.heap.size ∧ ∀ c, c < w.heap.size → w'.heap[c]? = w.heap[c]?) := by
  obtain ⟨h1, _⟩ := ev_ok hσ (hh w.heap.size) hmix hen L n
  have h2 := h1.fn f args H0 v H' h (fun _ => none) w vs 0 hargs start_hr (Nat.le_refl _)
  have h3 : CallsIn Fence.wide 0 P f vs.toArray w (RetOk w.heap.size σ H0 (fun _ => none) w v H') := by
    rcases h2 with ⟨x, w', ν', k1, _⟩ | ⟨_, k2⟩
    · rw [hen f _ w hbod] at k1; cases k1
    · exact k2
  have h4 := CallsIn.mono h3 (R' := fun e w' => ∃ x ν', e = .returned x ∧ VR ν' σ v x ∧ HR w.heap.size ν' σ H' w' ∧ w'.os = w.os ∧ w'.tape = w.tape ∧ w'.output = w.output ∧ w.heap.size ≤ w'.heap.size ∧ ∀ c, c < w.heap.size → w'.heap[c]? = w.heap[c]?) (by
    rintro e w' ⟨x, ν', rfl, r1, r2, r3⟩
    refine ⟨x, ν', rfl, r1, r2, r3.os, r3.tape, r3.output, r3.size, fun c hc => r3.keep c hc ?_⟩
    rintro ⟨b, o, p, hb, _⟩
    simp [H0, Heap.get, Tr.get] at hb)
  exact callsIn_wide.1 h4
end Go.Proofs.YtblpmmociahklaaGreatDoor.Sx
