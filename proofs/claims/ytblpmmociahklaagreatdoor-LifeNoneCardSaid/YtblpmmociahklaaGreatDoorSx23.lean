/- Functions: the evaluator is sound. -/
import Derived.Test.YtblpmmociahklaaGreatDoorSx22
namespace Go.Proofs.YtblpmmociahklaaGreatDoor.Sx
open Go

variable {P : Program} {ν : Pl} {σ : Nat → Value} {w : World}

/-! ### A round -/

theorem setPs_rel : ∀ (ps : List Tmp) (args : List AV) (vs : List Value) (tm : Tr AV) (arr : Array Value), VRs ν σ args vs → (ps.all fun p => decide (p < arr.size)) = true → args.length = ps.length → TmR ν σ tm arr →
    TmR ν σ (setPs tm ps args) ((ps.zip vs).foldl (fun tmps (t, a) => tmps.setIfInBounds t a) arr) ∧ ((ps.zip vs).foldl (fun tmps (t, a) => tmps.setIfInBounds t a) arr).size = arr.size
  | [], args, vs, tm, arr, h, _, hl, ht => by
    cases args with
    | nil => simp only [VRs] at h; subst h; exact ⟨ht, rfl⟩
    | cons x xs => simp at hl
  | p :: ps, args, vs, tm, arr, h, hp, hl, ht => by
    cases args with
    | nil => simp at hl
    | cons x xs =>
      simp only [VRs] at h
      obtain ⟨v, ws, rfl, hv, hw⟩ := h
      simp only [List.all_cons, Bool.and_eq_true, decide_eq_true_eq] at hp
      simp only [setPs, List.zip_cons_cons, List.foldl_cons]
      have h1 : TmR ν σ (tm.set p x) (arr.setIfInBounds p v) :=
        TmR.put (a := { tmps := arr, defers := [] }) (dst := some p) ht (fun d hd => by injection hd with hd; subst hd; exact hp.1) hv
      obtain ⟨k1, k2⟩ := setPs_rel ps xs ws (tm.set p x) (arr.setIfInBounds p v) hw (by simpa using hp.2) (by simpa using hl) h1
      exact ⟨k1, by rw [k2]; simp⟩

section round
variable {call : CallF} {N : Nat} {L : Nat}

theorem round_ok (hσ : ∀ i, (σ i).oneCell' = true) (hcall : CallOk P N σ call) (hmix : P.follows .mixedOrders = true) (hen : Enters P) {b : Nat} {args : List AV} {H : Heap} {v : AV} {H' : Heap} (h : roundF P call L b args H = some (v, H'))
    {vs : List Value} {n c : Nat} (hν : ν b = some (c, Pt.z)) (hargs : VRs ν σ args vs) (hr : HR N ν σ H w) (hN : N ≤ w.heap.size) :
    ∃ l f tmps as bo, (Instr.yield c vs.toArray).run P w = .ok (.round l f tmps as bo) w ∧ RoundIn Fence.wide n P l f tmps as bo w (RetOk N σ H ν w v H') := by
  unfold roundF at h
  split at h
  rotate_left
  · cases h
  rename_i pend tm ps assign body d hb
  split at h
  rotate_left
  · cases h
  rename_i hlen
  obtain ⟨c', D, fn, tmps, hν', hνd, hc, htm, hps, hd1, hd2⟩ := hr.rel _ _ hb
  rw [hν] at hν'; injection hν' with hν'; injection hν' with e1 _; subst e1
  have hvl := hargs.length
  obtain ⟨t1, t2⟩ := setPs_rel ps args vs tm tmps hargs hps hlen htm
  refine ⟨c, fn, (ps.zip vs).foldl (fun tmps (t, a) => tmps.setIfInBounds t a) tmps, assign, body, ?_, ?_⟩
  · have hsz : ¬ (vs.toArray.size ≠ ps.toArray.size) := by simp; omega
    simp only [Instr.yield, Sem.run_bind, run_getLoop hc, Result.andThen_ok, if_neg hsz, Sem.run_pure]
    congr 2
    rw [← Array.foldl_toList]
    simp
  · refine roundIn_of_wpIn trivial ?_
    split at h
    rotate_left
    · cases h
    rename_i s1 h1
    have hs0 : SR N ν σ { tm := setPs tm ps args, df := [], H := H } { tmps := (ps.zip vs).foldl (fun tmps (t, a) => tmps.setIfInBounds t a) tmps, defers := [] } w := ⟨t1, rfl, hr, hN⟩
    refine code_wp (r := some c) (n := n) hσ hcall hmix hen assign _ _ _ h1 ν _ w hs0 (by simp only; rw [t2]; exact hd1) ⟨c, hν, rfl⟩ _ (fun ν1 a1 w1 hs1 hz1 he1 => ?_)
    simp only [exOf, Exit.then]
    split at h
    rotate_left
    · cases h
    rename_i pend1 tm1 ps1 as1 bo1 d1 hb1
    obtain ⟨c1, D1, fn1, tmps1, hν1, hνd1, hc1, htm1, hps1, hd11, hd21⟩ := hs1.hr.rel _ _ hb1
    have : c1 = c := by
      have := he1.le _ _ hν
      rw [this] at hν1; injection hν1 with hν1; injection hν1 with hν1 _; exact hν1.symm
    subst this
    obtain ⟨p1, p2⟩ := put_obj (x' := .loop .busy pend1 tm1 ps1 as1 bo1 d1) (o' := .loop { state := .busy, pending := pend1, fn := fn1, tmps := tmps1, params := ps1.toArray, assign := as1, body := bo1, defers := D1 }) hs1.hr hb1 rfl hν1 hc1 (fun w' hw' =>
      ⟨c1, D1, fn1, tmps1, hν1, hνd1, hw', htm1, hps1, hd11, hd21⟩)
    refine ⟨{ w1 with heap := w1.heap.setIfInBounds c1 (.loop { state := .busy, pending := pend1, fn := fn1, tmps := tmps1, params := ps1.toArray, assign := as1, body := bo1, defers := D1 }) }, ?_, ?_⟩
    · simp only [Instr.beginRound, Sem.run_bind, run_getLoop hc1, Result.andThen_ok, run_setObj hc1 (by simp), Sem.run_pure]
    · split at h
      rotate_left
      · cases h
      rename_i e s2 h2
      split at h
      rotate_left
      · cases h
      rename_i st2 pend2 tm2 ps2 as2 bo2 d2 hb2
      have hs1' : SR N ν1 σ { s1 with H := s1.H.put b (.loop .busy pend1 tm1 ps1 as1 bo1 d1) } a1 { w1 with heap := w1.heap.setIfInBounds c1 (.loop { state := .busy, pending := pend1, fn := fn1, tmps := tmps1, params := ps1.toArray, assign := as1, body := bo1, defers := D1 }) } :=
        ⟨hs1.tm, hs1.df, p1, Nat.le_trans hs1.hN p2.size⟩
      refine code_wp (r := some c1) (n := n) hσ hcall hmix hen body _ _ _ h2 ν1 a1 _ hs1' (by rw [hz1]; simp only; rw [t2]; exact hd2) ⟨c1, hν1, rfl⟩ _ (fun ν2 a2 w2 hs2 hz2 he2 => ?_)
      obtain ⟨c2, D2, fn2, tmps2, hν2, hνd2, hc2, htm2, hps2, hd12, hd22⟩ := hs2.hr.rel _ _ hb2
      have : c2 = c1 := by
        have := he2.le _ _ hν1
        rw [this] at hν2; injection hν2 with hν2; injection hν2 with hν2 _; exact hν2.symm
      subst this
      have hend : ∀ (st : LoopState) (j : Option Code) (x : AV), st = (if j.isNone then .ready else .done) → x = .bool j.isNone → H' = s2.H.put b (.loop st j tm2 ps2 as2 bo2 d2) → v = x →
          ∃ u w', (Instr.endRound c2 j).run P w2 = .ok u w' ∧ RetOk N σ H ν w v H' (.returned u) w' := by
        intro st j x hst hx hH hv
        obtain ⟨q1, q2⟩ := put_obj (x' := .loop st j tm2 ps2 as2 bo2 d2) (o' := .loop { state := st, pending := j, fn := fn2, tmps := tmps2, params := ps2.toArray, assign := as2, body := bo2, defers := D2 }) hs2.hr hb2 rfl hν2 hc2 (fun w' hw' =>
          ⟨c2, D2, fn2, tmps2, hν2, hνd2, hw', htm2, hps2, hd12, hd22⟩)
        refine ⟨.bool j.isNone, { w2 with heap := w2.heap.setIfInBounds c2 (.loop { state := st, pending := j, fn := fn2, tmps := tmps2, params := ps2.toArray, assign := as2, body := bo2, defers := D2 }) }, ?_, .bool j.isNone, ν2, rfl, ?_, ?_, ?_⟩
        · subst hst
          simp only [Instr.endRound, Sem.run_bind, run_getLoop hc2, Result.andThen_ok, run_setObj hc2 (by simp), Sem.run_pure]
        · subst hv; subst hx; simp only [VR]
        · subst hH; exact q1
        · subst hH; exact (he1.trans (p2.trans he2)).trans q2
      cases e with
      | nrm =>
        simp only at h
        injection h with h; injection h with g1 g2
        exact hend .ready none _ rfl rfl g2.symm g1.symm
      | ret =>
        simp only at h
        injection h with h; injection h with g1 g2
        exact hend .done (some .ret) _ rfl rfl g2.symm g1.symm
      | exit id =>
        simp only at h
        injection h with h; injection h with g1 g2
        exact hend .done (some (.exit id)) _ rfl rfl g2.symm g1.symm
      | goto l => simp at h
end round

/-! ### A function -/

theorem argsT_get : ∀ (args : List AV) (i : Nat) (tm : Tr AV) (t : Nat), (argsT i args tm).get t = if i ≤ t ∧ t < i + args.length then args[t - i]? else tm.get t
  | [], i, tm, t => by simp only [argsT]; rw [if_neg (by rintro ⟨h1, h2⟩; simp at h2; omega)]
  | v :: vs, i, tm, t => by
    simp only [argsT]
    rw [argsT_get vs (i + 1) (tm.set i v) t, Tr.get_set]
    simp only [List.length_cons]
    by_cases h : t = i
    · subst h
      rw [if_neg (by omega), if_pos rfl, if_pos (by omega)]
      simp
    · rw [if_neg h]
      by_cases h2 : i + 1 ≤ t ∧ t < i + 1 + vs.length
      · rw [if_pos h2, if_pos (by omega)]
        obtain ⟨d, hd⟩ : ∃ d, t - i = d + 1 := ⟨t - i - 1, by omega⟩
        rw [hd, List.getElem?_cons_succ]
        congr 1; omega
      · rw [if_neg h2, if_neg (by omega)]

theorem argsT_rel {args : List AV} {vs : List Value} (h : VRs ν σ args vs) (k : Nat) : TmR ν σ (argsT 0 args .e) (vs.toArray ++ Array.replicate k undef) := by
  intro t
  have hl := h.length
  unfold tmA
  rw [argsT_get]
  by_cases ht : t < args.length
  · rw [if_pos (by omega), Nat.sub_zero]
    obtain ⟨v, hv, r⟩ := h.get (List.getElem?_eq_getElem ht)
    rw [List.getElem?_eq_getElem ht]
    simp only
    rw [Array.getD_eq_getD_getElem?, Array.getElem?_append_left (by simp; omega)]
    have : vs.toArray[t]? = some v := by simpa using hv
    rw [this]
    exact r
  · rw [if_neg (by omega)]
    simp only [Tr.get]
    rw [Array.getD_eq_getD_getElem?, Array.getElem?_append_right (by simp; omega)]
    simp only [List.size_toArray, Array.getElem?_replicate]
    split <;> exact undef_rel

def resS (tmps : Array Value) : ResultVar → Sem Value
  | .tmp t => pure (tmps.getD t undef)
  | .cell a t => do loadVar t (← asAddr (tmps.getD a undef))
theorem results_def (fn : Func) (tmps : Array Value) : results fn tmps = (do let vs ← fn.results.mapM (resS tmps); pure (if h : vs.size = 1 then vs[0] else .tuple vs)) := by
  unfold results
  congr 1

theorem res_one {N : Nat} {H : Heap} (hr : HR N ν σ H w) {tm : Tr AV} {tmps : Array Value} (ht : TmR ν σ tm tmps) {x : ResultVar} {v : AV} (h : resF P tm H x = some v) :
    ∃ u, (resS tmps x).run P w = .ok u w ∧ VR ν σ v u := by
  cases x with
  | tmp t => injection h with h; subst h; exact ⟨_, rfl, ht t⟩
  | cell a t =>
    simp only [resF] at h
    split at h
    · rename_i b o hb
      have h1 := ht a
      rw [hb] at h1
      obtain ⟨u, hu, ru⟩ := load_sound hr h h1
      refine ⟨u, ?_, ru⟩
      simp only [VR] at h1
      obtain ⟨c, p, hν, he⟩ := h1
      rw [he] at hu
      simp only [resS]
      rw [he]
      simp only [Instr.loadAt, Instr.sureAddr, Sem.run_bind, Sem.run_pure, Result.andThen_ok] at hu
      simp only [asAddr, Sem.run_bind, Sem.run_pure, Result.andThen_ok]
      exact hu
    · cases h

theorem res_list {N : Nat} {H : Heap} (hr : HR N ν σ H w) {tm : Tr AV} {tmps : Array Value} (ht : TmR ν σ tm tmps) : ∀ (l : List ResultVar) (vs : List AV), ressF P tm H l = some vs →
    ∃ us : List Value, (l.mapM (resS tmps)).run P w = .ok us w ∧ VRs ν σ vs us
  | [], vs, h => by injection h with h; subst h; exact ⟨[], rfl, by simp [VRs]⟩
  | x :: l, vs, h => by
    simp only [ressF] at h
    split at h
    · rename_i v hv
      split at h
      · rename_i vs' hvs
        injection h with h; subst h
        obtain ⟨u, hu, ru⟩ := res_one (P := P) hr ht hv
        obtain ⟨us, hus, rus⟩ := res_list hr ht l vs' hvs
        refine ⟨u :: us, ?_, by simp only [VRs]; exact ⟨u, us, rfl, ru, rus⟩⟩
        rw [List.mapM_cons]
        simp only [Sem.run_bind, hu, Result.andThen_ok, hus, Sem.run_pure]
      · cases h
    · cases h

theorem res_ok {N : Nat} {H : Heap} (hr : HR N ν σ H w) {tm : Tr AV} {tmps : Array Value} (ht : TmR ν σ tm tmps) {fn : Func} {vs : List AV} (h : ressF P tm H fn.results.toList = some vs) :
    ∃ u, (results fn tmps).run P w = .ok u w ∧ VR ν σ (retV vs) u := by
  obtain ⟨us, hus, rus⟩ := res_list (P := P) hr ht _ _ h
  have hl := rus.length
  refine ⟨if h : us.toArray.size = 1 then us.toArray[0] else .tuple us.toArray, ?_, ?_⟩
  · rw [results_def, Array.mapM_eq_mapM_toList]
    simp only [Sem.run_bind, Sem.run_map, hus, Result.andThen_ok, Sem.run_pure]
  · rcases vs with _ | ⟨v, _ | ⟨v2, vs⟩⟩
    · simp only [VRs] at rus; subst rus
      simp only [retV, VR, VRs]
      exact ⟨[], rfl, by simp⟩
    · simp only [VRs] at rus
      obtain ⟨u, ws, rfl, hu, hw⟩ := rus
      subst hw
      simpa [retV] using hu
    · have : ¬ (us.toArray.size = 1) := by simp; simp at hl; omega
      rw [dif_neg this]
      simp only [retV, VR]
      exact ⟨us, rus, rfl⟩
end Go.Proofs.YtblpmmociahklaaGreatDoor.Sx
