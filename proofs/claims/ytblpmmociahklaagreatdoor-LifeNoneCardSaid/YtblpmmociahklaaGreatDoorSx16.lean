/- One operation in the calculus; a statement whose order is fixed. -/
import Derived.Test.YtblpmmociahklaaGreatDoorSx15
namespace Go.Proofs.YtblpmmociahklaaGreatDoor.Sx
open Go

variable {P : Program} {ν : Pl} {σ : Nat → Value} {w : World}

/-- The fence that lets all in, in a round's frame or in an activation's. -/
def FR (r : Option Nat) : Fence := { Fence.wide with round := r }

theorem callsIn_FR {r : Option Nat} {n : Nat} {f : FuncId} {args : Array Value} {R : Ending → World → Prop} (h : CallsIn Fence.wide n P f args w R) : CallsIn (FR r) n P f args w R := h
theorem roundIn_FR {r : Option Nat} {n l : Nat} {f : FuncId} {tmps : Array Value} {as bo : Code} {R : Ending → World → Prop} (h : RoundIn Fence.wide n P l f tmps as bo w R) : RoundIn (FR r) n P l f tmps as bo w R := h

/-- What a call comes to. -/
def RetOk (N : Nat) (σ : Nat → Value) (H : Heap) (ν : Pl) (w : World) (v : AV) (H' : Heap) : Ending → World → Prop :=
  fun e w' => ∃ x ν', e = .returned x ∧ VR ν' σ v x ∧ HR N ν' σ H' w' ∧ Ext H ν w H' ν' w'

structure CallOk (P : Program) (N : Nat) (σ : Nat → Value) (call : CallF) : Prop where
  fn : ∀ f args H v H', call .fn f args H = some (v, H') → ∀ ν w vs n, VRs ν σ args vs → HR N ν σ H w → N ≤ w.heap.size →
    (∃ x w' ν', (callFunc f vs.toArray).run P w = .ok (.value x) w' ∧ VR ν' σ v x ∧ HR N ν' σ H' w' ∧ Ext H ν w H' ν' w') ∨
    ((callFunc f vs.toArray).run P w = .ok (.enter f vs.toArray) w ∧ CallsIn Fence.wide n P f vs.toArray w (RetOk N σ H ν w v H'))
  rd : ∀ b args H v H', call .rd b args H = some (v, H') → ∀ ν w vs n c, ν b = some (c, Pt.z) → VRs ν σ args vs → HR N ν σ H w → N ≤ w.heap.size →
    ∃ l f tmps as bo, (Instr.yield c vs.toArray).run P w = .ok (.round l f tmps as bo) w ∧ RoundIn Fence.wide n P l f tmps as bo w (RetOk N σ H ν w v H')

/-- Deferred calls. -/
def DRs (ν : Pl) (σ : Nat → Value) : List ADf → List Deferred → Prop
  | [], ds => ds = []
  | x :: xs, ds => ∃ d ds', ds = d :: ds' ∧ DR ν σ x d ∧ DRs ν σ xs ds'

theorem DR.mono {ν' : Pl} (hle : PlLe ν ν') : ∀ {x : ADf} {d : Deferred}, DR ν σ x d → DR ν' σ x d
  | .fn _ _ _, _, ⟨hp, c', a', h1, h2, e⟩ => ⟨hp, c', a', h1.mono hle, h2.mono hle, e⟩
  | .mark _, _, ⟨c, h1, e⟩ => ⟨c, hle _ _ h1, e⟩
theorem DRs.mono {ν' : Pl} (hle : PlLe ν ν') : ∀ {xs : List ADf} {ds : List Deferred}, DRs ν σ xs ds → DRs ν' σ xs ds
  | [], _, h => h
  | _ :: _, _, ⟨d, ds', e, h1, h2⟩ => ⟨d, ds', e, h1.mono hle, h2.mono hle⟩
theorem TmR.mono {ν' : Pl} (hle : PlLe ν ν') {tm : Tr AV} {arr : Array Value} (h : TmR ν σ tm arr) : TmR ν' σ tm arr := fun t => VR.mono hle _ _ (h t)

structure SR (N : Nat) (ν : Pl) (σ : Nat → Value) (s : St) (a : Act) (w : World) : Prop where
  tm : TmR ν σ s.tm a.tmps
  df : DRs ν σ s.df a.defers
  hr : HR N ν σ s.H w
  hN : N ≤ w.heap.size

theorem undef_rel : VR ν σ undefA undef := by simp only [undefA, VR, VRs]; exact ⟨[], rfl, rfl⟩

theorem TmR.put {tm : Tr AV} {a : Act} (h : TmR ν σ tm a.tmps) {dst : Option Tmp} (hd : ∀ d, dst = some d → d < a.tmps.size) {v : AV} {x : Value} (hv : VR ν σ v x) : TmR ν σ (putT tm dst v) (a.put dst x).tmps := by
  intro t
  cases dst with
  | none => exact h t
  | some d =>
    have hd' := hd d rfl
    simp only [putT, Act.put, tmA, Tr.get_set, Array.getD_eq_getD_getElem?, Array.getElem?_setIfInBounds]
    by_cases e : t = d
    · subst e
      simp [hd']
      exact hv
    · rw [if_neg e, if_neg (fun h => e h.symm)]
      have := h t
      simpa [tmA, Array.getD_eq_getD_getElem?] using this

theorem put_size {a : Act} {dst : Option Tmp} {x : Value} : (a.put dst x).tmps.size = a.tmps.size := by cases dst <;> simp [Act.put]
theorem put_defers {a : Act} {dst : Option Tmp} {x : Value} : (a.put dst x).defers = a.defers := by cases dst <;> rfl

theorem opd_rel {tm : Tr AV} {a : Act} (h : TmR ν σ tm a.tmps) {x : Operand} {v : AV} (hx : opd tm x = some v) : VR ν σ v (a.eval x) := by
  cases x with
  | tmp t => injection hx with hx; subst hx; exact h t
  | const c => exact toA_sound _ _ _ _ hx
  | global g => injection hx with hx; subst hx; simp only [VR]; rfl
  | func f => injection hx with hx; subst hx; simp only [VR, VRs]; exact ⟨rfl, [], [], rfl, rfl, rfl⟩

theorem opds_rel {tm : Tr AV} {a : Act} : ∀ {xs : List Operand} {vs : List AV}, (∀ t, Operand.tmp t ∈ xs → VR ν σ (tmA tm t) (a.tmps.getD t undef)) → opds tm xs = some vs → VRs ν σ vs (xs.map a.eval)
  | [], vs, _, hx => by injection hx with hx; subst hx; simp [VRs]
  | x :: xs, vs, h, hx => by
    simp only [opds] at hx
    split at hx
    · rename_i v hv
      split at hx
      · rename_i vs' hvs
        injection hx with hx; subst hx
        simp only [List.map_cons, VRs]
        refine ⟨_, _, rfl, ?_, opds_rel (fun t ht => h t (List.mem_cons_of_mem _ ht)) hvs⟩
        cases x with
        | tmp t => injection hv with hv; subst hv; exact h t (List.mem_cons_self ..)
        | const c => exact toA_sound _ _ _ _ hv
        | global g => injection hv with hv; subst hv; simp only [VR]; rfl
        | func f => injection hv with hv; subst hv; simp only [VR, VRs]; exact ⟨rfl, [], [], rfl, rfl, rfl⟩
      · cases hx
    · cases hx

theorem yielded_bool {ops : Array Oper} {j : Nat} {oj : Oper} (hj : ops[j]? = some oj) {d : Tmp} (hd : oj.dst = some d) {arr : Array Value} {b : Bool} (hb : arr.getD d undef = .bool b) : yielded ops arr j = some b := by
  unfold yielded
  rw [hj]
  simp only [Option.bind_some, hd]
  rw [Array.getD_eq_getD_getElem?] at hb
  cases ha : arr[d]? with
  | none => rw [ha] at hb; simp [undef] at hb
  | some x => rw [ha] at hb; simp at hb; subst hb; rfl
theorem yielded_not {ops : Array Oper} {j : Nat} {oj : Oper} (hj : ops[j]? = some oj) {d : Tmp} (hd : oj.dst = some d) {arr : Array Value} (hb : ∀ b, arr.getD d undef ≠ .bool b) : yielded ops arr j = none := by
  unfold yielded
  rw [hj]
  simp only [Option.bind_some, hd]
  cases ha : arr[d]? with
  | none => rfl
  | some x =>
    have := hb
    rw [Array.getD_eq_getD_getElem?, ha] at this
    simp only [Option.getD_some] at this
    cases x <;> first | rfl | exact absurd rfl (this _)

theorem want_rel {ops : Array Oper} {o : Oper} {tm : Tr AV} {arr : Array Value} {b : Bool} (h : wantF ops.toList tm o.guard = some b)
    (hg : ∀ j w oj d, o.guard = some (j, w) → ops[j]? = some oj → oj.dst = some d → VR ν σ (tmA tm d) (arr.getD d undef)) : Region.wanted o (yielded ops arr) = b := by
  unfold wantF at h
  unfold Region.wanted
  split at h
  · rename_i hn; injection h with h; subst h; simp [hn]
  · rename_i j w hn
    simp only [hn]
    split at h
    · rename_i oj hj
      have hj' : ops[j]? = some oj := by simpa using hj
      split at h
      · rename_i d hd
        have hv := hg j w oj d hn hj' hd
        unfold tmA at hv
        split at h
        · rename_i b' hb
          injection h with h; subst h
          rw [hb] at hv
          simp only [VR] at hv
          rw [yielded_bool hj' hd hv]
          cases b' <;> cases w <;> rfl
        · rename_i vs hb
          injection h with h; subst h
          rw [hb] at hv
          simp only [VR] at hv
          obtain ⟨ds, _, e⟩ := hv
          rw [yielded_not hj' hd (fun b => by rw [e]; simp)]; rfl
        · rename_i hb
          injection h with h; subst h
          rw [hb] at hv
          simp only [undefA, VR] at hv
          obtain ⟨ds, _, e⟩ := hv
          rw [yielded_not hj' hd (fun b => by rw [e]; simp)]; rfl
        · cases h
      · rename_i hd
        injection h with h; subst h
        have : yielded ops arr j = none := by unfold yielded; rw [hj']; simp [hd]
        rw [this]; rfl
    · rename_i hj
      injection h with h; subst h
      have hj' : ops[j]? = none := by simpa using hj
      have : yielded ops arr j = none := by unfold yielded; rw [hj']; rfl
      rw [this]; rfl

section ops
variable {r : Option Nat} {n : Nat} {o : Oper} {a : Act} {K : Act → World → Prop} {Q : Exit → Act → World → Prop} {xs : List AV}

theorem wp_value {x : Value} {w' : World} (hd : ∀ c, o.op ≠ .defer c) (h : (execOp a.eval o).run P w = .ok (.value x) w') (k : K (a.put o.dst x) w') : o.wpIn (FR r) n P a w K Q := by
  refine ⟨fun _ _ => trivial, ?_⟩
  rw [Oper.semAt_eq _ _ _ hd, h]
  exact k
theorem wp_skip {w' : World} (hd : ∀ c, o.op ≠ .defer c) (h : (execOp a.eval o).run P w = .ok .skip w') (k : K (a.put o.dst undef) w') : o.wpIn (FR r) n P a w K Q := by
  refine ⟨fun _ _ => trivial, ?_⟩
  rw [Oper.semAt_eq _ _ _ hd, h]
  exact k

theorem pure_no_defer (hc : clsOf P o.op = .pure) : ∀ c, o.op ≠ .defer c := fun c e => by rw [e] at hc; cases hc
theorem read_no_defer (hc : clsOf P o.op = .read) : ∀ c, o.op ≠ .defer c := fun c e => by rw [e] at hc; cases hc
theorem alloc_no_defer (hc : clsOf P o.op = .alloc) : ∀ c, o.op ≠ .defer c := fun c e => by rw [e] at hc; cases hc

theorem pure_wp (hσ : ∀ i, (σ i).oneCell' = true) (hc : clsOf P o.op = .pure) {v : AV} (h : pureF P o.op xs = some v) (hx : VRs ν σ xs ((opnds o.op).map a.eval)) (k : ∀ x, VR ν σ v x → K (a.put o.dst x) w) :
    o.wpIn (FR r) n P a w K Q := by
  obtain ⟨x, h1, h2⟩ := pure_sound (w := w) hσ hc h hx
  exact wp_value (pure_no_defer hc) h1 (k x h2)

theorem read_wp {N : Nat} {H : Heap} (hr : HR N ν σ H w) (hc : clsOf P o.op = .read) {v : AV} (h : readF P o.op xs H = some v) (hx : VRs ν σ xs ((opnds o.op).map a.eval)) (k : ∀ x, VR ν σ v x → K (a.put o.dst x) w) :
    o.wpIn (FR r) n P a w K Q := by
  obtain ⟨x, h1, h2⟩ := read_sound hr hc h hx
  exact wp_value (read_no_defer hc) h1 (k x h2)

theorem alloc_wp (hσ : ∀ i, (σ i).oneCell' = true) (hc : clsOf P o.op = .alloc) {v : NewA} (h : allocF P o.op xs = some v) (hx : VRs ν σ xs ((opnds o.op).map a.eval)) (k : ∀ x obj, NewOk ν σ w v x obj → K (a.put o.dst x) (w.alloc obj)) :
    o.wpIn (FR r) n P a w K Q := by
  obtain ⟨x, obj, h1, h2⟩ := alloc_sound (w := w) hσ h hx
  exact wp_value (alloc_no_defer hc) h1 (k x obj h2)

theorem callF_dfr {f : AV} {as : List AV} {d : ADf} : callF P f as ≠ some (.dfr d) := by
  unfold callF
  split <;> simp
theorem bigF_dfr {op : Op} {H : Heap} {d : ADf} (h : bigF P op xs H = some (.dfr d)) : ∃ c, op = .defer c := by
  unfold bigF at h
  split at h
  all_goals first
    | exact ⟨_, rfl⟩
    | (exfalso
       repeat' (split at h)
       all_goals first | (cases h; done) | exact callF_dfr h)

/-- What the great ones do to the state. -/
theorem big_wp (hσ : ∀ i, (σ i).oneCell' = true) {call : CallF} {N : Nat} (hcall : CallOk P N σ call) {s s' : St} (hr : HR N ν σ s.H w) (hN : N ≤ w.heap.size) {out : Out} (h : bigF P o.op xs s.H = some out) (ho : outF call o.dst s out = some s')
    (hx : VRs ν σ xs ((opnds o.op).map a.eval)) (hdf : r ≠ none → ∀ c, o.op ≠ .defer c)
    (k : ∀ v x ν' w', s'.tm = putT s.tm o.dst v → VR ν' σ v x → HR N ν' σ s'.H w' → Ext s.H ν w s'.H ν' w' → s'.df = s.df → K (a.put o.dst x) w')
    (kd : ∀ d D, s'.df = d :: s.df → s'.H = s.H → s'.tm = putT s.tm o.dst undefA → DR ν σ d D → K ({ a with defers := D :: a.defers }.put o.dst undef) w) : o.wpIn (FR r) n P a w K Q := by
  have hb := big_sound (P := P) (w := w) hσ hr hN h hx
  have hnd : (∀ d, out ≠ .dfr d) → ∀ c, o.op ≠ .defer c := by
    intro hne c e
    rw [e] at h
    have : ∃ d, out = .dfr d := by
      rcases xs with _ | ⟨x, xs⟩
      · simp only [bigF] at h
        cases hcc : c.callee <;> simp [hcc] at h
      · simp only [bigF] at h
        cases hcc : c.callee <;> simp only [hcc] at h
        · cases x <;> (first | (cases h; done) | skip)
          injection h with h; exact ⟨_, h.symm⟩
        · cases h
        · cases h
    obtain ⟨d, hd⟩ := this
    exact hne d hd
  cases out with
  | val v H' =>
    obtain ⟨u, w', ν', h1, h2, h3, h4⟩ := hb
    injection ho with ho; subst ho
    exact wp_value (hnd (by simp)) h1 (k v u ν' w' rfl h2 h3 h4 rfl)
  | skip H' =>
    obtain ⟨w', ν', h1, h3, h4⟩ := hb
    injection ho with ho; subst ho
    exact wp_skip (hnd (by simp)) h1 (k undefA undef ν' w' rfl undef_rel h3 h4 rfl)
  | dfr d =>
    obtain ⟨D, h1, h2⟩ := hb
    injection ho with ho; subst ho
    refine ⟨fun _ _ => trivial, ?_⟩
    have hro : r = none := by
      cases r with
      | none => rfl
      | some l =>
        exfalso
        have hop : ∃ c, o.op = .defer c := bigF_dfr h
        obtain ⟨c, hc⟩ := hop
        exact hdf (by simp) c hc
    subst hro
    have : Oper.semAt (FR none).round a.eval o = execOp a.eval o := rfl
    rw [this, h1]
    exact kd d D rfl rfl rfl h2
  | enter f args =>
    obtain ⟨vs, h1, h2⟩ := hb
    simp only [outF] at ho
    split at ho
    · rename_i v H' hc
      injection ho with ho; subst ho
      refine ⟨fun _ _ => trivial, ?_⟩
      rw [Oper.semAt_eq _ _ _ (hnd (by simp)), h2]
      rcases hcall.fn _ _ _ _ _ hc ν w vs (n - 1) h1 hr hN with ⟨x, w', ν', k1, k2, k3, k4⟩ | ⟨k1, k2⟩
      · rw [k1]
        exact k v x ν' w' rfl k2 k3 k4 rfl
      · rw [k1]
        refine ⟨(fun h => by cases h), CallsIn.mono (callsIn_FR k2) ?_⟩
        rintro e w' ⟨x, ν', rfl, j1, j2, j3⟩
        exact k v x ν' w' rfl j1 j2 j3 rfl
    · cases ho
  | round b args =>
    obtain ⟨c, vs, h0, h1, h2⟩ := hb
    simp only [outF] at ho
    split at ho
    · rename_i v H' hc
      injection ho with ho; subst ho
      refine ⟨fun _ _ => trivial, ?_⟩
      rw [Oper.semAt_eq _ _ _ (hnd (by simp)), h2]
      obtain ⟨l, f, tmps, as, bo, k1, k2⟩ := hcall.rd _ _ _ _ _ hc ν w vs (n - 1) c h0 h1 hr hN
      rw [k1]
      refine ⟨(fun h => by cases h), RoundIn.mono (roundIn_FR k2) ?_⟩
      rintro e w' ⟨x, ν', rfl, j1, j2, j3⟩
      exact k v x ν' w' rfl j1 j2 j3 rfl
    · cases ho
end ops
end Go.Proofs.YtblpmmociahklaaGreatDoor.Sx
