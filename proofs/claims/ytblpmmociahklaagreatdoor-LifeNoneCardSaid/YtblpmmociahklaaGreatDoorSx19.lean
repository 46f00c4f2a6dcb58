/- A statement whose order is open: every order. -/
import Derived.Test.YtblpmmociahklaaGreatDoorSx18
namespace Go.Proofs.YtblpmmociahklaaGreatDoor.Sx
open Go

mutual
theorem same_eq : ∀ (x y : AV), AV.same x y = true → x = y
  | .bool _, y, h => by cases y <;> simp_all [AV.same]
  | .int _ _, y, h => by cases y <;> simp_all [AV.same]
  | .str _, y, h => by cases y <;> simp_all [AV.same]
  | .flt _ _, y, h => by cases y <;> simp_all [AV.same]
  | .cpx _ _ _, y, h => by cases y <;> simp_all [AV.same]
  | .nilp, y, h => by cases y <;> simp_all [AV.same]
  | .ptr _ _, y, h => by cases y <;> simp_all [AV.same]
  | .glob _, y, h => by cases y <;> simp_all [AV.same]
  | .nils, y, h => by cases y <;> simp_all [AV.same]
  | .slc _ _ _ _ _, y, h => by cases y <;> simp_all [AV.same]
  | .nilm, y, h => by cases y <;> simp_all [AV.same]
  | .map _, y, h => by cases y <;> simp_all [AV.same]
  | .yld _, y, h => by cases y <;> simp_all [AV.same]
  | .nilf, y, h => by cases y <;> simp_all [AV.same]
  | .nili, y, h => by cases y <;> simp_all [AV.same]
  | .sym _, y, h => by cases y <;> simp_all [AV.same]
  | .any, y, h => by cases y <;> simp_all [AV.same]
  | .fn f xs ys, y, h => by
    cases y <;> (first | (cases h; done) | skip)
    rename_i g us vs
    have h' : (decide (f = g) && AV.same.sames xs us && AV.same.sames ys vs) = true := h
    simp only [Bool.and_eq_true, decide_eq_true_eq] at h'
    obtain ⟨⟨h1, h2⟩, h3⟩ := h'
    rw [h1, sames_eq xs us h2, sames_eq ys vs h3]
  | .ifc t x, y, h => by
    cases y <;> (first | (cases h; done) | skip)
    rename_i u y
    have h' : (t == u && AV.same x y) = true := h
    simp only [Bool.and_eq_true, beq_iff_eq] at h'
    rw [h'.1, same_eq x y h'.2]
  | .agg xs, y, h => by
    cases y <;> (first | (cases h; done) | skip)
    rename_i ys
    have h' : AV.same.sames xs ys = true := h
    rw [sames_eq xs ys h']
  | .tup xs, y, h => by
    cases y <;> (first | (cases h; done) | skip)
    rename_i ys
    have h' : AV.same.sames xs ys = true := h
    rw [sames_eq xs ys h']
theorem sames_eq : ∀ (xs ys : List AV), AV.same.sames xs ys = true → xs = ys
  | [], ys, h => by cases ys <;> simp_all [AV.same.sames]
  | x :: xs, ys, h => by
    cases ys with
    | nil => simp [AV.same.sames] at h
    | cons y ys =>
      simp only [AV.same.sames, Bool.and_eq_true] at h
      rw [same_eq x y h.1, sames_eq xs ys h.2]
end

variable {P : Program} {ν : Pl} {σ : Nat → Value} {w : World}

theorem OR.some_of {b : Nat} {o : AO} (h : OR ν σ w b o) (ha : alive o = true) : ∃ c p, ν b = some (c, p) := by
  cases o with
  | cells t cs fx => obtain ⟨c, p, _, _, hb, _⟩ := h; exact ⟨c, p, hb⟩
  | map es clock => obtain ⟨c, _, hb, _⟩ := h; exact ⟨c, _, hb⟩
  | miter m since seen stepped => obtain ⟨c, _, hb, _⟩ := h; exact ⟨c, _, hb⟩
  | loop st pend tm ps assign body d => obtain ⟨c, _, _, _, hb, _⟩ := h; exact ⟨c, _, hb⟩
  | dfr => obtain ⟨c, hb, _⟩ := h; exact ⟨c, _, hb⟩
  | dead => cases ha

/-- One block is taken in. -/
theorem HR.reg {N : Nat} {H : Heap} (h : HR N ν σ H w) {b c : Nat} {p : Pt} {o : AO} (hν : ν b = some (c, p)) (ho : OR ν σ w b o) (hb : b < H.next)
    (hl : ∀ b' o' p', H.get b' = some o' → alive o' = true → ν b' = some (c, p') → b' = b) : HR N ν σ (H.put b o) w where
  fresh := h.fresh
  rel j x hj := by
    rw [Heap.get_put] at hj
    split at hj
    · rename_i e; subst e; injection hj with hj; subst hj; exact ho
    · exact h.rel j x hj
  sep i j x y c1 p1 p2 hi hax hj hay h1 h2 := by
    rw [Heap.get_put] at hi hj
    split at hi <;> split at hj
    · rename_i e1 e2; rw [e1, e2]
    · rename_i e1 e2
      subst e1
      rw [hν] at h1; injection h1 with h1; injection h1 with h1 _; subst h1
      exact (hl j y p2 hj hay h2).symm
    · rename_i e1 e2
      subst e2
      rw [hν] at h2; injection h2 with h2; injection h2 with h2 _; subst h2
      exact hl i x p1 hi hax h1
    · exact h.sep _ _ _ _ _ _ _ hi hax hj hay h1 h2
  base := h.base
  dom j x hj := by
    rw [Heap.get_put] at hj
    split at hj
    · rename_i e; subst e; exact hb
    · exact h.dom j x hj

theorem regP_next (m : Nat) : ∀ (l : List (Nat × Nat × AO)) (H : Heap), (regP m l H).1.next = H.next
  | [], _ => rfl
  | (i, b, o) :: rest, H => by
    simp only [regP]
    split
    · rw [regP_next m rest]; rfl
    · exact regP_next m rest H

theorem regP_hr {N : Nat} (m : Nat) : ∀ (l : List (Nat × Nat × AO)) (H : Heap), HR N ν σ H w →
    (∀ q ∈ l, m.testBit q.1 = true → ∃ c p, ν q.2.1 = some (c, p) ∧ OR ν σ w q.2.1 q.2.2 ∧ q.2.1 < H.next ∧ ∀ b' o' p', H.get b' = some o' → alive o' = true → ν b' = some (c, p') → b' = q.2.1) →
    (∀ q ∈ l, ∀ q' ∈ l, ∀ c p p', ν q.2.1 = some (c, p) → ν q'.2.1 = some (c, p') → q.2.1 = q'.2.1) →
    HR N ν σ (regP m l H).1 w ∧ ∀ c, Live (regP m l H).1 ν c → Live H ν c ∨ ∃ q ∈ l, m.testBit q.1 = true ∧ ∃ p, ν q.2.1 = some (c, p)
  | [], H, h, _, _ => ⟨h, fun c l => .inl l⟩
  | (i, b, o) :: rest, H, h, hq, hd => by
    simp only [regP]
    split
    · rename_i hb
      obtain ⟨c, p, h1, h2, h3, h4⟩ := hq (i, b, o) (List.mem_cons_self ..) hb
      have hreg := h.reg h1 h2 h3 h4
      obtain ⟨k1, k2⟩ := regP_hr m rest (H.put b o) hreg (fun q hqm hqb => by
          obtain ⟨c', p', j1, j2, j3, j4⟩ := hq q (List.mem_cons_of_mem _ hqm) hqb
          refine ⟨c', p', j1, j2, j3, fun b' o' p'' g1 g2 g3 => ?_⟩
          rw [Heap.get_put] at g1
          split at g1
          · rename_i e; subst e
            exact hd (i, b', o) (List.mem_cons_self ..) q (List.mem_cons_of_mem _ hqm) c' p'' p' g3 j1
          · exact j4 b' o' p'' g1 g2 g3)
        (fun q hqm q' hqm' => hd q (List.mem_cons_of_mem _ hqm) q' (List.mem_cons_of_mem _ hqm'))
      refine ⟨k1, fun c' hl => ?_⟩
      rcases k2 c' hl with hl | ⟨q, hqm, hqb, hp⟩
      · obtain ⟨j, x, p', g1, g2, g3⟩ := hl
        rw [Heap.get_put] at g1
        split at g1
        · rename_i e; subst e
          exact .inr ⟨(i, j, o), List.mem_cons_self .., hb, p', g3⟩
        · exact .inl ⟨j, x, p', g1, g2, g3⟩
      · exact .inr ⟨q, List.mem_cons_of_mem _ hqm, hqb, hp⟩
    · obtain ⟨k1, k2⟩ := regP_hr m rest H h (fun q hqm hqb => hq q (List.mem_cons_of_mem _ hqm) hqb) (fun q hqm q' hqm' => hd q (List.mem_cons_of_mem _ hqm) q' (List.mem_cons_of_mem _ hqm'))
      refine ⟨k1, fun c' hl => ?_⟩
      rcases k2 c' hl with hl | ⟨q, hqm, hqb, hp⟩
      · exact .inl hl
      · exact .inr ⟨q, List.mem_cons_of_mem _ hqm, hqb, hp⟩

theorem alloc_old {k : Nat} {obj : Obj} (hk : k < w.heap.size) : (w.alloc obj).heap[k]? = w.heap[k]? := by
  show (w.heap.push obj)[k]? = _
  rw [Array.getElem?_push, if_neg (by omega)]

/-- A new block of the machine's that is not looked at yet. -/
theorem HR.side {N : Nat} {H : Heap} (h : HR N ν σ H w) (hN : N ≤ w.heap.size) {b : Nat} {pt : Pt} {obj : Obj} (hb : ν b = none) (hlt : b < H.next) : HR N (addPl ν b (w.heap.size, pt)) σ H (w.alloc obj) where
  fresh j hj := by unfold addPl; rw [if_neg (by omega)]; exact h.fresh j hj
  rel j x hj := (h.rel j x hj).mono (addPl_le hb) (fun c p _ hc => alloc_old (h.base j c p hc).2)
  sep i j x y c p p' hi hax hj hay h1 h2 := by
    have key : ∀ (k : Nat) (z : AO) (p : Pt), H.get k = some z → alive z = true → addPl ν b (w.heap.size, pt) k = some (c, p) → ν k = some (c, p) := by
      intro k z p hk hz hν
      unfold addPl at hν
      split at hν
      · rename_i e; subst e
        obtain ⟨c0, p0, h0⟩ := (h.rel k z hk).some_of hz
        rw [hb] at h0; cases h0
      · exact hν
    exact h.sep i j x y c p p' hi hax hj hay (key i x p hi hax h1) (key j y p' hj hay h2)
  base j c p hj := by
    unfold addPl at hj
    split at hj
    · injection hj with hj; injection hj with e _; subst e
      exact ⟨hN, by simp⟩
    · have := h.base j c p hj
      exact ⟨this.1, by simp; omega⟩
  dom := h.dom

section run
variable {call : CallF} {N : Nat} {L : List Oper} {ms : List Nat} {tm0 : Tr AV} {H0 : Heap} {base : Nat} {kd : Nat → Kd} {val : Nat → AV}

/-- How things stand when some of the operations have been done. -/
structure RTI (P : Program) (N : Nat) (σ : Nat → Value) (L : List Oper) (ms : List Nat) (tm0 : Tr AV) (H0 Hs : Heap) (base : Nat) (kd : Nat → Kd) (val : Nat → AV) (ν0 : Pl) (a0 : Act) (w0 : World) (D : Nat → Bool) (ν : Pl) (last : Option Nat) (a : Act) (w : World) : Prop where
  closed : ∀ j, D j = true → ∀ l, (msk ms j).testBit l = true → D l = true
  dlt : ∀ j, D j = true → j < L.length
  lst : LastOf kd (fun j => D j = true) last
  tm : ∀ t, VR ν σ (cur L tm0 val D t) (a.tmps.getD t undef)
  sz : a.tmps.size = a0.tmps.size
  df : a.defers = a0.defers
  hr : HR N ν σ (heapAt H0 kd last) w
  ext : Ext Hs ν0 w0 (heapAt H0 kd last) ν w
  hN : N ≤ w.heap.size
  nx : base + L.length ≤ (heapAt H0 kd last).next
  un : ∀ j xs al, D j = true → kd j = .alloc xs al → (∀ b, (kd b).isBig = true → Upto last b → (msk ms b).testBit j = false) →
    ∃ c p, ν (base + j) = some (c, p) ∧ w0.heap.size ≤ c ∧ ¬ Live (heapAt H0 kd last) ν c ∧ OR ν σ w (base + j) al.obj
  dist : ∀ j j' c p p', j < L.length → j' < L.length → ν (base + j) = some (c, p) → ν (base + j') = some (c, p') → j = j'
  new : ∀ j, j < L.length → D j = false → ν (base + j) = none

def addD (D : Nat → Bool) (i : Nat) : Nat → Bool := fun j => if j = i then true else D j

theorem cur_add {D : Nat → Bool} {i : Nat} {o : Oper} (ht : Txt L ms) (ho : L[i]? = some o) {a : Act} (htm : ∀ t, VR ν σ (cur L tm0 val D t) (a.tmps.getD t undef)) {x : Value} (hv : ∀ d, o.dst = some d → VR ν σ (val i) x) (hd : ∀ d, o.dst = some d → d < a.tmps.size) :
    ∀ t, VR ν σ (cur L tm0 val (addD D i) t) ((a.put o.dst x).tmps.getD t undef) := by
  intro t
  have hne : o.dst ≠ some t → cur L tm0 val (addD D i) t = cur L tm0 val D t := by
    intro hne
    unfold cur
    cases hw : writer L t with
    | none => rfl
    | some j =>
      have hj : j ≠ i := by
        intro e; subst e
        unfold writer at hw
        obtain ⟨hlt, h1, _⟩ := List.findIdx?_eq_some_iff_getElem.1 hw
        have h2 : L[j]? = some L[j] := List.getElem?_eq_getElem hlt
        rw [ho] at h2; injection h2 with h2
        rw [← h2] at h1
        simp at h1
        exact hne h1
      simp only [addD, if_neg hj]
  cases hdst : o.dst with
  | none =>
    rw [hne (by rw [hdst]; simp)]
    exact htm t
  | some d =>
    have hlt := hd d hdst
    simp only [Act.put]
    by_cases e : t = d
    · subst e
      unfold cur
      rw [ht.wr i o t ho hdst]
      simp only [addD, if_true, Array.getD_eq_getD_getElem?, Array.getElem?_setIfInBounds, hlt, Option.getD_some]
      exact hv t hdst
    · rw [hne (by rw [hdst]; simp; exact fun h => e h.symm)]
      have := htm t
      simp only [Array.getD_eq_getD_getElem?, Array.getElem?_setIfInBounds] at this ⊢
      rw [if_neg (fun h => e h.symm)]
      exact this

/-- What an operation looks at has not turned since the text's time. -/
theorem looks_same {D : Nat → Bool} (ht : Txt L ms) {i : Nat} {o : Oper} (ho : L[i]? = some o) (hcl : ∀ j, D j = true → ∀ l, (msk ms j).testBit l = true → D l = true) (hDi : D i = false) (hmask : ∀ l, (msk ms i).testBit l = true → D l = true)
    {t : Tmp} (hl : t ∈ looks L o) : cur L tm0 val (ltb i) t = cur L tm0 val D t := by
  unfold cur
  cases hw : writer L t with
  | none => rfl
  | some j =>
    have : ltb i j = D j := by
      rcases ht.lk i o t j ho hl hw with h | h | h
      · rw [hmask j h]
        have := ht.bit_lt h
        simp [ltb, this]
      · have hlt := ht.bit_lt h
        have : D j = false := by
          cases hj : D j with
          | false => rfl
          | true =>
            have := hcl j hj i h
            rw [hDi] at this; cases this
        rw [this]
        simp [ltb]; omega
      · subst h
        rw [hDi]; simp [ltb]
    simp only [this]

theorem opnd_looks {o : Oper} {t : Tmp} (h : Operand.tmp t ∈ opnds o.op) : t ∈ looks L o := by
  unfold looks
  refine List.mem_append_left _ (List.mem_filterMap.2 ⟨_, h, rfl⟩)

theorem guard_looks {o oj : Oper} {j : Nat} {b : Bool} {d : Tmp} (h : o.guard = some (j, b)) (hj : L[j]? = some oj) (hd : oj.dst = some d) : d ∈ looks L o := by
  unfold looks
  rw [h]
  simp only [hj, hd]
  exact List.mem_append_right _ (List.mem_singleton.2 rfl)

variable {Hs : Heap} {ν0 : Pl} {a0 : Act} {w0 : World}

/-- One more has been done, no great one; the machine's memory has at most one block more. -/
theorem RTI.small {D : Nat → Bool} {last : Option Nat} {a : Act} (ht : Txt L ms) (h : RTI P N σ L ms tm0 H0 Hs base kd val ν0 a0 w0 D ν last a w) {i : Nat} {o : Oper} (ho : L[i]? = some o) (hDi : D i = false) (hmask : ∀ l, (msk ms i).testBit l = true → D l = true)
    (hd : ∀ d, o.dst = some d → d < a.tmps.size) (hb : (kd i).isBig = false) (ha : ∀ xs al, kd i ≠ .alloc xs al) {x : Value} (hv : VR ν σ (val i) x) :
    RTI P N σ L ms tm0 H0 Hs base kd val ν0 a0 w0 (addD D i) ν last (a.put o.dst x) w where
  closed j hj l hl := by
    unfold addD at hj ⊢
    split at hj
    · rename_i e; subst e
      split
      · rfl
      · exact hmask l hl
    · split
      · rfl
      · exact h.closed j hj l hl
  dlt j hj := by
    unfold addD at hj
    split at hj
    · rename_i e; subst e; exact (List.getElem?_eq_some_iff.1 ho).1
    · exact h.dlt j hj
  lst := by
    cases last with
    | none =>
      intro j hj
      simp only [addD] at hj
      split at hj
      · rename_i e; subst e; exact hb
      · exact h.lst j hj
    | some c =>
      obtain ⟨h1, h2, h3⟩ := h.lst
      refine ⟨h1, ?_, ?_⟩
      · simp only [addD]; split
        · rfl
        · exact h2
      · intro j hj hjb
        simp only [addD] at hj
        split at hj
        · rename_i e; subst e; rw [hb] at hjb; cases hjb
        · exact h3 j hj hjb
  tm := cur_add ht ho h.tm (fun _ _ => hv) hd
  sz := put_size.trans h.sz
  df := put_defers.trans h.df
  hr := h.hr
  ext := h.ext
  hN := h.hN
  nx := h.nx
  un j xs al hj hk := by
    have : j ≠ i := by intro e; subst e; exact ha xs al hk
    simp only [addD, if_neg this] at hj
    exact h.un j xs al hj hk
  dist := h.dist
  new j hj hn := by
    unfold addD at hn
    split at hn
    · cases hn
    · exact h.new j hj hn

/-- One more has been made. -/
theorem RTI.made {D : Nat → Bool} {last : Option Nat} {a : Act} (ht : Txt L ms) (h : RTI P N σ L ms tm0 H0 Hs base kd val ν0 a0 w0 D ν last a w) (hw0 : w0.heap.size ≤ w.heap.size) {i : Nat} {o : Oper} (ho : L[i]? = some o) (hDi : D i = false) (hmask : ∀ l, (msk ms i).testBit l = true → D l = true)
    (hd : ∀ d, o.dst = some d → d < a.tmps.size) {xs : List AV} {al : NewA} (hk : kd i = .alloc xs al) (hval : val i = al.val (base + i)) (hbase : Hs.next = base) {x : Value} {obj : Obj} (hnew : NewOk ν σ w al x obj) :
    ∃ ν', RTI P N σ L ms tm0 H0 Hs base kd val ν0 a0 w0 (addD D i) ν' last (a.put o.dst x) (w.alloc obj) := by
  have hi : i < L.length := (List.getElem?_eq_some_iff.1 ho).1
  have hνi : ν (base + i) = none := h.new i hi hDi
  have hb : (kd i).isBig = false := by rw [hk]; rfl
  have hle : PlLe ν (addPl ν (base + i) (w.heap.size, ptOf obj)) := addPl_le hνi
  have hlt : base + i < (heapAt H0 kd last).next := by have := h.nx; omega
  obtain ⟨n1, n2⟩ := hnew _ (base + i) hle addPl_self
  have hside := h.hr.side (pt := ptOf obj) (obj := obj) h.hN hνi hlt
  have hlive : ∀ c, c < w.heap.size → Live (heapAt H0 kd last) (addPl ν (base + i) (w.heap.size, ptOf obj)) c → Live (heapAt H0 kd last) ν c := by
    intro c hc hl
    obtain ⟨j, y, p, g1, g2, g3⟩ := hl
    refine ⟨j, y, p, g1, g2, ?_⟩
    unfold addPl at g3
    split at g3
    · injection g3 with g3; injection g3 with e _; omega
    · exact g3
  have hext : Ext (heapAt H0 kd last) ν w (heapAt H0 kd last) (addPl ν (base + i) (w.heap.size, ptOf obj)) (w.alloc obj) → True := fun _ => trivial
  have hext' : Ext Hs ν0 w0 (heapAt H0 kd last) (addPl ν (base + i) (w.heap.size, ptOf obj)) (w.alloc obj) := by
    refine ⟨h.ext.le.trans hle, h.ext.next, fun b hb' => ?_, h.ext.os, h.ext.tape, h.ext.output, Nat.le_trans h.ext.size (by simp), fun c hc hl => ?_, fun c hc hl => ?_⟩
    · unfold addPl
      rw [if_neg (by omega)]
      exact h.ext.old b hb'
    · rw [alloc_old (by omega)]
      exact h.ext.keep c hc hl
    · exact h.ext.live c hc (hlive c (by omega) hl)
  refine ⟨addPl ν (base + i) (w.heap.size, ptOf obj), ⟨?_, ?_, ?_, ?_, put_size.trans h.sz, put_defers.trans h.df, hside, hext', Nat.le_trans h.hN (by simp), h.nx, ?_, ?_, ?_⟩⟩
  · intro j hj l hl
    unfold addD at hj ⊢
    split at hj
    · rename_i e; subst e
      split
      · rfl
      · exact hmask l hl
    · split
      · rfl
      · exact h.closed j hj l hl
  · intro j hj
    unfold addD at hj
    split at hj
    · rename_i e; subst e; exact hi
    · exact h.dlt j hj
  · cases last with
    | none =>
      intro j hj
      simp only [addD] at hj
      split at hj
      · rename_i e; subst e; exact hb
      · exact h.lst j hj
    | some c =>
      obtain ⟨h1, h2, h3⟩ := h.lst
      refine ⟨h1, ?_, ?_⟩
      · simp only [addD]; split
        · rfl
        · exact h2
      · intro j hj hjb
        simp only [addD] at hj
        split at hj
        · rename_i e; subst e; rw [hb] at hjb; cases hjb
        · exact h3 j hj hjb
  · exact cur_add ht ho (fun t => VR.mono hle _ _ (h.tm t)) (fun _ _ => by rw [hval]; exact n1) hd
  · intro j ys al' hj hk' hbb
    by_cases e : j = i
    · subst e
      rw [hk] at hk'; injection hk' with e1 e2; subst e2
      refine ⟨w.heap.size, ptOf obj, addPl_self, hw0, ?_, n2 _ (heap_alloc_new w obj)⟩
      rintro ⟨j', y, p, g1, g2, g3⟩
      unfold addPl at g3
      split at g3
      · rename_i e; subst e
        obtain ⟨c0, p0, h0⟩ := (h.hr.rel _ y g1).some_of g2
        rw [hνi] at h0; cases h0
      · exact absurd (h.hr.base _ _ _ g3).2 (Nat.lt_irrefl _)
    · simp only [addD, if_neg e] at hj
      obtain ⟨c, p, g1, g2, g3, g4⟩ := h.un j ys al' hj hk' hbb
      have hc := (h.hr.base _ _ _ g1).2
      refine ⟨c, p, hle _ _ g1, g2, fun hl => g3 (hlive c hc hl), g4.mono hle (fun c' p' _ hc' => alloc_old (h.hr.base _ _ _ hc').2)⟩
  · intro j j' c p p' hj hj' h1 h2
    unfold addPl at h1 h2
    split at h1 <;> split at h2
    · rename_i e1 e2; omega
    · injection h1 with h1; injection h1 with h1 _; subst h1
      exact absurd (h.hr.base _ _ _ h2).2 (Nat.lt_irrefl _)
    · injection h2 with h2; injection h2 with h2 _; subst h2
      exact absurd (h.hr.base _ _ _ h1).2 (Nat.lt_irrefl _)
    · exact h.dist j j' c p p' hj hj' h1 h2
  · intro j hj hn
    unfold addD at hn
    split at hn
    · cases hn
    · rename_i e
      unfold addPl
      rw [if_neg (by omega)]
      exact h.new j hj hn
end run
end Go.Proofs.YtblpmmociahklaaGreatDoor.Sx
