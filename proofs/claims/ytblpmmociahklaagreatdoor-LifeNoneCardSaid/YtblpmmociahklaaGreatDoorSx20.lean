/- A statement whose order is open: it comes to the same in every order. -/
import Derived.Test.YtblpmmociahklaaGreatDoorSx19
namespace Go.Proofs.YtblpmmociahklaaGreatDoor.Sx
open Go

variable {P : Program} {ν : Pl} {σ : Nat → Value} {w : World}

section run
variable {call : CallF} {N : Nat} {L : List Oper} {ms : List Nat} {tm0 : Tr AV} {H0 : Heap} {base : Nat} {kd : Nat → Kd} {val : Nat → AV}
variable {Hs : Heap} {ν0 : Pl} {a0 : Act} {w0 : World}

/-- The last great one, before one that can come up now. -/
theorem RTI.lastOf {D : Nat → Bool} {last : Option Nat} {a : Act} (ht : Txt L ms) (h : RTI P N σ L ms tm0 H0 Hs base kd val ν0 a0 w0 D ν last a w) {i : Nat} (hDi : D i = false) (hmask : ∀ l, (msk ms i).testBit l = true → D l = true)
    (hchain : ∀ b, b < i → (kd b).isBig = true → (msk ms i).testBit b = true) (hall : ∀ j b, D j = true → (kd j).isBig = true → b < j → (kd b).isBig = true → (msk ms j).testBit b = true) (hbi : (kd i).isBig = true) :
    LastOf kd (fun b => b < i) last ∧ ∀ c, last = some c → c < i := by
  have hlt : ∀ j, D j = true → (kd j).isBig = true → j < i := by
    intro j hj hjb
    rcases Nat.lt_trichotomy j i with h1 | h1 | h1
    · exact h1
    · subst h1; rw [hDi] at hj; cases hj
    · have := h.closed j hj i (hall j i hj hjb h1 hbi)
      rw [hDi] at this; cases this
  cases last with
  | none =>
    refine ⟨fun j hj => ?_, fun c hc => by cases hc⟩
    cases hb : (kd j).isBig with
    | false => rfl
    | true =>
      have := h.lst j (hmask j (hchain j hj hb))
      rw [hb] at this; cases this
  | some c =>
    obtain ⟨h1, h2, h3⟩ := h.lst
    refine ⟨⟨h1, hlt c h2 h1, fun j hj hb => h3 j (hmask j (hchain j hj hb)) hb⟩, fun c' hc => ?_⟩
    injection hc with hc; subst hc
    exact hlt c h2 h1

/-- Those that were made ahead are taken in. -/
theorem RTI.taken {D : Nat → Bool} {last : Option Nat} {a : Act} (h : RTI P N σ L ms tm0 H0 Hs base kd val ν0 a0 w0 D ν last a w) {m n : Nat} {pend : List (Nat × Nat × AO)} (hp : PendOf ms base kd n pend)
    (hin : ∀ q ∈ pend, m.testBit q.1 = true → D q.1 = true) (hup : ∀ b, (kd b).isBig = true → Upto last b → b < n) (hnL : n ≤ L.length) :
    HR N ν σ (regP m pend (heapAt H0 kd last)).1 w ∧ Ext Hs ν0 w0 (regP m pend (heapAt H0 kd last)).1 ν w ∧
    ∀ j xs al, D j = true → kd j = .alloc xs al → (∀ b, (kd b).isBig = true → Upto last b → (msk ms b).testBit j = false) → m.testBit j = false →
      ∃ c p, ν (base + j) = some (c, p) ∧ w0.heap.size ≤ c ∧ ¬ Live (regP m pend (heapAt H0 kd last)).1 ν c ∧ OR ν σ w (base + j) al.obj := by
  have hun : ∀ q ∈ pend, m.testBit q.1 = true → ∃ c p, ν q.2.1 = some (c, p) ∧ w0.heap.size ≤ c ∧ ¬ Live (heapAt H0 kd last) ν c ∧ OR ν σ w q.2.1 q.2.2 := by
    intro q hq hm
    have hD := hin q hq hm
    obtain ⟨j, xs, al, rfl, hj, hk, hbb⟩ := hp.2 q hq
    exact h.un j xs al hD hk (fun b hb hu => hbb b (hup b hb hu) hb)
  obtain ⟨k1, k2⟩ := regP_hr (N := N) (σ := σ) (w := w) (ν := ν) m pend (heapAt H0 kd last) h.hr (fun q hq hm => by
      obtain ⟨c, p, g1, g2, g3, g4⟩ := hun q hq hm
      refine ⟨c, p, g1, g4, ?_, fun b' o' p' e1 e2 e3 => absurd ⟨b', o', p', e1, e2, e3⟩ g3⟩
      obtain ⟨j, xs, al, rfl, hj, hk, hbb⟩ := hp.2 q hq
      have := h.nx
      simp only; omega) (fun q hq q' hq' c p p' e1 e2 => by
      obtain ⟨j, xs, al, rfl, hj, hk, hbb⟩ := hp.2 q hq
      obtain ⟨j', xs', al', rfl, hj', hk', hbb'⟩ := hp.2 q' hq'
      have := h.dist j j' c p p' (by omega) (by omega) e1 e2
      simp [this])
  refine ⟨k1, ⟨h.ext.le, by rw [regP_next]; exact h.ext.next, h.ext.old, h.ext.os, h.ext.tape, h.ext.output, h.ext.size, h.ext.keep, fun c hc hl => ?_⟩, ?_⟩
  · rcases k2 c hl with hl | ⟨q, hq, hm, p, hν⟩
    · exact h.ext.live c hc hl
    · obtain ⟨c', p', g1, g2, _, _⟩ := hun q hq hm
      rw [hν] at g1; injection g1 with g1; injection g1 with g1 _; omega
  · intro j xs al hD hk hbb hm
    obtain ⟨c, p, g1, g2, g3, g4⟩ := h.un j xs al hD hk hbb
    refine ⟨c, p, g1, g2, fun hl => ?_, g4⟩
    rcases k2 c hl with hl | ⟨q, hq, hm', p', hν⟩
    · exact g3 hl
    · obtain ⟨j', xs', al', rfl, hj', hk', hbb'⟩ := hp.2 q hq
      have := h.dist j j' c p p' (h.dlt j hD) (by omega) g1 hν
      subst this
      simp only at hm'
      rw [hm] at hm'; cases hm'

/-- A great one more. -/
theorem RTI.great {D : Nat → Bool} {last : Option Nat} {a : Act} (ht : Txt L ms) (h : RTI P N σ L ms tm0 H0 Hs base kd val ν0 a0 w0 D ν last a w) {i : Nat} {o : Oper} (ho : L[i]? = some o) (hDi : D i = false) (hmask : ∀ l, (msk ms i).testBit l = true → D l = true)
    (hd : ∀ d, o.dst = some d → d < a.tmps.size) {xs : List AV} {pend : List (Nat × Nat × AO)} {reg : Heap} {s' : St} (hk : kd i = .big xs pend reg s') (hlast : LastOf kd (fun b => b < i) last) (hlt : ∀ c, last = some c → c < i)
    (hreg : reg = (regP (msk ms i) pend (heapAt H0 kd last)).1)
    (hext : Ext Hs ν0 w0 reg ν w)
    (hun : ∀ j xs al, D j = true → kd j = .alloc xs al → (∀ b, (kd b).isBig = true → Upto last b → (msk ms b).testBit j = false) → (msk ms i).testBit j = false → ∃ c p, ν (base + j) = some (c, p) ∧ w0.heap.size ≤ c ∧ ¬ Live reg ν c ∧ OR ν σ w (base + j) al.obj)
    {x : Value} {ν' : Pl} {w' : World} (hv : ∀ d, o.dst = some d → VR ν' σ (val i) x) (hr' : HR N ν' σ s'.H w') (he' : Ext reg ν w s'.H ν' w') :
    RTI P N σ L ms tm0 H0 Hs base kd val ν0 a0 w0 (addD D i) ν' (some i) (a.put o.dst x) w' := by
  have hi : i < L.length := (List.getElem?_eq_some_iff.1 ho).1
  have hbi : (kd i).isBig = true := by rw [hk]; rfl
  have hat : heapAt H0 kd (some i) = s'.H := by simp only [heapAt, hk]
  have hnx : reg.next = (heapAt H0 kd last).next := by rw [hreg, regP_next]
  have hnx2 := h.nx
  refine ⟨?_, ?_, ?_, ?_, put_size.trans h.sz, put_defers.trans h.df, by rw [hat]; exact hr', by rw [hat]; exact hext.trans he', Nat.le_trans h.hN he'.size, by rw [hat]; exact Nat.le_trans (by rw [hnx]; exact h.nx) he'.next, ?_, ?_, ?_⟩
  · intro j hj l hl
    unfold addD at hj ⊢
    split at hj
    · rename_i e; subst e
      split
      · rfl
      · exact hmask l hl
    · split
      · rfl
      · exact h.closed j hj l hl
  · intro j hj
    unfold addD at hj
    split at hj
    · rename_i e; subst e; exact hi
    · exact h.dlt j hj
  · refine ⟨hbi, by simp [addD], fun j hj hjb => ?_⟩
    simp only [addD] at hj
    split at hj
    · rename_i e; omega
    · cases last with
      | none =>
        have := h.lst j hj
        rw [hjb] at this; cases this
      | some c =>
        have h1 := h.lst.2.2 j hj hjb
        have h2 := hlt c rfl
        omega
  · exact cur_add ht ho (fun t => VR.mono he'.le _ _ (h.tm t)) hv hd
  · intro j ys al hj hkj hbb
    have hji : j ≠ i := by intro e; subst e; rw [hk] at hkj; cases hkj
    simp only [addD, if_neg hji] at hj
    obtain ⟨c, p, g1, g2, g3, g4⟩ := hun j ys al hj hkj (fun b hb hu => hbb b hb (by
      obtain ⟨c, hc, hle⟩ := hu
      exact ⟨i, rfl, by have := hlt c hc; omega⟩)) (hbb i hbi ⟨i, rfl, Nat.le_refl _⟩)
    have hc := (h.hr.base _ _ _ g1).2
    refine ⟨c, p, he'.le _ _ g1, g2, fun hl => g3 (he'.live c hc (by rw [hat] at hl; exact hl)), g4.mono he'.le (fun c' p' _ hc' => ?_)⟩
    rw [g1] at hc'; injection hc' with hc'; injection hc' with e1 _; subst e1
    exact he'.keep c hc g3
  · intro j j' c p p' hj hj' h1 h2
    rw [he'.old _ (by omega)] at h1 h2
    exact h.dist j j' c p p' hj hj' h1 h2
  · intro j hj hn
    unfold addD at hn
    split at hn
    · cases hn
    · rw [he'.old _ (by omega)]
      exact h.new j hj hn

theorem filt_le (p q : Nat → Bool) (hpq : ∀ x, q x = true → p x = true) : ∀ l : List Nat, (l.filter q).length ≤ (l.filter p).length
  | [] => by simp
  | x :: l => by
    have := filt_le p q hpq l
    rw [List.filter_cons, List.filter_cons]
    split
    · rename_i h; rw [if_pos (hpq x h)]; simpa using this
    · split
      · simp; omega
      · exact this
theorem filt_lt (p q : Nat → Bool) (hpq : ∀ x, q x = true → p x = true) (i : Nat) (h1 : p i = true) (h2 : q i = false) : ∀ l : List Nat, i ∈ l → (l.filter q).length < (l.filter p).length
  | [], h => by cases h
  | x :: l, h => by
    have hle := filt_le p q hpq l
    rw [List.filter_cons, List.filter_cons]
    by_cases e : x = i
    · subst e
      rw [h1, h2]
      simp; omega
    · have hm : i ∈ l := by
        rcases List.mem_cons.1 h with h | h
        · exact absurd h.symm e
        · exact h
      have := filt_lt p q hpq i h1 h2 l hm
      split
      · rename_i h; rw [if_pos (hpq x h)]; simpa using this
      · split
        · simp; omega
        · exact this

def listedD (listed : Array Bool) : Nat → Bool := fun j => listed.getD j false

theorem listed_set {listed : Array Bool} {i : Nat} (hi : i < listed.size) : listedD (listed.setIfInBounds i true) = addD (listedD listed) i := by
  funext j
  unfold listedD addD
  simp only [Array.getD_eq_getD_getElem?, Array.getElem?_setIfInBounds]
  by_cases e : i = j
  · subst e; simp [hi]
  · rw [if_neg e, if_neg (fun h => e h.symm)]

/-- The edges, as the masks have them. -/
structure Edg (L : List Oper) (ms : List Nat) : Prop where
  on : ∀ i o, L[i]? = some o → ∀ e ∈ o.after, Region.binds .any e = true → (msk ms i).testBit e.on = true
  of : ∀ i o l, L[i]? = some o → (msk ms i).testBit l = true → ∃ e ∈ o.after, Region.binds .any e = true ∧ (l = e.on ∨ (msk ms e.on).testBit l = true)

variable {r : Option Nat} {n : Nat} {Q : Exit → Act → World → Prop}

set_option maxHeartbeats 2000000 in
theorem any_wp (hσ : ∀ i, (σ i).oneCell' = true) (hcall : CallOk P N σ call) {ops : Array Oper} (hops : ops.toList = L) (ht : Txt L ms) (hedg : Edg L ms) (hfct : ∀ j o, L[j]? = some o → Fct P call L ms tm0 H0 base kd val L.length j o) (hkd : ∀ j, L.length ≤ j → (kd j).isBig = false)
    (hdst : ∀ (i : Nat) o, L[i]? = some o → ∀ d, o.dst = some d → d < a0.tmps.size) (hdf : r ≠ none → ∀ (i : Nat) o, L[i]? = some o → ∀ c, o.op ≠ .defer c) (hbase : Hs.next = base)
    (hQ : ∀ D ν last a w, (∀ j, j < L.length → D j = true) → RTI P N σ L ms tm0 H0 Hs base kd val ν0 a0 w0 D ν last a w → Q .normal a w) :
    ∀ (fuel : Nat) (listed : Array Bool) (ν : Pl) (last : Option Nat) (a : Act) (w : World), listed.size = ops.size → ((List.range L.length).filter fun j => !listedD listed j).length ≤ fuel →
      RTI P N σ L ms tm0 H0 Hs base kd val ν0 a0 w0 (listedD listed) ν last a w → wpAnyIn (FR r) n P .any ops Q fuel listed a w := by
  have hsz : ops.size = L.length := by rw [← hops]; simp
  have hget : ∀ i : Nat, ops[i]? = L[i]? := fun i => by rw [← hops]; simp
  have hall : ∀ j b, (kd j).isBig = true → b < j → (kd b).isBig = true → (msk ms j).testBit b = true := by
    intro j b hjb hlt hbb
    have hj : j < L.length := by
      rcases Nat.lt_or_ge j L.length with h | h
      · exact h
      · rw [hkd j h] at hjb; cases hjb
    obtain ⟨tmj, _, h2⟩ := hfct j _ (List.getElem?_eq_getElem hj)
    cases hk : kd j with
    | big xs pend reg s' =>
      rw [hk] at h2
      exact h2.2.2.2.2.2.2.2.2 b hlt hbb
    | _ => rw [hk] at hjb; cases hjb
  have hready : ∀ (listed : Array Bool), listed.size = ops.size → Region.ready .any ops listed = [] → ∀ j, j < L.length → listedD listed j = true := by
    intro listed hls hr j
    induction j using Nat.strongRecOn with
    | _ j ih =>
      intro hj
      cases hD : listedD listed j with
      | true => rfl
      | false =>
        exfalso
        have ho : L[j]? = some L[j] := List.getElem?_eq_getElem hj
        have : j ∈ Region.ready .any ops listed := mem_ready.2 ⟨by
          unfold listedD at hD
          rw [Array.getD_eq_getD_getElem?] at hD ⊢
          rw [Array.getElem?_eq_getElem (by omega)] at hD ⊢
          exact hD, L[j], by rw [hget, ho], fun e he hb => ih e.on (ht.bit_lt (hedg.on j _ ho e he hb)) (by have := ht.bit_lt (hedg.on j _ ho e he hb); omega)⟩
        rw [hr] at this; cases this
  intro fuel
  induction fuel with
  | zero =>
    intro listed ν last a w hls hcnt hrti
    have hD : ∀ j, j < L.length → listedD listed j = true := by
      intro j hj
      cases hD : listedD listed j with
      | true => rfl
      | false =>
        exfalso
        have : j ∈ (List.range L.length).filter fun j => !listedD listed j := List.mem_filter.2 ⟨List.mem_range.2 hj, by simp [hD]⟩
        have := List.length_pos_of_mem this
        omega
    refine ⟨?_, hQ _ ν last a w hD hrti⟩
    refine List.eq_nil_iff_forall_not_mem.2 fun j hj => ?_
    obtain ⟨h1, o, h2, _⟩ := mem_ready.1 hj
    have hjl : j < L.length := by rw [hget] at h2; exact (List.getElem?_eq_some_iff.1 h2).1
    have := hD j hjl
    unfold listedD at this
    rw [Array.getD_eq_getD_getElem?, Array.getElem?_eq_getElem (by omega)] at h1 this
    simp at h1 this
    rw [h1] at this; cases this
  | succ fuel ih =>
    intro listed ν last a w hls hcnt hrti
    refine ⟨fun hr => hQ _ ν last a w (hready listed hls hr) hrti, fun i hi => ?_⟩
    obtain ⟨h1, o, ho', hedges⟩ := mem_ready.1 hi
    have ho : L[i]? = some o := by rw [← hget]; exact ho'
    have hil : i < L.length := (List.getElem?_eq_some_iff.1 ho).1
    have hDi : listedD listed i = false := by
      unfold listedD
      rw [Array.getD_eq_getD_getElem?, Array.getElem?_eq_getElem (by omega)] at h1 ⊢
      exact h1
    have hmask : ∀ l, (msk ms i).testBit l = true → listedD listed l = true := by
      intro l hl
      obtain ⟨e, he, hb, h⟩ := hedg.of i o l ho hl
      have h1 : listedD listed e.on = true := hedges e he hb
      rcases h with rfl | h
      · exact h1
      · exact hrti.closed e.on h1 l h
    have hgo : ∀ ν' last' a' w', RTI P N σ L ms tm0 H0 Hs base kd val ν0 a0 w0 (addD (listedD listed) i) ν' last' a' w' → wpAnyIn (FR r) n P .any ops Q fuel (listed.setIfInBounds i true) a' w' := by
      intro ν' last' a' w' h
      rw [← listed_set (by omega)] at h
      refine ih _ ν' last' a' w' (by simp [hls]) ?_ h
      have := filt_lt (fun j => !listedD listed j) (fun j => !listedD (listed.setIfInBounds i true) j) (fun x hx => by
        rw [listed_set (by omega)] at hx
        unfold addD at hx
        split at hx
        · cases hx
        · exact hx) i (by simp [hDi]) (by rw [listed_set (by omega)]; simp [addD]) (List.range L.length) (List.mem_range.2 hil)
      omega
    have hdi : ∀ d, o.dst = some d → d < a.tmps.size := fun d hd => by rw [hrti.sz]; exact hdst i o ho d hd
    obtain ⟨tmi, htmi, hF⟩ := hfct i o ho
    have hlook : ∀ t, t ∈ looks L o → VR ν σ (tmA tmi t) (a.tmps.getD t undef) := by
      intro t hl
      rw [htmi, looks_same ht ho hrti.closed hDi hmask hl]
      exact hrti.tm t
    have hwant : ∀ b, wantF L tmi o.guard = some b → Region.wanted o (yielded ops a.tmps) = b := fun b hb => want_rel (ops := ops) (by rw [hops]; exact hb) (fun j w' oj d hg hj hd => hlook d (guard_looks hg (by rw [← hget]; exact hj) hd))
    have hops' : ∀ xs, opds tmi (opnds o.op) = some xs → VRs ν σ xs ((opnds o.op).map a.eval) := fun xs hxs => opds_rel (fun t htt => hlook t (opnd_looks htt)) hxs
    unfold wpOpIn
    rw [ho']
    simp only
    cases hk : kd i with
    | off =>
      rw [hk] at hF
      rw [hwant _ hF.1]
      simp only [Bool.false_eq_true, if_false]
      exact ⟨fun _ _ => trivial, hgo _ _ _ _ (hrti.small ht ho hDi hmask hdi (by rw [hk]; rfl) (by rw [hk]; simp) (by rw [hF.2]; exact undef_rel))⟩
    | pure xs =>
      rw [hk] at hF
      obtain ⟨f1, f2, f3, f4⟩ := hF
      rw [hwant _ f1]
      simp only [if_true]
      exact pure_wp hσ f3 f4 (hops' xs f2) (fun x hx => hgo _ _ _ _ (hrti.small ht ho hDi hmask hdi (by rw [hk]; rfl) (by rw [hk]; simp) hx))
    | read xs =>
      rw [hk] at hF
      obtain ⟨f1, f2, f3, f4⟩ := hF
      rw [hwant _ f1]
      simp only [if_true]
      obtain ⟨u, hu, hsame⟩ := f4 last (fun c hc => by
          subst hc
          exact ⟨hrti.lst.1, hrti.dlt c hrti.lst.2.1⟩) (fun b _ hbb hbit => by
          have hDb := hmask b hbit
          cases last with
          | none => have := hrti.lst b hDb; rw [hbb] at this; cases this
          | some c => exact ⟨c, rfl, hrti.lst.2.2 b hDb hbb⟩) (fun b _ hbb hu => by
          obtain ⟨c, hc, hle⟩ := hu
          subst hc
          have hDb : listedD listed b = true := by
            rcases Nat.lt_or_ge b c with h | h
            · exact hrti.closed c hrti.lst.2.1 b (hall c b hrti.lst.1 h hbb)
            · have : b = c := by omega
              subst this; exact hrti.lst.2.1
          cases hbit : (msk ms b).testBit i with
          | false => rfl
          | true => have := hrti.closed b hDb i hbit; rw [hDi] at this; cases this)
      have hue := same_eq _ _ hsame
      subst hue
      exact read_wp hrti.hr f3 hu (hops' xs f2) (fun x hx => hgo _ _ _ _ (hrti.small ht ho hDi hmask hdi (by rw [hk]; rfl) (by rw [hk]; simp) hx))
    | alloc xs al =>
      rw [hk] at hF
      obtain ⟨f1, f2, f3, f4, f5⟩ := hF
      rw [hwant _ f1]
      simp only [if_true]
      refine alloc_wp hσ f3 f4 (hops' xs f2) (fun x obj hok => ?_)
      obtain ⟨ν', h⟩ := hrti.made ht hrti.ext.size ho hDi hmask hdi hk f5 hbase hok
      exact hgo _ _ _ _ h
    | big xs pend reg s' =>
      rw [hk] at hF
      obtain ⟨f1, f2, f3, ⟨out, f4, f5⟩, f6, f7, f8, f9, f10⟩ := hF
      rw [hwant _ f1]
      simp only [if_true]
      have hbi : (kd i).isBig = true := by rw [hk]; rfl
      obtain ⟨l1, l2⟩ := hrti.lastOf ht hDi hmask f10 (fun j b _ hjb hlt hbb => hall j b hjb hlt hbb) hbi
      have hreg := f9 last l1
      obtain ⟨t1, t2, t3⟩ := hrti.taken (m := msk ms i) f8 (fun q _ hq => hmask _ hq) (fun b hbb hu => by
        obtain ⟨c, hc, hle⟩ := hu
        have := l2 c hc; omega) (by omega)
      rw [← hreg] at t1 t2 t3
      refine big_wp (s := { tm := tmi, df := [], H := reg }) hσ hcall t1 hrti.hN f4 f5 (hops' xs f2) (fun hr => hdf hr i o ho) ?_ ?_
      · intro v x ν' w' htm hv hr' he' _
        refine hgo _ _ _ _ (hrti.great ht ho hDi hmask hdi hk l1 l2 hreg t2 t3 (fun d hd => ?_) hr' he')
        rw [f7 d hd, htm, hd]
        simp only [putT, tmA, Tr.get_set, if_true]
        exact hv
      · intro d D hdf' _ _ _
        rw [f6] at hdf'; cases hdf'
end run
end Go.Proofs.YtblpmmociahklaaGreatDoor.Sx
