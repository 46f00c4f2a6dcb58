/- Statements. -/
import Derived.Test.YtblpmmociahklaaGreatDoorSx20
namespace Go.Proofs.YtblpmmociahklaaGreatDoor.Sx
open Go

variable {P : Program} {ν : Pl} {σ : Nat → Value} {w : World}

def aheadOf (acc : List Nat) (o : Oper) : Nat := o.after.foldl (fun s e => if Region.binds .any e then s ||| 2 ^ e.on ||| acc.getD e.on 0 else s) 0

theorem ahead_fold (acc : List Nat) : ∀ (es : List Edge) (s l : Nat), (es.foldl (fun s e => if Region.binds .any e then s ||| 2 ^ e.on ||| acc.getD e.on 0 else s) s).testBit l = true ↔
    s.testBit l = true ∨ ∃ e ∈ es, Region.binds .any e = true ∧ (l = e.on ∨ (acc.getD e.on 0).testBit l = true)
  | [], s, l => by simp
  | e :: es, s, l => by
    rw [List.foldl_cons, ahead_fold acc es]
    by_cases hb : Region.binds .any e = true
    · rw [if_pos hb]
      simp only [Nat.testBit_or, Nat.testBit_two_pow, Bool.or_eq_true, decide_eq_true_eq, List.mem_cons]
      constructor
      · rintro (((h | h) | h) | ⟨e', h1, h2, h3⟩)
        · exact .inl h
        · exact .inr ⟨e, .inl rfl, hb, .inl h.symm⟩
        · exact .inr ⟨e, .inl rfl, hb, .inr h⟩
        · exact .inr ⟨e', .inr h1, h2, h3⟩
      · rintro (h | ⟨e', h1 | h1, h2, h3⟩)
        · exact .inl (.inl (.inl h))
        · subst h1
          rcases h3 with h3 | h3
          · exact .inl (.inl (.inr h3.symm))
          · exact .inl (.inr h3)
        · exact .inr ⟨e', h1, h2, h3⟩
    · rw [if_neg hb]
      simp only [List.mem_cons]
      constructor
      · rintro (h | ⟨e', h1, h2, h3⟩)
        · exact .inl h
        · exact .inr ⟨e', .inr h1, h2, h3⟩
      · rintro (h | ⟨e', h1 | h1, h2, h3⟩)
        · exact .inl h
        · subst h1; exact absurd h2 hb
        · exact .inr ⟨e', h1, h2, h3⟩

theorem aheadOf_bit (acc : List Nat) (o : Oper) (l : Nat) : (aheadOf acc o).testBit l = true ↔ ∃ e ∈ o.after, Region.binds .any e = true ∧ (l = e.on ∨ (acc.getD e.on 0).testBit l = true) := by
  unfold aheadOf
  rw [← Array.foldl_toList, ahead_fold]
  simp

theorem ahead_all : ∀ (L : List Oper) (acc : List Nat), ∃ more : List Nat, aheadL L acc = acc ++ more ∧ more.length = L.length ∧ ∀ i o, L[i]? = some o → more[i]? = some (aheadOf (acc ++ more.take i) o)
  | [], acc => ⟨[], by simp [aheadL], rfl, fun i o h => by simp at h⟩
  | o :: L, acc => by
    obtain ⟨more, h1, h2, h3⟩ := ahead_all L (acc ++ [aheadOf acc o])
    refine ⟨aheadOf acc o :: more, ?_, by simp [h2], fun i o' ho => ?_⟩
    · show aheadL L (acc ++ [aheadOf acc o]) = _
      rw [h1]; simp
    · cases i with
      | zero => simp at ho; subst ho; simp
      | succ i =>
        have := h3 i o' (by simpa using ho)
        simpa using this

theorem ahead_len (L : List Oper) : (aheadL L []).length = L.length := by
  obtain ⟨more, h1, h2, _⟩ := ahead_all L []
  rw [h1]; simpa using h2

theorem edg_of (L : List Oper) (ht : Txt L (aheadL L [])) : Edg L (aheadL L []) := by
  obtain ⟨more, h1, h2, h3⟩ := ahead_all L []
  have hms : aheadL L [] = more := by rw [h1]; simp
  rw [hms] at ht ⊢
  have key : ∀ i o, L[i]? = some o → msk more i = aheadOf (more.take i) o := by
    intro i o ho
    unfold msk
    rw [List.getD_eq_getElem?_getD, h3 i o ho]; simp
  have htake : ∀ i k l, ((more.take i).getD k 0).testBit l = true → (msk more k).testBit l = true := by
    intro i k l h
    unfold msk
    rw [List.getD_eq_getElem?_getD] at h ⊢
    rw [List.getElem?_take] at h
    split at h
    · exact h
    · simp at h
  constructor
  · intro i o ho e he hb
    rw [key i o ho, aheadOf_bit]
    exact ⟨e, he, hb, .inl rfl⟩
  · intro i o l ho hl
    rw [key i o ho, aheadOf_bit] at hl
    obtain ⟨e, he, hb, h⟩ := hl
    exact ⟨e, he, hb, h.imp id (htake i e.on l)⟩

section region
variable {r : Option Nat} {n : Nat} {Q : Exit → Act → World → Prop} {call : CallF} {N : Nat}

theorem bump_hr {H : Heap} (h : HR N ν σ H w) (k : Nat) : HR N ν σ { H with next := H.next + k } w :=
  ⟨fun b hb => h.fresh b (by have : H.next + k ≤ b := hb; omega), h.rel, h.sep, h.base, fun b o hb => by have := h.dom b o hb; show b < H.next + k; omega⟩

def kdOf (log : List (Kd × AV)) (j : Nat) : Kd := match log.reverse[j]? with | some (k, _) => k | none => .off
def valOf (log : List (Kd × AV)) (j : Nat) : AV := match log.reverse[j]? with | some (_, v) => v | none => undefA

theorem region_wp (hσ : ∀ i, (σ i).oneCell' = true) (hcall : CallOk P N σ call) (hmix : P.follows .mixedOrders = true) {id : Nat} {ops : Array Oper} {draw : Bool} {s s' : St} (h : regionF P call ops.toList draw s = some s') {a : Act} (hs : SR N ν σ s a w)
    (hdst : ∀ (i : Nat) o, ops[i]? = some o → ∀ d, o.dst = some d → d < a.tmps.size) (hdf : r ≠ none → ∀ (i : Nat) o, ops[i]? = some o → ∀ c, o.op ≠ .defer c)
    (k : ∀ ν' a' w', SR N ν' σ s' a' w' → a'.tmps.size = a.tmps.size → Ext s.H ν w s'.H ν' w' → Q .normal a' w') : (Code.region id ops draw).wpIn (FR r) n P Q a w := by
  unfold regionF at h
  split at h
  · rename_i hdraw
    subst hdraw
    split at h
    rotate_left
    · cases h
    rename_i htext
    split at h
    rotate_left
    · cases h
    rename_i R hR
    injection h with h; subst h
    generalize hL : ops.toList = L at *
    have ht : Txt L (aheadL L []) := txt_of (ahead_len L) htext
    have hedg := edg_of L ht
    have hlen : (L.zip (aheadL L [])).length = L.length := by simp [ahead_len]
    have hget : ∀ i : Nat, ops[i]? = L[i]? := fun i => by rw [← hL]; simp
    have hops : ops.size = L.length := by rw [← hL]; simp
    have hinv := draw_inv (P := P) (call := call) (tm0 := s.tm) (H0 := { s.H with next := s.H.next + L.length }) (kd := kdOf R.log) (val := valOf R.log) ht (L.zip (aheadL L [])) 0 _ R (by simp) hR
      (fun j kk v hj => by unfold kdOf valOf; rw [hj]; exact ⟨rfl, rfl⟩)
      ⟨rfl, fun t => by
          unfold cur
          cases writer L t <;> simp [ltb], fun j o hj => absurd hj (Nat.not_lt_zero _), fun j => by simp, List.Pairwise.nil, rfl, rfl, ⟨fun j xs al hj => absurd hj (Nat.not_lt_zero _), fun q hq => by cases hq⟩,
        fun j xs o hj => absurd hj (Nat.not_lt_zero _)⟩
    rw [Nat.zero_add, hlen] at hinv
    have hw : HR N ν σ s.H w.drew := hs.hr.same same_drew
    refine wpIn_region_any hmix ?_
    refine any_wp (call := call) (N := N) (σ := σ) (L := L) (ms := aheadL L []) (tm0 := s.tm) (H0 := { s.H with next := s.H.next + L.length }) (base := s.H.next) (kd := kdOf R.log) (val := valOf R.log) (Hs := s.H) (ν0 := ν) (a0 := a) (w0 := w.drew)
      hσ hcall hL ht hedg (fun j o ho => hinv.fct j o (List.getElem?_eq_some_iff.1 ho).1 ho) (fun j hj => by
        unfold kdOf
        rw [List.getElem?_eq_none (by rw [List.length_reverse, hinv.len]; exact hj)]; rfl)
      (fun i o ho => hdst i o (by rw [hget]; exact ho)) (fun hr i o ho => hdf hr i o (by rw [hget]; exact ho)) rfl ?_ ops.size _ ν none a w.drew (by simp) ?_ ?_
    · -- the end
      intro D ν' last a' w' hD hrti
      have hiff : ∀ j, D j = true ↔ j < L.length := fun j => ⟨hrti.dlt j, hD j⟩
      have hlast : LastOf (kdOf R.log) (fun b => b < L.length) last := by
        cases last with
        | none => exact fun j hj => hrti.lst j ((hiff j).2 hj)
        | some c => exact ⟨hrti.lst.1, (hiff c).1 hrti.lst.2.1, fun j hj hb => hrti.lst.2.2 j ((hiff j).2 hj) hb⟩
      have hH : R.H = heapAt { s.H with next := s.H.next + L.length } (kdOf R.log) last := by rw [hinv.H, last_head hinv hlast]
      obtain ⟨t1, t2, _⟩ := hrti.taken (m := 2 ^ L.length - 1) hinv.pend (fun q hq _ => by
        obtain ⟨j, xs, al, rfl, hj, _⟩ := hinv.pend.2 q hq
        exact hD j hj) (fun b hb hu => by
        obtain ⟨c, hc, hle⟩ := hu
        subst hc
        have := (hiff c).1 hrti.lst.2.1
        omega) (Nat.le_refl _)
      rw [← hH] at t1 t2
      refine k ν' a' w' ⟨fun t => ?_, ?_, t1, hrti.hN⟩ hrti.sz ((Ext.same same_drew).trans t2)
      · have := hrti.tm t
        have he : cur L s.tm (valOf R.log) D t = cur L s.tm (valOf R.log) (ltb L.length) t := by
          unfold cur
          cases hwr : writer L t with
          | none => rfl
          | some j =>
            have hj : j < L.length := by
              unfold writer at hwr
              obtain ⟨hlt, _⟩ := List.findIdx?_eq_some_iff_getElem.1 hwr
              exact hlt
            have : D j = ltb L.length j := by rw [hD j hj]; simp [ltb, hj]
            simp only [this]
        rw [he, ← hinv.tm t] at this
        exact this
      · rw [hrti.df]
        exact hs.df.mono t2.le
    · exact Nat.le_trans (List.length_filter_le _ _) (by simp [hops])
    · have hDf : ∀ j, listedD (Array.replicate ops.size false) j = false := fun j => by
        unfold listedD
        rw [Array.getD_eq_getD_getElem?]
        by_cases hj : j < ops.size
        · simp [hj]
        · rw [Array.getElem?_eq_none (by simpa using hj)]; rfl
      have hfr : ∀ j, ν (s.H.next + j) = none := fun j => hs.hr.fresh _ (by omega)
      have hno : ∀ j, listedD (Array.replicate ops.size false) j = true → False := fun j hj => by rw [hDf] at hj; cases hj
      refine ⟨fun j hj => (hno j hj).elim, fun j hj => (hno j hj).elim, fun j hj => (hno j hj).elim, fun t => ?_, rfl, rfl, bump_hr hw _, ?_, hs.hN, Nat.le_refl _, fun j xs al hj => (hno j hj).elim,
        fun j j' c p p' _ _ h1 => (by rw [hfr] at h1; cases h1), fun j _ _ => hfr j⟩
      · have : cur L s.tm (valOf R.log) (listedD (Array.replicate ops.size false)) t = tmA s.tm t := by
          unfold cur
          cases writer L t with
          | none => rfl
          | some j => simp [hDf]
        rw [this]
        exact hs.tm t
      · exact ⟨PlLe.refl ν, Nat.le_add_right _ _, fun _ _ => rfl, rfl, rfl, rfl, Nat.le_refl _, fun _ _ _ => rfl, fun _ _ l => l⟩
  · rename_i hdraw
    have hd : draw = false := by simpa using hdraw
    subst hd
    refine wpIn_region ?_
    rw [List.range_eq_range']
    have := seq_wp (r := r) (n := n) (Q := Q) hσ hcall hdst hdf ops.toList 0 (by simp) s s' h ν a w hs rfl (fun ν' a' w' h1 h2 h3 => k ν' a' w' h1 h2 h3)
    simpa using this
end region
end Go.Proofs.YtblpmmociahklaaGreatDoor.Sx
