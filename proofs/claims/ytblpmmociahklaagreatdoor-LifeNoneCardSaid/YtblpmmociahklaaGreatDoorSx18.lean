/- A statement whose order is open: what the evaluator's run through it says. -/
import Derived.Test.YtblpmmociahklaaGreatDoorSx17
namespace Go.Proofs.YtblpmmociahklaaGreatDoor.Sx
open Go

def Kd.isBig : Kd → Bool
  | .big _ _ _ _ => true
  | _ => false

section facts
variable (P : Program) (call : CallF) (L : List Oper) (ms : List Nat) (tm0 : Tr AV) (H0 : Heap) (base : Nat) (kd : Nat → Kd) (val : Nat → AV)

def msk (j : Nat) : Nat := ms.getD j 0
def cur (D : Nat → Bool) (t : Tmp) : AV := match writer L t with | some j => if D j then val j else tmA tm0 t | none => tmA tm0 t
def ltb (i : Nat) : Nat → Bool := fun j => decide (j < i)
def heapAt : Option Nat → Heap
  | none => H0
  | some b => (match kd b with | .big _ _ _ s' => s'.H | _ => H0)
def LastOf (D : Nat → Prop) : Option Nat → Prop
  | none => ∀ j, D j → (kd j).isBig = false
  | some c => (kd c).isBig = true ∧ D c ∧ ∀ j, D j → (kd j).isBig = true → j ≤ c
def Upto (last : Option Nat) (j : Nat) : Prop := ∃ c, last = some c ∧ j ≤ c
def PendOf (n : Nat) (l : List (Nat × Nat × AO)) : Prop :=
  (∀ j xs a, j < n → kd j = .alloc xs a → (∀ b, b < n → (kd b).isBig = true → (msk ms b).testBit j = false) → (j, base + j, a.obj) ∈ l) ∧
  (∀ q ∈ l, ∃ j xs a, q = (j, base + j, a.obj) ∧ j < n ∧ kd j = .alloc xs a ∧ (∀ b, b < n → (kd b).isBig = true → (msk ms b).testBit j = false))

def FctOf (i j : Nat) (o : Oper) (tmj : Tr AV) : Kd → Prop
  | .off => wantF L tmj o.guard = some false ∧ val j = undefA
  | .pure xs => wantF L tmj o.guard = some true ∧ opds tmj (opnds o.op) = some xs ∧ clsOf P o.op = .pure ∧ pureF P o.op xs = some (val j)
  | .read xs => wantF L tmj o.guard = some true ∧ opds tmj (opnds o.op) = some xs ∧ clsOf P o.op = .read ∧
      ∀ last, (∀ c, last = some c → (kd c).isBig = true ∧ c < i) → (∀ b, b < i → (kd b).isBig = true → (msk ms j).testBit b = true → Upto last b) →
        (∀ b, b < i → (kd b).isBig = true → Upto last b → (msk ms b).testBit j = false) → ∃ u, readF P o.op xs (heapAt H0 kd last) = some u ∧ AV.same u (val j) = true
  | .alloc xs a => wantF L tmj o.guard = some true ∧ opds tmj (opnds o.op) = some xs ∧ clsOf P o.op = .alloc ∧ allocF P o.op xs = some a ∧ val j = a.val (base + j)
  | .big xs pend reg s' => wantF L tmj o.guard = some true ∧ opds tmj (opnds o.op) = some xs ∧ clsOf P o.op = .big ∧
      (∃ out, bigF P o.op xs reg = some out ∧ outF call o.dst { tm := tmj, df := [], H := reg } out = some s') ∧ s'.df = [] ∧ (∀ d, o.dst = some d → val j = tmA s'.tm d) ∧
      PendOf ms base kd j pend ∧ (∀ last, LastOf kd (fun b => b < j) last → reg = (regP (msk ms j) pend (heapAt H0 kd last)).1) ∧ (∀ b, b < j → (kd b).isBig = true → (msk ms j).testBit b = true)

def Fct (i j : Nat) (o : Oper) : Prop := ∃ tmj : Tr AV, (∀ t, tmA tmj t = cur L tm0 val (ltb j) t) ∧ FctOf P call L ms H0 base kd val i j o tmj (kd j)

structure Inv (i : Nat) (s : Dr) : Prop where
  len : s.log.length = i
  tm : ∀ t, tmA s.tm t = cur L tm0 val (ltb i) t
  fct : ∀ j o, j < i → L[j]? = some o → Fct P call L ms tm0 H0 base kd val i j o
  bigs : ∀ j, j ∈ s.bigs ↔ j < i ∧ (kd j).isBig = true
  sorted : s.bigs.Pairwise (· > ·)
  snaps : s.snaps = (s.bigs.map fun b => heapAt H0 kd (some b)) ++ [H0]
  H : s.H = heapAt H0 kd s.bigs.head?
  pend : PendOf ms base kd i s.pend
  wts : ∀ j xs o, j < i → L[j]? = some o → kd j = .read xs → (∀ b, b < i → (kd b).isBig = true → (msk ms b).testBit j = false) → { i := j, op := o.op, xs := xs, v := val j : Wt } ∈ s.wts
end facts

/-- What the text says. -/
structure Txt (L : List Oper) (ms : List Nat) : Prop where
  len : ms.length = L.length
  lt : ∀ i, msk ms i < 2 ^ i
  wr : ∀ i o t, L[i]? = some o → o.dst = some t → writer L t = some i
  lk : ∀ i o t j, L[i]? = some o → t ∈ looks L o → writer L t = some j → (msk ms i).testBit j = true ∨ (msk ms j).testBit i = true ∨ i = j

theorem txt_of {L : List Oper} {ms : List Nat} (hl : ms.length = L.length) (h : textOk L ms = true) : Txt L ms := by
  unfold textOk at h
  rw [List.all_eq_true] at h
  have key : ∀ i o, L[i]? = some o → msk ms i < 2 ^ i ∧ (∀ t, o.dst = some t → writer L t = some i) ∧
      ∀ t ∈ looks L o, ∀ j, writer L t = some j → (msk ms i).testBit j = true ∨ (msk ms j).testBit i = true ∨ i = j := by
    intro i o ho
    have hi : i < L.length := (List.getElem?_eq_some_iff.1 ho).1
    have h1 := h i (List.mem_range.2 hi)
    rw [ho] at h1
    have hm : ms[i]? = some (msk ms i) := by
      unfold msk
      rw [List.getD_eq_getElem?_getD, List.getElem?_eq_getElem (by omega)]; rfl
    rw [hm] at h1
    simp only [Bool.and_eq_true, decide_eq_true_eq] at h1
    obtain ⟨⟨h2, h3⟩, h4⟩ := h1
    refine ⟨h2, ?_, ?_⟩
    · intro t ht
      rw [ht] at h3
      simpa using h3
    · intro t ht j hj
      rw [List.all_eq_true] at h4
      have := h4 t ht
      rw [hj] at this
      simp only [Bool.or_eq_true, beq_iff_eq] at this
      rcases this with (h | h) | h
      · exact .inl h
      · exact .inr (.inl h)
      · exact .inr (.inr h)
  refine ⟨hl, ?_, fun i o t ho ht => (key i o ho).2.1 t ht, fun i o t j ho ht hj => (key i o ho).2.2 t ht j hj⟩
  intro i
  rcases Nat.lt_or_ge i L.length with hi | hi
  · exact (key i _ (List.getElem?_eq_getElem hi)).1
  · unfold msk
    rw [List.getD_eq_getElem?_getD, List.getElem?_eq_none (by omega)]
    exact Nat.two_pow_pos i

theorem Txt.bit_lt {L : List Oper} {ms : List Nat} (h : Txt L ms) {i j : Nat} (hb : (msk ms i).testBit j = true) : j < i := by
  rcases Nat.lt_or_ge j i with h1 | h1
  · exact h1
  · have := Nat.testBit_lt_two_pow (Nat.lt_of_lt_of_le (h.lt i) (Nat.pow_le_pow_right (by decide) h1))
    rw [this] at hb; cases hb

section steps
variable {P : Program} {call : CallF} {L : List Oper} {ms : List Nat} {tm0 : Tr AV} {H0 : Heap} {base : Nat} {kd : Nat → Kd} {val : Nat → AV}

theorem cur_step (ht : Txt L ms) {i : Nat} {o : Oper} (ho : L[i]? = some o) {tm : Tr AV} (h : ∀ t, tmA tm t = cur L tm0 val (ltb i) t) {v : AV} (hv : ∀ d, o.dst = some d → val i = v) :
    ∀ t, tmA (putT tm o.dst v) t = cur L tm0 val (ltb (i + 1)) t := by
  intro t
  have hne : o.dst ≠ some t → cur L tm0 val (ltb (i + 1)) t = cur L tm0 val (ltb i) t := by
    intro hne
    unfold cur
    cases hw : writer L t with
    | none => rfl
    | some j =>
      have hj : j ≠ i := by
        intro e; subst e
        unfold writer at hw
        have := List.findIdx?_eq_some_iff_getElem.1 hw
        obtain ⟨hlt, h1, _⟩ := this
        have h2 : L[j]? = some L[j] := List.getElem?_eq_getElem hlt
        rw [ho] at h2; injection h2 with h2
        rw [← h2] at h1
        simp at h1
        exact hne h1
      have : ltb (i + 1) j = ltb i j := by
        unfold ltb
        by_cases h : j < i
        · simp [h]; omega
        · have : ¬ j < i + 1 := by omega
          simp [h, this]
      simp only [this]
  cases hd : o.dst with
  | none =>
    rw [hne (by rw [hd]; simp)]
    exact h t
  | some d =>
    by_cases e : t = d
    · subst e
      simp only [putT, tmA, Tr.get_set, if_true]
      unfold cur
      rw [ht.wr i o t ho hd]
      have : ltb (i + 1) i = true := by simp [ltb]
      simp only [this, if_true]
      exact (hv t hd).symm
    · rw [hne (by rw [hd]; simp; exact fun h => e h.symm)]
      rw [← h t]
      simp only [putT, tmA, Tr.get_set, if_neg e]

theorem regP_snd (m : Nat) : ∀ (l : List (Nat × Nat × AO)) (H : Heap), (regP m l H).2 = l.filter fun q => !m.testBit q.1
  | [], _ => rfl
  | (i, b, o) :: rest, H => by
    simp only [regP]
    rw [List.filter_cons]
    split
    · rename_i hb
      rw [regP_snd m rest]
      simp [hb]
    · rename_i hb
      have := regP_snd m rest H
      simp only [Bool.not_eq_true] at hb
      simp [hb, this]

theorem readAll_mem {o : Op} {xs : List AV} {v : AV} : ∀ {Hs : List Heap}, readAll P o xs v Hs = true → ∀ H ∈ Hs, ∃ u, readF P o xs H = some u ∧ AV.same u v = true
  | [], _, H, hH => by cases hH
  | H1 :: Hs, h, H, hH => by
    simp only [readAll, Bool.and_eq_true] at h
    rcases List.mem_cons.1 hH with rfl | hH
    · have h1 := h.1
      split at h1
      · rename_i u hu; exact ⟨u, hu, h1⟩
      · cases h1
    · exact readAll_mem h.2 H hH

theorem holdW_mem {H : Heap} {ws : List Wt} (h : holdW P H ws = true) {w : Wt} (hw : w ∈ ws) : ∃ u, readF P w.op w.xs H = some u ∧ AV.same u w.v = true := by
  unfold holdW at h
  rw [List.all_eq_true] at h
  have := h w hw
  split at this
  · rename_i u hu; exact ⟨u, hu, this⟩
  · cases this

/-- Where one stands in a falling list. -/
theorem pos_in (p : Nat → Bool) : ∀ (l : List Nat) (c : Nat), l.Pairwise (· > ·) → c ∈ l → (∀ b ∈ l, c < b → p b = true) → ∃ d, l[d]? = some c ∧ d ≤ (l.filter p).length
  | [], c, _, hc, _ => by cases hc
  | x :: l, c, hp, hc, h => by
    rcases List.mem_cons.1 hc with rfl | hc
    · exact ⟨0, by simp, by omega⟩
    · rw [List.pairwise_cons] at hp
      have hx : c < x := hp.1 c hc
      obtain ⟨d, h1, h2⟩ := pos_in p l c hp.2 hc (fun b hb => h b (List.mem_cons_of_mem _ hb))
      refine ⟨d + 1, by simpa using h1, ?_⟩
      rw [List.filter_cons, h x (List.mem_cons_self ..) hx]
      simpa using h2

theorem outF_tm {d : Option Tmp} {s s' : St} {out : Out} (h : outF call d s out = some s') : ∃ v, s'.tm = putT s.tm d v := by
  unfold outF at h
  split at h
  · injection h with h; subst h; exact ⟨_, rfl⟩
  · injection h with h; subst h; exact ⟨_, rfl⟩
  · injection h with h; subst h; exact ⟨_, rfl⟩
  · split at h
    · injection h with h; subst h; exact ⟨_, rfl⟩
    · cases h
  · split at h
    · injection h with h; subst h; exact ⟨_, rfl⟩
    · cases h

/-- An operation that is not a great one leaves the earlier facts as they are. -/
theorem Fct.next {i j : Nat} {o : Oper} (hb : (kd i).isBig = false) (h : Fct P call L ms tm0 H0 base kd val i j o) : Fct P call L ms tm0 H0 base kd val (i + 1) j o := by
  obtain ⟨tmj, h1, h2⟩ := h
  refine ⟨tmj, h1, ?_⟩
  cases hk : kd j with
  | off => rw [hk] at h2; exact h2
  | pure xs => rw [hk] at h2; exact h2
  | alloc xs a => rw [hk] at h2; exact h2
  | big xs pend reg s' => rw [hk] at h2; exact h2
  | read xs =>
    rw [hk] at h2
    obtain ⟨k1, k2, k3, k4⟩ := h2
    refine ⟨k1, k2, k3, fun last hl hin hout => k4 last (fun c hc => ?_) (fun b hb' => hin b (by omega)) (fun b hb' => hout b (by omega))⟩
    obtain ⟨c1, c2⟩ := hl c hc
    refine ⟨c1, ?_⟩
    have : c ≠ i := by intro e; subst e; rw [hb] at c1; cases c1
    omega

/-- One step further, no great one. -/
theorem Inv.next {i : Nat} {o : Oper} (ht : Txt L ms) (ho : L[i]? = some o) {s s1 : Dr} (h : Inv P call L ms tm0 H0 base kd val i s) (hb : (kd i).isBig = false) (hlog : s1.log.length = i + 1) {v : AV} (htm : s1.tm = putT s.tm o.dst v) (hv : val i = v)
    (hfct : Fct P call L ms tm0 H0 base kd val (i + 1) i o) (hbigs : s1.bigs = s.bigs) (hsn : s1.snaps = s.snaps) (hH : s1.H = s.H) (hpend : PendOf ms base kd (i + 1) s1.pend)
    (hw1 : ∀ w ∈ s.wts, w ∈ s1.wts) (hw2 : ∀ xs, kd i = .read xs → { i := i, op := o.op, xs := xs, v := val i : Wt } ∈ s1.wts) : Inv P call L ms tm0 H0 base kd val (i + 1) s1 where
  len := hlog
  tm := by rw [htm]; exact cur_step ht ho h.tm (fun _ _ => hv)
  fct j o' hj ho' := by
    rcases Nat.lt_or_ge j i with hji | hji
    · exact (h.fct j o' hji ho').next hb
    · have : j = i := by omega
      subst this
      rw [ho] at ho'; injection ho' with ho'; subst ho'
      exact hfct
  bigs j := by
    rw [hbigs, h.bigs]
    constructor
    · rintro ⟨h1, h2⟩; exact ⟨by omega, h2⟩
    · rintro ⟨h1, h2⟩
      have : j ≠ i := by intro e; subst e; rw [hb] at h2; cases h2
      exact ⟨by omega, h2⟩
  sorted := by rw [hbigs]; exact h.sorted
  snaps := by rw [hsn, hbigs]; exact h.snaps
  H := by rw [hH, hbigs]; exact h.H
  pend := hpend
  wts j xs o' hj ho' hk hbb := by
    rcases Nat.lt_or_ge j i with hji | hji
    · exact hw1 _ (h.wts j xs o' hji ho' hk (fun b hb' => hbb b (by omega)))
    · have : j = i := by omega
      subst this
      rw [ho] at ho'; injection ho' with ho'; subst ho'
      exact hw2 xs hk

theorem PendOf.same {i : Nat} {l : List (Nat × Nat × AO)} (h : PendOf ms base kd i l) (hb : (kd i).isBig = false) (ha : ∀ xs a, kd i ≠ .alloc xs a) : PendOf ms base kd (i + 1) l := by
  refine ⟨fun j xs a hj hk hbb => ?_, fun q hq => ?_⟩
  · have : j ≠ i := by intro e; subst e; exact ha xs a hk
    exact h.1 j xs a (by omega) hk (fun b hb' => hbb b (by omega))
  · obtain ⟨j, xs, a, h1, h2, h3, h4⟩ := h.2 q hq
    refine ⟨j, xs, a, h1, by omega, h3, fun b hb' hbig => ?_⟩
    have : b ≠ i := by intro e; subst e; rw [hb] at hbig; cases hbig
    exact h4 b (by omega) hbig

theorem last_head {i : Nat} {s : Dr} (h : Inv P call L ms tm0 H0 base kd val i s) {last : Option Nat} (hl : LastOf kd (fun b => b < i) last) : last = s.bigs.head? := by
  cases hb : s.bigs with
  | nil =>
    cases last with
    | none => rfl
    | some c =>
      obtain ⟨h1, h2, _⟩ := hl
      have := (h.bigs c).2 ⟨h2, h1⟩
      rw [hb] at this; cases this
  | cons x l =>
    have hx := (h.bigs x).1 (by rw [hb]; exact List.mem_cons_self ..)
    cases last with
    | none =>
      have := hl x hx.1
      rw [hx.2] at this; cases this
    | some c =>
      obtain ⟨h1, h2, h3⟩ := hl
      have hc := (h.bigs c).2 ⟨h2, h1⟩
      have hle := h3 x hx.1 hx.2
      rw [hb] at hc
      have hs := h.sorted
      rw [hb, List.pairwise_cons] at hs
      rcases List.mem_cons.1 hc with rfl | hc
      · rfl
      · have := hs.1 c hc
        exfalso; omega

theorem draw_log : ∀ (rest : List (Oper × Nat)) (i : Nat) (s r : Dr), drawF P call L base i rest s = some r → ∃ l, r.log = l ++ s.log
  | [], i, s, r, h => by injection h with h; subst h; exact ⟨[], rfl⟩
  | (o, m) :: rest, i, s, r, h => by
    have one : ∀ s1 : Dr, (∃ x, s1.log = x :: s.log) → drawF P call L base (i + 1) rest s1 = some r → ∃ l, r.log = l ++ s.log := by
      rintro s1 ⟨x, hx⟩ h1
      obtain ⟨l, hl⟩ := draw_log rest (i + 1) s1 r h1
      exact ⟨l ++ [x], by rw [hl, hx]; simp⟩
    simp only [drawF] at h
    split at h
    · cases h
    · exact one _ ⟨_, rfl⟩ h
    · split at h
      · cases h
      · split at h
        · split at h
          · exact one _ ⟨_, rfl⟩ h
          · cases h
        · split at h
          · split at h
            · exact one _ ⟨_, rfl⟩ h
            · cases h
          · cases h
        · split at h
          · exact one _ ⟨_, rfl⟩ h
          · cases h
        · split at h
          · split at h
            · split at h
              · split at h
                · split at h
                  · exact one _ ⟨_, rfl⟩ h
                  · cases h
                · cases h
              · cases h
            · cases h
          · cases h

set_option maxHeartbeats 2000000 in
theorem draw_inv (ht : Txt L ms) : ∀ (rest : List (Oper × Nat)) (i : Nat) (s r : Dr), (L.zip ms).drop i = rest → drawF P call L base i rest s = some r → (∀ (j : Nat) k v, r.log.reverse[j]? = some (k, v) → kd j = k ∧ val j = v) →
    Inv P call L ms tm0 H0 base kd val i s → Inv P call L ms tm0 H0 base kd val (i + rest.length) r
  | [], i, s, r, _, h, _, hinv => by injection h with h; subst h; exact hinv
  | (o, m) :: rest, i, s, r, hi, h, hkv, hinv => by
    have hz : (L.zip ms)[i]? = some (o, m) := by
      have := congrArg (·[0]?) hi
      simpa using this
    have hzz := List.getElem?_zip_eq_some.1 hz
    have ho : L[i]? = some o := hzz.1
    have hm : msk ms i = m := by unfold msk; rw [List.getD_eq_getElem?_getD, hzz.2]; rfl
    have hrest : (L.zip ms).drop (i + 1) = rest := by
      rw [← List.tail_drop, hi]; rfl
    have hlen : i + ((o, m) :: rest).length = i + 1 + rest.length := by simp; omega
    rw [hlen]
    have hil := hinv.len
    -- what the log says of this step
    have hthis : ∀ (s1 : Dr) k v, s1.log = (k, v) :: s.log → drawF P call L base (i + 1) rest s1 = some r → kd i = k ∧ val i = v := by
      intro s1 k v h1 h2
      obtain ⟨l, hl⟩ := draw_log rest (i + 1) s1 r h2
      refine hkv i k v ?_
      rw [hl, h1]
      simp only [List.reverse_append, List.reverse_cons, List.append_assoc]
      rw [List.getElem?_append_right (by simp [hil])]
      simp [hil]
    simp only [drawF] at h
    split at h
    · cases h
    · -- not wanted
      rename_i hw
      obtain ⟨hk, hv⟩ := hthis _ _ _ rfl h
      refine draw_inv ht rest (i + 1) _ r hrest h hkv ?_
      have hb : (kd i).isBig = false := by rw [hk]; rfl
      exact hinv.next ht ho hb (by simp [hil]) rfl hv ⟨s.tm, hinv.tm, by rw [hk]; exact ⟨hw, hv⟩⟩ rfl rfl rfl (hinv.pend.same hb (by rw [hk]; simp)) (fun _ h => h) (fun xs h => by rw [hk] at h; cases h)
    · rename_i hw
      split at h
      · cases h
      rename_i xs hxs
      split at h
      · -- pure
        rename_i hc
        split at h
        · rename_i v hpv
          obtain ⟨hk, hv⟩ := hthis _ _ _ rfl h
          refine draw_inv ht rest (i + 1) _ r hrest h hkv ?_
          have hb : (kd i).isBig = false := by rw [hk]; rfl
          exact hinv.next ht ho hb (by simp [hil]) rfl hv ⟨s.tm, hinv.tm, by rw [hk]; exact ⟨hw, hxs, hc, by rw [hv]; exact hpv⟩⟩ rfl rfl rfl (hinv.pend.same hb (by rw [hk]; simp)) (fun _ h => h) (fun xs h => by rw [hk] at h; cases h)
        · cases h
      · -- read
        rename_i hc
        split at h
        · rename_i v hrv
          split at h
          · rename_i hall
            obtain ⟨hk, hv⟩ := hthis _ _ _ rfl h
            refine draw_inv ht rest (i + 1) _ r hrest h hkv ?_
            have hb : (kd i).isBig = false := by rw [hk]; rfl
            refine hinv.next ht ho hb (by simp [hil]) rfl hv ⟨s.tm, hinv.tm, ?_⟩ rfl rfl rfl (hinv.pend.same hb (by rw [hk]; simp)) (fun _ h => List.mem_cons_of_mem _ h) (fun ys h => by rw [hk] at h; injection h with h; subst h; rw [hv]; exact List.mem_cons_self ..)
            rw [hk]
            refine ⟨hw, hxs, hc, fun last hl hin hout => ?_⟩
            rw [hv]
            refine readAll_mem hall _ ?_
            have hpass : ∀ b ∈ s.bigs, ¬ Upto last b → (!m.testBit b) = true := by
              intro b hb1 hb2
              obtain ⟨b1, b3⟩ := (hinv.bigs b).1 hb1
              cases hbit : m.testBit b with
              | false => rfl
              | true => exact absurd (hin b (by omega) b3 (by rw [hm]; exact hbit)) hb2
            rw [hinv.snaps]
            cases last with
            | none =>
              have hfil : s.bigs.filter (fun b => !m.testBit b) = s.bigs := List.filter_eq_self.2 (fun b hb1 => hpass b hb1 (by rintro ⟨c, hc, _⟩; cases hc))
              have : behind m s.bigs = s.bigs.length := by unfold behind; rw [hfil]
              rw [this, List.take_of_length_le (by simp)]
              simp [heapAt]
            | some c =>
              obtain ⟨c1, c2⟩ := hl c rfl
              have hci : c < i := by
                have : c ≠ i := by intro e; subst e; rw [hb] at c1; cases c1
                omega
              obtain ⟨d, hd1, hd2⟩ := pos_in (fun b => !m.testBit b) s.bigs c hinv.sorted ((hinv.bigs c).2 ⟨hci, c1⟩) (fun b hb1 hlt => hpass b hb1 (by rintro ⟨c', hc', hle⟩; injection hc' with hc'; omega))
              have hdl : d < s.bigs.length := (List.getElem?_eq_some_iff.1 hd1).1
              refine List.mem_of_getElem? (i := d) ?_
              rw [List.getElem?_take, if_pos (by unfold behind; omega), List.getElem?_append_left (by simpa using hdl), List.getElem?_map, hd1]
              rfl
          · cases h
        · cases h
      · -- alloc
        rename_i hc
        split at h
        · rename_i a ha
          obtain ⟨hk, hv⟩ := hthis _ _ _ rfl h
          refine draw_inv ht rest (i + 1) _ r hrest h hkv ?_
          have hb : (kd i).isBig = false := by rw [hk]; rfl
          refine hinv.next ht ho hb (by simp [hil]) rfl hv ⟨s.tm, hinv.tm, by rw [hk]; exact ⟨hw, hxs, hc, ha, hv⟩⟩ rfl rfl rfl ⟨?_, ?_⟩ (fun _ h => h) (fun xs h => by rw [hk] at h; cases h)
          · intro j ys a' hj hk' hbb
            rcases Nat.lt_or_ge j i with hji | hji
            · exact List.mem_cons_of_mem _ (hinv.pend.1 j ys a' hji hk' (fun b hb' => hbb b (by omega)))
            · have : j = i := by omega
              subst this
              rw [hk] at hk'; injection hk' with e1 e2; subst e2
              exact List.mem_cons_self ..
          · intro q hq
            rcases List.mem_cons.1 hq with rfl | hq
            · refine ⟨i, xs, a, rfl, by omega, hk, fun b hb' hbig => ?_⟩
              cases hbit : (msk ms b).testBit i with
              | false => rfl
              | true => have := ht.bit_lt hbit; omega
            · obtain ⟨j, ys, a', h1, h2, h3, h4⟩ := hinv.pend.2 q hq
              refine ⟨j, ys, a', h1, by omega, h3, fun b hb' hbig => ?_⟩
              have : b ≠ i := by intro e; subst e; rw [hb] at hbig; cases hbig
              exact h4 b (by omega) hbig
        · cases h
      · -- a great one
        rename_i hc
        split at h
        · rename_i hchain
          split at h
          · rename_i out hout
            split at h
            · rename_i s' hs'
              split at h
              · rename_i hdf
                split at h
                · rename_i hhold
                  obtain ⟨hk, hv⟩ := hthis _ _ _ rfl h
                  refine draw_inv ht rest (i + 1) _ r hrest h hkv ?_
                  have hbig : (kd i).isBig = true := by rw [hk]; rfl
                  have hat : heapAt H0 kd (some i) = s'.H := by simp only [heapAt, hk]
                  obtain ⟨v0, hv0⟩ := outF_tm hs'
                  refine ⟨by simp [hil], ?_, ?_, ?_, ?_, ?_, ?_, ?_, ?_⟩
                  · simp only
                    rw [hv0]
                    refine cur_step ht ho hinv.tm (fun d hd => ?_)
                    rw [hv]
                    simp only [bigV, hd, hv0, putT, tmA, Tr.get_set, if_true]
                  · intro j o' hj ho'
                    rcases Nat.lt_or_ge j i with hji | hji
                    · obtain ⟨tmj, h1, h2⟩ := hinv.fct j o' hji ho'
                      refine ⟨tmj, h1, ?_⟩
                      cases hkj : kd j with
                      | off => rw [hkj] at h2; exact h2
                      | pure xs => rw [hkj] at h2; exact h2
                      | alloc xs a => rw [hkj] at h2; exact h2
                      | big xs pend reg s' => rw [hkj] at h2; exact h2
                      | read ys =>
                        rw [hkj] at h2
                        obtain ⟨k1, k2, k3, k4⟩ := h2
                        refine ⟨k1, k2, k3, fun last hl hin hout' => ?_⟩
                        by_cases hlast : last = some i
                        · subst hlast
                          rw [hat]
                          have hmem := hinv.wts j ys o' hji ho' hkj (fun b hb' hbb => hout' b (by omega) hbb ⟨i, rfl, by omega⟩)
                          have hni := hout' i (by omega) hbig ⟨i, rfl, Nat.le_refl _⟩
                          rw [hm] at hni
                          exact holdW_mem hhold (List.mem_filter.2 ⟨hmem, by simp [hni]⟩)
                        · refine k4 last (fun c hc' => ?_) (fun b hb' => hin b (by omega)) (fun b hb' => hout' b (by omega))
                          obtain ⟨c1, c2⟩ := hl c hc'
                          have : c ≠ i := by intro e; subst e; exact hlast hc'
                          exact ⟨c1, by omega⟩
                    · have : j = i := by omega
                      subst this
                      rw [ho] at ho'; injection ho' with ho'; subst ho'
                      refine ⟨s.tm, hinv.tm, ?_⟩
                      rw [hk]
                      refine ⟨hw, hxs, hc, ⟨out, hout, hs'⟩, hdf, fun d hd => by rw [hv]; simp [bigV, hd], hinv.pend, fun last hl => ?_, fun b hb' hbb => ?_⟩
                      · rw [hm, last_head hinv hl, ← hinv.H]
                      · rw [hm]
                        rw [List.all_eq_true] at hchain
                        exact hchain b ((hinv.bigs b).2 ⟨hb', hbb⟩)
                  · intro j
                    simp only [List.mem_cons]
                    rw [hinv.bigs]
                    constructor
                    · rintro (rfl | ⟨h1, h2⟩)
                      · exact ⟨by omega, hbig⟩
                      · exact ⟨by omega, h2⟩
                    · rintro ⟨h1, h2⟩
                      by_cases e : j = i
                      · exact .inl e
                      · exact .inr ⟨by omega, h2⟩
                  · simp only [List.pairwise_cons]
                    exact ⟨fun b hb' => ((hinv.bigs b).1 hb').1, hinv.sorted⟩
                  · simp only [List.map_cons, List.cons_append, hat]
                    rw [hinv.snaps]
                  · simp only [List.head?_cons, hat]
                  · simp only [regP_snd]
                    refine ⟨fun j ys a hj hk' hbb => ?_, fun q hq => ?_⟩
                    · have hji : j ≠ i := by intro e; subst e; rw [hk] at hk'; cases hk'
                      refine List.mem_filter.2 ⟨hinv.pend.1 j ys a (by omega) hk' (fun b hb' => hbb b (by omega)), ?_⟩
                      have := hbb i (by omega) hbig
                      rw [hm] at this
                      simp [this]
                    · obtain ⟨hq1, hq2⟩ := List.mem_filter.1 hq
                      obtain ⟨j, ys, a, h1, h2, h3, h4⟩ := hinv.pend.2 q hq1
                      refine ⟨j, ys, a, h1, by omega, h3, fun b hb' hbb => ?_⟩
                      by_cases e : b = i
                      · subst e
                        rw [hm]
                        rw [h1] at hq2
                        simpa using hq2
                      · exact h4 b (by omega) hbb
                  · intro j ys o' hj ho' hkj hbb
                    have hji : j ≠ i := by intro e; subst e; rw [hk] at hkj; cases hkj
                    refine List.mem_filter.2 ⟨hinv.wts j ys o' (by omega) ho' hkj (fun b hb' => hbb b (by omega)), ?_⟩
                    have := hbb i (by omega) hbig
                    rw [hm] at this
                    simp [this]
                · cases h
              · cases h
            · cases h
          · cases h
        · cases h
end steps
end Go.Proofs.YtblpmmociahklaaGreatDoor.Sx
