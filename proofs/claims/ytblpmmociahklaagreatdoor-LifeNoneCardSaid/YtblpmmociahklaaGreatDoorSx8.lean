/- The evaluator's memory and the machine's. -/
import Derived.Test.YtblpmmociahklaaGreatDoorSx7
namespace Go.Proofs.YtblpmmociahklaaGreatDoor.Sx
open Go

variable {P : Program} {ν : Pl} {σ : Nat → Value} {w : World}

/-- Entries of a map. -/
def MRs (ν : Pl) (σ : Nat → Value) : List ME → List MapEntry → Prop
  | [], es => es = []
  | e :: es, fs => ∃ f gs, fs = f :: gs ∧ VR ν σ e.key f.key ∧ VR ν σ e.val f.val ∧ f.born = e.born ∧ MRs ν σ es gs

/-- Temporaries. -/
def TmR (ν : Pl) (σ : Nat → Value) (tm : Tr AV) (arr : Array Value) : Prop := ∀ t, VR ν σ (tmA tm t) (arr.getD t undef)

/-- A block of the evaluator's memory lies in the machine's. -/
def OR (ν : Pl) (σ : Nat → Value) (w : World) (b : Nat) : AO → Prop
  | .cells t cs fx => ∃ c p arr fr, ν b = some (c, p) ∧ w.heap[c]? = some (.cells arr t fr) ∧ (fr.1 = fr.2 ∨ arr.size ≤ fr.1) ∧ ((fx = true → p.o = 0 ∧ arr.size = cs.length) ∧ p.n = arr.size) ∧ p.o + cs.length ≤ arr.size ∧
      VRs ν σ cs ((arr.toList.drop p.o).take cs.length)
  | .map es clock => ∃ c fs, ν b = some (c, Pt.z) ∧ w.heap[c]? = some (.map fs clock) ∧ MRs ν σ es fs.toList
  | .miter m since seen stepped => ∃ c m', ν b = some (c, Pt.z) ∧ w.heap[c]? = some (.mapIter m' since seen.reverse.toArray stepped) ∧
      (match m with | none => m' = none | some k => ∃ cm, ν k = some (cm, Pt.z) ∧ m' = some cm)
  | .loop st pend tm ps assign body d => ∃ c D f tmps, ν b = some (c, Pt.z) ∧ ν d = some (D, Pt.z) ∧
      w.heap[c]? = some (.loop { state := st, pending := pend, fn := f, tmps := tmps, params := ps.toArray, assign := assign, body := body, defers := D }) ∧
      TmR ν σ tm tmps ∧ (ps.all fun p => decide (p < tmps.size)) = true ∧ dOk tmps.size assign = true ∧ dOk tmps.size body = true
  | .dfr => ∃ c, ν b = some (c, Pt.z) ∧ w.heap[c]? = some (.deferred (some []))
  | .dead => True

def alive : AO → Bool
  | .dead => false
  | _ => true

/-- A block of the machine's is one of the evaluator's. -/
def Live (H : Heap) (ν : Pl) (c : Nat) : Prop := ∃ b o p, H.get b = some o ∧ alive o = true ∧ ν b = some (c, p)

structure HR (N : Nat) (ν : Pl) (σ : Nat → Value) (H : Heap) (w : World) : Prop where
  fresh : ∀ b, H.next ≤ b → ν b = none
  rel : ∀ b o, H.get b = some o → OR ν σ w b o
  sep : ∀ b b' o o' c p p', H.get b = some o → alive o = true → H.get b' = some o' → alive o' = true → ν b = some (c, p) → ν b' = some (c, p') → b = b'
  base : ∀ b c p, ν b = some (c, p) → N ≤ c ∧ c < w.heap.size
  dom : ∀ b o, H.get b = some o → b < H.next

/-- What a run of the evaluator's does to the machine's memory: only its own blocks have turned. -/
structure Ext (H : Heap) (ν : Pl) (w : World) (H' : Heap) (ν' : Pl) (w' : World) : Prop where
  le : PlLe ν ν'
  next : H.next ≤ H'.next
  old : ∀ b, b < H.next → ν' b = ν b
  os : w'.os = w.os
  tape : w'.tape = w.tape
  output : w'.output = w.output
  size : w.heap.size ≤ w'.heap.size
  keep : ∀ c, c < w.heap.size → ¬ Live H ν c → w'.heap[c]? = w.heap[c]?
  live : ∀ c, c < w.heap.size → Live H' ν' c → Live H ν c

theorem Ext.refl (H : Heap) (ν : Pl) (w : World) : Ext H ν w H ν w := ⟨PlLe.refl ν, Nat.le_refl _, fun _ _ => rfl, rfl, rfl, rfl, Nat.le_refl _, fun _ _ _ => rfl, fun _ _ h => h⟩
theorem Ext.trans {H H1 H2 : Heap} {ν ν1 ν2 : Pl} {w w1 w2 : World} (h : Ext H ν w H1 ν1 w1) (k : Ext H1 ν1 w1 H2 ν2 w2) : Ext H ν w H2 ν2 w2 where
  le := h.le.trans k.le
  next := Nat.le_trans h.next k.next
  old b hb := (k.old b (Nat.lt_of_lt_of_le hb h.next)).trans (h.old b hb)
  os := k.os.trans h.os
  tape := k.tape.trans h.tape
  output := k.output.trans h.output
  size := Nat.le_trans h.size k.size
  keep c hc hl := (k.keep c (Nat.lt_of_lt_of_le hc h.size) (fun l => hl (h.live c hc l))).trans (h.keep c hc hl)
  live c hc l := h.live c hc (k.live c (Nat.lt_of_lt_of_le hc h.size) l)

theorem Heap.get_put (H : Heap) (b : Nat) (o : AO) (j : Nat) : (H.put b o).get j = if j = b then some o else H.get j := Tr.get_set _ _ _ _
theorem Heap.get_new (H : Heap) (o : AO) (j : Nat) : (H.new o).get j = if j = H.next then some o else H.get j := Tr.get_set _ _ _ _

/-! ### The words for worlds -/

theorem MRs.mono {ν' : Pl} (hle : PlLe ν ν') : ∀ {es : List ME} {fs : List MapEntry}, MRs ν σ es fs → MRs ν' σ es fs
  | [], _, h => h
  | e :: es, _, h => by
    obtain ⟨f, gs, rfl, h1, h2, h3, h4⟩ := h
    exact ⟨f, gs, rfl, VR.mono hle _ _ h1, VR.mono hle _ _ h2, h3, h4.mono hle⟩

theorem OR.mono {ν' : Pl} {w' : World} {b : Nat} {o : AO} (h : OR ν σ w b o) (hle : PlLe ν ν') (hw : ∀ c p, alive o = true → ν b = some (c, p) → w'.heap[c]? = w.heap[c]?) : OR ν' σ w' b o := by
  cases o with
  | cells t cs fx =>
    obtain ⟨c, p, arr, fr, hb, hc, hf, hx, hl, hv⟩ := h
    exact ⟨c, p, arr, fr, hle _ _ hb, (hw c p rfl hb).trans hc, hf, hx, hl, VRs.mono hle _ _ hv⟩
  | map es clock =>
    obtain ⟨c, fs, hb, hc, hm⟩ := h
    exact ⟨c, fs, hle _ _ hb, (hw c Pt.z rfl hb).trans hc, hm.mono hle⟩
  | miter m since seen stepped =>
    obtain ⟨c, m', hb, hc, hm⟩ := h
    refine ⟨c, m', hle _ _ hb, (hw c Pt.z rfl hb).trans hc, ?_⟩
    cases m with
    | none => exact hm
    | some k => obtain ⟨cm, h1, h2⟩ := hm; exact ⟨cm, hle _ _ h1, h2⟩
  | loop st pend tm ps assign body d =>
    obtain ⟨c, D, f, tmps, hb, hd, hc, ht, h1, h2, h3⟩ := h
    exact ⟨c, D, f, tmps, hle _ _ hb, hle _ _ hd, (hw c Pt.z rfl hb).trans hc, fun t => VR.mono hle _ _ (ht t), h1, h2, h3⟩
  | dfr =>
    obtain ⟨c, hb, hc⟩ := h
    exact ⟨c, hle _ _ hb, (hw c Pt.z rfl hb).trans hc⟩
  | dead => trivial

/-- The worlds differ in what was drawn alone. -/
def SameHeap (w w' : World) : Prop := w'.heap = w.heap ∧ w'.os = w.os ∧ w'.tape = w.tape ∧ w'.output = w.output

theorem HR.same {N : Nat} {H : Heap} {w' : World} (h : HR N ν σ H w) (hw : SameHeap w w') : HR N ν σ H w' :=
  ⟨h.fresh, fun b o hb => (h.rel b o hb).mono (PlLe.refl ν) (fun c p _ _ => by rw [hw.1]), h.sep, fun b c p hb => by rw [hw.1]; exact h.base b c p hb, h.dom⟩
theorem Ext.same {H : Heap} {w' : World} (hw : SameHeap w w') : Ext H ν w H ν w' :=
  ⟨PlLe.refl ν, Nat.le_refl _, fun _ _ => rfl, hw.2.1, hw.2.2.1, hw.2.2.2, by rw [hw.1]; exact Nat.le_refl _, fun c _ _ => by rw [hw.1], fun _ _ h => h⟩

/-- A block of the evaluator's is written anew; the machine's other blocks are as they were. -/
theorem HR.put {N : Nat} {H : Heap} {w' : World} {b : Nat} {o o' : AO} (h : HR N ν σ H w) (hb : H.get b = some o) (ha : alive o = true) {c : Nat} {p : Pt} (hν : ν b = some (c, p))
    (hother : ∀ k, k ≠ c → w'.heap[k]? = w.heap[k]?) (hsize : w'.heap.size = w.heap.size) (hrel : OR ν σ w' b o') : HR N ν σ (H.put b o') w' where
  fresh := h.fresh
  rel j x hj := by
    rw [Heap.get_put] at hj
    split at hj
    · rename_i e; subst e; injection hj with hj; subst hj; exact hrel
    · rename_i hne
      refine (h.rel j x hj).mono (PlLe.refl ν) (fun c' p' hax hj' => hother c' ?_)
      intro e; subst e
      exact hne (h.sep j b x o c' p' p hj hax hb ha hj' hν)
  sep i j x y c1 p1 p2 hi hax hj hay h1 h2 := by
    rw [Heap.get_put] at hi hj
    split at hi <;> split at hj
    · rename_i e1 e2; rw [e1, e2]
    · rename_i e1 e2; subst e1; exact h.sep _ _ _ _ _ _ _ hb ha hj hay h1 h2
    · rename_i e1 e2; subst e2; exact h.sep _ _ _ _ _ _ _ hi hax hb ha h1 h2
    · exact h.sep _ _ _ _ _ _ _ hi hax hj hay h1 h2
  base j c' p' hj := by rw [hsize]; exact h.base j c' p' hj
  dom j x hj := by
    rw [Heap.get_put] at hj
    split at hj
    · rename_i e; subst e; exact h.dom _ _ hb
    · exact h.dom j x hj

theorem Live.put {H : Heap} {b : Nat} {o o' : AO} (hb : H.get b = some o) (ha : alive o = true) {c : Nat} (h : Live (H.put b o') ν c) : Live H ν c := by
  obtain ⟨j, x, p, hj, hx, hν⟩ := h
  rw [Heap.get_put] at hj
  split at hj
  · rename_i e; subst e; exact ⟨_, o, p, hb, ha, hν⟩
  · exact ⟨j, x, p, hj, hx, hν⟩

theorem Ext.put {H : Heap} {w' : World} {b : Nat} {o o' : AO} (hb : H.get b = some o) (ha : alive o = true) {c : Nat} {p : Pt} (hν : ν b = some (c, p))
    (hother : ∀ k, k ≠ c → w'.heap[k]? = w.heap[k]?) (hsize : w'.heap.size = w.heap.size) (h4 : w'.os = w.os ∧ w'.tape = w.tape ∧ w'.output = w.output) : Ext H ν w (H.put b o') ν w' :=
  ⟨PlLe.refl ν, Nat.le_refl _, fun _ _ => rfl, h4.1, h4.2.1, h4.2.2, by rw [hsize]; exact Nat.le_refl _,
   fun k _ hl => hother k (fun e => hl ⟨b, o, p, hb, ha, e ▸ hν⟩), fun _ _ l => l.put hb ha⟩

def addPl (ν : Pl) (b : Nat) (x : Nat × Pt) : Pl := fun j => if j = b then some x else ν j
theorem addPl_le {b : Nat} {x : Nat × Pt} (h : ν b = none) : PlLe ν (addPl ν b x) := by
  intro j y hj
  unfold addPl
  split
  · rename_i e; subst e; rw [h] at hj; cases hj
  · exact hj
theorem addPl_self {b : Nat} {x : Nat × Pt} : addPl ν b x b = some x := by simp [addPl]

/-- A new block, at the end of the machine's memory. -/
theorem HR.new {N : Nat} {H : Heap} {o : AO} {obj : Obj} {w' : World} {pt : Pt} (h : HR N ν σ H w) (hN : N ≤ w.heap.size) (hw : w'.heap = w.heap.push obj)
    (hrel : OR (addPl ν H.next (w.heap.size, pt)) σ w' H.next o) : HR N (addPl ν H.next (w.heap.size, pt)) σ (H.new o) w' := by
  have hn : ν H.next = none := h.fresh _ (Nat.le_refl _)
  have hold : ∀ c, c < w.heap.size → w'.heap[c]? = w.heap[c]? := fun c hc => by rw [hw, Array.getElem?_push, if_neg (by omega)]
  have hsz : w'.heap.size = w.heap.size + 1 := by rw [hw]; simp
  have hlt : ∀ b c p, ν b = some (c, p) → c < w.heap.size := fun b c p hb => (h.base b c p hb).2
  refine ⟨?_, ?_, ?_, ?_, ?_⟩
  · intro b hb
    have : H.next + 1 ≤ b := hb
    unfold addPl
    rw [if_neg (by omega)]
    exact h.fresh b (by omega)
  · intro j x hj
    rw [Heap.get_new] at hj
    split at hj
    · rename_i e; subst e; injection hj with hj; subst hj; exact hrel
    · exact (h.rel j x hj).mono (addPl_le hn) (fun c p _ hc => hold c (hlt _ _ _ hc))
  · intro i j x y c p p' hi hax hj hay h1 h2
    rw [Heap.get_new] at hi hj
    unfold addPl at h1 h2
    split at hi <;> split at hj
    · rename_i e1 e2; rw [e1, e2]
    · rename_i e1 e2
      rw [if_pos e1] at h1; rw [if_neg e2] at h2
      injection h1 with h1; injection h1 with h1 _
      exact absurd (hlt _ _ _ h2) (by omega)
    · rename_i e1 e2
      rw [if_neg e1] at h1; rw [if_pos e2] at h2
      injection h2 with h2; injection h2 with h2 _
      exact absurd (hlt _ _ _ h1) (by omega)
    · rename_i e1 e2
      rw [if_neg e1] at h1; rw [if_neg e2] at h2
      exact h.sep _ _ _ _ _ _ _ hi hax hj hay h1 h2
  · intro b c p hb
    unfold addPl at hb
    split at hb
    · injection hb with hb; injection hb with e1 e2; subst e1
      exact ⟨hN, by omega⟩
    · have := h.base b c p hb; exact ⟨this.1, by omega⟩
  · intro j x hj
    rw [Heap.get_new] at hj
    split at hj
    · rename_i e; subst e; exact Nat.lt_succ_self _
    · exact Nat.lt_succ_of_lt (h.dom j x hj)

theorem Ext.new {N : Nat} {H : Heap} {o : AO} {obj : Obj} {w' : World} {pt : Pt} (h : HR N ν σ H w) (hw : w'.heap = w.heap.push obj) (h4 : w'.os = w.os ∧ w'.tape = w.tape ∧ w'.output = w.output) :
    Ext H ν w (H.new o) (addPl ν H.next (w.heap.size, pt)) w' := by
  have hn : ν H.next = none := h.fresh _ (Nat.le_refl _)
  refine ⟨addPl_le hn, Nat.le_succ _, fun b hb => by unfold addPl; rw [if_neg (by omega)], h4.1, h4.2.1, h4.2.2, by rw [hw]; simp, fun c hc _ => by rw [hw, Array.getElem?_push, if_neg (by omega)], ?_⟩
  intro c hc hl
  obtain ⟨j, x, p, hj, hx, hν⟩ := hl
  rw [Heap.get_new] at hj
  unfold addPl at hν
  split at hj
  · rename_i e
    rw [if_pos e] at hν
    injection hν with hν; injection hν with e1 _
    omega
  · rename_i e
    rw [if_neg e] at hν
    exact ⟨j, x, p, hj, hx, hν⟩

/-- A block that is not looked at any more. -/
theorem HR.kill {N : Nat} {H : Heap} {b : Nat} (h : HR N ν σ H w) (hb : b < H.next) : HR N ν σ (H.put b .dead) w where
  fresh := h.fresh
  rel j x hj := by
    rw [Heap.get_put] at hj
    split at hj
    · injection hj with hj; subst hj; trivial
    · exact h.rel j x hj
  sep i j x y c1 p1 p2 hi hax hj hay h1 h2 := by
    rw [Heap.get_put] at hi hj
    split at hi
    · injection hi with hi; subst hi; cases hax
    · split at hj
      · injection hj with hj; subst hj; cases hay
      · exact h.sep _ _ _ _ _ _ _ hi hax hj hay h1 h2
  base := h.base
  dom j x hj := by
    rw [Heap.get_put] at hj
    split at hj
    · rename_i e; subst e; exact hb
    · exact h.dom j x hj
theorem Live.kill {H : Heap} {b c : Nat} (h : Live (H.put b .dead) ν c) : Live H ν c := by
  obtain ⟨j, x, p, hj, hx, hν⟩ := h
  rw [Heap.get_put] at hj
  split at hj
  · injection hj with hj; subst hj; cases hx
  · exact ⟨j, x, p, hj, hx, hν⟩
theorem Ext.kill {H : Heap} {b : Nat} : Ext H ν w (H.put b .dead) ν w :=
  ⟨PlLe.refl ν, Nat.le_refl _, fun _ _ => rfl, rfl, rfl, rfl, Nat.le_refl _, fun _ _ _ => rfl, fun _ _ l => l.kill⟩

/-! ### Cells -/

theorem cell_eq {c p : Nat} {arr : Array Value} {t : TypeId} {fr : Nat × Nat} (h : w.heap[c]? = some (.cells arr t fr)) : w.cell? ⟨c, p, none⟩ = arr[p]? := by
  simp [World.cell?, h]
theorem frozen_eq {c p : Nat} {arr : Array Value} {t : TypeId} {fr : Nat × Nat} (h : w.heap[c]? = some (.cells arr t fr)) (hf : fr.1 = fr.2 ∨ arr.size ≤ fr.1) (hp : p < arr.size) : w.frozen? ⟨c, p, none⟩ = false := by
  obtain ⟨lo, hi⟩ := fr
  simp only [World.frozen?, h]
  simp only at hf
  simp
  omega

/-- Some cells of a block, loaded. -/
theorem run_load_cells {c q n : Nat} {arr : Array Value} {t : TypeId} {fr : Nat × Nat} (h : w.heap[c]? = some (.cells arr t fr)) (hl : q + n ≤ arr.size) :
    (loadCells ⟨c, q, none⟩ n).run P w = .ok ((arr.toList.drop q).take n).toArray w := by
  have := run_loadCells_list (P := P) w ⟨c, q, none⟩ ((arr.toList.drop q).take n) (fun j v hj => by
    rw [add_off, cell_eq h]
    rw [List.getElem?_take] at hj
    split at hj
    · rw [List.getElem?_drop] at hj; simpa using hj
    · cases hj)
  have hlen : ((arr.toList.drop q).take n).length = n := by simp; omega
  rw [hlen] at this
  exact this

def setV : List Value → Nat → List Value → List Value
  | l, _, [] => l
  | l, i, v :: vs => setV (l.set i v) (i + 1) vs

theorem setV_length : ∀ (vs : List Value) (l : List Value) (i : Nat), (setV l i vs).length = l.length
  | [], _, _ => rfl
  | v :: vs, l, i => by simp only [setV]; rw [setV_length vs]; simp

theorem setV_get : ∀ (vs : List Value) (l : List Value) (i j : Nat), (setV l i vs)[j]? = if i ≤ j ∧ j < i + vs.length ∧ j < l.length then vs[j - i]? else l[j]?
  | [], l, i, j => by simp only [setV]; rw [if_neg (by simp; omega)]
  | v :: vs, l, i, j => by
    simp only [setV]
    rw [setV_get vs]
    simp only [List.length_set, List.length_cons]
    by_cases h1 : i + 1 ≤ j ∧ j < i + 1 + vs.length ∧ j < l.length
    · rw [if_pos h1, if_pos (by omega)]
      obtain ⟨d, hd⟩ : ∃ d, j - i = d + 1 := ⟨j - i - 1, by omega⟩
      rw [hd, List.getElem?_cons_succ]
      congr 1; omega
    · rw [if_neg h1]
      by_cases h2 : j = i
      · subst h2
        by_cases h3 : j < l.length
        · rw [if_pos (by omega)]; simp [h3]
        · rw [if_neg (by omega)]; simp [Nat.le_of_not_lt h3]
      · rw [if_neg (by omega), List.getElem?_set_ne (by omega)]

theorem setV_part (l : List Value) (p o L : Nat) (vs : List Value) (h : o + vs.length ≤ L) : ((setV l (p + o) vs).drop p).take L = setV ((l.drop p).take L) o vs := by
  apply List.ext_getElem?
  intro j
  rw [List.getElem?_take, setV_get]
  by_cases hj : j < L
  · rw [if_pos hj, List.getElem?_drop, setV_get]
    simp only [List.length_take, List.length_drop]
    by_cases h1 : p + o ≤ p + j ∧ p + j < p + o + vs.length ∧ p + j < l.length
    · rw [if_pos h1, if_pos (by omega)]
      congr 1; omega
    · rw [if_neg h1, if_neg (by omega), List.getElem?_take, if_pos hj, List.getElem?_drop]
  · rw [if_neg hj, if_neg (by omega), List.getElem?_take, if_neg hj]

theorem setCells_length : ∀ (vs : List AV) (l : List AV) (i : Nat), (setCells l i vs).length = l.length
  | [], _, _ => rfl
  | v :: vs, l, i => by simp only [setCells]; rw [setCells_length vs]; simp

theorem setCells_rel : ∀ (vs : List AV) (ws : List Value) (cs : List AV) (ds : List Value) (i : Nat), VRs ν σ vs ws → VRs ν σ cs ds → VRs ν σ (setCells cs i vs) (setV ds i ws)
  | [], _, _, _, _, h, r => by simp only [VRs] at h; subst h; exact r
  | v :: vs, _, cs, ds, i, h, r => by
    simp only [VRs] at h
    obtain ⟨u, us, rfl, hu, hw⟩ := h
    simp only [setCells, setV]
    exact setCells_rel vs us _ _ (i + 1) hw (r.set i hu)

theorem leaf_one (hσ : ∀ i, (σ i).oneCell' = true) {a : AV} {v : Value} (h : VR ν σ a v) (hl : leaf a = true) : v.oneCell' = true := by
  cases a <;> (first | (cases hl; done) | skip) <;> (simp only [VR] at h)
  case sym i => rw [h]; exact hσ i
  case any => exact h
  case ptr => obtain ⟨c, p, _, rfl⟩ := h; rfl
  case slc => obtain ⟨c, p, k, q, _, _, _, _, _, rfl⟩ := h; rfl
  case map => obtain ⟨c, _, rfl⟩ := h; rfl
  case fn => obtain ⟨_, _, _, _, _, rfl⟩ := h; rfl
  case yld => obtain ⟨c, _, rfl⟩ := h; rfl
  case ifc => obtain ⟨c, _, rfl⟩ := h; rfl
  all_goals (subst h; rfl)

theorem leaf_all (hσ : ∀ i, (σ i).oneCell' = true) : ∀ {as : List AV} {vs : List Value}, VRs ν σ as vs → as.all leaf = true → ∀ v ∈ vs, v.oneCell' = true
  | [], vs, h, _, v, hv => by simp only [VRs] at h; subst h; cases hv
  | a :: as, vs, h, hl, v, hv => by
    simp only [VRs] at h
    obtain ⟨u, us, rfl, hu, hw⟩ := h
    simp only [List.all_cons, Bool.and_eq_true] at hl
    rcases List.mem_cons.1 hv with rfl | hv
    · exact leaf_one hσ hu hl.1
    · exact leaf_all hσ hw hl.2 v hv

/-- Some cells of a block, stored. -/
theorem run_store_cells {c q : Nat} {t : TypeId} {fr : Nat × Nat} : ∀ (vs : List Value) (i : Nat) (w : World) (arr : Array Value), w.heap[c]? = some (.cells arr t fr) → (fr.1 = fr.2 ∨ arr.size ≤ fr.1) → q + i + vs.length ≤ arr.size →
    (∀ v ∈ vs, v.oneCell' = true) → ∃ w' arr', (storeCells ⟨c, q, none⟩ vs i).run P w = .ok () w' ∧ w'.heap[c]? = some (.cells arr' t fr) ∧ arr'.size = arr.size ∧ arr'.toList = setV arr.toList (q + i) vs ∧
      (∀ k, k ≠ c → w'.heap[k]? = w.heap[k]?) ∧ w'.heap.size = w.heap.size ∧ w'.os = w.os ∧ w'.tape = w.tape ∧ w'.output = w.output
  | [], i, w, arr, h, _, _, _ => ⟨w, arr, rfl, h, rfl, rfl, fun _ _ => rfl, rfl, rfl, rfl, rfl⟩
  | v :: vs, i, w, arr, h, hf, hl, h1 => by
    simp only [List.length_cons] at hl
    have hcell : w.cell? ⟨c, q + i, none⟩ = some (arr[q + i]'(by omega)) := by rw [cell_eq h]; simp
    have hfz := frozen_eq (p := q + i) h hf (by omega)
    have hh : (w.setCell ⟨c, q + i, none⟩ v).heap[c]? = some (.cells (arr.setIfInBounds (q + i) v) t fr) := by
      simp only [World.setCell, Array.getElem?_modify, if_true, h, Option.map_some]
      simp
    have ho : ∀ k, k ≠ c → (w.setCell ⟨c, q + i, none⟩ v).heap[k]? = w.heap[k]? := fun k hk => by
      simp only [World.setCell, Array.getElem?_modify]
      rw [if_neg (fun e => hk e.symm)]
    obtain ⟨w', arr', hr, hc', hs', hl', ho', hz', h4⟩ := run_store_cells (q := q) vs (i + 1) (w.setCell ⟨c, q + i, none⟩ v) (arr.setIfInBounds (q + i) v) hh (by simpa using hf) (by simp; omega)
      (fun u hu => h1 u (List.mem_cons_of_mem _ hu))
    refine ⟨w', arr', ?_, hc', by rw [hs']; simp, ?_, fun k hk => (ho' k hk).trans (ho k hk), by rw [hz']; simp, h4⟩
    · simp only [storeCells, Sem.run_bind, add_off]
      rw [run_store P w _ v _ (h1 v (List.mem_cons_self ..)), hcell]
      simp only [hfz, Bool.false_eq_true, if_false, Result.andThen_ok]
      exact hr
    · rw [hl']
      simp only [setV, Array.toList_setIfInBounds]
      rw [← Nat.add_assoc]

end Go.Proofs.YtblpmmociahklaaGreatDoor.Sx
