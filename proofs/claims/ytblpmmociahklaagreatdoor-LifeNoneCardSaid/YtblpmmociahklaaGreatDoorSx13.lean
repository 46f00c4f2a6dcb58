/- What writes is sound: iterations, bytes. -/
import Derived.Test.YtblpmmociahklaaGreatDoorSx12
import Derived.Lib.UnsafeStr
namespace Go.Proofs.YtblpmmociahklaaGreatDoor.Sx
open Go

variable {P : Program} {ν : Pl} {σ : Nat → Value} {w : World}

theorem next_over {N : Nat} {H : Heap} (hr : HR N ν σ H w) {b : Nat} {since stepped : Nat} {seen : List Nat} (hb : H.get b = some (.miter none since seen stepped)) {x' : Value} (hx : VR ν σ (.ptr b 0) x') (ty : TypeId) :
    (Instr.next x' false ty).run P w = .ok (.tuple #[.bool false]) w := by
  obtain ⟨c, m', hν, hc, hm⟩ := hr.rel _ _ hb
  simp only at hm; subst hm
  simp only [VR] at hx
  obtain ⟨c', p', hν', rfl⟩ := hx
  rw [hν] at hν'; injection hν' with hν'; injection hν' with e1 e2; subst e1; subst e2
  simp only [Pt.z, Nat.add_zero, Instr.next, Sem.run_bind, run_getObj hc (by simp), Result.andThen_ok, Sem.run_pure]

theorem forced_one : (Question.mapNext 1).forced = true := rfl

theorem next_big {N : Nat} {H : Heap} (hr : HR N ν σ H w) {b m since last : Nat} {seen : List Nat} (hb : H.get b = some (.miter (some m) since seen last)) {es : List ME} {clock : Nat} (hm : H.get m = some (.map es clock))
    {x' : Value} (hx : VR ν σ (.ptr b 0) x') (ty : TypeId) {v : AV} {H' : Heap}
    (h : (if !seen.isEmpty && !es.isEmpty && es.all (fun e => decide (e.born ≥ last)) then none else
          (match es.filter (fun e => !seen.contains e.born) with
           | [] => some (Out.val (.tup [.bool false]) H)
           | [e] => if e.born < since then some (.val (.tup [.bool true, e.key, e.val]) (H.put b (.miter (some m) since (e.born :: seen) clock))) else none
           | _ => none)) = some (.val v H')) :
    ∃ u w', (Instr.next x' false ty).run P w = .ok u w' ∧ VR ν σ v u ∧ HR N ν σ H' w' ∧ Ext H ν w H' ν w' := by
  obtain ⟨c, m', hν, hc, cm, hνm, rfl⟩ := hr.rel _ _ hb
  obtain ⟨cm2, fs, hνm2, hcm, hms⟩ := hr.rel _ _ hm
  rw [hνm] at hνm2; injection hνm2 with hνm2; injection hνm2 with e1 _; subst e1
  simp only [VR] at hx
  obtain ⟨c', p', hν', rfl⟩ := hx
  rw [hν] at hν'; injection hν' with hν'; injection hν' with e1 e2; subst e1; subst e2
  split at h
  · cases h
  · rename_i hg
    have hcont : ∀ k, (seen.reverse.toArray.contains k) = seen.contains k := fun k => by
      rw [List.contains_toArray, Bool.eq_iff_iff]; simp
    have hguard : (!seen.reverse.toArray.isEmpty && !fs.isEmpty && fs.all fun e => decide (e.born ≥ last)) = false := by
      have h1 : seen.reverse.toArray.isEmpty = seen.isEmpty := by cases seen <;> simp
      have h2 : fs.isEmpty = es.isEmpty := by
        have := hms.length
        rw [← Array.isEmpty_toList]
        cases es <;> cases hfl : fs.toList <;> rw [hfl] at this <;> first | rfl | simp at this
      have h3 : (fs.all fun e => decide (e.born ≥ last)) = es.all fun e => decide (e.born ≥ last) := by
        rw [← Array.all_toList]
        exact hms.all (fun e x he => by rw [he])
      rw [h1, h2, h3]
      simpa using hg
    have hfil : MRs ν σ (es.filter fun e => !seen.contains e.born) (fs.filter fun e => !seen.reverse.toArray.contains e.born).toList := by
      rw [Array.toList_filter]
      exact hms.filter (fun e x he => by rw [he, hcont])
    split at h
    · rename_i hl
      injection h with h; injection h with e1 e2; subst e1; subst e2
      rw [hl] at hfil
      have hleft : (fs.filter fun e => !seen.reverse.toArray.contains e.born) = #[] := by
        simp only [MRs] at hfil
        exact Array.toList_inj.1 hfil
      refine ⟨.tuple #[.bool false], w, ?_, by simp only [VR, VRs]; exact ⟨_, ⟨_, [], rfl, rfl, rfl⟩, rfl⟩, hr, Ext.refl _ _ _⟩
      simp only [Pt.z, Nat.add_zero, Instr.next, Sem.run_bind, run_getObj hc (by simp), Result.andThen_ok, run_getObj_map hcm, hguard, Bool.false_eq_true, if_false, hleft]
      simp [forced_one]
    · rename_i e hl
      split at h
      · rename_i hlt
        injection h with h; injection h with e1 e2; subst e1; subst e2
        rw [hl] at hfil
        obtain ⟨f, gs, hf, h1, h2, h3, h4⟩ := hfil
        simp only [MRs] at h4; subst h4
        have hleft : (fs.filter fun e => !seen.reverse.toArray.contains e.born) = #[f] := Array.toList_inj.1 hf
        obtain ⟨k1, k2⟩ := put_obj (o' := .mapIter (some cm) since (seen.reverse.toArray.push f.born) clock) (x' := .miter (some m) since (e.born :: seen) clock) hr hb rfl hν hc (fun w' hw' =>
          ⟨c, some cm, hν, by rw [hw']; simp [h3], cm, hνm, rfl⟩)
        refine ⟨.tuple #[.bool true, f.key, f.val], _, ?_, ?_, k1, k2⟩
        · have ho : (#[f] : Array MapEntry).filter (fun e => decide (e.born < since)) = #[f] := by
            apply Array.toList_inj.1; simp [h3, hlt]
          have hn : (#[f] : Array MapEntry).filter (fun e => decide (e.born ≥ since)) = #[] := by
            apply Array.toList_inj.1; simp [h3, hlt]
          simp only [Pt.z, Nat.add_zero, Instr.next, Sem.run_bind, run_getObj hc (by simp), Result.andThen_ok, run_getObj_map hcm, hguard, Bool.false_eq_true, if_false, hleft, ho, hn]
          simp [forced_one, run_setObj hc]
        · simp only [VR, VRs]
          exact ⟨_, ⟨_, _, rfl, rfl, f.key, _, rfl, h1, f.val, _, rfl, h2, rfl⟩, rfl⟩
      · cases h
    · cases h

/-! ### Bytes -/

theorem run_freeze {a : Addr} {n : Nat} : (freeze a n).run P w = .ok () (w.freeze a n) := rfl

theorem freeze_one {c n : Nat} {arr : Array Value} {t : TypeId} {fr : Nat × Nat} (h : w.heap[c]? = some (.cells arr t fr)) (a : Addr) (ha : a.block = c) (hn : n ≠ 0) :
    (w.freeze a n).heap[c]? = some (.cells arr t (if fr.1 == fr.2 then (a.off, a.off + n) else (min fr.1 a.off, max fr.2 (a.off + n)))) := by
  obtain ⟨lo, hi⟩ := fr
  simp only [World.freeze, if_neg hn, ha, Array.getElem?_modify, if_true, h, Option.map_some]
theorem freeze_other {n : Nat} (a : Addr) {k : Nat} (hk : k ≠ a.block) : (w.freeze a n).heap[k]? = w.heap[k]? := by
  unfold World.freeze
  split
  · rfl
  · simp only [Array.getElem?_modify]
    rw [if_neg (fun e => hk e.symm)]
theorem freeze_size {n : Nat} (a : Addr) : (w.freeze a n).heap.size = w.heap.size := by
  unfold World.freeze
  split
  · rfl
  · simp
theorem freeze_same {n : Nat} (a : Addr) : (w.freeze a n).os = w.os ∧ (w.freeze a n).tape = w.tape ∧ (w.freeze a n).output = w.output := by
  unfold World.freeze
  split
  · exact ⟨rfl, rfl, rfl⟩
  · exact ⟨rfl, rfl, rfl⟩

theorem run_markStringish {c q : Nat} {arr : Array Value} {t : TypeId} {fr : Nat × Nat} (h : w.heap[c]? = some (.cells arr t fr)) : (markStringish ⟨c, q, none⟩).run P w = .ok () (w.freeze ⟨c, arr.size, none⟩ 1) := by
  simp only [markStringish, Sem.run_bind, run_shape_cells h, Result.andThen_ok, run_freeze]

/-- A block is marked behind its end. -/
theorem mark_keeps {N : Nat} {H : Heap} (hr : HR N ν σ H w) {b : Nat} {e : TypeId} {cs : List AV} {fx : Bool} (hb : H.get b = some (.cells e cs fx)) {c : Nat} {p : Pt} (hν : ν b = some (c, p)) {q : Nat} :
    ∃ w', (markStringish ⟨c, q, none⟩).run P w = .ok () w' ∧ HR N ν σ H w' ∧ Ext H ν w H ν w' := by
  obtain ⟨c', p', arr, fr, hν', hc, hf, hfx, hl, hv⟩ := hr.rel _ _ hb
  rw [hν] at hν'; injection hν' with hν'; injection hν' with e1 e2; subst e1; subst e2
  have hg := put_get_same hb
  refine ⟨_, run_markStringish hc, ?_, ?_⟩
  · refine HR.congr (hr.put hb rfl hν (o' := .cells e cs fx) (fun k hk => freeze_other _ hk) (freeze_size _) ?_) (fun j => (hg j).symm) rfl
    refine ⟨c, p, arr, _, hν, freeze_one hc _ rfl (by decide), ?_, hfx, hl, hv⟩
    right
    split
    · exact Nat.le_refl _
    · rename_i hne
      rcases hf with h1 | h1
      · simp [h1] at hne
      · simp only; omega
  · exact Ext.congr (Ext.put hb rfl hν (o' := .cells e cs fx) (fun k hk => freeze_other _ hk) (freeze_size _) (freeze_same _)) (fun j => (hg j).symm) rfl

theorem run_loadBytesI : ∀ (l : List Int) (a : Addr) (acc : ByteArray), (∀ j x, l[j]? = some x → w.cell? (a.add j) = some (.int .u8 x)) →
    (loadBytes a acc l.length).run P w = .ok ⟨acc.data ++ (l.map fun n => UInt8.ofNat n.toNat).toArray⟩ w
  | [], a, acc, _ => by simp [loadBytes]
  | x :: l, a, acc, h => by
    have h0 : w.cell? a = some (.int .u8 x) := by
      have := h 0 x rfl
      simpa [Addr.add] using this
    have ih := run_loadBytesI l (a.add 1) (acc.push (UInt8.ofNat x.toNat)) (fun j y hy => by
      have := h (j + 1) y (by simpa using hy)
      have e : (a.add 1).add j = a.add (j + 1) := by
        unfold Addr.add
        by_cases hj : j = 0
        · subst hj; simp
        · simp [hj]; omega
      rw [e]; exact this)
    simp only [List.length_cons, loadBytes, Sem.run_bind, run_load, h0, Result.andThen]
    have hx : (x.toNat).toUInt8 = UInt8.ofNat x.toNat := rfl
    rw [hx, ih]
    congr 1
    apply ByteArray.ext
    simp [ByteArray.push]

theorem liesAt_off {e : TypeId} (hc : P.cellsOf e = 1) (count off n : Nat) (hn : off + n ≤ count) : liesAt P P.depth e count off e n = true := by
  have hd : P.depth = (2 * (P.types.size + Made.depth) + 1) + 1 := rfl
  rw [hd]
  simp only [liesAt, Bool.or_eq_true]
  left
  rw [hd]
  simp [rowAt, hc, hn, sameLayout, Nat.mod_one]

def unsBody (e0 : Sem Value) (e1 e2 : Sem PUnit) (e3 e4 : Sem Value) (ats : Array TypeId) (p : Option Addr) (l : Value) : Sem Value := do
  let n ← asInt l
  let some pt := ats[0]? | e0
  if n < 0 then e1
  if n > IntKind.i64.max then e2
  match p with
  | none =>
    if n = 0 then pure (.string .empty)
    else e3
  | some a =>
    if n = 0 then pure (.string .empty)
    else if ← variablesAt a (← elemOf pt) n.toNat then do
      let s ← loadBytes a .empty n.toNat
      freeze a n.toNat
      pure (.string s)
    else e4
theorem uns_def (ats : Array TypeId) (p : Option Addr) (l : Value) (ty : TypeId) : ∃ e0 e1 e2 e3 e4, Builtin.unsafeString_ ats ty #[.pointer p, l] = unsBody e0 e1 e2 e3 e4 ats p l := ⟨_, _, _, _, _, rfl⟩

theorem uns_big {N : Nat} {H H' : Heap} (hr : HR N ν σ H w) {c : Call} {x v : AV} {n : Int} (h : unsF P c x n H = some (v, H')) {x' y' : Value} (hx : VR ν σ x x') {k : IntKind} (hy : VR ν σ (.int k n) y') (ty : TypeId) :
    c.argTypes.size ≠ 0 → ∃ u w', (Builtin.unsafeString_ c.argTypes ty #[x', y']).run P w = .ok u w' ∧ VR ν σ v u ∧ HR N ν σ H' w' ∧ Ext H ν w H' ν w' := by
  intro hsz0
  simp only [VR] at hy; subst hy
  obtain ⟨pt, hpt⟩ : ∃ pt, c.argTypes[0]? = some pt := ⟨c.argTypes[0]'(by omega), by rw [Array.getElem?_eq_getElem (by omega)]⟩
  have hmax : IntKind.i64.max = 9223372036854775807 := rfl
  cases x <;> (first | (cases h; done) | skip)
  case nilp =>
    simp only [unsF] at h
    split at h
    · rename_i hn
      injection h with h; injection h with e1 e2; subst e1; subst e2; subst hn
      simp only [VR] at hx; subst hx
      refine ⟨.string .empty, w, ?_, by simp only [VR]; rfl, hr, Ext.refl _ _ _⟩
      obtain ⟨e0, e1, e2, e3, e4, hdef⟩ := uns_def c.argTypes _ _ ty
      rw [hdef]
      simp [unsBody, asInt, asIntOf, hpt, hmax]
    · cases h
  case ptr b o =>
    simp only [unsF] at h
    simp only [VR] at hx
    obtain ⟨c', p, hν, rfl⟩ := hx
    split at h
    · rename_i hn
      injection h with h; injection h with e1 e2; subst e1; subst e2; subst hn
      refine ⟨.string .empty, w, ?_, by simp only [VR]; rfl, hr, Ext.refl _ _ _⟩
      obtain ⟨e0, e1, e2, e3, e4, hdef⟩ := uns_def c.argTypes _ _ ty
      rw [hdef]
      simp [unsBody, asInt, asIntOf, hpt, hmax]
    · rename_i hn
      split at h
      · rename_i hrange
        rw [hpt] at h
        split at h
        · rename_i e cs fx pt' hb hpt'
          injection hpt' with hpt'; subst hpt'
          split at h
          · rename_i u hu1 hu2 hs1
            split at h
            · rename_i hcond
              obtain ⟨rfl, hle⟩ := hcond
              split at h
              · rename_i l hl
                injection h with h; injection h with e1 e2; subst e1; subst e2
                obtain ⟨c2, p2, arr, fr, hν2, hc, hf, hfx, hlen, hv⟩ := hr.rel _ _ hb
                rw [hν] at hν2; injection hν2 with hν2; injection hν2 with e1 e2; subst e1; subst e2
                have hvv := (hv.drop o).take n.toNat
                rw [List.drop_take, List.take_take, List.drop_drop, Nat.min_eq_left (by omega)] at hvv
                obtain ⟨ns, hns, rfl⟩ := bytes_rel hl hvv
                have hlen2 : ns.length = n.toNat := by
                  have := congrArg List.length hns
                  simp only [List.length_take, List.length_drop, Array.length_toList, List.length_map] at this
                  omega
                have hcell : ∀ j x, ns[j]? = some x → w.cell? ((⟨c', p.o + o, none⟩ : Addr).add j) = some (.int .u8 x) := by
                  intro j x hj
                  have hj2 : j < n.toNat := by
                    rw [← hlen2]; exact (List.getElem?_eq_some_iff.1 hj).1
                  rw [add_off, cell_eq hc]
                  have := congrArg (·[j]?) hns
                  simp only [List.getElem?_map, hj, Option.map_some, List.getElem?_take, if_pos hj2, List.getElem?_drop] at this
                  simpa using this
                have hload := run_loadBytesI (P := P) (w := w) ns ⟨c', p.o + o, none⟩ .empty hcell
                rw [hlen2] at hload
                have hcells : P.cellsOf e = 1 := by
                  unfold sizeT at hs1
                  unfold Program.cellsOf
                  cases hi : P.info? e with
                  | none => simp [hi] at hs1
                  | some i => simp [hi] at hs1; simp [hs1]
                have hlies : liesAt P P.depth e (arr.size / P.cellsOf e) (p.o + o) e n.toNat = true := liesAt_off hcells _ _ _ (by rw [hcells, Nat.div_one]; omega)
                refine ⟨.string ⟨(ByteArray.empty.data ++ (ns.map fun n => UInt8.ofNat n.toNat).toArray)⟩, w.freeze ⟨c', p.o + o, none⟩ n.toNat, ?_, ?_, ?_, ?_⟩
                · have hn0 : ¬ n < 0 := by omega
                  have hn1 : ¬ (9223372036854775807 < n) := by omega
                  obtain ⟨e0, e1, e2, e3, e4, hdef⟩ := uns_def c.argTypes _ _ ty
                  rw [hdef]
                  simp only [unsBody, asInt, asIntOf, Sem.run_bind, Sem.run_pure, Result.andThen_ok, hpt, hmax, gt_iff_lt, if_neg hn0, if_neg hn1, if_neg hn, elemOf, run_und hu1, variablesAt, run_program, run_shape_cells hc, hlies, if_true, hload, run_freeze]
                · simp only [VR]; simp
                · exact hr.put hb rfl hν (fun k hk => freeze_other _ hk) (freeze_size _) trivial
                · exact Ext.put hb rfl hν (fun k hk => freeze_other _ hk) (freeze_size _) (freeze_same _)
              · cases h
            · cases h
          · cases h
        · cases h
      · cases h
end Go.Proofs.YtblpmmociahklaaGreatDoor.Sx
