/- What writes is sound: append, copy, calls. -/
import Derived.Test.YtblpmmociahklaaGreatDoorSx13
import Derived.Deep.AppendSrc
namespace Go.Proofs.YtblpmmociahklaaGreatDoor.Sx
open Go

variable {P : Program} {ν : Pl} {σ : Nat → Value} {w : World}

theorem ints_rel : ∀ (l : List UInt8), VRs ν σ (l.map fun c => AV.int .u8 c.toNat) (l.map fun c => Value.int .u8 c.toNat)
  | [] => by simp [VRs]
  | c :: l => by simp only [List.map_cons, VRs]; exact ⟨_, _, rfl, by simp only [VR], ints_rel l⟩

theorem same_drew : SameHeap w w.drew := ⟨rfl, rfl, rfl, rfl⟩

theorem tobytes_big {N : Nat} {H : Heap} (hr : HR N ν σ H w) (hN : N ≤ w.heap.size) {s d e : TypeId} (hus : P.underlying s = some .string) (hud : P.underlying d = some (.slice e)) (hue : P.underlying e = some (.int .u8)) {l : List UInt8} {x' : Value}
    (hx : VR ν σ (.str l) x') :
    ∃ u w' ν', (convert s d x').run P w = .ok u w' ∧ VR ν' σ (.slc H.next 0 l.length l.length (some 1)) u ∧ HR N ν' σ (H.new (.cells e (l.map fun c => .int .u8 c.toNat) false)) w' ∧
      Ext H ν w (H.new (.cells e (l.map fun c => .int .u8 c.toNat) false)) ν' w' := by
  simp only [VR] at hx; subst hx
  have hsz : (⟨l.toArray⟩ : ByteArray).size = l.length := by simp [ByteArray.size]
  let r := (Question.appendCap l.length 0 e).cut (w.tape w.drawn (.appendCap l.length 0 e))
  have hr2 : l.length ≤ r := Nat.le_add_right _ _
  let arr : Array Value := (l.toArray.map fun b => Value.int .u8 b.toNat) ++ Array.replicate (r - l.length) (.int .u8 0)
  have harr : arr.size = r := by simp [arr]; omega
  have hd := hr.same (same_drew (w := w))
  have hold : VRs ν σ (l.map fun c => AV.int .u8 c.toNat) (l.map fun c => Value.int .u8 c.toNat) := ints_rel l
  have hn := hd.new (o := .cells e (l.map fun c => .int .u8 c.toNat) false) (obj := .cells arr e) (w' := w.drew.alloc (.cells arr e)) (pt := ⟨0, r⟩) hN rfl (by
    refine ⟨w.heap.size, ⟨0, r⟩, arr, (0, 0), addPl_self, heap_alloc_new _ _, .inl rfl, ⟨fun h => by simp at h, harr.symm⟩, ?_, ?_⟩
    · rw [harr]; simpa using hr2
    · have : ((arr.toList.drop 0).take (l.map fun c => AV.int .u8 c.toNat).length) = l.map fun c => Value.int .u8 c.toNat := by
        simp only [List.drop_zero, List.length_map, arr, Array.toList_append, Array.toList_map]
        rw [List.take_append_of_le_length (by simp)]
        rw [List.take_of_length_le (by simp)]
      rw [this]
      exact ints_rel l)
  have he := Ext.new (o := .cells e (l.map fun c => .int .u8 c.toNat) false) (pt := ⟨0, r⟩) hd (obj := .cells arr e) (w' := w.drew.alloc (.cells arr e)) rfl ⟨rfl, rfl, rfl⟩
  have hb : (H.new (.cells e (l.map fun c => .int .u8 c.toNat) false)).get H.next = some (.cells e (l.map fun c => .int .u8 c.toNat) false) := by rw [Heap.get_new, if_pos rfl]
  obtain ⟨w', h1, h2, h3⟩ := mark_keeps (P := P) (q := 0) hn hb addPl_self
  refine ⟨.slice (some ⟨w.heap.size, 0, none⟩) l.length r, w', _, ?_, ?_, h2, (Ext.same same_drew).trans (he.trans h3)⟩
  · have h1' : (markStringish ⟨w.heap.size, 0, none⟩).run P (w.drew.alloc (.cells arr e)) = .ok () w' := h1
    have hch : (choose (.appendCap l.length 0 e)).run P w = .ok r w.drew := by simp only [choose, Sem.run]; rfl
    have hnr : (newRow e arr).run P w.drew = .ok ⟨w.heap.size, 0, none⟩ (w.drew.alloc (.cells arr e)) := run_newRow
    simp only [convert, Sem.run_bind, run_und hus, run_und hud, run_und hue, Result.andThen_ok, Conv.stringToBytes, hsz, hch]
    have : (Array.map (fun b : UInt8 => Value.int IntKind.u8 b.toNat) l.toArray ++ Array.replicate (r - l.length) (Value.int IntKind.u8 0)) = arr := rfl
    rw [this, hnr]
    simp only [Result.andThen_ok, h1', Sem.run_pure]
  · simp only [VR]
    refine ⟨w.heap.size, ⟨0, r⟩, r, 0, addPl_self, hr2, fun h => by simp at h, Nat.le_refl _, .inl ⟨rfl, fun s h => ?_⟩, rfl⟩
    injection h with h; subst h; simp

/-- What the second of two gives. -/
theorem src_sound {N : Nat} {H : Heap} (hr : HR N ν σ H w) {s n m : Nat} {y : AV} {new : List AV} (h : srcF s n H y = some new) (hm : lenF y = some m) (hnm : n ≤ m) {y' : Value} (hy : VR ν σ y y') :
    (∀ w', (Builtin.lenOf y').run P w' = .ok m w') ∧ ∃ vs : List Value, VRs ν σ new vs ∧ ∀ w', w'.heap = w.heap → (Builtin.firstCells s n y').run P w' = .ok vs.toArray w' := by
  cases y <;> (first | (cases h; done) | skip)
  case nils =>
    simp only [VR] at hy; subst hy
    injection h with h; injection hm with hm; subst h; subst hm
    exact ⟨fun _ => rfl, [], by simp [VRs], fun _ _ => rfl⟩
  case str l =>
    simp only [VR] at hy; subst hy
    injection h with h; injection hm with hm; subst h; subst hm
    refine ⟨fun _ => by simp [Builtin.lenOf, ByteArray.size], _, ints_rel (l.take n), fun w' _ => ?_⟩
    simp only [Builtin.firstCells, Sem.run_pure]
    congr 1
    apply Array.toList_inj.1
    simp
  case slc b o len cap es =>
    simp only [VR] at hy
    obtain ⟨c, p, k, q, hν, hck, hek, hlc, hq, rfl⟩ := hy
    injection hm with hm; subst hm
    simp only [srcF] at h
    split at h
    · rename_i e cs fx hb
      split at h
      · rename_i hle
        injection h with h; subst h
        obtain ⟨c2, p2, arr, fr, hν2, hc, hf, hfx, hl, hv⟩ := hr.rel _ _ hb
        rw [hν] at hν2; injection hν2 with hν2; injection hν2 with e1 e2; subst e1; subst e2
        refine ⟨fun _ => rfl, ?_⟩
        rcases hq with ⟨hq, _⟩ | hk
        · subst hq
          have hvv := (hv.drop o).take (n * s)
          rw [List.drop_take, List.take_take, List.drop_drop, Nat.min_eq_left (by omega)] at hvv
          refine ⟨_, hvv, fun w' hw' => ?_⟩
          simp only [Builtin.firstCells]
          exact run_load_cells (by rw [hw']; exact hc) (by omega)
        · have hn0 : n = 0 := by omega
          subst hn0
          refine ⟨[], by simp [VRs], fun w' _ => ?_⟩
          simp [Builtin.firstCells, loadCells, loadCellsFrom]
      · cases h
    · cases h

section runs
variable {ats : Array TypeId} {ty t u e : TypeId} {i : TypeInfo}
theorem app_room (h0 : ats[0]? = some t) (h1 : ats[1]? = some u) (ht : P.underlying t = some (.slice e)) {ud : TypeDesc} (hu : P.underlying u = some ud) (hud : isSrcT ud = true) (hi : P.info? e = some i)
    {base : Option Addr} {sLen sCap n : Nat} {x : Value} {news : List Value} {w' : World} (hlen : (Builtin.lenOf x).run P w = .ok n w) (hroom : sLen + n ≤ sCap) (hc : (Builtin.firstCells i.size n x).run P w = .ok news.toArray w)
    (hst : match base with | none => w' = w | some a => (storeCells (a.add (sLen * i.size)) news).run P w = .ok () w') :
    (Builtin.append_ ats ty #[.slice base sLen sCap, x]).run P w = .ok (.slice base (sLen + n) sCap) w' := by
  cases base with
  | none =>
    simp only at hst; subst hst
    cases ud <;> (first | (cases hud; done) | skip) <;> simp [Builtin.append_, h0, h1, run_und ht, run_und hu, sizeOf, typeInfo, hi, hlen, hroom, hc]
  | some a =>
    simp only at hst
    cases ud <;> (first | (cases hud; done) | skip) <;> simp [Builtin.append_, h0, h1, run_und ht, run_und hu, sizeOf, typeInfo, hi, hlen, hroom, hc, hst]

theorem app_grow (h0 : ats[0]? = some t) (h1 : ats[1]? = some u) (ht : P.underlying t = some (.slice e)) {ud : TypeDesc} (hu : P.underlying u = some ud) (hud : isSrcT ud = true) (hi : P.info? e = some i) {z : Value} (hz : i.zero = some z)
    {base : Option Addr} {sLen sCap n : Nat} {x : Value} {olds news : List Value} (hlen : ∀ w' : World, (Builtin.lenOf x).run P w' = .ok n w') (hg : sCap < sLen + n)
    (hold : (Builtin.firstCells i.size sLen (.slice base sLen sCap)).run P w.drew = .ok olds.toArray w.drew) (hc : (Builtin.firstCells i.size n x).run P w.drew = .ok news.toArray w.drew)
    (h63 : ((sLen + n : Nat) : Int) ≤ 9223372036854775807) (hfit : Builtin.nextslicecap (sLen + n) sCap * i.bytes ≤ 281474976710656) :
    (Builtin.append_ ats ty #[.slice base sLen sCap, x]).run P w =
      .ok (.slice (some ⟨w.heap.size, 0, none⟩) (sLen + n) (grownCap w (sLen + n) sCap e))
        (w.drew.alloc (.cells ((olds ++ news).toArray ++ Builtin.zeroCells z.cells (grownCap w (sLen + n) sCap e - (sLen + n))) e)) := by
  have hn : ¬ (sLen + n ≤ sCap) := by omega
  have h63' : ¬ (9223372036854775807 < ((sLen : Int) + (n : Int))) := by omega
  have h48' : ¬ (281474976710656 < Builtin.nextslicecap (sLen + n) sCap * i.bytes) := by omega
  cases ud <;> (first | (cases hud; done) | skip) <;>
    (simp [Builtin.append_, h0, h1, run_und ht, run_und hu, sizeOf, typeInfo, zeroValue, hi, hz, hlen, hn, h63', h48', Question.forced, hc, hold, newRow, grownCap]
     congr 2
     apply Array.ext'
     simp [List.append_assoc])
end runs

/-- A block of the machine's goes on under a new number of the evaluator's. -/
theorem HR.move {N : Nat} {H : Heap} {w' : World} {b : Nat} {o o' : AO} (h : HR N ν σ H w) (hb : H.get b = some o) (ha : alive o = true) {c : Nat} {p pt : Pt} (hν : ν b = some (c, p))
    (hother : ∀ k, k ≠ c → w'.heap[k]? = w.heap[k]?) (hsize : w'.heap.size = w.heap.size) (h4 : w'.os = w.os ∧ w'.tape = w.tape ∧ w'.output = w.output) (hrel : OR (addPl ν H.next (c, pt)) σ w' H.next o') :
    HR N (addPl ν H.next (c, pt)) σ ((H.new o').put b .dead) w' ∧ Ext H ν w ((H.new o').put b .dead) (addPl ν H.next (c, pt)) w' := by
  have hn : ν H.next = none := h.fresh _ (Nat.le_refl _)
  have hget : ∀ j x, ((H.new o').put b .dead).get j = some x → (x = .dead) ∨ (j = H.next ∧ x = o') ∨ (j ≠ H.next ∧ j ≠ b ∧ H.get j = some x) := by
    intro j x hj
    rw [Heap.get_put, Heap.get_new] at hj
    split at hj
    · injection hj with hj; exact .inl hj.symm
    · split at hj
      · rename_i e; injection hj with hj; exact .inr (.inl ⟨e, hj.symm⟩)
      · rename_i e1 e2; exact .inr (.inr ⟨e2, e1, hj⟩)
  refine ⟨⟨?_, ?_, ?_, ?_, ?_⟩, ⟨addPl_le hn, Nat.le_succ _, fun j hj => by unfold addPl; rw [if_neg (by omega)], h4.1, h4.2.1, h4.2.2, by rw [hsize]; exact Nat.le_refl _, ?_, ?_⟩⟩
  · intro j hj
    have : H.next + 1 ≤ j := hj
    unfold addPl
    rw [if_neg (by omega)]
    exact h.fresh j (by omega)
  · intro j x hj
    rcases hget j x hj with rfl | ⟨rfl, rfl⟩ | ⟨h1, h2, h3⟩
    · trivial
    · exact hrel
    · refine (h.rel j x h3).mono (addPl_le hn) (fun c' p' hax hj' => hother c' ?_)
      intro e; subst e
      exact h2 (h.sep j b x o c' p' p h3 hax hb ha hj' hν)
  · intro i j x y c1 p1 p2 hi hax hj hay h1 h2
    rcases hget i x hi with rfl | ⟨rfl, rfl⟩ | ⟨i1, i2, i3⟩
    · cases hax
    · rcases hget j y hj with rfl | ⟨rfl, rfl⟩ | ⟨j1, j2, j3⟩
      · cases hay
      · rfl
      · rw [addPl_self] at h1
        injection h1 with h1; injection h1 with e1 _; subst e1
        unfold addPl at h2; rw [if_neg j1] at h2
        exact absurd (h.sep j b y o c p2 p j3 hay hb ha h2 hν) j2
    · unfold addPl at h1; rw [if_neg i1] at h1
      rcases hget j y hj with rfl | ⟨rfl, rfl⟩ | ⟨j1, j2, j3⟩
      · cases hay
      · rw [addPl_self] at h2
        injection h2 with h2; injection h2 with e1 _; subst e1
        exact absurd (h.sep i b x o c p1 p i3 hax hb ha h1 hν) i2
      · unfold addPl at h2; rw [if_neg j1] at h2
        exact h.sep _ _ _ _ _ _ _ i3 hax j3 hay h1 h2
  · intro j c' p' hj
    rw [hsize]
    unfold addPl at hj
    split at hj
    · injection hj with hj; injection hj with e1 _; subst e1; exact h.base _ _ _ hν
    · exact h.base j c' p' hj
  · intro j x hj
    show j < H.next + 1
    rw [Heap.get_put, Heap.get_new] at hj
    split at hj
    · rename_i e; rw [e]; exact Nat.lt_succ_of_lt (h.dom _ _ hb)
    · split at hj
      · omega
      · exact Nat.lt_succ_of_lt (h.dom _ _ hj)
  · exact fun k _ hl => hother k (fun e => hl ⟨b, o, p, hb, ha, e ▸ hν⟩)
  · intro k hk hl
    obtain ⟨j, x, p', hj, hx, hν'⟩ := hl
    rcases hget j x hj with rfl | ⟨rfl, rfl⟩ | ⟨j1, j2, j3⟩
    · cases hx
    · rw [addPl_self] at hν'
      injection hν' with hν'; injection hν' with e1 _; subst e1
      exact ⟨b, o, p, hb, ha, hν⟩
    · unfold addPl at hν'; rw [if_neg j1] at hν'
      exact ⟨j, x, p', j3, hx, hν'⟩

/-- Cells behind a slice's beginning are written. -/
theorem write_off (hσ : ∀ i, (σ i).oneCell' = true) {N : Nat} {H : Heap} (hr : HR N ν σ H w) {b : Nat} {e : TypeId} {cs : List AV} {fx : Bool} (hb : H.get b = some (.cells e cs fx)) {new : List AV} {vs : List Value}
    (hn : VRs ν σ new vs) (h1 : new.all leaf = true) {o d : Nat} (hle : o + d + new.length ≤ cs.length) {c : Nat} {p : Pt} (hν : ν b = some (c, p)) {q : Nat} (hq : q = p.o + o ∨ new = []) :
    ∃ w', (storeCells ⟨c, q + d, none⟩ vs 0).run P w = .ok () w' ∧ HR N ν σ (H.put b (.cells e (setCells cs (o + d) new) fx)) w' ∧ Ext H ν w (H.put b (.cells e (setCells cs (o + d) new) fx)) ν w' := by
  rcases hq with rfl | rfl
  · rw [Nat.add_assoc]
    exact write_cells hσ hr hb hn h1 hle hν
  · simp only [VRs] at hn; subst hn
    have hg := put_get_same hb
    exact ⟨w, rfl, hr.congr (fun j => hg j) rfl, (Ext.refl H ν w).congr (fun j => hg j) rfl⟩

set_option maxHeartbeats 1000000 in
/-- A new row behind an append. -/
theorem grown_new {N : Nat} {H : Heap} (hr : HR N ν σ H w) (hN : N ≤ w.heap.size) {e : TypeId} {i : TypeInfo} {z : Value} (hz : z.cells.size = i.size) {cells : List AV} {vs : List Value} (hv : VRs ν σ cells vs) {need old : Nat} (hl : cells.length = need * i.size) :
    let ν' := addPl ν H.next (w.heap.size, ⟨0, grownCap w need old e * i.size⟩)
    let w' := w.drew.alloc (.cells (vs.toArray ++ Builtin.zeroCells z.cells (grownCap w need old e - need)) e)
    VR ν' σ (.slc H.next 0 need need (some i.size)) (.slice (some ⟨w.heap.size, 0, none⟩) need (grownCap w need old e)) ∧ HR N ν' σ (H.new (.cells e cells false)) w' ∧ Ext H ν w (H.new (.cells e cells false)) ν' w' := by
  intro ν' w'
  have hge := grownCap_ge w need old e
  have hd := hr.same (same_drew (w := w))
  have hvl := hv.length
  have hsz : (vs.toArray ++ Builtin.zeroCells z.cells (grownCap w need old e - need)).size = grownCap w need old e * i.size := by
    simp only [Array.size_append, List.size_toArray, size_zeroCells, hz, ← hvl, hl, ← Nat.add_mul]
    congr 1; omega
  have hle : need * i.size ≤ grownCap w need old e * i.size := Nat.mul_le_mul_right _ hge
  refine ⟨?_, hd.new hN rfl ?_, (Ext.same same_drew).trans (Ext.new hd rfl ⟨rfl, rfl, rfl⟩)⟩
  · simp only [VR]
    refine ⟨w.heap.size, _, grownCap w need old e, 0, addPl_self, hge, fun h => by simp at h, Nat.le_refl _, .inl ⟨rfl, fun s h => ?_⟩, rfl⟩
    injection h with h; subst h
    simp
  · refine ⟨w.heap.size, _, _, (0, 0), addPl_self, heap_alloc_new _ _, .inl rfl, ⟨fun h => by simp at h, hsz.symm⟩, ?_, ?_⟩
    · rw [hsz, hl]; simpa using hle
    · have : (((vs.toArray ++ Builtin.zeroCells z.cells (grownCap w need old e - need)).toList.drop 0).take cells.length) = vs := by
        rw [List.drop_zero, Array.toList_append, hvl, List.take_left]
      rw [this]
      exact hv.mono (addPl_le (hr.fresh _ (Nat.le_refl _)))

theorem take_setV (l ws vs : List Value) (q a : Nat) (hws : ws = (l.drop q).take a) (hwl : ws.length = a) (hlen : q + a + vs.length ≤ l.length) : ((setV l (q + a) vs).drop q).take (a + vs.length) = ws ++ vs := by
  apply List.ext_getElem?
  intro j
  rw [List.getElem?_take, List.getElem?_append, hwl]
  by_cases hj : j < a + vs.length
  · rw [if_pos hj, List.getElem?_drop, setV_get]
    by_cases hj2 : j < a
    · rw [if_pos hj2, hws, List.getElem?_take, if_pos hj2, List.getElem?_drop, if_neg (by omega)]
    · rw [if_neg hj2, if_pos ⟨by omega, by omega, by omega⟩]
      congr 1; omega
  · rw [if_neg hj, if_neg (by omega), List.getElem?_eq_none (by omega)]

set_option maxHeartbeats 2000000 in
theorem app_big (hσ : ∀ i, (σ i).oneCell' = true) {N : Nat} {H H' : Heap} (hr : HR N ν σ H w) (hN : N ≤ w.heap.size) {c : Call} {x y v : AV} (h : appendF P c x y H = some (v, H')) {x' y' : Value} (hx : VR ν σ x x') (hy : VR ν σ y y') (ty : TypeId) :
    ∃ u w' ν', (Builtin.append_ c.argTypes ty #[x', y']).run P w = .ok u w' ∧ VR ν' σ v u ∧ HR N ν' σ H' w' ∧ Ext H ν w H' ν' w' := by
  unfold appendF at h
  cases h0 : c.argTypes[0]? with
  | none => simp [h0] at h
  | some t =>
  cases h1 : c.argTypes[1]? with
  | none => simp [h0, h1] at h
  | some u =>
  simp only [h0, h1] at h
  cases ht : P.underlying t with
  | none => simp [ht] at h
  | some td =>
  cases hu : P.underlying u with
  | none => cases td <;> simp [ht, hu] at h
  | some ud =>
  simp only [ht, hu] at h
  cases td <;> (first | (cases h; done) | skip)
  rename_i e
  simp only at h
  split at h
  · cases h
  rename_i hud
  have hud : isSrcT ud = true := by simpa using hud
  split at h
  rotate_left
  · cases h
  rename_i i n z hi hm hz
  split at h
  · cases h
  rename_i new hnew
  split at h
  rotate_left
  · cases h
  rename_i hcond
  obtain ⟨hby, hn6, hzl, hnl, hleaf⟩ := hcond
  obtain ⟨hlenw, vs, hvs, hfc⟩ := src_sound (P := P) hr hnew hm (Nat.le_refl _) hy
  obtain ⟨zv, hzv, hzr⟩ : ∃ zv, i.zero = some zv ∧ VR ν σ z zv := by
    unfold zeroT at hz
    rw [hi] at hz
    simp only at hz
    split at hz
    · rename_i zv hzv; exact ⟨zv, hzv, toA_sound _ _ _ _ hz⟩
    · cases hz
  have hzs : zv.cells.size = i.size := by
    have := (cells_rel hσ hzr).length
    rw [← hzl, this]; simp
  have hbnd : ∀ len, len ≤ 65536 → (len + n) * i.bytes ≤ 140737488355328 := fun len hl => by
    calc (len + n) * i.bytes ≤ 131072 * 65536 := Nat.mul_le_mul (by omega) hby
      _ ≤ 140737488355328 := by decide
  cases x <;> (first | (cases h; done) | skip)
  case nils =>
    simp only [VR] at hx; subst hx
    simp only at h
    split at h
    · rename_i hn0
      injection h with h; injection h with e1 e2; subst e1; subst e2; subst hn0
      refine ⟨.slice none 0 0, w, ν, ?_, by simp only [VR], hr, Ext.refl _ _ _⟩
      exact app_room h0 h1 ht hu hud hi (hlenw w) (by omega) (hfc w rfl) rfl
    · rename_i hn0
      injection h with h; injection h with e1 e2; subst e1; subst e2
      have hg := grown_new (e := e) (old := 0) hr hN hzs hvs (need := n) hnl
      refine ⟨_, _, _, ?_, hg.1, hg.2.1, hg.2.2⟩
      have := app_grow (ty := ty) h0 h1 ht hu hud hi hzv (base := none) (sLen := 0) (sCap := 0) (olds := []) (news := vs) hlenw (by omega) rfl (hfc w.drew rfl) (by omega) (growslice_fits (by omega) (hbnd 0 (by omega)))
      simpa using this
  case slc b o len cap es =>
    have hx0 := hx
    simp only [VR] at hx
    obtain ⟨cb, p, k, q, hν, hck, hek, hlc, hq, rfl⟩ := hx
    simp only at h
    split at h
    rotate_left
    · cases h
    rename_i e' cs fx hb
    have hb' := hr.rel _ _ hb
    obtain ⟨c2, p2, arr, fr, hν2, hc, hf, hfx, hl, hv⟩ := hb'
    rw [hν] at hν2; injection hν2 with hν2; injection hν2 with e1 e2; subst e1; subst e2
    split at h
    rotate_left
    · cases h
    rename_i hlen6
    split at h
    · rename_i hroom
      split at h
      rotate_left
      · cases h
      rename_i hfit
      injection h with h; injection h with e1 e2; subst e1; subst e2
      have hmul : (len + n) * i.size = len * i.size + n * i.size := Nat.add_mul _ _ _
      have hq' : q = p.o + o ∨ new = [] := by
        rcases hq with ⟨h, _⟩ | h
        · exact .inl h
        · right
          have : n = 0 := by omega
          rw [this] at hnl
          simpa using hnl
      obtain ⟨w', hst, hr', he'⟩ := write_off (P := P) hσ hr hb hvs hleaf (o := o) (d := len * i.size) (by omega) hν hq'
      refine ⟨_, w', ν, app_room h0 h1 ht hu hud hi (hlenw w) (by omega) (hfc w rfl) (by simp only [add_off]; exact hst), ?_, hr', he'⟩
      simp only [VR]
      exact ⟨cb, p, k, q, hν, hck, hek, hroom, hq, rfl⟩
    · rename_i hroom
      split at h
      rotate_left
      · cases h
      rename_i hfit
      have hcs0 : (cs.drop o).take (len * i.size) = (cs.drop o).take (len * i.size) := rfl
      have hold : ∃ ws : List Value, VRs ν σ ((cs.drop o).take (len * i.size)) ws ∧ ∀ w', w'.heap = w.heap → (Builtin.firstCells i.size len (.slice (some ⟨cb, q, none⟩) len k)).run P w' = .ok ws.toArray w' := by
        rcases hq with ⟨rfl, _⟩ | hk
        · have hvv := (hv.drop o).take (len * i.size)
          rw [List.drop_take, List.take_take, List.drop_drop, Nat.min_eq_left (by omega)] at hvv
          refine ⟨_, hvv, fun w' hw' => ?_⟩
          simp only [Builtin.firstCells]
          exact run_load_cells (by rw [hw']; exact hc) (by omega)
        · have hl0 : len = 0 := by omega
          subst hl0
          refine ⟨[], by simp [VRs], fun w' _ => ?_⟩
          simp [Builtin.firstCells, loadCells, loadCellsFrom]
      obtain ⟨ws, hws, hwr⟩ := hold
      have hall := hws.append hvs
      have hlall : ((cs.drop o).take (len * i.size) ++ new).length = (len + n) * i.size := by
        rw [List.length_append, hnl, Nat.add_mul, List.length_take, List.length_drop, Nat.min_eq_left (by omega)]
      cases es with
      | none =>
        simp only at h
        injection h with h; injection h with e1 e2; subst e1; subst e2
        have hkc := hek rfl
        have hg := grown_new (e := e) (old := k) hr hN hzs hall (need := len + n) hlall
        refine ⟨_, _, _, ?_, hg.1, hg.2.1, hg.2.2⟩
        exact app_grow h0 h1 ht hu hud hi hzv hlenw (by omega) (hwr w.drew rfl) (hfc w.drew rfl) (by omega) (growslice_fits (by omega) (hbnd len hlen6))
      | some s' =>
        simp only at h
        split at h
        rotate_left
        · cases h
        rename_i hse
        obtain ⟨rfl, rfl⟩ := hse
        injection h with h; injection h with e1 e2; subst e1; subst e2
        by_cases hkk : len + n ≤ k
        · -- there was room behind all
          rcases hq with ⟨rfl, hqs⟩ | hk0
          rotate_left
          · omega
          have hqk := hqs _ rfl
          have hpn := hfx.2
          have hmul : (len + n) * i.size ≤ k * i.size := Nat.mul_le_mul_right _ hkk
          have hmul2 : (len + n) * i.size = len * i.size + n * i.size := Nat.add_mul _ _ _
          have hvl := hvs.length
          obtain ⟨w', arr', hrun, hc', hs', hl', ho', hz', h4⟩ := run_store_cells (P := P) (q := p.o + o + len * i.size) vs 0 w arr hc hf (by omega) (leaf_all hσ hvs hleaf)
          have hmv := hr.move (o' := .cells e' ((cs.drop o).take (len * i.size) ++ new) false) (pt := ⟨p.o + o, arr'.size⟩) (w' := w') hb rfl hν ho' hz' h4 (by
            refine ⟨cb, _, arr', fr, addPl_self, hc', by rw [hs']; exact hf, ⟨fun h => by simp at h, rfl⟩, ?_, ?_⟩
            · rw [hlall, hs']; simp only; omega
            · have hle := addPl_le (x := (cb, (⟨p.o + o, arr'.size⟩ : Pt))) (hr.fresh _ (Nat.le_refl _))
              have hwsl := hws.length
              have : (arr'.toList.drop (p.o + o)).take ((cs.drop o).take (len * i.size) ++ new).length = ws ++ vs := by
                have hwv : ws = (arr.toList.drop (p.o + o)).take (len * i.size) := by
                  have h1 := hwr w rfl
                  have h2 := run_load_cells (P := P) (q := p.o + o) (n := len * i.size) hc (by omega)
                  simp only [Builtin.firstCells] at h1
                  rw [h2] at h1
                  injection h1 with h1
                  have := congrArg Array.toList h1
                  simpa using this.symm
                rw [hlall, hl', Nat.add_zero]
                have hwl : ws.length = len * i.size := by
                  rw [← hwsl, List.length_take, List.length_drop, Nat.min_eq_left (by omega)]
                have := take_setV arr.toList ws vs (p.o + o) (len * i.size) hwv hwl (by simp; omega)
                rw [← this, hmul2, ← hnl, hvl]
              rw [this]
              exact VRs.mono hle _ _ hall)
          refine ⟨_, w', _, app_room h0 h1 ht hu hud hi (hlenw w) hkk (hfc w rfl) (by simp only [add_off]; exact hrun), ?_, hmv.1, hmv.2⟩
          simp only [VR]
          refine ⟨cb, _, k, p.o + o, addPl_self, hkk, fun h => by simp at h, Nat.le_refl _, .inl ⟨rfl, fun s h => ?_⟩, rfl⟩
          injection h with h; subst h
          simp only [hs']; omega
        · have hg := grown_new (e := e') (old := k) hr hN hzs hall (need := len + n) hlall
          have hbn : b < H.next + 1 := Nat.lt_succ_of_lt (hr.dom _ _ hb)
          refine ⟨_, _, _, ?_, hg.1, hg.2.1.kill hbn, hg.2.2.trans Ext.kill⟩
          exact app_grow h0 h1 ht hu hud hi hzv hlenw (by omega) (hwr w.drew rfl) (hfc w.drew rfl) (by omega) (growslice_fits (by omega) (hbnd len hlen6))
end Go.Proofs.YtblpmmociahklaaGreatDoor.Sx
