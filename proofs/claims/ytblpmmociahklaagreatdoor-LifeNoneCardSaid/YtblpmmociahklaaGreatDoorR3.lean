/- A part of the proof of the statement of this claim: R3. -/
import Derived.Test.YtblpmmociahklaaGreatDoorR2
import Derived.Deep.Slices
import Derived.SizedLaws
import Derived.OpenShut
import Derived.Carry
namespace Go.Proofs.YtblpmmociahklaaGreatDoor.V
open Go Go.RowKit
set_option linter.unusedVariables false
set_option maxRecDepth 100000

section
variable {H : Type} {enc : TypeId × Value → H} {P : Program} {w : World} {base : Nat} {spare : Nat → Bool} {held : Bool}

/-- What a reading weighs is within reach. -/
def WB (P : Program) (t : TypeId) (d : DataW H) : Prop := ∀ n ∈ d.weights P t, n ≤ reachBytes

theorem WB.part {t : TypeId} {fs : Array Field} {parts : List (DataW H)} (ht : P.underlying t = some (.struct fs)) (h : WB P t (.agg parts)) {i : Nat} {f : Field} {d : DataW H} (hf : fs[i]? = some f) (hd : parts[i]? = some d) : WB P f.type d := by
  intro n hn
  refine h n ?_
  rw [DataW.weights.eq_def]
  simp only [ht]
  exact DataW.weights_mem_each (by simp [hf]) hd n hn

theorem weights_mem_all {e : TypeId} {d : DataW H} {n : Nat} : ∀ {l : List (DataW H)}, d ∈ l → n ∈ d.weights P e → n ∈ DataW.weightsAll P e l
  | [], h, _ => by cases h
  | x :: l, h, hn => by
    rw [DataW.weightsAll]
    rcases List.mem_cons.1 h with rfl | h
    · exact List.mem_append_left _ hn
    · exact List.mem_append_right _ (weights_mem_all h hn)

theorem WB.elem {t e : TypeId} {elems sp : List (DataW H)} (ht : P.underlying t = some (.slice e)) (h : WB P t (.slice elems sp)) : elems.length * P.bytesOf e ≤ reachBytes ∧ ∀ d ∈ elems, WB P e d := by
  have h' : ∀ n ∈ (elems.length + sp.length) * P.bytesOf e :: (DataW.weightsAll P e elems ++ DataW.weightsAll P e sp), n ≤ reachBytes := by
    intro n hn
    refine h n ?_
    rw [DataW.weights.eq_def]
    simpa only [ht] using hn
  refine ⟨?_, fun d hd n hn => h' n (List.mem_cons_of_mem _ (List.mem_append_left _ (weights_mem_all hd hn)))⟩
  have h1 := h' _ (List.mem_cons_self ..)
  exact Nat.le_trans (Nat.mul_le_mul_right _ (Nat.le_add_right _ _)) h1

theorem WB.str {t : TypeId} {b : List UInt8} (h : WB P t (.lit (.string b) : DataW H)) : b.length ≤ reachBytes := h _ (by simp [DataW.weights])

/-- A struct's fields. -/
theorem open_fields {t : TypeId} {fs : Array Field} {fuel : Nat} {cs : List Value} {d : DataW H} {ps : List MemPlace} (ht : P.underlying t = some (.struct fs)) (h : DataW.trod enc P w base spare held fuel t cs = some (d, ps)) (hw : WB P t d) :
    ∃ n, fuel = n + 1 ∧ cs.length = P.cellsOf t ∧ ∀ (i : Nat) (f : Field), fs[i]? = some f → ∃ d' ps', DataW.trod enc P w base spare held n f.type ((cs.drop f.offset).take (P.cellsOf f.type)) = some (d', ps') ∧ WB P f.type d' := by
  obtain ⟨xs, n, rfl, hx, hl, hn, hf⟩ := DataW.trod_struct ht h
  cases hx
  refine ⟨n, rfl, hl, fun i f hi => ?_⟩
  have hlt : i < xs.length := by rw [hn]; exact (Array.getElem?_eq_some_iff.1 hi).1
  refine ⟨xs[i].1, xs[i].2, ?_, ?_⟩
  · rw [hf i f hi, List.getElem?_eq_getElem hlt]
  · exact hw.part ht hi (by simp [List.getElem?_eq_getElem hlt])

theorem add_plain (b o i : Nat) : (Addr.add ⟨b, o, none⟩ i) = ⟨b, o + i, none⟩ := by
  unfold Addr.add
  split
  · subst_vars; rfl
  · rfl
theorem plain_of_cell {a : Addr} {v : Value} (h : w.cell? a = some v) : a = ⟨a.block, a.off, none⟩ := by
  have := World.cell?_spot h
  cases a; simp_all
theorem plain_of_add {a : Addr} {v : Value} (h : w.cell? (a.add 0) = some v) : a = ⟨a.block, a.off, none⟩ := plain_of_cell (by simpa [Addr.add] using h)
end

section
variable {H : Type} {enc : TypeId × Value → H} {w : World} {base : Nat} {spare : Nat → Bool} {held : Bool}

theorem reach_str {n : Nat} (h : n ≤ reachBytes) : n ≤ 140737488355328 := by have : reachBytes = 140737488351232 := rfl; omega

theorem strs_of_trod {n : Nat} {cs : List Value} {d : DataW H} {ps : List MemPlace} (h : DataW.trod enc Tryz.prog w base spare held n 23 cs = some (d, ps)) (hw : WB Tryz.prog 23 d) :
    ∃ v l, cs = [v] ∧ StrsIn w v l := by
  rcases Deep.open_slice1 Tryz.underlying23 (by kernel_rfl) h with ⟨rfl, hx⟩ | ⟨a, len, cap, m, n', V, D, Pl, rfl, hb, hl, hm, hmm, hx, hel⟩
  · exact ⟨_, [], rfl, .inl ⟨rfl, none, 0, rfl⟩⟩
  · obtain ⟨rfl, -⟩ := Prod.mk.inj hx
    have hw' := hw.elem Tryz.underlying23
    have hby : Tryz.prog.bytesOf 9 = 16 := by kernel_rfl
    rw [hby] at hw'
    have hle : len ≤ m := by rw [hmm]; split <;> omega
    have hR : reachBytes = 140737488351232 := rfl
    have hlen : len ≤ 8796093022208 := by have := hw'.1; simp at this; omega
    obtain ⟨S, hS⟩ := Deep.choose_lt (α := ByteArray) (n := len) (p := fun i s => V i = .string s ∧ s.size ≤ 140737488355328) (fun i hi => by
      obtain ⟨s, h1, h2, _⟩ := DataW.trod_string Tryz.underlying9 (hel i (by omega)).2
      refine ⟨s, by simpa using h1, reach_str ?_⟩
      have h3 := (hw'.2 (D i) (List.mem_map.2 ⟨i, by simpa using hi, rfl⟩))
      cases h2' : D i with
      | lit l =>
        rw [h2'] at h2 h3
        obtain ⟨h4, -⟩ := Prod.mk.inj h2
        cases h4
        simpa using h3.str
      | _ => rw [h2'] at h2; have h4 := (Prod.mk.inj h2).1; cases h4)
    rcases Nat.eq_zero_or_pos len with rfl | hpos
    · exact ⟨_, [], rfl, .inl ⟨rfl, _, _, rfl⟩⟩
    · have ha := plain_of_add (hel 0 (by omega)).1
      refine ⟨_, (List.range len).map S, rfl, .inr ⟨a.block, a.off, cap, by simp [← ha], by simpa using hlen, fun i hi => ?_⟩⟩
      have hi' : i < len := by simpa using hi
      have h1 := (hel i (by omega)).1
      rw [ha, add_plain, (hS i hi').1] at h1
      simpa using ⟨h1, (hS i hi').2⟩

theorem RIn.mono : ∀ (f g : Nat) (v : RV) (c0 c1 c2 c3 c4 c5 c6 : Value), f ≤ g → RIn w f v c0 c1 c2 c3 c4 c5 c6 → RIn w g v c0 c1 c2 c3 c4 c5 c6
  | 0, _, v, _, _, _, _, _, _, _, _, h => by simp [RIn] at h
  | f + 1, 0, v, _, _, _, _, _, _, _, hle, h => by omega
  | f + 1, g + 1, .mk K B N M S L Keys, c0, c1, c2, c3, c4, c5, c6, hle, h => by
    simp only [RIn] at h ⊢
    obtain ⟨e0, e1, e2, e3, e4, hS, hL, hK⟩ := h
    refine ⟨e0, e1, e2, e3, e4, hS, ?_, hK⟩
    rcases hL with hL | ⟨b, o, c, e, hlen, hi⟩
    · exact .inl hL
    · refine .inr ⟨b, o, c, e, hlen, fun i h => ?_⟩
      obtain ⟨d0, d1, d2, d3, d4, d5, d6, h7, hr⟩ := hi i h
      exact ⟨d0, d1, d2, d3, d4, d5, d6, h7, RIn.mono f g _ _ _ _ _ _ _ _ (by omega) hr⟩

/-- A reference's value that can be read is one. -/
theorem rin_of_trod (n : Nat) : ∀ {cs : List Value} {d : DataW H} {ps : List MemPlace}, DataW.trod enc Tryz.prog w base spare held n 25 cs = some (d, ps) → WB Tryz.prog 25 d →
    ∃ rv c0 c1 c2 c3 c4 c5 c6, cs = [c0, c1, c2, c3, c4, c5, c6] ∧ RIn w n rv c0 c1 c2 c3 c4 c5 c6 := by
  induction n using Nat.strongRecOn with
  | _ n ih =>
  intro cs d ps h hw
  obtain ⟨m, rfl, hlen, hf⟩ := open_fields Tryz.underlying25 h hw
  have hc : Tryz.prog.cellsOf 25 = 7 := by kernel_rfl
  rw [hc] at hlen
  obtain ⟨c0, c1, c2, c3, c4, c5, c6, rfl⟩ : ∃ c0 c1 c2 c3 c4 c5 c6, cs = [c0, c1, c2, c3, c4, c5, c6] := by
    match cs, hlen with
    | [c0, c1, c2, c3, c4, c5, c6], _ => exact ⟨_, _, _, _, _, _, _, rfl⟩
  have n1 : ∀ t, t = 3 ∨ t = 4 ∨ t = 9 ∨ t = 22 ∨ t = 23 → Tryz.prog.cellsOf t = 1 := by
    intro t ht
    rcases ht with rfl | rfl | rfl | rfl | rfl <;> kernel_rfl
  obtain ⟨d0, p0, h0, w0⟩ := hf 0 _ rfl
  obtain ⟨d1, p1, h1, w1⟩ := hf 1 _ rfl
  obtain ⟨d2, p2, h2, w2⟩ := hf 2 _ rfl
  obtain ⟨d3, p3, h3, w3⟩ := hf 3 _ rfl
  obtain ⟨d4, p4, h4, w4⟩ := hf 4 _ rfl
  obtain ⟨d5, p5, h5, w5⟩ := hf 5 _ rfl
  obtain ⟨d6, p6, h6, w6⟩ := hf 6 _ rfl
  rw [n1 _ (by simp)] at h0 h1 h2 h3 h4 h5 h6
  replace h0 : DataW.trod enc Tryz.prog w base spare held m 3 [c0] = some (d0, p0) := h0
  replace h1 : DataW.trod enc Tryz.prog w base spare held m 4 [c1] = some (d1, p1) := h1
  replace h2 : DataW.trod enc Tryz.prog w base spare held m 3 [c2] = some (d2, p2) := h2
  replace h3 : DataW.trod enc Tryz.prog w base spare held m 3 [c3] = some (d3, p3) := h3
  replace h4 : DataW.trod enc Tryz.prog w base spare held m 9 [c4] = some (d4, p4) := h4
  replace h5 : DataW.trod enc Tryz.prog w base spare held m 22 [c5] = some (d5, p5) := h5
  replace h6 : DataW.trod enc Tryz.prog w base spare held m 23 [c6] = some (d6, p6) := h6
  obtain ⟨K, k0, _, _⟩ := DataW.trod_int Tryz.underlying3 h0
  obtain ⟨B, k1, _⟩ := DataW.trod_bool Tryz.underlying4 h1
  obtain ⟨N, k2, _, _⟩ := DataW.trod_int Tryz.underlying3 h2
  obtain ⟨M, k3, _, _⟩ := DataW.trod_int Tryz.underlying3 h3
  obtain ⟨S, k4, e4, _⟩ := DataW.trod_string Tryz.underlying9 h4
  cases k0; cases k1; cases k2; cases k3; cases k4; cases e4
  obtain ⟨v6, Keys, k6, hK⟩ := strs_of_trod h6 w6
  cases k6
  have hS : S.size ≤ 140737488355328 := reach_str (by simpa using w4.str)
  rcases DataW.trod_slice Tryz.underlying22 h5 with ⟨k5, hx⟩ | ⟨a, len, cap, elems, rest, n', rfl, k5, hx, hb, hl, hm, hlen', hel, _, _⟩
  · cases k5
    exact ⟨.mk K B N M S [] Keys, _, _, _, _, _, _, _, rfl, rfl, rfl, rfl, rfl, rfl, hS, .inl ⟨rfl, _, _, rfl⟩, hK⟩
  · cases k5
    obtain ⟨rfl, -⟩ := Prod.mk.inj hx
    have hw' := w5.elem Tryz.underlying22
    have hby : Tryz.prog.bytesOf 25 = 96 := by kernel_rfl
    rw [hby] at hw'
    have hR : reachBytes = 140737488351232 := rfl
    have hlen2 : len ≤ 1466015503701 := by have := hw'.1; simp at this; omega
    rw [hc] at hel
    have hone : ∀ i, i < len → ∃ q : RV × (Value × Value × Value × Value × Value × Value × Value), Seven w a.block (a.off + i * 7) q.2.1 q.2.2.1 q.2.2.2.1 q.2.2.2.2.1 q.2.2.2.2.2.1 q.2.2.2.2.2.2.1 q.2.2.2.2.2.2.2 ∧ RIn w n' q.1 q.2.1 q.2.2.1 q.2.2.2.1 q.2.2.2.2.1 q.2.2.2.2.2.1 q.2.2.2.2.2.2.1 q.2.2.2.2.2.2.2 ∧ a = ⟨a.block, a.off, none⟩ := by
      intro i hi
      have h1 := hel i hi
      have hlt : i < elems.length := by omega
      rw [List.getElem?_eq_getElem hlt] at h1
      obtain ⟨cs', q1, q2⟩ := Option.bind_eq_some_iff.1 h1
      obtain ⟨rv, x0, x1, x2, x3, x4, x5, x6, rfl, hr⟩ := ih n' (by omega) (d := elems[i].1) (ps := elems[i].2) q2 (hw'.2 _ (List.mem_map.2 ⟨elems[i], List.getElem_mem _, rfl⟩))
      obtain ⟨_, _, hcell⟩ := World.cells?_some q1
      have a0 : a = ⟨a.block, a.off, none⟩ := by
        have h0 := hel 0 (by omega)
        rw [List.getElem?_eq_getElem (show 0 < elems.length by omega)] at h0
        obtain ⟨cs0, r1, r2⟩ := Option.bind_eq_some_iff.1 h0
        obtain ⟨_, hl0, hc0⟩ := World.cells?_some r1
        have := hc0 0 (by omega)
        rw [List.getElem?_eq_getElem (show 0 < cs0.length by omega)] at this
        exact plain_of_cell (by simpa [Addr.add] using this)
      have hcell' : ∀ j (hj : j < 7), w.cell? ⟨a.block, a.off + i * 7 + j, none⟩ = [x0, x1, x2, x3, x4, x5, x6][j]? := by
        intro j hj
        have := hcell j hj
        rw [a0, add_plain, add_plain] at this
        exact this
      refine ⟨⟨rv, x0, x1, x2, x3, x4, x5, x6⟩, ⟨hcell' 0 (by omega), hcell' 1 (by omega), hcell' 2 (by omega), hcell' 3 (by omega), hcell' 4 (by omega), hcell' 5 (by omega), hcell' 6 (by omega)⟩, hr, a0⟩
    rcases Nat.eq_zero_or_pos len with rfl | hpos
    · exact ⟨.mk K B N M S [] Keys, _, _, _, _, _, _, _, rfl, rfl, rfl, rfl, rfl, rfl, hS, .inl ⟨rfl, _, _, rfl⟩, hK⟩
    · have hne : Nonempty (RV × (Value × Value × Value × Value × Value × Value × Value)) := ⟨(hone 0 hpos).choose⟩
      let F : Nat → RV := fun i => if h : i < len then (hone i h).choose.1 else .mk 0 false 0 0 S [] []
      have a0 := (hone 0 hpos).choose_spec.2.2
      refine ⟨.mk K B N M S ((List.range len).map F) Keys, _, _, _, _, _, _, _, rfl, rfl, rfl, rfl, rfl, rfl, hS, .inr ⟨a.block, a.off, cap, by simp [← a0], by simpa using hlen2, fun i hi => ?_⟩, hK⟩
      have hi' : i < len := by simpa using hi
      obtain ⟨g1, g2, _⟩ := (hone i hi').choose_spec
      have hF : ((List.range len).map F)[i] = (hone i hi').choose.1 := by simp [F, hi']
      rw [hF]
      exact ⟨_, _, _, _, _, _, _, g1, RIn.mono n' _ _ _ _ _ _ _ _ _ (by omega) g2⟩
end
end Go.Proofs.YtblpmmociahklaaGreatDoor.V
