/- A part of the proof of the statement of this claim: R1. -/
import Derived.Test.YtblpmmociahklaaGreatDoorV1
import Derived.Deep.RegionHeld3
namespace Go.Proofs.YtblpmmociahklaaGreatDoor.V
open Go Go.RowKit
set_option linter.unusedVariables false
set_option maxRecDepth 100000

/-- A value of the reference's, plain. -/
inductive RV where
  | mk (K : Int) (B : Bool) (N M : Int) (S : ByteArray) (L : List RV) (Keys : List ByteArray)

def RV.L : RV → List RV | .mk _ _ _ _ _ l _ => l
def RV.Keys : RV → List ByteArray | .mk _ _ _ _ _ _ l => l
def RV.S : RV → ByteArray | .mk _ _ _ _ s _ _ => s

/-- Seven cells lie at an address. -/
def Seven (w : World) (b o : Nat) (c0 c1 c2 c3 c4 c5 c6 : Value) : Prop :=
  w.cell? ⟨b, o, none⟩ = some c0 ∧ w.cell? ⟨b, o + 1, none⟩ = some c1 ∧ w.cell? ⟨b, o + 2, none⟩ = some c2 ∧ w.cell? ⟨b, o + 3, none⟩ = some c3 ∧ w.cell? ⟨b, o + 4, none⟩ = some c4 ∧ w.cell? ⟨b, o + 5, none⟩ = some c5 ∧ w.cell? ⟨b, o + 6, none⟩ = some c6

/-- What a string's slice reads as. -/
def StrsIn (w : World) (v : Value) (l : List ByteArray) : Prop :=
  (l = [] ∧ ∃ A c, v = .slice A 0 c) ∨ ∃ b o c, v = .slice (some ⟨b, o, none⟩) l.length c ∧ l.length ≤ 8796093022208 ∧ ∀ i (h : i < l.length), w.cell? ⟨b, o + i, none⟩ = some (.string l[i]) ∧ (l[i]).size ≤ 140737488355328

/-- Seven cells read as a value. -/
def RIn (w : World) : Nat → RV → Value → Value → Value → Value → Value → Value → Value → Prop
  | 0, _, _, _, _, _, _, _, _ => False
  | f + 1, .mk K B N M S L Keys, c0, c1, c2, c3, c4, c5, c6 =>
    c0 = .int .i64 K ∧ c1 = .bool B ∧ c2 = .int .i64 N ∧ c3 = .int .i64 M ∧ c4 = .string S ∧ S.size ≤ 140737488355328 ∧
    ((L = [] ∧ ∃ A c, c5 = .slice A 0 c) ∨ ∃ b o c, c5 = .slice (some ⟨b, o, none⟩) L.length c ∧ L.length ≤ 1466015503701 ∧ ∀ i (h : i < L.length), ∃ d0 d1 d2 d3 d4 d5 d6, Seven w b (o + i * 7) d0 d1 d2 d3 d4 d5 d6 ∧ RIn w f L[i] d0 d1 d2 d3 d4 d5 d6) ∧
    StrsIn w c6 Keys

def sizeL (f : RV → Int) : List RV → Int → Int
  | [], n => n
  | x :: l, n => sizeL f l (RowKit.wrap64 (n + f x))
def sizeF : Nat → RV → Int
  | 0, _ => 0
  | f + 1, v => sizeL (sizeF f) v.L 1

theorem sizeL_snoc (f : RV → Int) : ∀ (l : List RV) (n : Int) (k : Nat) (h : k < l.length), sizeL f (l.take (k + 1)) n = RowKit.wrap64 (sizeL f (l.take k) n + f l[k])
  | [], n, k, h => by simp at h
  | x :: l, n, 0, h => by simp [sizeL]
  | x :: l, n, k + 1, h => by
    simp only [List.take_succ_cons, sizeL, List.getElem_cons_succ]
    exact sizeL_snoc f l _ k (by simpa using h)

theorem Seven.below {w w' : World} {b o : Nat} {c0 c1 c2 c3 c4 c5 c6 : Value} (h : Seven w b o c0 c1 c2 c3 c4 c5 c6) (hb : Below w.heap.size w w') : Seven w' b o c0 c1 c2 c3 c4 c5 c6 := by
  have hc : ∀ o' v, w.cell? ⟨b, o', none⟩ = some v → w'.cell? ⟨b, o', none⟩ = some v := fun o' v hv => (hb.cell (World.block_lt_of_cell? w _ hv)).trans hv
  obtain ⟨h0, h1, h2, h3, h4, h5, h6⟩ := h
  exact ⟨hc _ _ h0, hc _ _ h1, hc _ _ h2, hc _ _ h3, hc _ _ h4, hc _ _ h5, hc _ _ h6⟩
theorem StrsIn.below {w w' : World} {v : Value} {l : List ByteArray} (h : StrsIn w v l) (hb : Below w.heap.size w w') : StrsIn w' v l := by
  rcases h with h | ⟨b, o, c, rfl, hl, hi⟩
  · exact .inl h
  · exact .inr ⟨b, o, c, rfl, hl, fun i h => ⟨(hb.cell (World.block_lt_of_cell? w _ (hi i h).1)).trans (hi i h).1, (hi i h).2⟩⟩
theorem RIn.below {w w' : World} (hb : Below w.heap.size w w') : ∀ (f : Nat) (v : RV) (c0 c1 c2 c3 c4 c5 c6 : Value), RIn w f v c0 c1 c2 c3 c4 c5 c6 → RIn w' f v c0 c1 c2 c3 c4 c5 c6
  | 0, v, c0, c1, c2, c3, c4, c5, c6, h => by simp [RIn] at h
  | f + 1, .mk K B N M S L Keys, c0, c1, c2, c3, c4, c5, c6, h => by
    simp only [RIn] at h ⊢
    obtain ⟨e0, e1, e2, e3, e4, hS, hL, hK⟩ := h
    refine ⟨e0, e1, e2, e3, e4, hS, ?_, hK.below hb⟩
    rcases hL with hL | ⟨b, o, c, e, hlen, hi⟩
    · exact .inl hL
    · refine .inr ⟨b, o, c, e, hlen, fun i h => ?_⟩
      obtain ⟨d0, d1, d2, d3, d4, d5, d6, h7, hr⟩ := hi i h
      exact ⟨d0, d1, d2, d3, d4, d5, d6, h7.below hb, RIn.below hb f _ _ _ _ _ _ _ _ hr⟩

theorem size_any (f : Nat) : ∀ (v : RV) (c0 c1 c2 c3 c4 c5 c6 : Value) (w : World), RIn w f v c0 c1 c2 c3 c4 c5 c6 →
    Calls Tryz.prog 62 #[.agg #[c0, c1, c2, c3, c4, c5, c6]] w fun e w' => e = .returned (.int .i64 (sizeF f v)) ∧ Below w.heap.size w w' := by
  induction f with
  | zero => intro v c0 c1 c2 c3 c4 c5 c6 w h; simp [RIn] at h
  | succ f ih =>
    intro v c0 c1 c2 c3 c4 c5 c6 w h
    have IH := Lib.hid ih
    clear ih
    obtain ⟨K, B, N, M, S, L, Keys⟩ := v
    simp only [RIn] at h
    obtain ⟨rfl, rfl, rfl, rfl, rfl, hS, hL, hK⟩ := h
    clear hK hS
    rcases hL with ⟨rfl, A, c, rfl⟩ | ⟨b, o, c, rfl, hlen, hel⟩
    · go_enter Tryz.func62, Tryz.ntmps62
      go_wp2_with fail
      refine wp_loop_rounds 1 ?_; rw [rounds_succ]
      go_wp2_with fail
      go_ret
      exact ⟨rfl, (Below.refl _ _).alloc (Nat.le_refl _) _⟩
    · skip
      have HEL := Lib.hid hel
      clear hel
      go_enter Tryz.func62, Tryz.ntmps62
      go_wp2_with fail
      go_loopw [3, 4] (fun n i wr => ∃ k : Nat, k ≤ L.length ∧ i = .int .i64 k ∧ n = .int .i64 (sizeL (sizeF f) (L.take k) 1) ∧ Below (w.heap.size + 1) (w.alloc (.cells #[.int .i64 K, .bool B, .int .i64 N, .int .i64 M, .string S, .slice (some ⟨b, o, none⟩) L.length c, c6] 25)) wr)
         (fun _ i _ => L.length - (intOf i).toNat)
      case atStart => exact ⟨0, by omega, rfl, rfl, Below.refl _ _⟩
      case round =>
        obtain ⟨k, hk, rfl, rfl, hb⟩ := hrel
        have hbw : Below w.heap.size w wr := ((Below.refl _ _).alloc (Nat.le_refl _) _).trans (hb.mono (by omega))
        have hbox : wr.cell? ⟨w.heap.size, 5, none⟩ = some (.slice (some ⟨b, o, none⟩) L.length c) := (hb.cell (p := ⟨w.heap.size, 5, none⟩) (by simp)).trans (box_cell w _ _ _ _ rfl)
        have hsz : w.heap.size + 1 ≤ wr.heap.size := by have := hb.size; simpa using this
        have HB := Lib.hid hb
        clear hb
        by_cases hlt : k < L.length
        · obtain ⟨d0, d1, d2, d3, d4, d5, d6, h7, hr⟩ := HEL.out k hlt
          obtain ⟨x0, x1, x2, x3, x4, x5, x6⟩ := h7.below hbw
          have HR := Lib.hid (RIn.below hbw _ _ _ _ _ _ _ _ _ hr)
          clear hr h7
          have hsn := sizeL_snoc (sizeF f) L 1 k hlt
          have HSN := Lib.hid hsn
          clear hsn
          go_wp2_with (go_at_call 62; refine (IH.out _ _ _ _ _ _ _ _ _ HR.out).mono ?_; rintro e w2 ⟨rfl, hb2⟩)
          refine ⟨⟨k + 1, by omega, by go_num, by rw [HSN.out], HB.out.trans (hb2.mono (by omega))⟩, by simp [intOf]; omega⟩
        · go_wp2_with fail
          go_ret
          obtain rfl : k = L.length := by omega
          exact ⟨by simp [sizeF, RV.L], hbw⟩
end Go.Proofs.YtblpmmociahklaaGreatDoor.V
