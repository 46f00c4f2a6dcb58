/- A part of the proof of the statement of this claim: R2. -/
import Derived.Test.YtblpmmociahklaaGreatDoorR1
namespace Go.Proofs.YtblpmmociahklaaGreatDoor.V
open Go Go.RowKit
set_option linter.unusedVariables false
set_option maxRecDepth 100000
set_option linter.unusedSimpArgs false

/-- The greater one; the walk does not look into it. -/
def mxI (x y : Int) : Int := if y > x then y else x
theorem run_mx {P : Program} {w : World} (ts : Array TypeId) (t : TypeId) (k k' : IntKind) (x y : Int) : (Builtin.max_ ts t #[.int k x, .int k' y]).run P w = .ok (.int k (mxI x y)) w := run_max_int2 w ts t k k' x y
/-- A sum; the walk does not look into it. -/
def addI (x y : Int) : Int := IntKind.i64.wrap (x + y)
theorem run_addI (t : TypeId) (x y : Int) : binOp .add t (.int .i64 x) (.int .i64 y) = pure (.int .i64 (addI x y)) := by
  simp [binOp, addI, Op.intArith]
attribute [local go_sem 2000] run_mx

/-- What a call gives that answers a whole number, and leaves alone what was there. -/
def SomeInt (w : World) (e : Ending) (w' : World) : Prop := ∃ n : Int, e = .returned (.int .i64 n) ∧ Below w.heap.size w w'

theorem deep_any (f : Nat) : ∀ (v : RV) (c0 c1 c2 c3 c4 c5 c6 : Value) (w : World), RIn w f v c0 c1 c2 c3 c4 c5 c6 →
    Calls Tryz.prog 63 #[.agg #[c0, c1, c2, c3, c4, c5, c6]] w (SomeInt w) := by
  induction f with
  | zero => intro v c0 c1 c2 c3 c4 c5 c6 w h; simp [RIn] at h
  | succ f ih =>
    intro v c0 c1 c2 c3 c4 c5 c6 w h
    have IH := Lib.hid ih
    clear ih
    obtain ⟨K, B, N, M, S, L, Keys⟩ := v
    simp only [RIn] at h
    obtain ⟨rfl, rfl, rfl, rfl, rfl, hS, hL, hK⟩ := h
    clear hK hS
    rcases hL with ⟨rfl, A, c, rfl⟩ | ⟨b, o, c, rfl, hlen, hel⟩
    · go_enter Tryz.func63, Tryz.ntmps63
      go_wp2_with fail
      refine wp_loop_rounds 1 ?_; rw [rounds_succ]
      go_wp2_with fail
      go_ret
      exact ⟨_, rfl, (Below.refl _ _).alloc (Nat.le_refl _) _⟩
    · have HEL := Lib.hid hel
      clear hel
      go_enter Tryz.func63, Tryz.ntmps63
      go_wp2_with fail
      go_loopw [3, 4] (fun n i wr => ∃ k : Nat, k ≤ L.length ∧ i = .int .i64 k ∧ (∃ z : Int, n = .int .i64 z) ∧ Below (w.heap.size + 1) (w.alloc (.cells #[.int .i64 K, .bool B, .int .i64 N, .int .i64 M, .string S, .slice (some ⟨b, o, none⟩) L.length c, c6] 25)) wr)
         (fun _ i _ => L.length - (intOf i).toNat)
      case atStart => exact ⟨0, by omega, rfl, ⟨_, rfl⟩, Below.refl _ _⟩
      case round =>
        obtain ⟨k, hk, rfl, ⟨z, rfl⟩, hb⟩ := hrel
        have hbw : Below w.heap.size w wr := ((Below.refl _ _).alloc (Nat.le_refl _) _).trans (hb.mono (by omega))
        have hbox : wr.cell? ⟨w.heap.size, 5, none⟩ = some (.slice (some ⟨b, o, none⟩) L.length c) := (hb.cell (p := ⟨w.heap.size, 5, none⟩) (by simp)).trans (box_cell w _ _ _ _ rfl)
        have hsz : w.heap.size + 1 ≤ wr.heap.size := by have := hb.size; simpa using this
        have HB := Lib.hid hb
        clear hb
        by_cases hlt : k < L.length
        · obtain ⟨d0, d1, d2, d3, d4, d5, d6, h7, hr⟩ := HEL.out k hlt
          obtain ⟨x0, x1, x2, x3, x4, x5, x6⟩ := h7.below hbw
          have HR := Lib.hid (RIn.below hbw _ _ _ _ _ _ _ _ _ hr)
          clear hr h7
          go_wp2_with (go_at_call 63; refine (IH.out _ _ _ _ _ _ _ _ _ HR.out).mono ?_; rintro e w2 ⟨n2, rfl, hb2⟩)
          all_goals exact ⟨⟨k + 1, by omega, by go_num, ⟨_, rfl⟩, HB.out.trans (hb2.mono (by omega))⟩, by simp [intOf]; omega⟩
        · go_wp2_with fail
          go_ret
          exact ⟨_, rfl, hbw⟩

theorem size_some (f : Nat) (v : RV) (c0 c1 c2 c3 c4 c5 c6 : Value) (w : World) (h : RIn w f v c0 c1 c2 c3 c4 c5 c6) :
    Calls Tryz.prog 62 #[.agg #[c0, c1, c2, c3, c4, c5, c6]] w (SomeInt w) :=
  (size_any f v c0 c1 c2 c3 c4 c5 c6 w h).mono fun _ _ ⟨he, hb⟩ => ⟨_, he, hb⟩

theorem size_some' (f : Nat) (v : RV) (c0 c1 c2 c3 c4 c5 c6 : Value) (w w' : World) (h : RIn w f v c0 c1 c2 c3 c4 c5 c6) (hb : Hid (Below w.heap.size w w')) :
    Calls Tryz.prog 62 #[.agg #[c0, c1, c2, c3, c4, c5, c6]] w' (SomeInt w') := size_some f v _ _ _ _ _ _ _ _ (RIn.below hb _ _ _ _ _ _ _ _ _ h)
theorem deep_some' (f : Nat) (v : RV) (c0 c1 c2 c3 c4 c5 c6 : Value) (w w' : World) (h : RIn w f v c0 c1 c2 c3 c4 c5 c6) (hb : Hid (Below w.heap.size w w')) :
    Calls Tryz.prog 63 #[.agg #[c0, c1, c2, c3, c4, c5, c6]] w' (SomeInt w') := deep_any f v _ _ _ _ _ _ _ _ (RIn.below hb _ _ _ _ _ _ _ _ _ h)
theorem bcell {W w1 : World} (hb : Below W.heap.size W w1) : (∀ b o, b < W.heap.size → w1.cell? ⟨b, o, none⟩ = W.cell? ⟨b, o, none⟩) ∧ (∀ b o, b < W.heap.size → w1.frozen? ⟨b, o, none⟩ = W.frozen? ⟨b, o, none⟩) :=
  ⟨fun b o h => hb.cell (p := ⟨b, o, none⟩) h, fun b o h => hb.frozen (p := ⟨b, o, none⟩) h⟩
theorem hid_trans {w w' w2 : World} (h : Hid (Below w.heap.size w w')) (hb : Below w'.heap.size w' w2) : Hid (Below w.heap.size w w2) := h.out.trans (hb.mono h.out.size)
theorem size_trans {w w' w2 : World} (h : w.heap.size < w'.heap.size) (hb : Below w'.heap.size w' w2) : w.heap.size < w2.heap.size := Nat.lt_of_lt_of_le h hb.size

/-- Seven cells of a block of the call's own, and what was there before as it was. -/
def Seven7 (w w' : World) (c0 c1 c2 c3 c4 c5 c6 : Value) : Prop :=
  w'.cell? ⟨w.heap.size, 0, none⟩ = some c0 ∧ w'.cell? ⟨w.heap.size, 1, none⟩ = some c1 ∧ w'.cell? ⟨w.heap.size, 2, none⟩ = some c2 ∧ w'.cell? ⟨w.heap.size, 3, none⟩ = some c3 ∧ w'.cell? ⟨w.heap.size, 4, none⟩ = some c4 ∧ w'.cell? ⟨w.heap.size, 5, none⟩ = some c5 ∧ w'.cell? ⟨w.heap.size, 6, none⟩ = some c6 ∧ Hid (Below w.heap.size w w')
theorem Seven7.hid {w w' : World} {c0 c1 c2 c3 c4 c5 c6 : Value} (h : Seven7 w w' c0 c1 c2 c3 c4 c5 c6) : Hid (Below w.heap.size w w') := h.2.2.2.2.2.2.2
theorem Seven7.keep {w w' w2 : World} {c0 c1 c2 c3 c4 c5 c6 : Value} (h : Seven7 w w' c0 c1 c2 c3 c4 c5 c6) (hb : Below w'.heap.size w' w2) : Seven7 w w2 c0 c1 c2 c3 c4 c5 c6 := by
  obtain ⟨h0, h1, h2, h3, h4, h5, h6, h7⟩ := h
  exact ⟨cell_later hb h0, cell_later hb h1, cell_later hb h2, cell_later hb h3, cell_later hb h4, cell_later hb h5, cell_later hb h6, hid_trans h7 hb⟩
theorem Seven7.new (w : World) (c0 c1 c2 c3 c4 c5 c6 : Value) (t : TypeId) : Seven7 w (w.alloc (.cells #[c0, c1, c2, c3, c4, c5, c6] t)).drew c0 c1 c2 c3 c4 c5 c6 :=
  ⟨box_cell w _ _ _ _ rfl, box_cell w _ _ _ _ rfl, box_cell w _ _ _ _ rfl, box_cell w _ _ _ _ rfl, box_cell w _ _ _ _ rfl, box_cell w _ _ _ _ rfl, box_cell w _ _ _ _ rfl, ((Below.refl _ _).alloc (Nat.le_refl _) _).drew⟩

theorem addI_nat (k : Nat) (h : k < 9223372036854775807) : addI ↑k 1 = ((k + 1 : Nat) : Int) := by
  simp only [addI]
  rw [show ((k : Int) + 1) = ((k + 1 : Nat) : Int) by omega]
  have e : ((k + 1 : Nat) : Int) % 18446744073709551616 = ((k + 1 : Nat) : Int) := Int.emod_eq_of_lt (by omega) (by omega)
  have e2 : ¬ ((true && decide (((k + 1 : Nat) : Int) ≥ 9223372036854775808)) = true) := by simp; omega
  show (if (true && decide (((k + 1 : Nat) : Int) % 18446744073709551616 ≥ 9223372036854775808)) = true then ((k + 1 : Nat) : Int) % 18446744073709551616 - 18446744073709551616 else ((k + 1 : Nat) : Int) % 18446744073709551616) = _
  rw [e, if_neg e2]
attribute [local go_sem 2000] run_addI
set_option maxHeartbeats 4000000 in
theorem great_any (f : Nat) : ∀ (v : RV) (c0 c1 c2 c3 c4 c5 c6 : Value) (w : World), RIn w f v c0 c1 c2 c3 c4 c5 c6 →
    Calls Tryz.prog 12 #[.agg #[c0, c1, c2, c3, c4, c5, c6]] w (SomeInt w) := by
  induction f with
  | zero => intro v c0 c1 c2 c3 c4 c5 c6 w h; simp [RIn] at h
  | succ f ih =>
    intro v c0 c1 c2 c3 c4 c5 c6 w h
    have IH := As.mk ih
    have HV := As.mk h
    clear ih
    obtain ⟨K, B, N, M, S, L, Keys⟩ := v
    simp only [RIn] at h
    obtain ⟨rfl, rfl, rfl, rfl, rfl, hS, hL, hK⟩ := h
    obtain ⟨A, c, rfl, hlen, hel⟩ : ∃ A c, c5 = .slice A L.length c ∧ L.length ≤ 1466015503701 ∧ ∀ i (h : i < L.length), ∃ b o d0 d1 d2 d3 d4 d5 d6, A = some ⟨b, o, none⟩ ∧ Seven w b (o + i * 7) d0 d1 d2 d3 d4 d5 d6 ∧ RIn w f L[i] d0 d1 d2 d3 d4 d5 d6 := by
      rcases hL with ⟨rfl, A, c, rfl⟩ | ⟨b, o, c, rfl, hlen, hel⟩
      · exact ⟨A, c, rfl, by simp, fun i h => by simp at h⟩
      · refine ⟨_, c, rfl, hlen, fun i h => ?_⟩
        obtain ⟨d0, d1, d2, d3, d4, d5, d6, h7, hr⟩ := hel i h
        exact ⟨b, o, d0, d1, d2, d3, d4, d5, d6, rfl, h7, hr⟩
    obtain ⟨A', c', rfl, hlen', hkeys⟩ : ∃ A' c', c6 = .slice A' Keys.length c' ∧ Keys.length ≤ 8796093022208 ∧ ∀ i (h : i < Keys.length), ∃ b o, A' = some ⟨b, o, none⟩ ∧ w.cell? ⟨b, o + i, none⟩ = some (.string Keys[i]) ∧ (Keys[i]).size ≤ 140737488355328 := by
      rcases hK with ⟨rfl, A, c, rfl⟩ | ⟨b, o, c, rfl, hlen, hel⟩
      · exact ⟨A, c, rfl, by simp, fun i h => by simp at h⟩
      · exact ⟨_, c, rfl, hlen, fun i h => ⟨b, o, rfl, (hel i h).1, (hel i h).2⟩⟩
    clear hL hK
    have HEL := As.mk hel
    have HK := As.mk hkeys
    clear hel hkeys
    have HL := As.mk hlen
    have HL' := As.mk hlen'
    have HS := As.mk hS
    clear hlen hlen' hS
    go_enter Tryz.func12, Tryz.ntmps12
    go_wp2_with fail
    have HNN := As.mk (Seven7.new w (.int .i64 K) (.bool B) (.int .i64 N) (.int .i64 M) (.string S) (.slice A L.length c) (.slice A' Keys.length c') 25)
    refine wp_region_held_drew (S := fun w' => Seven7 w w' (.int .i64 K) (.bool B) (.int .i64 N) (.int .i64 M) (.string S) (.slice A L.length c) (.slice A' Keys.length c')) (by kernel_rfl) ?_ (fun hHeld => ?_)
    · exact HNN.out
    refine wpAnyH_take (i := 0) (oi := _) (v := ?_) rfl (by kernel_rfl) (by kernel_rfl) (by kernel_rfl) (fun _ _ _ h => h) (Or.inl ⟨by rfl, ?_⟩) hHeld ?_
    rotate_left 1
    · intro w' hSw
      obtain ⟨h0, h1, h2, h3, h4, h5, h6, _⟩ := hSw
      go_simp
      all_goals with_reducible rfl
    try simp only [Act.put, List.setIfInBounds_toArray, List.set_cons_zero, List.set_cons_succ]
    refine wpAnyH_take (i := 1) (oi := _) (v := ?_) rfl (by kernel_rfl) (by kernel_rfl) (by kernel_rfl) (fun _ _ _ h => h) (Or.inl ⟨by rfl, ?_⟩) hHeld ?_
    rotate_left 1
    · intro w' hSw
      obtain ⟨h0, h1, h2, h3, h4, h5, h6, _⟩ := hSw
      go_simp
      all_goals with_reducible rfl
    try simp only [Act.put, List.setIfInBounds_toArray, List.set_cons_zero, List.set_cons_succ]
    refine wpAnyH_take (i := 2) (oi := _) (v := ?_) rfl (by kernel_rfl) (by kernel_rfl) (by kernel_rfl) (fun _ _ _ h => h) (Or.inl ⟨by rfl, ?_⟩) hHeld ?_
    rotate_left 1
    · intro w' hSw
      obtain ⟨h0, h1, h2, h3, h4, h5, h6, _⟩ := hSw
      go_simp
      all_goals with_reducible rfl
    try simp only [Act.put, List.setIfInBounds_toArray, List.set_cons_zero, List.set_cons_succ]
    refine wpAnyH_take (i := 3) (oi := _) (v := ?_) rfl (by kernel_rfl) (by kernel_rfl) (by kernel_rfl) (fun _ _ _ h => h) (Or.inl ⟨by rfl, ?_⟩) hHeld ?_
    rotate_left 1
    · intro w' hSw
      obtain ⟨h0, h1, h2, h3, h4, h5, h6, _⟩ := hSw
      go_simp
      all_goals with_reducible rfl
    try simp only [Act.put, List.setIfInBounds_toArray, List.set_cons_zero, List.set_cons_succ]
    refine wpAnyH_take (i := 4) (oi := _) (v := ?_) rfl (by kernel_rfl) (by kernel_rfl) (by kernel_rfl) (fun _ _ _ h => h) (Or.inl ⟨by rfl, ?_⟩) hHeld ?_
    rotate_left 1
    · intro w' hSw
      obtain ⟨h0, h1, h2, h3, h4, h5, h6, _⟩ := hSw
      go_simp
      all_goals with_reducible rfl
    try simp only [Act.put, List.setIfInBounds_toArray, List.set_cons_zero, List.set_cons_succ]
    refine wpAnyH_take (i := 5) (oi := _) (v := ?_) rfl (by kernel_rfl) (by kernel_rfl) (by kernel_rfl) (fun _ _ _ h => h) (Or.inl ⟨by rfl, ?_⟩) hHeld ?_
    rotate_left 1
    · intro w' hSw
      obtain ⟨h0, h1, h2, h3, h4, h5, h6, _⟩ := hSw
      go_simp
      all_goals with_reducible rfl
    try simp only [Act.put, List.setIfInBounds_toArray, List.set_cons_zero, List.set_cons_succ]
    refine wpAnyH_take (i := 6) (oi := _) (v := ?_) rfl (by kernel_rfl) (by kernel_rfl) (by kernel_rfl) (fun _ _ _ h => h) (Or.inl ⟨by rfl, ?_⟩) hHeld ?_
    rotate_left 1
    · intro w' hSw
      obtain ⟨h0, h1, h2, h3, h4, h5, h6, _⟩ := hSw
      go_simp
      all_goals with_reducible rfl
    try simp only [Act.put, List.setIfInBounds_toArray, List.set_cons_zero, List.set_cons_succ]
    refine wpAnyH_take (i := 7) (oi := _) (v := ?_) rfl (by kernel_rfl) (by kernel_rfl) (by kernel_rfl) (fun _ _ _ h => h) (Or.inl ⟨by rfl, ?_⟩) hHeld ?_
    rotate_left 1
    · intro w' hSw
      obtain ⟨h0, h1, h2, h3, h4, h5, h6, _⟩ := hSw
      go_simp
      all_goals with_reducible rfl
    try simp only [Act.put, List.setIfInBounds_toArray, List.set_cons_zero, List.set_cons_succ]
    refine wpAnyH_take (i := 8) (oi := _) (v := ?_) rfl (by kernel_rfl) (by kernel_rfl) (by kernel_rfl) (fun _ _ _ h => h) (Or.inl ⟨by rfl, ?_⟩) hHeld ?_
    rotate_left 1
    · intro w' hSw
      obtain ⟨h0, h1, h2, h3, h4, h5, h6, _⟩ := hSw
      go_simp
      all_goals with_reducible rfl
    try simp only [Act.put, List.setIfInBounds_toArray, List.set_cons_zero, List.set_cons_succ]
    refine wpAnyH_take (i := 9) (oi := _) (v := ?_) rfl (by kernel_rfl) (by kernel_rfl) (by kernel_rfl) (fun _ _ _ h => h) (Or.inl ⟨by rfl, ?_⟩) hHeld ?_
    rotate_left 1
    · intro w' hSw
      obtain ⟨h0, h1, h2, h3, h4, h5, h6, _⟩ := hSw
      go_simp
      all_goals with_reducible rfl
    try simp only [Act.put, List.setIfInBounds_toArray, List.set_cons_zero, List.set_cons_succ]
    refine wpAnyH_take (i := 10) (oi := _) (v := ?_) rfl (by kernel_rfl) (by kernel_rfl) (by kernel_rfl) (fun _ _ _ h => h) (Or.inl ⟨by rfl, ?_⟩) hHeld ?_
    rotate_left 1
    · intro w' hSw
      obtain ⟨h0, h1, h2, h3, h4, h5, h6, _⟩ := hSw
      go_simp
      all_goals with_reducible rfl
    try simp only [Act.put, List.setIfInBounds_toArray, List.set_cons_zero, List.set_cons_succ]
    refine wpAnyH_take (i := 11) (oi := _) (v := ?_) rfl (by kernel_rfl) (by kernel_rfl) (by kernel_rfl) (fun _ _ _ h => h) (Or.inl ⟨by rfl, ?_⟩) hHeld ?_
    rotate_left 1
    · intro w' hSw
      obtain ⟨h0, h1, h2, h3, h4, h5, h6, _⟩ := hSw
      go_simp
      all_goals with_reducible rfl
    try simp only [Act.put, List.setIfInBounds_toArray, List.set_cons_zero, List.set_cons_succ]
    refine wpAnyH_take (i := 12) (oi := _) (v := ?_) rfl (by kernel_rfl) (by kernel_rfl) (by kernel_rfl) (fun _ _ _ h => h) (Or.inl ⟨by rfl, ?_⟩) hHeld ?_
    rotate_left 1
    · intro w' hSw
      obtain ⟨h0, h1, h2, h3, h4, h5, h6, _⟩ := hSw
      go_simp
      all_goals with_reducible rfl
    try simp only [Act.put, List.setIfInBounds_toArray, List.set_cons_zero, List.set_cons_succ]
    refine wpAnyH_take (i := 13) (oi := _) (v := ?_) rfl (by kernel_rfl) (by kernel_rfl) (by kernel_rfl) (fun _ _ _ h => h) (Or.inl ⟨by rfl, ?_⟩) hHeld ?_
    rotate_left 1
    · intro w' hSw
      obtain ⟨h0, h1, h2, h3, h4, h5, h6, _⟩ := hSw
      go_simp
      all_goals with_reducible rfl
    try simp only [Act.put, List.setIfInBounds_toArray, List.set_cons_zero, List.set_cons_succ]
    refine wpAnyH_take (i := 14) (oi := _) (v := ?_) rfl (by kernel_rfl) (by kernel_rfl) (by kernel_rfl) (fun _ _ _ h => h) (Or.inl ⟨by rfl, ?_⟩) hHeld ?_
    rotate_left 1
    · intro w' hSw
      obtain ⟨h0, h1, h2, h3, h4, h5, h6, _⟩ := hSw
      go_simp
      all_goals with_reducible rfl
    try simp only [Act.put, List.setIfInBounds_toArray, List.set_cons_zero, List.set_cons_succ]
    refine wpAnyH_take (i := 15) (oi := _) (v := ?_) rfl (by kernel_rfl) (by kernel_rfl) (by kernel_rfl) (fun _ _ _ h => h) (Or.inl ⟨by rfl, ?_⟩) hHeld ?_
    rotate_left 1
    · intro w' hSw
      obtain ⟨h0, h1, h2, h3, h4, h5, h6, _⟩ := hSw
      go_simp
      all_goals with_reducible rfl
    try simp only [Act.put, List.setIfInBounds_toArray, List.set_cons_zero, List.set_cons_succ]
    refine wpAnyH_take (i := 16) (oi := _) (v := ?_) rfl (by kernel_rfl) (by kernel_rfl) (by kernel_rfl) (fun _ _ _ h => h) (Or.inl ⟨by rfl, ?_⟩) hHeld ?_
    rotate_left 1
    · intro w' hSw
      obtain ⟨h0, h1, h2, h3, h4, h5, h6, _⟩ := hSw
      go_simp
      all_goals with_reducible rfl
    try simp only [Act.put, List.setIfInBounds_toArray, List.set_cons_zero, List.set_cons_succ]
    refine wpAnyH_take (i := 17) (oi := _) (v := ?_) rfl (by kernel_rfl) (by kernel_rfl) (by kernel_rfl) (fun _ _ _ h => h) (Or.inl ⟨by rfl, ?_⟩) hHeld ?_
    rotate_left 1
    · intro w' hSw
      obtain ⟨h0, h1, h2, h3, h4, h5, h6, _⟩ := hSw
      go_simp
      all_goals with_reducible rfl
    try simp only [Act.put, List.setIfInBounds_toArray, List.set_cons_zero, List.set_cons_succ]
    refine wpAnyH_take (i := 22) (oi := _) (v := ?_) rfl (by kernel_rfl) (by kernel_rfl) (by kernel_rfl) (fun _ _ _ h => h) (Or.inl ⟨by rfl, ?_⟩) hHeld ?_
    rotate_left 1
    · intro w' hSw
      obtain ⟨h0, h1, h2, h3, h4, h5, h6, _⟩ := hSw
      go_simp
      all_goals with_reducible rfl
    try simp only [Act.put, List.setIfInBounds_toArray, List.set_cons_zero, List.set_cons_succ]
    refine wpAnyH_ready (rs := [18]) (by kernel_rfl) (by simp) ?_
    refine AllReadyH.cons (o := _) rfl (fun KK hKK => ?_) AllReadyH.nil
    go_simp
    go_at_call 62
    refine (size_some' _ _ _ _ _ _ _ _ _ _ _ HV.out (Seven7.hid hHeld)).mono ?_
    rintro e w1 ⟨n1, rfl, hb1⟩
    go_wp2_with fail
    refine hKK.out _ _ (Seven7.keep hHeld hb1) (fun hHeld => ?_)
    clear hKK KK
    try simp only [Act.put, List.setIfInBounds_toArray, List.set_cons_zero, List.set_cons_succ]
    refine wpAnyH_take (i := 19) (oi := _) (v := ?_) rfl (by kernel_rfl) (by kernel_rfl) (by kernel_rfl) (fun _ _ _ h => h) (Or.inl ⟨by rfl, ?_⟩) hHeld ?_
    rotate_left 1
    · intro w' hSw
      obtain ⟨h0, h1, h2, h3, h4, h5, h6, _⟩ := hSw
      go_simp
      all_goals with_reducible rfl
    try simp only [Act.put, List.setIfInBounds_toArray, List.set_cons_zero, List.set_cons_succ]
    refine wpAnyH_take (i := 20) (oi := _) (v := ?_) rfl (by kernel_rfl) (by kernel_rfl) (by kernel_rfl) (fun _ _ _ h => h) (Or.inl ⟨by rfl, ?_⟩) hHeld ?_
    rotate_left 1
    · intro w' hSw
      obtain ⟨h0, h1, h2, h3, h4, h5, h6, _⟩ := hSw
      go_simp
      all_goals with_reducible rfl
    try simp only [Act.put, List.setIfInBounds_toArray, List.set_cons_zero, List.set_cons_succ]
    refine wpAnyH_take (i := 21) (oi := _) (v := ?_) rfl (by kernel_rfl) (by kernel_rfl) (by kernel_rfl) (fun _ _ _ h => h) (Or.inl ⟨by rfl, ?_⟩) hHeld ?_
    rotate_left 1
    · intro w' hSw
      obtain ⟨h0, h1, h2, h3, h4, h5, h6, _⟩ := hSw
      go_simp
      all_goals with_reducible rfl
    try simp only [Act.put, List.setIfInBounds_toArray, List.set_cons_zero, List.set_cons_succ]
    refine wpAnyH_ready (rs := [23]) (by kernel_rfl) (by simp) ?_
    refine AllReadyH.cons (o := _) rfl (fun KK hKK => ?_) AllReadyH.nil
    go_simp
    go_at_call 63
    refine (deep_some' _ _ _ _ _ _ _ _ _ _ _ HV.out (Seven7.hid hHeld)).mono ?_
    rintro e w2 ⟨n2, rfl, hb2⟩
    go_wp2_with fail
    refine hKK.out _ _ (Seven7.keep hHeld hb2) (fun hHeld => ?_)
    clear hKK KK
    try simp only [Act.put, List.setIfInBounds_toArray, List.set_cons_zero, List.set_cons_succ]
    refine wpAnyH_take (i := 24) (oi := _) (v := ?_) rfl (by kernel_rfl) (by kernel_rfl) (by kernel_rfl) (fun _ _ _ h => h) (Or.inl ⟨by rfl, ?_⟩) hHeld ?_
    rotate_left 1
    · intro w' hSw
      obtain ⟨h0, h1, h2, h3, h4, h5, h6, _⟩ := hSw
      go_simp
      all_goals with_reducible rfl
    try simp only [Act.put, List.setIfInBounds_toArray, List.set_cons_zero, List.set_cons_succ]
    refine wpAnyH_take (i := 25) (oi := _) (v := ?_) rfl (by kernel_rfl) (by kernel_rfl) (by kernel_rfl) (fun _ _ _ h => h) (Or.inl ⟨by rfl, ?_⟩) hHeld ?_
    rotate_left 1
    · intro w' hSw
      obtain ⟨h0, h1, h2, h3, h4, h5, h6, _⟩ := hSw
      go_simp
      all_goals with_reducible rfl
    try simp only [Act.put, List.setIfInBounds_toArray, List.set_cons_zero, List.set_cons_succ]
    refine wpAnyH_take (i := 26) (oi := _) (v := ?_) rfl (by kernel_rfl) (by kernel_rfl) (by kernel_rfl) (fun _ _ _ h => h) (Or.inl ⟨by rfl, ?_⟩) hHeld ?_
    rotate_left 1
    · intro w' hSw
      obtain ⟨h0, h1, h2, h3, h4, h5, h6, _⟩ := hSw
      go_simp
      all_goals with_reducible rfl
    try simp only [Act.put, List.setIfInBounds_toArray, List.set_cons_zero, List.set_cons_succ]
    refine wpAnyH_take (i := 27) (oi := _) (v := ?_) rfl (by kernel_rfl) (by kernel_rfl) (by kernel_rfl) (fun _ _ _ h => h) (Or.inl ⟨by rfl, ?_⟩) hHeld ?_
    rotate_left 1
    · intro w' hSw
      obtain ⟨h0, h1, h2, h3, h4, h5, h6, _⟩ := hSw
      go_simp
      all_goals with_reducible rfl
    try simp only [Act.put, List.setIfInBounds_toArray, List.set_cons_zero, List.set_cons_succ]
    refine wpAnyH_done (by kernel_rfl) ?_ _
    have HH := As.mk hHeld
    have hHeld' := hHeld
    clear hHeld
    clear HNN hb1 hb2
    obtain ⟨h0, h1, h2, h3, h4, h5, h6, hb⟩ := hHeld'
    go_wp2_with fail
    go_loopw [3, 4] (fun n i wr => ∃ k : Nat, k ≤ Keys.length ∧ k ≤ 80 ∧ i = .int .i64 k ∧ (∃ z : Int, n = .int .i64 z) ∧ Seven7 w wr (.int .i64 K) (.bool B) (.int .i64 N) (.int .i64 M) (.string S) (.slice A L.length c) (.slice A' Keys.length c'))
         (fun _ i _ => 80 - (intOf i).toNat)
    case atStart => exact ⟨0, by omega, by omega, rfl, ⟨_, rfl⟩, HH.out⟩
    case round =>
      obtain ⟨k, hk, hk8, rfl, ⟨z, rfl⟩, h7⟩ := hrel
      have H7 := As.mk h7
      obtain ⟨g0, g1, g2, g3, g4, g5, g6, gb⟩ := h7
      have hlen' := HL'.out
      have hsz : w.heap.size < wr.heap.size := World.block_lt_of_cell? wr _ g0
      by_cases hlt : k < Keys.length
      · by_cases h80 : k < 80
        · obtain ⟨b, o, rfl, hc, hs⟩ := HK.out k hlt
          have hcw := (bcell gb.out).1 b (o + k) (World.block_lt_of_cell? w _ hc)
          rw [hc] at hcw
          have hi0 : (0 : Int) ≤ ↑k := by omega
          have hi1 : (k : Int) < ↑Keys.length := by omega
          have hi2 : (k : Int) < 80 := by omega
          have hadd := addI_nat k (by omega)
          go_wp2_with fail
          exact ⟨⟨k + 1, by omega, by omega, by simp, ⟨_, rfl⟩, H7.out⟩, by simp [intOf]; omega⟩
        · have hi2 : ¬ (k : Int) < 80 := by omega
          go_wp2_with fail
          clear hk hk8 hlt
          go_loopw [3, 5] (fun n i wq => ∃ k : Nat, k ≤ L.length ∧ i = .int .i64 k ∧ (∃ z : Int, n = .int .i64 z) ∧ Seven7 w wq (.int .i64 K) (.bool B) (.int .i64 N) (.int .i64 M) (.string S) (.slice A L.length c) (.slice A' Keys.length c'))
               (fun _ i _ => L.length - (intOf i).toNat)
          case atStart => exact ⟨0, by omega, rfl, ⟨_, rfl⟩, H7.out⟩
          case round =>
            obtain ⟨k, hk, rfl, ⟨z, rfl⟩, h7⟩ := hrel
            have Q7 := As.mk h7
            obtain ⟨q0, q1, q2, q3, q4, q5, q6, qb⟩ := h7
            have hlen := HL.out
            by_cases hlt : k < L.length
            · by_cases hz : z = 0
              · subst hz
                obtain ⟨b, o, d0, d1, d2, d3, d4, d5, d6, rfl, h7, hr⟩ := HEL.out k hlt
                obtain ⟨x0, x1, x2, x3, x4, x5, x6⟩ := h7.below qb.out
                have HR := As.mk (RIn.below qb.out _ _ _ _ _ _ _ _ _ hr)
                clear hr h7
                have hi0 : (0 : Int) ≤ ↑k := by omega
                have hi1 : (k : Int) < ↑L.length := by omega
                have hadd := addI_nat k (by omega)
                go_wp2_with (go_at_call 12; refine (IH.out _ _ _ _ _ _ _ _ _ HR.out).mono ?_; rintro e w2 ⟨n2, rfl, hb2⟩)
                exact ⟨⟨k + 1, by omega, by simp, ⟨_, rfl⟩, Q7.out.keep hb2⟩, by simp [intOf]; omega⟩
              · go_wp2_with fail
                go_ret
                exact ⟨_, rfl, qb.out⟩
            · have hi1 : ¬ (k : Int) < ↑L.length := by omega
              go_wp2_with fail
              go_ret
              exact ⟨_, rfl, qb.out⟩
      · have hi1 : ¬ (k : Int) < ↑Keys.length := by omega
        go_wp2_with fail
        clear hk hk8 hlt
        go_loopw [3, 5] (fun n i wq => ∃ k : Nat, k ≤ L.length ∧ i = .int .i64 k ∧ (∃ z : Int, n = .int .i64 z) ∧ Seven7 w wq (.int .i64 K) (.bool B) (.int .i64 N) (.int .i64 M) (.string S) (.slice A L.length c) (.slice A' Keys.length c'))
             (fun _ i _ => L.length - (intOf i).toNat)
        case atStart => exact ⟨0, by omega, rfl, ⟨_, rfl⟩, H7.out⟩
        case round =>
          obtain ⟨k, hk, rfl, ⟨z, rfl⟩, h7⟩ := hrel
          have Q7 := As.mk h7
          obtain ⟨q0, q1, q2, q3, q4, q5, q6, qb⟩ := h7
          have hlen := HL.out
          by_cases hlt : k < L.length
          · by_cases hz : z = 0
            · subst hz
              obtain ⟨b, o, d0, d1, d2, d3, d4, d5, d6, rfl, h7, hr⟩ := HEL.out k hlt
              obtain ⟨x0, x1, x2, x3, x4, x5, x6⟩ := h7.below qb.out
              have HR := As.mk (RIn.below qb.out _ _ _ _ _ _ _ _ _ hr)
              clear hr h7
              have hi0 : (0 : Int) ≤ ↑k := by omega
              have hi1 : (k : Int) < ↑L.length := by omega
              have hadd := addI_nat k (by omega)
              go_wp2_with (go_at_call 12; refine (IH.out _ _ _ _ _ _ _ _ _ HR.out).mono ?_; rintro e w2 ⟨n2, rfl, hb2⟩)
              exact ⟨⟨k + 1, by omega, by simp, ⟨_, rfl⟩, Q7.out.keep hb2⟩, by simp [intOf]; omega⟩
            · go_wp2_with fail
              go_ret
              exact ⟨_, rfl, qb.out⟩
          · have hi1 : ¬ (k : Int) < ↑L.length := by omega
            go_wp2_with fail
            go_ret
            exact ⟨_, rfl, qb.out⟩
end Go.Proofs.YtblpmmociahklaaGreatDoor.V
