/- How the evaluator's memory stands to the machine's; operations off their operands alone are sound. -/
import Derived.Test.YtblpmmociahklaaGreatDoorSx2
import Derived.Laws.Strings
import Derived.Lib.Strings
import Derived.Laws.StructEq
namespace Go.Proofs.YtblpmmociahklaaGreatDoor.Sx
open Go

variable {P : Program} {ν : Pl} {σ : Nat → Value} {w : World}

theorem run_und {t : TypeId} {d : TypeDesc} (h : P.underlying t = some d) : (underlying t).run P w = .ok d w := by
  simp [underlying, h]
theorem run_size {t : TypeId} {n : Nat} (h : sizeT P t = some n) : (sizeOf t).run P w = .ok n w := by
  unfold sizeT at h
  cases hi : P.info? t with
  | none => simp [hi] at h
  | some i => simp [hi] at h; subst h; simp [sizeOf, typeInfo, hi]
theorem run_zero {t : TypeId} {a : AV} (h : zeroT P t = some a) : ∃ v, (zeroValue t).run P w = .ok v w ∧ VR ν σ a v := by
  unfold zeroT at h
  cases hi : P.info? t with
  | none => simp [hi] at h
  | some i =>
    simp only [hi] at h
    cases hz : i.zero with
    | none => simp [hz] at h
    | some z =>
      simp only [hz] at h
      exact ⟨z, by simp [zeroValue, typeInfo, hi, hz], toA_sound ν σ z a h⟩
theorem run_agg {t : TypeId} {b : Bool} (h : isAggT P t = some b) : (isAgg t).run P w = .ok b w := by
  unfold isAggT at h
  cases hu : P.underlying t with
  | none => simp [hu] at h
  | some d =>
    simp only [hu] at h
    unfold isAgg
    rw [Sem.run_bind, run_und hu]
    cases d <;> simp_all

theorem VR.agg_inv {cs : List AV} {v : Value} (h : VR ν σ (.agg cs) v) : ∃ ds, VRs ν σ cs ds ∧ v = .agg ds.toArray := by simpa [VR] using h
theorem VR.tup_inv {cs : List AV} {v : Value} (h : VR ν σ (.tup cs) v) : ∃ ds, VRs ν σ cs ds ∧ v = .tuple ds.toArray := by simpa [VR] using h

theorem run_part {t : TypeId} {cs : List AV} {ds : List Value} {off : Nat} {r : AV} (hr : VRs ν σ cs ds) (h : partF P t cs off = some r) :
    ∃ v, (part t ds.toArray off).run P w = .ok v w ∧ VR ν σ r v := by
  unfold partF at h
  cases ha : isAggT P t with
  | none => simp [ha] at h
  | some b =>
    cases b with
    | true =>
      simp only [ha] at h
      cases hs : sizeT P t with
      | none => simp [hs] at h
      | some n =>
        simp only [hs, Option.some.injEq] at h
        subst h
        refine ⟨.agg ((ds.drop off).take n).toArray, ?_, ?_⟩
        · simp only [part, Sem.run_bind, run_agg ha, Result.andThen_ok, if_true, run_size hs]
          simp [List.take_drop]
        · simp only [VR]; exact ⟨_, (hr.drop off).take n, rfl⟩
    | false =>
      simp only [ha] at h
      obtain ⟨v, hv, r'⟩ := hr.get h
      refine ⟨v, ?_, r'⟩
      simp [part, Sem.run_bind, run_agg ha, hv]

/-! ### Whole numbers, strings -/

theorem wrapF_eq (k : IntKind) (n : Int) : wrapF k n = k.wrap n := by
  unfold wrapF
  split
  · rename_i h
    cases k <;> simp [inKind] at h <;> simp [IntKind.wrap, IntKind.signed, IntKind.bits] <;> omega
  · rfl

theorem lessB_eq (x y : List UInt8) : lessB x y = Op.bytesLess x y := by
  induction x generalizing y with
  | nil => cases y <;> rfl
  | cons a x ih => cases y with
    | nil => rfl
    | cons b y => simp [lessB, Op.bytesLess, ih]


theorem ba_beq (a b : List UInt8) : ((⟨a.toArray⟩ : ByteArray) == ⟨b.toArray⟩) = (a == b) := by
  rw [beq_toListBytes]; simp

theorem fieldsOf_eq {t : TypeId} {fs : Array Field} (h : P.underlying t = some (.struct fs)) : P.fieldsOf t = fs := by simp [Program.fieldsOf, h]

theorem addr_beq (c p i j : Nat) : ((⟨c, p + i, none⟩ : Addr) == ⟨c, p + j, none⟩) = (i == j) := by
  rw [Bool.eq_iff_iff]; simp

set_option maxHeartbeats 2000000 in
theorem eqF_sound : ∀ (d : Nat) (t : TypeId) (x y : AV) (r : Bool), eqF P d t x y = some r → ∀ (x' y' : Value), VR ν σ x x' → VR ν σ y y' → ∀ d', d ≤ d' →
    (Op.equalIn d' t x' y').run P w = .ok r w := by
  intro d
  induction d with
  | zero => intro t x y r h; simp [eqF] at h
  | succ d ih =>
    intro t x y r h x' y' hx hy d' hd
    obtain ⟨e, rfl⟩ : ∃ e, d' = e + 1 := ⟨d' - 1, by omega⟩
    have hde : d ≤ e := by omega
    unfold eqF at h
    cases hu : P.underlying t with
    | none => simp [hu] at h
    | some u =>
      simp only [hu] at h
      split at h
      any_goals (simp only [VR] at hx hy)
      · subst hx hy; injection h with h; subst h; simp [Op.equalIn, run_und hu]
      · subst hx hy
        split at h
        · rename_i hk; injection h with h; subst h; subst hk; simp [Op.equalIn, run_und hu]
        · cases h
      · subst hx hy; injection h with h; subst h; simp [Op.equalIn, run_und hu, ba_beq]
      · subst hx hy; injection h with h; subst h; simp [Op.equalIn, run_und hu]
      · obtain ⟨c, p, _, rfl⟩ := hy; subst hx; injection h with h; subst h; simp [Op.equalIn, run_und hu]
      · obtain ⟨c, p, _, rfl⟩ := hx; subst hy; injection h with h; subst h; simp [Op.equalIn, run_und hu]
      · obtain ⟨c, p, hb, rfl⟩ := hx; obtain ⟨c', p', hb', rfl⟩ := hy
        split at h
        · rename_i hab
          subst hab
          rw [hb] at hb'; injection hb' with hb'; injection hb' with e1 e2; subst e1; subst e2
          split at h
          · rename_i n hn
            injection h with h; subst h
            simp [Op.equalIn, run_und hu, Sem.run_bind, run_size hn, sameAddr, addr_beq]
          · cases h
        · cases h
      · subst hx hy; injection h with h; subst h; simp [Op.equalIn, run_und hu]
      · obtain ⟨z, _, rfl⟩ := hy; subst hx; injection h with h; subst h; simp [Op.equalIn, run_und hu]
      · obtain ⟨z, _, rfl⟩ := hx; subst hy; injection h with h; subst h; simp [Op.equalIn, run_und hu]
      · obtain ⟨z, hz, rfl⟩ := hx; obtain ⟨z', hz', rfl⟩ := hy
        split at h
        · rename_i hne
          injection h with h; subst h
          simp [Op.equalIn, run_und hu, hne]
        · rename_i heq
          have heq' := Decidable.not_not.mp heq
          subst heq'
          split at h
          · rename_i i hi
            split at h
            · rename_i hc
              simp only [Op.equalIn, Sem.run_bind, run_und hu, Result.andThen_ok, ne_eq, not_true, if_false, typeInfo, run_program, hi]
              simp only [Sem.run_pure, Result.andThen_ok, hc]
              simpa using ih _ _ _ _ h _ _ hz hz' _ hde
            · cases h
          · cases h
      · rename_i fs xs ys
        obtain ⟨ds, hds, rfl⟩ := hx; obtain ⟨ds', hds', rfl⟩ := hy
        split at h
        · cases h
        · rename_i hs
          have hs' : P.stoodInHeld t = false := by simpa using hs
          have hf := fieldsOf_eq hu
          rw [run_equalIn_struct w e t _ _ (by rw [hf]; exact hu) hs', hf]
          clear hu hf
          revert h
          generalize fs.toList = l
          intro h
          induction l generalizing r with
          | nil => simp at h; subst h; simp [Op.eqFields]
          | cons f l ihl =>
            simp only [List.foldr_cons] at h
            simp only [Op.eqFields]
            by_cases hn : f.name ≠ "_"
            · rw [if_pos hn] at h ⊢
              split at h
              · rename_i a b ha hb
                obtain ⟨va, hva, ra⟩ := run_part (w := w) hds ha
                obtain ⟨vb, hvb, rb⟩ := run_part (w := w) hds' hb
                simp only [Sem.run_bind, hva, hvb, Result.andThen_ok]
                split at h
                · rename_i ht
                  rw [ih _ _ _ _ ht _ _ ra rb _ hde]
                  simp only [Result.andThen_ok, Bool.not_true, Bool.false_eq_true, if_false]
                  exact ihl _ h
                · rename_i ht
                  rw [ih _ _ _ _ ht _ _ ra rb _ hde]
                  injection h with h; subst h
                  simp
                · cases h
              · cases h
            · rw [if_neg hn] at h ⊢
              exact ihl _ h
      · subst hx hy; injection h with h; subst h; simp [Op.equalIn, run_und hu]
      · obtain ⟨c, p, k, q, _, _, _, _, _, rfl⟩ := hy; subst hx; injection h with h; subst h; simp [Op.equalIn, run_und hu]
      · obtain ⟨c, p, k, q, _, _, _, _, _, rfl⟩ := hx; subst hy; injection h with h; subst h; simp [Op.equalIn, run_und hu]
      · subst hx hy; injection h with h; subst h; simp [Op.equalIn, run_und hu]
      · obtain ⟨c, _, rfl⟩ := hy; subst hx; injection h with h; subst h; simp [Op.equalIn, run_und hu]
      · obtain ⟨c, _, rfl⟩ := hx; subst hy; injection h with h; subst h; simp [Op.equalIn, run_und hu]
      · subst hx hy; injection h with h; subst h; simp [Op.equalIn, run_und hu]
      · obtain ⟨_, a, b, _, _, rfl⟩ := hy; subst hx; injection h with h; subst h; simp [Op.equalIn, run_und hu]
      · obtain ⟨_, a, b, _, _, rfl⟩ := hx; subst hy; injection h with h; subst h; simp [Op.equalIn, run_und hu]
      · cases h

end Go.Proofs.YtblpmmociahklaaGreatDoor.Sx
