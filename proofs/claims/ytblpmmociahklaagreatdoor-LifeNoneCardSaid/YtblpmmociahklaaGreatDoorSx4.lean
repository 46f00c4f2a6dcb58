/- Operations off their operands alone are sound. -/
import Derived.Test.YtblpmmociahklaaGreatDoorSx3
namespace Go.Proofs.YtblpmmociahklaaGreatDoor.Sx
open Go

variable {P : Program} {ν : Pl} {σ : Nat → Value} {w : World}

theorem isConstO_spec {x : Operand} (h : isConstO x = true) : ∃ v, x = .const v := by
  cases x <;> simp_all [isConstO]

theorem eqGuard_other {op : BinOp} {t : TypeId} {xo yo : Operand} {x' y' : Value} (h1 : ¬ (x' = .nilIface ∧ y' = .nilIface)) (h2 : ∀ a b, ¬ (x' = .agg a ∧ y' = .agg b)) :
    (eqGuard op t xo yo x' y').run P w = .ok () w := by
  have key : ∀ (b : Bool) (A B : Sem Unit), (if (!b) = true then (pure () : Sem Unit) else match (generalizing := false) x', y' with | .nilIface, .nilIface => A | .agg _, .agg _ => B | _, _ => pure ()).run P w = .ok () w := by
    intro b A B
    cases b
    · simp
    · simp only [Bool.not_true, Bool.false_eq_true, if_false]
      split
      · exact absurd ⟨rfl, rfl⟩ h1
      · exact absurd ⟨rfl, rfl⟩ (h2 _ _)
      · rfl
  exact key _ _ _

theorem eqGuard_nil {op : BinOp} {t : TypeId} {xo yo : Operand} (h : (isConstO xo || isConstO yo) = true) : (eqGuard op t xo yo .nilIface .nilIface).run P w = .ok () w := by
  simp only [Bool.or_eq_true] at h
  rcases h with h | h
  · obtain ⟨v, rfl⟩ := isConstO_spec h
    cases op <;> simp [eqGuard]
  · obtain ⟨v, rfl⟩ := isConstO_spec h
    cases op <;> simp [eqGuard]

set_option maxHeartbeats 2000000 in
theorem guard_run {op : BinOp} {t : TypeId} {xo yo : Operand} {x y : AV} {d : Nat} {r : Bool} (hg : guardF P t xo yo x y = true) (h : eqF P d t x y = some r) {x' y' : Value} (hx : VR ν σ x x') (hy : VR ν σ y y') :
    (eqGuard op t xo yo x' y').run P w = .ok () w := by
  cases d with
  | zero => simp [eqF] at h
  | succ d =>
    unfold eqF at h
    cases hu : P.underlying t with
    | none => simp [hu] at h
    | some u =>
      simp only [hu] at h
      split at h
      any_goals (simp only [VR] at hx hy)
      · subst hx hy; exact eqGuard_other (by simp) (by simp)
      · subst hx hy; exact eqGuard_other (by simp) (by simp)
      · subst hx hy; exact eqGuard_other (by simp) (by simp)
      · subst hx hy; exact eqGuard_other (by simp) (by simp)
      · obtain ⟨c, p, _, rfl⟩ := hy; subst hx; exact eqGuard_other (by simp) (by simp)
      · obtain ⟨c, p, _, rfl⟩ := hx; subst hy; exact eqGuard_other (by simp) (by simp)
      · obtain ⟨c, p, hb, rfl⟩ := hx; exact eqGuard_other (by simp) (by simp)
      · subst hx hy; exact eqGuard_nil (by simpa [guardF] using hg)
      · obtain ⟨z, _, rfl⟩ := hy; subst hx; exact eqGuard_other (by simp) (by simp)
      · obtain ⟨z, _, rfl⟩ := hx; subst hy; exact eqGuard_other (by simp) (by simp)
      · obtain ⟨z, hz, rfl⟩ := hx; exact eqGuard_other (by simp) (by simp)
      · obtain ⟨ds, hds, rfl⟩ := hx; obtain ⟨ds', hds', rfl⟩ := hy
        exact run_eqGuard_agg w op t xo yo _ _ (by simpa [guardF] using hg)
      · subst hx hy; exact eqGuard_other (by simp) (by simp)
      · obtain ⟨c, p, k, q, _, _, _, _, _, rfl⟩ := hy; subst hx; exact eqGuard_other (by simp) (by simp)
      · obtain ⟨c, p, k, q, _, _, _, _, _, rfl⟩ := hx; subst hy; exact eqGuard_other (by simp) (by simp)
      · subst hx hy; exact eqGuard_other (by simp) (by simp)
      · obtain ⟨c, _, rfl⟩ := hy; subst hx; exact eqGuard_other (by simp) (by simp)
      · obtain ⟨c, _, rfl⟩ := hx; subst hy; exact eqGuard_other (by simp) (by simp)
      · subst hx hy; exact eqGuard_other (by simp) (by simp)
      · obtain ⟨_, a, b, _, _, rfl⟩ := hy; subst hx; exact eqGuard_other (by simp) (by simp)
      · obtain ⟨_, a, b, _, _, rfl⟩ := hx; subst hy; exact eqGuard_other (by simp) (by simp)
      · cases h

/-- Two values at which '==' goes by its general row. -/
def genEq : Value → Value → Bool
  | .int _ _, .int _ _ | .float _ _, .float _ _ | .complex _ _ _, .complex _ _ _ | .string _, .string _ => false
  | _, _ => true

theorem eql_gen {t : TypeId} {x' y' : Value} (h : genEq x' y' = true) : binOp .eql t x' y' = (do pure (.bool (← Op.equal t x' y'))) := by
  unfold binOp
  split <;> first | rfl | (exfalso; simp_all [genEq]; done) | simp_all
theorem neq_gen {t : TypeId} {x' y' : Value} (h : genEq x' y' = true) : binOp .neq t x' y' = (do pure (.bool (!(← Op.equal t x' y')))) := by
  unfold binOp
  split <;> first | rfl | (exfalso; simp_all [genEq]; done) | simp_all

/-- The values that eqF takes beside numbers and strings go by the general row. -/
theorem genEq_of {t : TypeId} {x y : AV} {d : Nat} {r : Bool} (h : eqF P d t x y = some r) (hi : ∀ k a k' b, ¬ (x = .int k a ∧ y = .int k' b)) (hs : ∀ a b, ¬ (x = .str a ∧ y = .str b))
    {x' y' : Value} (hx : VR ν σ x x') (hy : VR ν σ y y') : genEq x' y' = true := by
  cases d with
  | zero => simp [eqF] at h
  | succ d =>
    unfold eqF at h
    cases hu : P.underlying t with
    | none => simp [hu] at h
    | some u =>
      simp only [hu] at h
      split at h
      any_goals (simp only [VR] at hx hy)
      · subst hx hy; rfl
      · exact absurd ⟨rfl, rfl⟩ (hi _ _ _ _)
      · exact absurd ⟨rfl, rfl⟩ (hs _ _)
      · subst hx hy; rfl
      · subst hx; rfl
      · subst hy; obtain ⟨c, p, _, rfl⟩ := hx; rfl
      · obtain ⟨c, p, hb, rfl⟩ := hx; rfl
      · subst hx hy; rfl
      · subst hx; rfl
      · subst hy; obtain ⟨z, _, rfl⟩ := hx; rfl
      · obtain ⟨z, hz, rfl⟩ := hx; rfl
      · obtain ⟨ds, hds, rfl⟩ := hx; rfl
      · subst hx; rfl
      · subst hx; rfl
      · obtain ⟨c, p, k, q, _, _, _, _, _, rfl⟩ := hx; rfl
      · subst hx; rfl
      · subst hx; rfl
      · obtain ⟨c, _, rfl⟩ := hx; rfl
      · subst hx; rfl
      · subst hx; rfl
      · obtain ⟨_, a, b, _, _, rfl⟩ := hx; rfl
      · cases h

theorem intOp_sound {op : BinOp} {k : IntKind} {a b : Int} {r : AV} {t : TypeId} (hsl : op ≠ .shl) (hsr : op ≠ .shr) (h : intOp op k a b = some r) :
    ∃ v, (binOp op t (.int k a) (.int k b)).run P w = .ok v w ∧ VR ν σ r v := by
  cases op <;> simp only [intOp] at h <;> first
    | (exact absurd rfl hsl) | (exact absurd rfl hsr) | (cases h; done)
    | (injection h with h; subst h; refine ⟨_, ?_, rfl⟩; simp [binOp, Op.intArith, Op.intBits, Op.intCmp, wrapF_eq]; done)
    | (split at h
       · cases h
       · rename_i hb
         injection h with h; subst h; refine ⟨_, ?_, rfl⟩; simp [binOp, Op.intDiv, hb, wrapF_eq])

theorem strOp_sound {op : BinOp} {a b : List UInt8} {r : AV} {t : TypeId} (h : strOp op a b = some r) :
    ∃ v, (binOp op t (.string ⟨a.toArray⟩) (.string ⟨b.toArray⟩)).run P w = .ok v w ∧ VR ν σ r v := by
  cases op <;> simp only [strOp] at h <;> first
    | (cases h; done)
    | (injection h with h; subst h; refine ⟨_, ?_, rfl⟩; simp [binOp, Op.stringOp, lessB_eq]; done)
    | (split at h
       · rename_i hl
         injection h with h; subst h
         refine ⟨_, ?_, rfl⟩
         have e1 : (⟨a.toArray⟩ : ByteArray).size = a.length := by simp [ByteArray.size]
         have e2 : (⟨b.toArray⟩ : ByteArray).size = b.length := by simp [ByteArray.size]
         have e3 : (⟨a.toArray⟩ : ByteArray) ++ ⟨b.toArray⟩ = ⟨(a ++ b).toArray⟩ := by
           apply ByteArray.ext; simp
         have e4 : ¬ (((a.length + b.length : Nat) : Int) > IntKind.i64.max) := by
           simp [IntKind.max, IntKind.signed, IntKind.bits]; omega
         simp only [binOp, Op.stringOp, e1, e2, e3, if_neg e4, Sem.run_pure]
       · cases h)

set_option maxHeartbeats 1000000 in
theorem bin_sound {op : BinOp} {t : TypeId} {xo yo : Operand} {x y r : AV} (h : binF P op t xo yo x y = some r) {x' y' : Value} (hx : VR ν σ x x') (hy : VR ν σ y y') :
    ∃ v, (do eqGuard op t xo yo x' y'; binOp op t x' y').run P w = .ok v w ∧ VR ν σ r v := by
  unfold binF at h
  split at h
  · simp only [VR] at hx hy; subst hx hy
    split at h
    · cases h
    · rename_i hb
      injection h with h; subst h
      refine ⟨_, ?_, rfl⟩
      rw [Sem.run_bind, eqGuard_other (by simp) (by simp)]
      simp [binOp, Op.shift, hb, wrapF_eq]
  · simp only [VR] at hx hy; subst hx hy
    split at h
    · cases h
    · rename_i hb
      injection h with h; subst h
      refine ⟨_, ?_, rfl⟩
      rw [Sem.run_bind, eqGuard_other (by simp) (by simp)]
      simp [binOp, Op.shift, hb]
  · rename_i hn1 hn2
    simp only [VR] at hx hy; subst hx hy
    split at h
    · rename_i hk
      subst hk
      obtain ⟨v, hv, rv⟩ := intOp_sound (P := P) (ν := ν) (σ := σ) (w := w) (t := t) (fun e => hn1 e) (fun e => hn2 e) h
      refine ⟨v, ?_, rv⟩
      rw [Sem.run_bind, eqGuard_other (by simp) (by simp)]
      exact hv
    · cases h
  · simp only [VR] at hx hy; subst hx hy
    obtain ⟨v, hv, rv⟩ := strOp_sound (P := P) (ν := ν) (σ := σ) (w := w) (t := t) h
    refine ⟨v, ?_, rv⟩
    rw [Sem.run_bind, eqGuard_other (by simp) (by simp)]
    exact hv
  · rename_i hni hns
    split at h
    · rename_i hg
      split at h
      · rename_i b hb
        injection h with h; subst h
        refine ⟨_, ?_, rfl⟩
        rw [Sem.run_bind, guard_run hg hb hx hy]
        simp only [Result.andThen_ok]
        rw [eql_gen (genEq_of hb (fun k a k' b e => hni _ _ _ _ e.1 e.2) (fun a b e => hns _ _ e.1 e.2) hx hy), Sem.run_bind]
        simp only [Op.equal, eqF_sound _ _ _ _ _ hb _ _ hx hy Op.maxDepth (by decide), Result.andThen_ok, Sem.run_pure]
      · cases h
    · cases h
  · rename_i hni hns
    split at h
    · rename_i hg
      split at h
      · rename_i b hb
        injection h with h; subst h
        refine ⟨_, ?_, rfl⟩
        rw [Sem.run_bind, guard_run hg hb hx hy]
        simp only [Result.andThen_ok]
        rw [neq_gen (genEq_of hb (fun k a k' b e => hni _ _ _ _ e.1 e.2) (fun a b e => hns _ _ e.1 e.2) hx hy), Sem.run_bind]
        simp only [Op.equal, eqF_sound _ _ _ _ _ hb _ _ hx hy Op.maxDepth (by decide), Result.andThen_ok, Sem.run_pure]
      · cases h
    · cases h
  · cases h

theorem un_sound {op : UnOp} {x r : AV} (h : unF op x = some r) {x' : Value} (hx : VR ν σ x x') : ∃ v, (Op.unary op x').run P w = .ok v w ∧ VR ν σ r v := by
  unfold unF at h
  split at h
  · simp only [VR] at hx; subst hx; injection h with h; subst h
    exact ⟨_, by simp [Op.unary, Op.intArith, wrapF_eq], rfl⟩
  · simp only [VR] at hx; subst hx; injection h with h; subst h
    exact ⟨_, by simp [Op.unary], rfl⟩
  · simp only [VR] at hx; subst hx; injection h with h; subst h
    exact ⟨_, by simp [Op.unary, Op.intBits], rfl⟩
  · cases h

end Go.Proofs.YtblpmmociahklaaGreatDoor.Sx
