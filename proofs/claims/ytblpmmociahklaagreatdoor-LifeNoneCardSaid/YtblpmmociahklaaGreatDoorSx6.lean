/- Slices; the whole of the operations that hang on their operands alone. -/
import Derived.Test.YtblpmmociahklaaGreatDoorSx5
namespace Go.Proofs.YtblpmmociahklaaGreatDoor.Sx
open Go

variable {P : Program} {ν : Pl} {σ : Nat → Value} {w : World}

theorem bound_sound {x : AV} {x' : Value} {y y' n : Nat} {code : BoundsCode} (h : boundF x y = some n) (hx : VR ν σ x x') (hy : y ≤ y') :
    (Instr.sliceBound x' y' code).run P w = .ok n w ∧ n ≤ y := by
  unfold boundF at h
  split at h
  · simp only [VR] at hx; subst hx
    split at h
    · rename_i hi
      injection h with h; subst h
      refine ⟨?_, by omega⟩
      simp only [Instr.sliceBound, asIntOf, Sem.run_bind, Sem.run_pure, Result.andThen_ok]
      rw [if_pos (by omega)]; rfl
    · cases h
  · cases h

def OR1 (ν : Pl) (σ : Nat → Value) : Option AV → Option Value → Prop
  | none, none => True
  | some a, some v => VR ν σ a v
  | _, _ => False

theorem cuts_rel {lo hi mx : Option Operand} {ρ : Operand → Value} {xs : List AV} {c : Cuts} (h : cutsF lo.isSome hi.isSome mx.isSome xs = some c)
    (hx : VRs ν σ xs ((optL lo ++ optL hi ++ optL mx).map ρ)) : OR1 ν σ c.l (lo.map ρ) ∧ OR1 ν σ c.h (hi.map ρ) ∧ OR1 ν σ c.m (mx.map ρ) := by
  cases lo <;> cases hi <;> cases mx <;> (rcases xs with _ | ⟨a, _ | ⟨b, _ | ⟨d, _ | ⟨e, xs⟩⟩⟩⟩) <;> (first | (cases h; done) | skip) <;> cases h <;> simp [optL, VRs, OR1] at hx ⊢
  all_goals (first | exact hx | skip)
  · obtain ⟨v, ws, ⟨rfl, rfl⟩, h1, v2, h2, h3⟩ := hx; injection h2 with e; subst e; exact ⟨h1, h3⟩
  · obtain ⟨v, ws, ⟨rfl, rfl⟩, h1, v2, h2, h3⟩ := hx; injection h2 with e; subst e; exact ⟨h1, h3⟩
  · obtain ⟨v, ws, ⟨rfl, rfl⟩, h1, v2, ws2, h2, h3, v3, h4, h5⟩ := hx
    injection h2 with e1 e2; subst e1; subst e2; injection h4 with e; subst e; exact ⟨h1, h3, h5⟩

theorem bounds_sound {b : Bool} {len cap cap' l h m : Nat} {c : Cuts} {lo hi mx : Option Value} (hb : boundsF len cap c = some (l, h, m)) (hl : OR1 ν σ c.l lo) (hh : OR1 ν σ c.h hi) (hm : OR1 ν σ c.m mx)
    (hc : cap ≤ cap') (hn : (c.m.isSome && c.h.isNone) = false) :
    ∃ m', (Instr.sliceBounds b len cap' lo hi mx).run P w = .ok (l, h, m') w ∧ m ≤ m' ∧ m ≤ cap ∧ m' ≤ cap' ∧ (c.m.isSome = true → m' = m) ∧ (c.m = none → m = cap ∧ m' = cap') ∧ l ≤ h ∧ (h ≤ m ∨ (c.h = none ∧ h = len)) := by
  obtain ⟨cl, ch, cm⟩ := c
  simp only at hl hh hm hn
  unfold boundsF at hb
  simp only at hb
  cases cm with
  | none =>
    cases mx with
    | some v => exact hm.elim
    | none =>
      simp only at hb
      refine ⟨cap', ?_⟩
      cases ch with
      | none =>
        cases hi with
        | some v => exact hh.elim
        | none =>
          simp only at hb
          cases cl with
          | none =>
            cases lo with
            | some v => exact hl.elim
            | none =>
              simp only [Option.some.injEq, Prod.mk.injEq] at hb
              obtain ⟨rfl, rfl, rfl⟩ := hb
              exact ⟨by simp [Instr.sliceBounds], hc, Nat.le_refl _, Nat.le_refl _, by simp, by simp, Nat.zero_le _, .inr ⟨rfl, rfl⟩⟩
          | some a =>
            cases lo with
            | none => exact hl.elim
            | some v =>
              simp only at hb
              split at hb
              · cases hb
              · rename_i l' hl'
                simp only [Option.some.injEq, Prod.mk.injEq] at hb
                obtain ⟨rfl, rfl, rfl⟩ := hb
                have k := bound_sound (P := P) (w := w) (code := .sliceB) hl' hl (Nat.le_refl _)
                exact ⟨by simp [Instr.sliceBounds, k.1], hc, Nat.le_refl _, Nat.le_refl _, by simp, by simp, k.2, .inr ⟨rfl, rfl⟩⟩
      | some ha =>
        cases hi with
        | none => exact hh.elim
        | some hv =>
          simp only at hb
          split at hb
          · cases hb
          · rename_i h' hh'
            have kh := bound_sound (P := P) (w := w) (code := if b then .sliceAcap else .sliceAlen) hh' hh hc
            cases cl with
            | none =>
              cases lo with
              | some v => exact hl.elim
              | none =>
                simp only [Option.some.injEq, Prod.mk.injEq] at hb
                obtain ⟨rfl, rfl, rfl⟩ := hb
                exact ⟨by simp [Instr.sliceBounds, kh.1], hc, Nat.le_refl _, Nat.le_refl _, by simp, by simp, Nat.zero_le _, .inl kh.2⟩
            | some a =>
              cases lo with
              | none => exact hl.elim
              | some v =>
                simp only at hb
                split at hb
                · cases hb
                · rename_i l' hl'
                  simp only [Option.some.injEq, Prod.mk.injEq] at hb
                  obtain ⟨rfl, rfl, rfl⟩ := hb
                  have k := bound_sound (P := P) (w := w) (code := .sliceB) hl' hl (Nat.le_refl _)
                  exact ⟨by simp [Instr.sliceBounds, kh.1, k.1], hc, Nat.le_refl _, Nat.le_refl _, by simp, by simp, k.2, .inl kh.2⟩
  | some ma =>
    cases mx with
    | none => exact hm.elim
    | some mv =>
      simp only at hb
      split at hb
      · cases hb
      · rename_i m' hm'
        have km := bound_sound (P := P) (w := w) (code := if b then .slice3Acap else .slice3Alen) hm' hm hc
        cases ch with
        | none => simp at hn
        | some ha =>
          cases hi with
          | none => exact hh.elim
          | some hv =>
            simp only at hb
            split at hb
            · cases hb
            · rename_i h' hh'
              have kh := bound_sound (P := P) (w := w) (code := .slice3B) hh' hh (Nat.le_refl _)
              cases cl with
              | none =>
                cases lo with
                | some v => exact hl.elim
                | none =>
                  simp only [Option.some.injEq, Prod.mk.injEq] at hb
                  obtain ⟨rfl, rfl, rfl⟩ := hb
                  exact ⟨_, by simp [Instr.sliceBounds, km.1, kh.1], Nat.le_refl _, km.2, by have := km.2; omega, by simp, by simp, Nat.zero_le _, .inl kh.2⟩
              | some a =>
                cases lo with
                | none => exact hl.elim
                | some v =>
                  simp only at hb
                  split at hb
                  · cases hb
                  · rename_i l' hl'
                    simp only [Option.some.injEq, Prod.mk.injEq] at hb
                    obtain ⟨rfl, rfl, rfl⟩ := hb
                    have k := bound_sound (P := P) (w := w) (code := .slice3C) hl' hl (Nat.le_refl _)
                    exact ⟨_, by simp [Instr.sliceBounds, km.1, kh.1, k.1], Nat.le_refl _, km.2, by have := km.2; omega, by simp, by simp, k.2, .inl kh.2⟩

theorem add_off (c q n : Nat) : (⟨c, q, none⟩ : Addr).add n = ⟨c, q + n, none⟩ := by
  unfold Addr.add; split <;> simp_all

theorem slice_sound {t : TypeId} {x r : AV} {x' : Value} {c : Cuts} {lo hi mx : Option Value} (h : sliceF P t x c = some r) (hx : VR ν σ x x') (hl : OR1 ν σ c.l lo) (hh : OR1 ν σ c.h hi) (hm : OR1 ν σ c.m mx) :
    ∃ v, (Instr.sliceAt t x' lo hi mx).run P w = .ok v w ∧ VR ν σ r v := by
  unfold sliceF at h
  split at h
  · rename_i n e b o hu
    split at h
    · rename_i l hh' m s hb hs
      split at h
      · cases h
      · rename_i hn
        injection h with h; subst h
        simp only [VR] at hx
        obtain ⟨cb, p, hbk, rfl⟩ := hx
        obtain ⟨m', hrun, h1, h2, h3, h4, h5, h6, h7⟩ := bounds_sound (P := P) (w := w) (b := false) hb hl hh hm (Nat.le_refl n) (by simpa only [Bool.not_eq_true] using hn)
        refine ⟨.slice (some (if m' = l then ⟨cb, p.o + o, none⟩ else (⟨cb, p.o + o, none⟩ : Addr).add (l * s))) (hh' - l) (m' - l), ?_, ?_⟩
        · simp only [Instr.sliceAt, Sem.run_bind, run_und hu, Result.andThen_ok, Instr.sureAddr, Sem.run_pure, hrun, run_size hs]
        · simp only [VR]
          have hmm : m' = m := by
            cases hcm : c.m with
            | none => have := h5 hcm; omega
            | some v => exact h4 (by simp [hcm])
          subst hmm
          refine ⟨cb, p, m' - l, if m' = l then p.o + o else p.o + o + l * s, hbk, Nat.le_refl _, fun _ => rfl, ?_, ?_, ?_⟩
          · rcases h7 with h7 | ⟨h7, h8⟩
            · omega
            · have : c.m = none := by
                cases hcm : c.m with
                | none => rfl
                | some v => simp [hcm, h7] at hn
              have := h5 this
              omega
          · split
            · right; omega
            · left; exact ⟨by omega, fun s h => by cases h⟩
          · split <;> simp [add_off]
    · cases h
  · rename_i s hu
    split at h
    · cases h
    · rename_i hcm
      split at h
      · rename_i l hh' m hb
        injection h with h; subst h
        simp only [VR] at hx; subst hx
        obtain ⟨m', hrun, h1, h2, h3, h4, h5, h6, h7⟩ := bounds_sound (P := P) (w := w) (b := false) hb hl hh hm (Nat.le_refl s.length) (by simp [hcm])
        have hmx : mx = none := by
          rw [hcm] at hm
          cases mx with
          | none => rfl
          | some v => exact hm.elim
        subst hmx
        have e1 : (⟨s.toArray⟩ : ByteArray).size = s.length := by simp [ByteArray.size]
        refine ⟨.string ((⟨s.toArray⟩ : ByteArray).extract l hh'), ?_, ?_⟩
        · simp only [Instr.sliceAt, Instr.slice, Sem.run_bind, run_und hu, Result.andThen_ok, e1, Option.isSome_none, Bool.false_eq_true, if_false, hrun, Sem.run_pure]
        · simp only [VR]
          congr 1
          apply ByteArray.ext
          apply Array.toList_inj.1
          rw [Lib.extract_data]
      · cases h
  · rename_i e b o len cap es hu
    split at h
    · rename_i l hh' m s hb hs
      split at h
      · cases h
      · rename_i hn
        simp only [VR] at hx
        obtain ⟨cb, p, k, q, hbk, hck, hex, hlc, hq, rfl⟩ := hx
        obtain ⟨m', hrun, h1, h2, h3, h4, h5, h6, h7⟩ := bounds_sound (P := P) (w := w) (b := true) hb hl hh hm hck (by simpa only [Bool.not_eq_true] using hn)
        have hrunv : (Instr.sliceAt t (.slice (some ⟨cb, q, none⟩) len k) lo hi mx).run P w =
            .ok (.slice (if m' = l then some ⟨cb, q, none⟩ else (some (⟨cb, q, none⟩ : Addr)).map (·.add (l * s))) (hh' - l) (m' - l)) w := by
          simp only [Instr.sliceAt, Instr.slice, Sem.run_bind, run_und hu, Result.andThen_ok, hrun, run_size hs, Sem.run_pure]
        have hh1 : hh' ≤ m := by
          rcases h7 with h7 | ⟨h7, h8⟩
          · exact h7
          · have : c.m = none := by
              cases hcm : c.m with
              | none => rfl
              | some v => simp [hcm, h7] at hn
            have := h5 this
            omega
        have key : ∀ es' : Option Nat, (es' = none → m' = m) → (∀ s', es' = some s' → s' = s ∧ c.m = none ∧ es = some s) →
            VR ν σ (.slc b (o + l * s) (hh' - l) (m - l) es') (.slice (if m' = l then some ⟨cb, q, none⟩ else (some (⟨cb, q, none⟩ : Addr)).map (·.add (l * s))) (hh' - l) (m' - l)) := by
          intro es' he1 he2
          simp only [VR]
          refine ⟨cb, p, m' - l, if m' = l then q else q + l * s, hbk, by omega, fun e => by have := he1 e; omega, by omega, ?_, ?_⟩
          · split
            · right; omega
            · rename_i hne
              rcases hq with ⟨hq, hroom⟩ | hq
              · left
                refine ⟨by omega, fun s' hs' => ?_⟩
                obtain ⟨rfl, hcm, hes⟩ := he2 s' hs'
                have h0 := hroom _ hes
                have hm5 := h5 hcm
                obtain ⟨d, hd⟩ : ∃ d, m' = l + d := ⟨m' - l, by omega⟩
                have hkd : k = l + d := by omega
                subst hkd
                subst hd
                rw [Nat.add_mul] at h0
                rw [Nat.add_sub_cancel_left]
                omega
              · right; omega
          · split <;> simp [add_off]
        split at h
        · rename_i hms
          injection h with h; subst h
          exact ⟨_, hrunv, key none (fun _ => h4 hms) (fun s' e => by cases e)⟩
        · rename_i hms
          have hcm : c.m = none := by cases hcm : c.m with | none => rfl | some v => simp [hcm] at hms
          split at h
          · injection h with h; subst h
            refine ⟨_, hrunv, key none (fun _ => ?_) (fun s' e => by cases e)⟩
            have := hex rfl
            have := h5 hcm
            omega
          · rename_i s'
            split at h
            · rename_i hss
              subst hss
              injection h with h; subst h
              exact ⟨_, hrunv, key (some s') (fun e => by cases e) (fun s2 e => by injection e with e; subst e; exact ⟨rfl, hcm, rfl⟩)⟩
            · cases h
    · cases h
  · rename_i e hu
    split at h
    · rename_i y sz hb hsz
      obtain ⟨l, hh', m⟩ := y
      split at h
      · cases h
      · rename_i hn
        injection h with h; subst h
        simp only [VR] at hx; subst hx
        obtain ⟨m', hrun, h1, h2, h3, h4, h5, h6, h7⟩ := bounds_sound (P := P) (w := w) (b := true) hb hl hh hm (Nat.le_refl 0) (by simpa only [Bool.not_eq_true] using hn)
        have : m' = 0 := by omega
        subst this
        have hh0 : hh' = 0 := by rcases h7 with h7 | ⟨_, h7⟩ <;> omega
        subst hh0
        have : l = 0 := by omega
        subst this
        refine ⟨.slice none 0 0, ?_, by simp [VR]⟩
        simp only [Instr.sliceAt, Instr.slice, Sem.run_bind, run_und hu, Result.andThen_ok, hrun, run_size hsz, Sem.run_pure]
        simp
    · cases h
  · cases h

theorem max_sound : ∀ (rest : List AV) (x r : AV) (x' : Value) (rest' : List Value), maxF x rest = some r → VR ν σ x x' → VRs ν σ rest rest' → ∃ v, (rest'.foldlM Builtin.max2 x' : Sem Value).run P w = .ok v w ∧ VR ν σ r v
  | [], x, r, x', rest', h, hx, hr => by
    simp only [VRs] at hr; subst hr
    simp only [maxF, Option.some.injEq] at h; subst h
    exact ⟨x', by simp, hx⟩
  | y :: rest, x, r, x', rest', h, hx, hr => by
    simp only [VRs] at hr
    obtain ⟨y', ws, rfl, hy, hw⟩ := hr
    unfold maxF at h
    split at h
    · cases ‹y :: rest = []›
    · rename_i k a k' b rest2 he
      injection he with e1 e2; subst e1; subst e2
      simp only [VR] at hx hy; subst hx hy
      split at h
      · rename_i hk; subst hk
        obtain ⟨v, hv, rv⟩ := max_sound rest _ r (.int k (if b > a then b else a)) ws h (by simp only [VR]) hw
        refine ⟨v, ?_, rv⟩
        simp only [List.foldlM_cons, Builtin.max2, Sem.run_bind, Sem.run_pure, Result.andThen_ok]
        exact hv
      · cases h
    · cases h

theorem min_sound : ∀ (rest : List AV) (x r : AV) (x' : Value) (rest' : List Value), minF x rest = some r → VR ν σ x x' → VRs ν σ rest rest' → ∃ v, (rest'.foldlM Builtin.min2 x' : Sem Value).run P w = .ok v w ∧ VR ν σ r v
  | [], x, r, x', rest', h, hx, hr => by
    simp only [VRs] at hr; subst hr
    simp only [minF, Option.some.injEq] at h; subst h
    exact ⟨x', by simp, hx⟩
  | y :: rest, x, r, x', rest', h, hx, hr => by
    simp only [VRs] at hr
    obtain ⟨y', ws, rfl, hy, hw⟩ := hr
    unfold minF at h
    split at h
    · cases ‹y :: rest = []›
    · rename_i k a k' b rest2 he
      injection he with e1 e2; subst e1; subst e2
      simp only [VR] at hx hy; subst hx hy
      split at h
      · rename_i hk; subst hk
        obtain ⟨v, hv, rv⟩ := min_sound rest _ r (.int k (if b < a then b else a)) ws h (by simp only [VR]) hw
        refine ⟨v, ?_, rv⟩
        simp only [List.foldlM_cons, Builtin.min2, Sem.run_bind, Sem.run_pure, Result.andThen_ok]
        exact hv
      · cases h
    · cases h

end Go.Proofs.YtblpmmociahklaaGreatDoor.Sx
