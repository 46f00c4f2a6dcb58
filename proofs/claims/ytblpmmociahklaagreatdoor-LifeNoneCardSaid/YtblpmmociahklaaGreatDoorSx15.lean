/- The whole of the operations that write or call. -/
import Derived.Test.YtblpmmociahklaaGreatDoorSx14
namespace Go.Proofs.YtblpmmociahklaaGreatDoor.Sx
open Go

variable {P : Program} {ν : Pl} {σ : Nat → Value} {w : World}

theorem copy_big (hσ : ∀ i, (σ i).oneCell' = true) {N : Nat} {H H' : Heap} (hr : HR N ν σ H w) {c : Call} {x y v : AV} (h : copyF P c x y H = some (v, H')) {x' y' : Value} (hx : VR ν σ x x') (hy : VR ν σ y y') (ty : TypeId) :
    ∃ u w', (Builtin.copy_ c.argTypes ty #[x', y']).run P w = .ok u w' ∧ VR ν σ v u ∧ HR N ν σ H' w' ∧ Ext H ν w H' ν w' := by
  unfold copyF at h
  cases h0 : c.argTypes[0]? with
  | none => simp [h0] at h
  | some t =>
  simp only [h0] at h
  cases ht : P.underlying t with
  | none => simp [ht] at h
  | some td =>
  simp only [ht] at h
  cases td <;> (first | (cases h; done) | skip)
  rename_i e
  simp only at h
  split at h
  rotate_left
  · cases h
  rename_i s m hs hm
  have a0 : (#[x', y'] : Array Value)[0]? = some x' := rfl
  have a1 : (#[x', y'] : Array Value)[1]? = some y' := rfl
  cases x <;> (first | (cases h; done) | skip)
  case nils =>
    simp only [VR] at hx; subst hx
    injection h with h; injection h with e1 e2; subst e1; subst e2
    have hsrc : (Builtin.lenOf y').run P w = .ok m w ∧ (Builtin.firstCells s 0 y').run P w = .ok #[] w := by
      cases y <;> (first | (cases hm; done) | skip)
      case nils => simp only [VR] at hy; subst hy; injection hm with hm; subst hm; exact ⟨rfl, rfl⟩
      case str l =>
        simp only [VR] at hy; subst hy; injection hm with hm; subst hm
        refine ⟨by simp [Builtin.lenOf, ByteArray.size], ?_⟩
        simp [Builtin.firstCells]
      case slc =>
        simp only [VR] at hy
        obtain ⟨cb, p, k, q, _, _, _, _, _, rfl⟩ := hy
        injection hm with hm; subst hm
        exact ⟨rfl, by simp [Builtin.firstCells, loadCells, loadCellsFrom]⟩
    refine ⟨.int .i64 0, w, ?_, by simp only [VR], hr, Ext.refl _ _ _⟩
    simp only [Builtin.copy_, h0, a0, a1, Sem.run_bind, run_und ht, Result.andThen_ok, run_size hs, hsrc.1, Nat.min_zero, Nat.min_eq_min, hsrc.2, Sem.run_pure, goInt]
    rfl
  case slc b o len cap es =>
    simp only [VR] at hx
    obtain ⟨cb, p, k, q, hν, hck, hek, hlc, hq, rfl⟩ := hx
    simp only at h
    split at h
    rotate_left
    · cases h
    rename_i new e' cs fx hnew hb
    split at h
    rotate_left
    · cases h
    rename_i hcond
    injection h with h; injection h with e1 e2; subst e1; subst e2
    obtain ⟨hlenw, vs, hvs, hfc⟩ := src_sound (P := P) hr hnew hm (Nat.min_le_left _ _) hy
    have hq' : q = p.o + o ∨ new = [] := by
      rcases hq with ⟨h, _⟩ | h
      · exact .inl h
      · right
        have h1 : min m len = 0 := by omega
        have := hcond.2.1
        rw [h1] at this
        simpa using this
    obtain ⟨w', hst, hr', he'⟩ := write_off (P := P) hσ hr hb hvs hcond.2.2 (o := o) (d := 0) (by have := hcond.1; have := hcond.2.1; omega) hν hq'
    refine ⟨.int .i64 (min m len : Nat), w', ?_, by simp only [VR], hr', he'⟩
    have hst' : (storeCells ⟨cb, q, none⟩ vs).run P w = .ok () w' := hst
    simp only [Builtin.copy_, h0, a0, a1, Sem.run_bind, run_und ht, Result.andThen_ok, run_size hs, hlenw w, Nat.min_eq_min, hfc w rfl, hst', Sem.run_pure, goInt]

/-- How a call that is put off stands to the machine's. -/
def DR (ν : Pl) (σ : Nat → Value) : ADf → Deferred → Prop
  | .fn f cap args, d => Fn.plain f = true ∧ ∃ cap' args', VRs ν σ cap cap' ∧ VRs ν σ args args' ∧ d = { target := .fn f cap'.toArray, args := args'.toArray }
  | .mark b, d => ∃ c, ν b = some (c, Pt.z) ∧ d = { target := .collected c, args := #[] }

def BigOk (P : Program) (N : Nat) (ν : Pl) (σ : Nat → Value) (H : Heap) (w : World) (r : Result Next) : Out → Prop
  | .val v H' => ∃ u w' ν', r = .ok (.value u) w' ∧ VR ν' σ v u ∧ HR N ν' σ H' w' ∧ Ext H ν w H' ν' w'
  | .skip H' => ∃ w' ν', r = .ok .skip w' ∧ HR N ν' σ H' w' ∧ Ext H ν w H' ν' w'
  | .dfr d => ∃ D, r = .ok (.defer D) w ∧ DR ν σ d D
  | .enter f args => ∃ vs, VRs ν σ args vs ∧ r = (callFunc f vs.toArray).run P w
  | .round b args => ∃ c vs, ν b = some (c, Pt.z) ∧ VRs ν σ args vs ∧ r = (Instr.yield c vs.toArray).run P w

theorem run_u {s : Sem Unit} {w' : World} (h : s.run P w = .ok () w') : (do s; pure Next.skip : Sem Next).run P w = .ok .skip w' := by
  simp [h]

theorem call_big {N : Nat} {H : Heap} {f0 : Operand} {args : Array Operand} {ats : Array TypeId} {f : AV} {as : List AV} {r : Out} (h : callF P f as = some r) {ρ : Operand → Value} (hf : VR ν σ f (ρ f0)) (ha : VRs ν σ as (args.toList.map ρ)) {t : TypeId} :
    BigOk P N ν σ H w ((do let d ← resolve ρ ⟨.value f0, args, ats⟩ t; invoke d.target d.args : Sem Next).run P w) r := by
  have hargs : args.map ρ = (args.toList.map ρ).toArray := map_arr _ _
  unfold callF at h
  split at h
  · rename_i k first cap
    injection h with h; subst h
    simp only [VR] at hf
    obtain ⟨hp, xs', ys', hx, hy, he⟩ := hf
    refine ⟨xs' ++ args.toList.map ρ ++ ys', (hx.append ha).append hy, ?_⟩
    simp only [resolve, he, Deferred.ofValue, Sem.run_bind, Sem.run_pure, Result.andThen_ok, invoke, hargs]
    congr 2
    simp
  · rename_i b
    injection h with h; subst h
    simp only [VR] at hf
    obtain ⟨c, hν, he⟩ := hf
    refine ⟨c, _, hν, ha, ?_⟩
    simp only [resolve, he, Deferred.ofValue, Sem.run_bind, Sem.run_pure, Result.andThen_ok, invoke, hargs]
    congr 2
    simp
  · cases h

set_option maxHeartbeats 4000000 in
theorem big_sound (hσ : ∀ i, (σ i).oneCell' = true) {N : Nat} {H : Heap} (hr : HR N ν σ H w) (hN : N ≤ w.heap.size) {o : Oper} {xs : List AV} {r : Out} (h : bigF P o.op xs H = some r) {ρ : Operand → Value}
    (hx : VRs ν σ xs ((opnds o.op).map ρ)) : BigOk P N ν σ H w ((execOp ρ o).run P w) r := by
  obtain ⟨dst, op, ty, pos, after, guard⟩ := o
  simp only at h hx
  have two : ∀ {a b : Operand} {xs : List AV}, VRs ν σ xs ([a, b].map ρ) → ∃ x y, xs = [x, y] := by
    intro a b xs h; have := h.length; rcases xs with _ | ⟨x, _ | ⟨y, _ | ⟨z, xs⟩⟩⟩ <;> simp at this; exact ⟨x, y, rfl⟩
  have one : ∀ {a : Operand} {xs : List AV}, VRs ν σ xs ([a].map ρ) → ∃ x, xs = [x] := by
    intro a xs h; have := h.length; rcases xs with _ | ⟨x, _ | ⟨y, xs⟩⟩ <;> simp at this; exact ⟨x, rfl⟩
  have three : ∀ {a b c : Operand} {xs : List AV}, VRs ν σ xs ([a, b, c].map ρ) → ∃ x y z, xs = [x, y, z] := by
    intro a b c xs h; have := h.length; rcases xs with _ | ⟨x, _ | ⟨y, _ | ⟨z, _ | ⟨u, xs⟩⟩⟩⟩ <;> simp at this; exact ⟨x, y, z, rfl⟩
  cases op with
  | store t a v =>
    obtain ⟨x, y, rfl⟩ := two hx
    obtain ⟨h1, h2⟩ := two_rel hx
    cases x <;> (first | (cases h; done) | skip)
    simp only [bigF] at h
    split at h
    · rename_i H' hs
      injection h with h; subst h
      obtain ⟨w', hrun, hr', he'⟩ := store_big (P := P) hσ hr hs h1 h2
      exact ⟨w', ν, run_u hrun, hr', he'⟩
    · cases h
  | mapUpdate t m k v =>
    obtain ⟨x, y, z, rfl⟩ := three hx
    obtain ⟨h1, h2, h3⟩ := three_rel hx
    cases x <;> (first | (cases h; done) | skip)
    simp only [bigF] at h
    split at h
    · rename_i es clock hb
      split at h
      · rename_i es' c' hs
        injection h with h; subst h
        obtain ⟨w', hrun, hr', he'⟩ := upd_big (P := P) hr hb hs h1 h2 h3
        exact ⟨w', ν, run_u hrun, hr', he'⟩
      · cases h
    · cases h
  | insert t m k v =>
    obtain ⟨x, y, z, rfl⟩ := three hx
    obtain ⟨h1, h2, h3⟩ := three_rel hx
    cases x <;> (first | (cases h; done) | skip)
    simp only [bigF] at h
    split at h
    · rename_i es clock hb
      split at h
      · rename_i es' c' hs
        injection h with h; subst h
        obtain ⟨w', hrun, hr', he'⟩ := upd_big (P := P) hr hb hs h1 h2 h3
        exact ⟨w', ν, run_u hrun, hr', he'⟩
      · cases h
    · cases h
  | mapEntry t m k =>
    obtain ⟨x, y, rfl⟩ := two hx
    obtain ⟨h1, h2⟩ := two_rel hx
    cases x <;> (first | (cases h; done) | skip)
    simp only [bigF] at h
    split at h
    · rename_i es clock hb
      split at h
      · rename_i v st es' c' hs
        injection h with h; subst h
        obtain ⟨u, w', hrun, hv, hr', he'⟩ := ent_big (P := P) hr hb hs h1 h2
        exact ⟨u, w', ν, run_v hrun, hv, hr', he'⟩
      · cases h
    · cases h
  | entryStore t m s v =>
    obtain ⟨x, y, z, rfl⟩ := three hx
    obtain ⟨h1, h2, h3⟩ := three_rel hx
    cases x <;> (first | (cases h; done) | skip)
    cases y <;> (first | (cases h; done) | skip)
    simp only [bigF] at h
    split at h
    · rename_i es clock hb
      split at h
      · rename_i es' hs
        injection h with h; subst h
        obtain ⟨w', hrun, hr', he'⟩ := entst_big (P := P) (t := t) hr hb hs h1 h2 h3
        exact ⟨w', ν, run_u hrun, hr', he'⟩
      · cases h
    · cases h
  | range t x =>
    obtain ⟨a, rfl⟩ := one hx
    have h1 := one_rel hx
    simp only [bigF] at h
    have hval : ∃ v H', r = .val v H' := by
      split at h
      · injection h with h; exact ⟨_, _, h.symm⟩
      · split at h
        · injection h with h; exact ⟨_, _, h.symm⟩
        · cases h
      · cases h
    obtain ⟨v, H', rfl⟩ := hval
    obtain ⟨u, w', ν', hrun, hv, hr', he'⟩ := range_big (P := P) hr hN h1 h
    exact ⟨u, w', ν', run_v hrun, hv, hr', he'⟩
  | next it isString =>
    obtain ⟨a, rfl⟩ := one hx
    have h1 := one_rel hx
    cases isString with
    | true => cases a <;> cases h
    | false =>
      cases a <;> (first | (cases h; done) | skip)
      rename_i b off
      cases off with
      | succ n => cases h
      | zero =>
        simp only [bigF] at h
        split at h
        · rename_i since seen stepped hb
          injection h with h; subst h
          refine ⟨.tuple #[.bool false], w, ν, run_v (next_over (P := P) hr hb h1 ty), ?_, hr, Ext.refl _ _ _⟩
          simp only [VR, VRs]; exact ⟨_, ⟨_, [], rfl, rfl, rfl⟩, rfl⟩
        · rename_i m since seen last hb
          split at h
          · rename_i es clock hm
            have hval : ∃ v H', r = .val v H' := by
              split at h
              · cases h
              · split at h
                · injection h with h; exact ⟨_, _, h.symm⟩
                · split at h
                  · injection h with h; exact ⟨_, _, h.symm⟩
                  · cases h
                · cases h
            obtain ⟨v, H', rfl⟩ := hval
            obtain ⟨u, w', hrun, hv, hr', he'⟩ := next_big (P := P) hr hb hm h1 ty h
            exact ⟨u, w', ν, run_v hrun, hv, hr', he'⟩
          · cases h
        · cases h
  | convert s d x =>
    obtain ⟨a, rfl⟩ := one hx
    have h1 := one_rel hx
    cases a <;> (first | (cases h; done) | skip)
    case str l =>
      simp only [bigF] at h
      split at h
      · rename_i e hus hud
        split at h
        · rename_i hue
          split at h
          · injection h with h; subst h
            obtain ⟨u, w', ν', hrun, hv, hr', he'⟩ := tobytes_big (P := P) hr hN hus hud hue h1
            exact ⟨u, w', ν', run_v hrun, hv, hr', he'⟩
          · cases h
        · cases h
      · cases h
    case slc b o len cap es =>
      simp only [bigF] at h
      split at h
      · rename_i e0 e e1 cs fx hus hud hb
        split at h
        · rename_i hue
          split at h
          · rename_i hsd
            injection h with h; subst h
            have hx0 := h1
            simp only [VR] at h1
            obtain ⟨c, p, k, q, hν, hck, hek, hlc, hq, he⟩ := h1
            obtain ⟨w', hrun, hr', he'⟩ := mark_keeps (P := P) (q := q) hr hb hν
            refine ⟨_, w', ν, run_v (v := ρ x) ?_, hx0, hr', he'⟩
            subst hsd
            rw [he]
            simp only [convert, Sem.run_bind, run_und hus, Result.andThen_ok]
            rw [hus] at hud; injection hud with hud; injection hud with hud; subst hud
            simp only [beq_self_eq_true, run_und hue, Result.andThen_ok, Sem.run_bind, hrun, Sem.run_pure]
          · cases h
        · cases h
      · cases h
  | call c =>
    obtain ⟨cal, args, ats⟩ := c
    cases cal with
    | invoke f m => cases xs <;> cases h
    | value f0 =>
      rcases xs with _ | ⟨f, as⟩
      · cases h
      · have h' : callF P f as = some r := h
        have hx' : VRs ν σ (f :: as) ((f0 :: args.toList).map ρ) := hx
        obtain ⟨h1, h2⟩ := cons_rel hx'
        exact call_big h' h1 h2
    | builtin b =>
      have hx' : VRs ν σ xs (args.toList.map ρ) := by simpa [opnds] using hx
      have hargs : args.map ρ = (args.toList.map ρ).toArray := map_arr _ _
      have hexec : (execOp ρ ⟨dst, .call ⟨.builtin b, args, ats⟩, ty, pos, after, guard⟩).run P w = (builtin b ats ty (args.map fun | .const _ => true | _ => false) (args.toList.map ρ).toArray).run P w := by
        rw [← hargs]; exact res_builtin
      rw [hexec]
      rcases xs with _ | ⟨x, _ | ⟨y, _ | ⟨z, xs⟩⟩⟩
      · cases b <;> cases h
      · cases b <;> cases h
      · simp only [VRs] at hx'
        obtain ⟨v1, ws, he, hv1, v2, ws2, he2, hv2, hw⟩ := hx'
        subst hw; subst he2
        rw [he]
        cases b with
        | append =>
          simp only [bigF] at h
          split at h
          · rename_i v H' hs
            injection h with h; subst h
            obtain ⟨u, w', ν', hrun, hv, hr', he'⟩ := app_big (P := P) hσ hr hN hs hv1 hv2 ty
            exact ⟨u, w', ν', run_v hrun, hv, hr', he'⟩
          · cases h
        | copy =>
          simp only [bigF] at h
          split at h
          · rename_i v H' hs
            injection h with h; subst h
            obtain ⟨u, w', hrun, hv, hr', he'⟩ := copy_big (P := P) hσ hr hs hv1 hv2 ty
            exact ⟨u, w', ν, run_v hrun, hv, hr', he'⟩
          · cases h
        | unsafeString =>
          cases y <;> (first | (cases h; done) | skip)
          simp only [bigF] at h
          split at h
          · cases h
          · rename_i hsz
            split at h
            · rename_i v H' hs
              injection h with h; subst h
              obtain ⟨u, w', hrun, hv, hr', he'⟩ := uns_big (P := P) hr hs hv1 hv2 ty hsz
              exact ⟨u, w', ν, run_v hrun, hv, hr', he'⟩
            · cases h
        | delete =>
          simp only [bigF] at h
          split at h
          · rename_i t b ha
            split at h
            · rename_i es clock hb
              split at h
              · rename_i es' hs
                injection h with h; subst h
                obtain ⟨w', hrun, hr', he'⟩ := del_big (P := P) hr ha hb hs hv1 hv2 ty
                refine ⟨.tuple #[], w', ν, run_v hrun, ?_, hr', he'⟩
                simp only [undefA, VR, VRs]; exact ⟨[], rfl, rfl⟩
              · cases h
            · cases h
          · cases h
        | _ => cases h
      · cases b <;> first | (cases h; done) | (cases y <;> cases h)
  | defer c =>
    obtain ⟨cal, args, ats⟩ := c
    cases cal with
    | invoke f m => cases xs <;> cases h
    | builtin b => cases xs <;> cases h
    | value f0 =>
      rcases xs with _ | ⟨f, as⟩
      · cases h
      · cases f <;> (first | (cases h; done) | skip)
        rename_i g first cap
        injection h with h; subst h
        have hx' : VRs ν σ (.fn g first cap :: as) ((f0 :: args.toList).map ρ) := hx
        obtain ⟨h1, h2⟩ := cons_rel hx'
        simp only [VR] at h1
        obtain ⟨hp, xs', ys', hx1, hy1, he⟩ := h1
        have hargs : args.map ρ = (args.toList.map ρ).toArray := map_arr _ _
        refine ⟨_, ?_, hp, ys', xs' ++ args.toList.map ρ, hy1, hx1.append h2, rfl⟩
        simp only [execOp, resolve, he, Deferred.ofValue, Sem.run_bind, Sem.run_pure, Result.andThen_ok, hargs]
        congr 3
        simp
  | _ => exfalso; rcases xs with _ | ⟨x, _ | ⟨y, _ | ⟨z, xs⟩⟩⟩ <;> first | (cases h; done) | (cases x <;> cases h; done) | (cases x <;> cases y <;> cases h)
end Go.Proofs.YtblpmmociahklaaGreatDoor.Sx
