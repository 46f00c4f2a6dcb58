/- The whole of the operations that hang on their operands alone. -/
import Derived.Test.YtblpmmociahklaaGreatDoorSx6
namespace Go.Proofs.YtblpmmociahklaaGreatDoor.Sx
open Go

variable {P : Program} {ν : Pl} {σ : Nat → Value} {w : World}

theorem one_rel {x : Operand} {ρ : Operand → Value} {a : AV} (h : VRs ν σ [a] ([x].map ρ)) : VR ν σ a (ρ x) := by
  simp only [List.map_cons, List.map_nil, VRs] at h
  obtain ⟨v, ws, he, hv, _⟩ := h
  injection he with e1 e2; subst e1; exact hv
theorem two_rel {x y : Operand} {ρ : Operand → Value} {a b : AV} (h : VRs ν σ [a, b] ([x, y].map ρ)) : VR ν σ a (ρ x) ∧ VR ν σ b (ρ y) := by
  simp only [List.map_cons, List.map_nil, VRs] at h
  obtain ⟨v, ws, he, hv, v2, ws2, he2, hv2, _⟩ := h
  injection he with e1 e2; subst e1; subst e2; injection he2 with e3 e4; subst e3; exact ⟨hv, hv2⟩
theorem three_rel {x y z : Operand} {ρ : Operand → Value} {a b c : AV} (h : VRs ν σ [a, b, c] ([x, y, z].map ρ)) : VR ν σ a (ρ x) ∧ VR ν σ b (ρ y) ∧ VR ν σ c (ρ z) := by
  simp only [List.map_cons, List.map_nil, VRs] at h
  obtain ⟨v, ws, he, hv, v2, ws2, he2, hv2, v3, ws3, he3, hv3, _⟩ := h
  injection he with e1 e2; subst e1; subst e2; injection he2 with e3 e4; subst e3; subst e4; injection he3 with e5 e6; subst e5; exact ⟨hv, hv2, hv3⟩
theorem cons_rel {x : Operand} {xs : List Operand} {ρ : Operand → Value} {a : AV} {as : List AV} (h : VRs ν σ (a :: as) ((x :: xs).map ρ)) : VR ν σ a (ρ x) ∧ VRs ν σ as (xs.map ρ) := by
  simp only [List.map_cons, VRs] at h
  obtain ⟨v, ws, he, hv, hw⟩ := h
  injection he with e1 e2; subst e1; subst e2; exact ⟨hv, hw⟩

theorem run_v {s : Sem Value} {v : Value} {w' : World} (h : s.run P w = .ok v w') : (do pure (Next.value (← s)) : Sem Next).run P w = .ok (.value v) w' := by
  simp [h]


theorem conv_pure {s d : TypeId} {x r : AV} {x' : Value} {y : Operand} (h : pureF P (.convert s d y) [x] = some r) (hx : VR ν σ x x') :
    ∃ v, (convert s d x').run P w = .ok v w ∧ VR ν σ r v := by
  simp only [pureF] at h
  cases hus : P.underlying s with
  | none => simp [hus] at h
  | some us =>
    cases hud : P.underlying d with
    | none => simp [hus, hud] at h
    | some ud =>
      simp only [hus, hud] at h
      cases x with
      | int k0 n =>
        simp only [VR] at hx; subst hx
        cases ud <;> try (cases h; done)
        rename_i k
        injection h with h; subst h
        refine ⟨.int k (k.wrap n), ?_, by simp only [VR, wrapF_eq]⟩
        simp only [convert, Sem.run_bind, run_und hus, run_und hud, Result.andThen_ok]
        rfl
      | str l =>
        simp only [VR] at hx; subst hx
        cases ud <;> try (cases h; done)
        injection h with h; subst h
        refine ⟨.string ⟨l.toArray⟩, ?_, by simp only [VR]⟩
        simp only [convert, Sem.run_bind, run_und hus, run_und hud, Result.andThen_ok]
        cases us <;> rfl
      | _ => cases ud <;> (cases h; done)

theorem mkIface {t : TypeId} {x r : AV} {x' : Value} {y : Operand} (h : pureF P (.makeInterface t y) [x] = some r) (hx : VR ν σ x x') :
    ∃ v, (Instr.makeInterface t x').run P w = .ok v w ∧ VR ν σ r v := by
  simp only [pureF] at h
  cases hu : P.underlying t with
  | none => simp [hu] at h
  | some d =>
    simp only [hu] at h
    refine ⟨.iface t x', ?_, ?_⟩
    · simp only [Instr.makeInterface, Sem.run_bind, run_und hu, Result.andThen_ok]
      cases d <;> first | rfl | (cases h; done)
    · cases d <;> first | (cases h; done) | (injection h with h; subst h; simp only [VR]; exact ⟨_, hx, rfl⟩)

theorem fieldAddr_pure {t : TypeId} {x r : AV} {x' : Value} {y : Operand} {f : Nat} (h : pureF P (.fieldAddr t y f) [x] = some r) (hx : VR ν σ x x') :
    ∃ v, (Instr.fieldAt t x' f).run P w = .ok v w ∧ VR ν σ r v := by
  simp only [pureF] at h
  cases hu : P.underlying t with
  | none => simp [hu] at h
  | some d =>
    simp only [hu] at h
    split at h
    · rename_i fs b o e1
      injection e1 with e1; subst e1
      simp only [VR] at hx
      obtain ⟨c, p, hb, rfl⟩ := hx
      cases hf : fs.toList[f]? with
      | none => simp [hf] at h
      | some fd =>
        simp only [hf] at h
        cases hs : sizeT P fd.type with
        | none => simp [hs] at h
        | some n =>
          simp only [hs] at h
          cases n with
          | zero => cases h
          | succ n =>
            injection h with h; subst h
            refine ⟨.pointer (some ⟨c, p.o + o + fd.offset, none⟩), ?_, by simp only [VR]; exact ⟨c, p, hb, by rw [Nat.add_assoc]⟩⟩
            have hf' : fs[f]? = some fd := by simpa using hf
            simp only [Instr.fieldAt, Sem.run_bind, run_und hu, Result.andThen_ok, hf', Instr.sureAddr, Sem.run_pure, fieldPlace, run_size hs]
            simp [add_off]
    · cases h

theorem field_pure {t : TypeId} {x r : AV} {x' : Value} {y : Operand} {f : Nat} (h : pureF P (.field t y f) [x] = some r) (hx : VR ν σ x x') :
    ∃ v, (Instr.field t x' f).run P w = .ok v w ∧ VR ν σ r v := by
  simp only [pureF] at h
  cases hu : P.underlying t with
  | none => simp [hu] at h
  | some d =>
    simp only [hu] at h
    split at h
    · rename_i fs cs e1
      injection e1 with e1; subst e1
      obtain ⟨ds, hds, rfl⟩ := hx.agg_inv
      cases hf : fs.toList[f]? with
      | none => simp [hf] at h
      | some fd =>
        simp only [hf] at h
        obtain ⟨v, hv, rv⟩ := run_part (w := w) hds h
        have hf' : fs[f]? = some fd := by simpa using hf
        refine ⟨v, ?_, rv⟩
        simp only [Instr.field, Sem.run_bind, run_und hu, Result.andThen_ok, hf', asAgg, Sem.run_pure, hv]
    · cases h

theorem indexAddr_pure {t : TypeId} {x r : AV} {x' : Value} {y z : Operand} {k : IntKind} {i : Int} (h : pureF P (.indexAddr t y z) [x, .int k i] = some r) (hx : VR ν σ x x') :
    ∃ v, (Instr.indexAt t x' (.int k i)).run P w = .ok v w ∧ VR ν σ r v := by
  simp only [pureF] at h
  cases hu : P.underlying t with
  | none => simp [hu] at h
  | some d =>
    simp only [hu] at h
    split at h
    · rename_i n e b o e1
      injection e1 with e1; subst e1
      simp only [VR] at hx
      obtain ⟨c, p, hb, rfl⟩ := hx
      cases hs : sizeT P e with
      | none => simp [hs] at h
      | some s =>
        simp only [hs] at h
        split at h
        · rename_i hi
          injection h with h; subst h
          refine ⟨.pointer (some ⟨c, p.o + o + i.toNat * s, none⟩), ?_, by simp only [VR]; exact ⟨c, p, hb, by rw [Nat.add_assoc]⟩⟩
          simp only [Instr.indexAt, asIntOf, Sem.run_bind, Sem.run_pure, Result.andThen_ok, run_und hu, Instr.sureAddr]
          simp only [hi, and_self, if_true, Sem.run_bind, run_size hs, Result.andThen_ok, Sem.run_pure, add_off]
        · cases h
    · rename_i e b o len cap ex e1
      injection e1 with e1; subst e1
      simp only [VR] at hx
      obtain ⟨c, p, kk, q, hb, h1, h2, h3, h4, rfl⟩ := hx
      cases hs : sizeT P e with
      | none => simp [hs] at h
      | some s =>
        simp only [hs] at h
        split at h
        · rename_i hi
          injection h with h; subst h
          have hq : q = p.o + o := by rcases h4 with ⟨h4, _⟩ | h4 <;> omega
          subst hq
          refine ⟨.pointer (some ⟨c, p.o + o + i.toNat * s, none⟩), ?_, by simp only [VR]; exact ⟨c, p, hb, by rw [Nat.add_assoc]⟩⟩
          simp only [Instr.indexAt, asIntOf, Sem.run_bind, Sem.run_pure, Result.andThen_ok, run_und hu]
          simp only [hi, and_self, if_true, Sem.run_bind, run_size hs, Result.andThen_ok, Sem.run_pure, add_off]
        · cases h
    · cases h

theorem index_pure {t : TypeId} {x r : AV} {x' : Value} {y z : Operand} {k : IntKind} {i : Int} (h : pureF P (.index t y z) [x, .int k i] = some r) (hx : VR ν σ x x') :
    ∃ v, (Instr.index t x' (.int k i)).run P w = .ok v w ∧ VR ν σ r v := by
  simp only [pureF] at h
  cases hu : P.underlying t with
  | none => simp [hu] at h
  | some d =>
    simp only [hu] at h
    split at h
    · rename_i n e cs e1
      injection e1 with e1; subst e1
      obtain ⟨ds, hds, rfl⟩ := hx.agg_inv
      cases hs : sizeT P e with
      | none => simp [hs] at h
      | some s =>
        simp only [hs] at h
        split at h
        · rename_i hi
          obtain ⟨v, hv, rv⟩ := run_part (w := w) hds h
          refine ⟨v, ?_, rv⟩
          simp only [Instr.index, asIntOf, Sem.run_bind, Sem.run_pure, Result.andThen_ok, run_und hu]
          simp only [hi, and_self, if_true, Sem.run_bind, run_size hs, Result.andThen_ok, hv]
        · cases h
    · rename_i l e1
      injection e1 with e1; subst e1
      simp only [VR] at hx; subst hx
      split at h
      · rename_i hi
        cases hc : l[i.toNat]? with
        | none => simp [hc] at h
        | some ch =>
          simp only [hc, Option.some.injEq] at h; subst h
          refine ⟨.int .u8 ch.toNat, ?_, by simp only [VR]⟩
          have hb : (⟨l.toArray⟩ : ByteArray)[i.toNat]? = some ch := by
            have hlt := (List.getElem?_eq_some_iff.1 hc)
            obtain ⟨h1, h2⟩ := hlt
            rw [getElem?_pos _ _ (by simpa [ByteArray.size] using h1)]
            congr 1
          simp only [Instr.index, asIntOf, Sem.run_bind, Sem.run_pure, Result.andThen_ok, run_und hu, hi, if_true, hb]
      · cases h
    · cases h

theorem assert_pure {t xt : TypeId} {ok : Bool} {x r : AV} {x' : Value} {y : Operand} (h : pureF P (.typeAssert y xt t ok) [x] = some r) (hx : VR ν σ x x') :
    ∃ v, (Instr.typeAssert x' xt t ok).run P w = .ok v w ∧ VR ν σ r v := by
  simp only [pureF] at h
  cases hu : P.underlying t with
  | none => simp [hu] at h
  | some d =>
    simp only [hu] at h
    have hd : ∀ ms, d ≠ .interface ms := by rintro ms rfl; cases x <;> cases h
    have tup2 : ∀ {a : AV} {v : Value} {b : Bool}, VR ν σ a v → VR ν σ (.tup [a, .bool b]) (.tuple #[v, .bool b]) := by
      intro a v b hv
      simp only [VR, VRs]
      exact ⟨[v, .bool b], ⟨v, _, rfl, hv, .bool b, [], rfl, rfl, rfl⟩, rfl⟩
    cases x with
    | nili =>
      simp only [VR] at hx; subst hx
      have h' : (if ok then (match zeroT P t with | some z => some (AV.tup [z, .bool false]) | none => none) else none) = some r := by
        cases d <;> first | exact h | (exact absurd rfl (hd _))
      cases ok with
      | false => cases h'
      | true =>
        simp only [if_true] at h'
        cases hz : zeroT P t with
        | none => simp [hz] at h'
        | some z =>
          simp only [hz, Option.some.injEq] at h'; subst h'
          obtain ⟨zv, hzv, rz⟩ := run_zero (ν := ν) (σ := σ) (w := w) hz
          refine ⟨.tuple #[zv, .bool false], ?_, tup2 rz⟩
          simp only [Instr.typeAssert, Sem.run_bind, run_und hu, Result.andThen_ok]
          cases d <;> first | (simp [hzv]; done) | (exact absurd rfl (hd _))
    | ifc u xv =>
      simp only [VR] at hx
      obtain ⟨yv, hy, rfl⟩ := hx
      have h' : (if u = t then some (if ok then AV.tup [xv, .bool true] else xv) else if ok then (match zeroT P t with | some z => some (AV.tup [z, .bool false]) | none => none) else none) = some r := by
        cases d <;> first | exact h | (exact absurd rfl (hd _))
      split at h'
      · rename_i hut
        subst hut
        injection h' with h'; subst h'
        cases ok with
        | true =>
          refine ⟨.tuple #[yv, .bool true], ?_, tup2 hy⟩
          simp only [Instr.typeAssert, Sem.run_bind, run_und hu, Result.andThen_ok]
          cases d <;> first | (simp; done) | (exact absurd rfl (hd _))
        | false =>
          refine ⟨yv, ?_, hy⟩
          simp only [Instr.typeAssert, Sem.run_bind, run_und hu, Result.andThen_ok]
          cases d <;> first | (simp; done) | (exact absurd rfl (hd _))
      · rename_i hut
        cases ok with
        | false => cases h'
        | true =>
          simp only [if_true] at h'
          cases hz : zeroT P t with
          | none => simp [hz] at h'
          | some z =>
            simp only [hz, Option.some.injEq] at h'; subst h'
            obtain ⟨zv, hzv, rz⟩ := run_zero (ν := ν) (σ := σ) (w := w) hz
            refine ⟨.tuple #[zv, .bool false], ?_, tup2 rz⟩
            simp only [Instr.typeAssert, Sem.run_bind, run_und hu, Result.andThen_ok]
            cases d <;> first | (simp [hzv, hut]; done) | (exact absurd rfl (hd _))
    | _ => cases d <;> first | (cases h; done) | (exact absurd rfl (hd _))

theorem extract_pure {x r : AV} {x' : Value} {y : Operand} {i : Nat} (h : pureF P (.extract y i) [x] = some r) (hx : VR ν σ x x') :
    ∃ v, (Instr.extract x' i).run P w = .ok v w ∧ VR ν σ r v := by
  cases x with
  | tup vs =>
    have h' : vs[i]? = some r := h
    obtain ⟨ds, hds, rfl⟩ := hx.tup_inv
    obtain ⟨v, hv, rv⟩ := hds.get h'
    refine ⟨v, ?_, rv⟩
    have hv' : ds.toArray[i]? = some v := by simpa using hv
    simp [Instr.extract, hv]
  | _ => cases h

theorem map_arr (args : Array Operand) (ρ : Operand → Value) : args.map ρ = (args.toList.map ρ).toArray := by
  apply Array.toList_inj.1; simp

theorem res_builtin {b : Builtin} {args : Array Operand} {ats : Array TypeId} {ρ : Operand → Value} {t : TypeId} :
    (do let d ← resolve ρ ⟨.builtin b, args, ats⟩ t; invoke d.target d.args : Sem Next).run P w =
      (builtin b ats t (args.map fun | .const _ => true | _ => false) (args.map ρ)).run P w := by
  simp only [resolve, Sem.run_bind, Sem.run_pure, Result.andThen_ok, invoke]
  rfl

theorem len_pure {ats : Array TypeId} {x r : AV} {v : Value} (h : biF P .len ats[0]? [x] = some r) (hv : VR ν σ x v) (t : TypeId) :
    ∃ u, (Builtin.len_ ats t #[v]).run P w = .ok u w ∧ VR ν σ r u := by
  simp only [biF] at h
  cases ha : ats[0]? with
  | none => simp [ha] at h
  | some t =>
    simp only [ha] at h
    cases hu : P.underlying t with
    | none => simp [hu] at h
    | some d =>
      simp only [hu] at h
      have e0 : ∀ v : Value, (#[v] : Array Value)[0]? = some v := fun v => by simp
      cases d <;> cases x <;> (first | (cases h; done) | skip) <;> (injection h with h; subst h)
      case string.str l =>
        simp only [VR] at hv; subst hv
        refine ⟨.int .i64 (l.length : Nat), ?_, by simp only [VR]⟩
        simp only [Builtin.len_, ha, e0, Sem.run_bind, run_und hu, Result.andThen_ok, Sem.run_pure, goInt]
        rfl
      case slice.slc e b o n cap ex =>
        simp only [VR] at hv; obtain ⟨c, p, k, q, _, _, _, _, _, rfl⟩ := hv
        refine ⟨.int .i64 (n : Nat), ?_, by simp only [VR]⟩
        simp only [Builtin.len_, ha, e0, Sem.run_bind, run_und hu, Result.andThen_ok, Sem.run_pure, goInt]
      case slice.nils e =>
        simp only [VR] at hv; subst hv
        refine ⟨.int .i64 0, ?_, by simp only [VR]⟩
        simp only [Builtin.len_, ha, e0, Sem.run_bind, run_und hu, Result.andThen_ok, Sem.run_pure, goInt]
        rfl
      all_goals
        (refine ⟨_, ?_, by simp only [VR]; rfl⟩
         simp only [Builtin.len_, ha, e0, Sem.run_bind, run_und hu, Result.andThen_ok, Sem.run_pure, goInt])

theorem cap_pure {ats : Array TypeId} {x r : AV} {v : Value} (h : biF P .cap ats[0]? [x] = some r) (hv : VR ν σ x v) (t : TypeId) :
    ∃ u, (Builtin.cap_ ats t #[v]).run P w = .ok u w ∧ VR ν σ r u := by
  simp only [biF] at h
  cases ha : ats[0]? with
  | none => simp [ha] at h
  | some t =>
    simp only [ha] at h
    cases hu : P.underlying t with
    | none => simp [hu] at h
    | some d =>
      simp only [hu] at h
      have e0 : ∀ v : Value, (#[v] : Array Value)[0]? = some v := fun v => by simp
      cases x with
      | slc b o n cap ex =>
        cases ex with
        | none =>
          simp only [VR] at hv; obtain ⟨c, p, k, q, _, _, hex, _, _, rfl⟩ := hv
          have hk : k = cap := hex trivial
          subst hk
          cases d <;> (first | (cases h; done) | skip) <;> (injection h with h; subst h)
          all_goals
            (refine ⟨_, ?_, by simp only [VR]; rfl⟩
             simp only [Builtin.cap_, ha, e0, Sem.run_bind, run_und hu, Result.andThen_ok, Sem.run_pure, goInt])
        | some s0 =>
          cases d <;> (first | (cases h; done) | skip) <;> (injection h with h; subst h)
          all_goals
            (refine ⟨_, ?_, by simp only [VR]; rfl⟩
             simp only [Builtin.cap_, ha, e0, Sem.run_bind, run_und hu, Result.andThen_ok, Sem.run_pure, goInt])
      | nils =>
        simp only [VR] at hv; subst hv
        cases d <;> (first | (cases h; done) | skip) <;> (injection h with h; subst h)
        all_goals
          (refine ⟨_, ?_, by simp only [VR]; rfl⟩
           simp only [Builtin.cap_, ha, e0, Sem.run_bind, run_und hu, Result.andThen_ok, Sem.run_pure, goInt]; try rfl)
      | _ =>
        cases d <;> (first | (cases h; done) | skip) <;> (injection h with h; subst h)
        all_goals
          (refine ⟨_, ?_, by simp only [VR]; rfl⟩
           simp only [Builtin.cap_, ha, e0, Sem.run_bind, run_und hu, Result.andThen_ok, Sem.run_pure, goInt])

theorem data_pure {ats : Array TypeId} {x r : AV} {v : Value} (h : biF P .unsafeSliceData ats[0]? [x] = some r) (hv : VR ν σ x v) (t : TypeId) :
    ∃ u, (Builtin.unsafeSliceData_ ats t #[v]).run P w = .ok u w ∧ VR ν σ r u := by
  cases x with
  | nils =>
    injection h with h; subst h
    simp only [VR] at hv; subst hv
    exact ⟨.pointer none, rfl, by simp only [VR]⟩
  | slc b o n cap ex =>
    cases n with
    | zero => cases h
    | succ n =>
      injection h with h; subst h
      simp only [VR] at hv; obtain ⟨c, p, k, q, hb, h1, _, h3, hq, rfl⟩ := hv
      have hk : k ≠ 0 := by omega
      have hq' : q = p.o + o := by rcases hq with ⟨hq, _⟩ | hq <;> omega
      subst hq'
      refine ⟨.pointer (some ⟨c, p.o + o, none⟩), ?_, by simp only [VR]; exact ⟨c, p, hb, rfl⟩⟩
      have e : Builtin.unsafeSliceData_ ats t #[.slice (some ⟨c, p.o + o, none⟩) (n + 1) k] = pure (.pointer (some ⟨c, p.o + o, none⟩)) :=
        Eq.trans (rfl : _ = ite (k ≠ 0) (pure (Value.pointer (some ⟨c, p.o + o, none⟩)) : Sem Value) _) (if_pos hk)
      rw [e]; rfl
  | _ => cases h

theorem call_pure {c : Call} {xs : List AV} {r : AV} {ρ : Operand → Value} {t : TypeId} (h : pureF P (.call c) xs = some r) (hx : VRs ν σ xs ((opnds (.call c)).map ρ)) :
    ∃ v, (do let d ← resolve ρ c t; invoke d.target d.args : Sem Next).run P w = .ok (.value v) w ∧ VR ν σ r v := by
  obtain ⟨cal, args, ats⟩ := c
  have h' : (match (generalizing := false) cal with | .builtin b => biF P b ats[0]? xs | _ => none) = some r := by
    rcases xs with _ | ⟨x, _ | ⟨y, xs⟩⟩ <;> exact h
  cases cal with
  | value f => cases h'
  | invoke f m => cases h'
  | builtin b =>
    have h2 : biF P b ats[0]? xs = some r := h'
    have hx' : VRs ν σ xs (args.toList.map ρ) := by simpa [opnds] using hx
    have hargs : args.map ρ = (args.toList.map ρ).toArray := map_arr _ _
    rw [res_builtin]
    rcases xs with _ | ⟨x, rest⟩
    · exfalso; cases b <;> (cases h2)
    · simp only [VRs] at hx'
      obtain ⟨v, ws, he, hv, hw⟩ := hx'
      rw [hargs, he]
      have one : rest = [] → ws = [] := by intro e; subst e; simpa [VRs] using hw
      cases b with
      | len =>
        cases rest with
        | cons y ys => cases h2
        | nil =>
          obtain ⟨u, hu, ru⟩ := len_pure (w := w) h2 hv t
          rw [one rfl]
          exact ⟨u, run_v hu, ru⟩
      | cap =>
        cases rest with
        | cons y ys => cases h2
        | nil =>
          obtain ⟨u, hu, ru⟩ := cap_pure (w := w) h2 hv t
          rw [one rfl]
          exact ⟨u, run_v hu, ru⟩
      | unsafeSliceData =>
        cases rest with
        | cons y ys => cases h2
        | nil =>
          obtain ⟨u, hu, ru⟩ := data_pure (w := w) h2 hv t
          rw [one rfl]
          exact ⟨u, run_v hu, ru⟩
      | max =>
        have h3 : maxF x rest = some r := h2
        obtain ⟨u, hu, ru⟩ := max_sound (P := P) (w := w) rest x r v ws h3 hv hw
        exact ⟨u, run_v (by simpa [Builtin.max_] using hu), ru⟩
      | min =>
        have h3 : minF x rest = some r := h2
        obtain ⟨u, hu, ru⟩ := min_sound (P := P) (w := w) rest x r v ws h3 hv hw
        exact ⟨u, run_v (by simpa [Builtin.min_] using hu), ru⟩
      | _ => cases h2

theorem nil_pure {x r : AV} {x' : Value} {y : Operand} {o : Oper} {ρ : Operand → Value} (ho : o.op = .nilCheck y) (h : pureF P (.nilCheck y) [x] = some r) (hx : VR ν σ x (ρ y)) :
    ∃ v, (execOp ρ o).run P w = .ok (.value v) w ∧ VR ν σ r v := by
  unfold execOp
  rw [ho]
  simp only []
  cases x <;> (first | (cases h; done) | skip)
  all_goals (have h1 := hx; simp only [VR] at h1)
  case fn f first cap =>
    obtain ⟨hp, xs', ys', h2, h3, he⟩ := h1
    cases f <;> (first | (cases h; done) | skip) <;> (injection h with h; subst h) <;> exact ⟨_, by rw [he]; rfl, hx⟩
  case ptr b o => obtain ⟨c, p, hb, he⟩ := h1; injection h with h; subst h; exact ⟨_, by rw [he]; rfl, hx⟩
  case slc => obtain ⟨c, p, k, q, _, _, _, _, _, he⟩ := h1; injection h with h; subst h; exact ⟨_, by rw [he]; rfl, hx⟩
  case map => obtain ⟨c, _, he⟩ := h1; injection h with h; subst h; exact ⟨_, by rw [he]; rfl, hx⟩
  case yld => obtain ⟨c, _, he⟩ := h1; injection h with h; subst h; exact ⟨_, by rw [he]; rfl, hx⟩
  case ifc => obtain ⟨c, _, he⟩ := h1; injection h with h; subst h; exact ⟨_, by rw [he]; rfl, hx⟩
  case agg => obtain ⟨c, _, he⟩ := h1; injection h with h; subst h; exact ⟨_, by rw [he]; rfl, hx⟩
  case tup => obtain ⟨c, _, he⟩ := h1; injection h with h; subst h; exact ⟨_, by rw [he]; rfl, hx⟩
  all_goals (injection h with h; subst h; exact ⟨_, by rw [h1]; rfl, hx⟩)

theorem fnp_rel {first captured : Array Operand} {ρ : Operand → Value} {xs : List AV} (hx : VRs ν σ xs ((first.toList ++ captured.toList).map ρ)) :
    VRs ν σ (xs.take first.size) (first.map ρ).toList ∧ VRs ν σ (xs.drop first.size) (captured.map ρ).toList := by
  have h1 := hx.take first.size
  have h2 := hx.drop first.size
  rw [List.map_append] at h1 h2
  constructor
  · rw [List.take_left' (by simp)] at h1; simpa using h1
  · rw [List.drop_left' (by simp)] at h2; simpa using h2

set_option maxHeartbeats 4000000 in
theorem pure_sound (hσ : ∀ i, (σ i).oneCell' = true) {o : Oper} {xs : List AV} {r : AV} (hc : clsOf P o.op = .pure) (h : pureF P o.op xs = some r) {ρ : Operand → Value}
    (hx : VRs ν σ xs ((opnds o.op).map ρ)) : ∃ v, (execOp ρ o).run P w = .ok (.value v) w ∧ VR ν σ r v := by
  obtain ⟨dst, op, ty, pos, after, guard⟩ := o
  simp only at hc h hx
  have two : ∀ {a b : Operand} {xs : List AV}, VRs ν σ xs ([a, b].map ρ) → ∃ x y, xs = [x, y] := by
    intro a b xs h; have := h.length; rcases xs with _ | ⟨x, _ | ⟨y, _ | ⟨z, xs⟩⟩⟩ <;> simp at this; exact ⟨x, y, rfl⟩
  have one : ∀ {a : Operand} {xs : List AV}, VRs ν σ xs ([a].map ρ) → ∃ x, xs = [x] := by
    intro a xs h; have := h.length; rcases xs with _ | ⟨x, _ | ⟨y, xs⟩⟩ <;> simp at this; exact ⟨x, rfl⟩
  cases op with
  | move x =>
    obtain ⟨a, rfl⟩ := one hx
    injection h with h; subst h
    exact ⟨_, rfl, one_rel hx⟩
  | assign x =>
    obtain ⟨a, rfl⟩ := one hx
    injection h with h; subst h
    exact ⟨_, rfl, one_rel hx⟩
  | pick c a b =>
    have hl := hx.length
    rcases xs with _ | ⟨xc, _ | ⟨xa, _ | ⟨xb, _ | ⟨z, xs⟩⟩⟩⟩ <;> simp [opnds] at hl
    obtain ⟨h1, h2, h3⟩ := three_rel hx
    cases xc <;> (first | (cases h; done) | skip)
    rename_i b0
    simp only [VR] at h1
    injection h with h; subst h
    refine ⟨_, by simp only [execOp, h1, asBool, Sem.run_bind, Sem.run_pure, Result.andThen_ok]; rfl, ?_⟩
    cases b0 <;> simp <;> assumption
  | build t ps =>
    obtain ⟨v, hv, rv⟩ := build_sound (w := w) hσ (parts' := ps.map fun (i, x) => (i, ρ x)) (by
        have h' : buildF P t ((ps.toList.map (·.1)).zip xs) = some r := by rcases xs with _ | ⟨x, _ | ⟨y, xs⟩⟩ <;> exact h
        exact h') (by
      have hx' : VRs ν σ xs (ps.toList.map fun p => ρ p.2) := by simpa [opnds, Function.comp_def] using hx
      simpa using parts_rel hx')
    exact ⟨v, run_v hv, rv⟩
  | nilCheck x =>
    obtain ⟨a, rfl⟩ := one hx
    exact nil_pure (x' := ρ x) rfl h (one_rel hx)
  | binOp op t x y yt =>
    obtain ⟨a, b, rfl⟩ := two hx
    obtain ⟨h1, h2⟩ := two_rel hx
    obtain ⟨v, hv, rv⟩ := bin_sound (w := w) h h1 h2
    exact ⟨v, run_v hv, rv⟩
  | unOp op t x =>
    obtain ⟨a, rfl⟩ := one hx
    obtain ⟨v, hv, rv⟩ := un_sound (P := P) (w := w) h (one_rel hx)
    exact ⟨v, run_v hv, rv⟩
  | convert s d x =>
    obtain ⟨a, rfl⟩ := one hx
    obtain ⟨v, hv, rv⟩ := conv_pure (w := w) h (one_rel hx)
    exact ⟨v, run_v hv, rv⟩
  | makeInterface t x =>
    obtain ⟨a, rfl⟩ := one hx
    obtain ⟨v, hv, rv⟩ := mkIface (w := w) h (one_rel hx)
    exact ⟨v, run_v hv, rv⟩
  | makeFunc f first captured =>
    have h' : (if Fn.plain f then some (AV.fn f (xs.take first.size) (xs.drop first.size)) else none) = some r := by rcases xs with _ | ⟨x, _ | ⟨y, xs⟩⟩ <;> exact h
    split at h'
    · rename_i hp
      injection h' with h'; subst h'
      obtain ⟨h1, h2⟩ := fnp_rel (first := first) (captured := captured) (ρ := ρ) hx
      refine ⟨.func f (first.map ρ) (captured.map ρ), rfl, ?_⟩
      simp only [VR]
      exact ⟨hp, _, _, h1, h2, by simp only [Array.toArray_toList]⟩
    · cases h'
  | slice t x lo hi mx =>
    rcases xs with _ | ⟨x0, cs⟩
    · simp [opnds, VRs] at hx
    · obtain ⟨h1, h2⟩ := cons_rel hx
      have h' : (match cutsF lo.isSome hi.isSome mx.isSome cs with | some c => sliceF P t x0 c | none => none) = some r := by rcases cs with _ | ⟨y, cs⟩ <;> exact h
      split at h'
      · rename_i c hcut
        obtain ⟨k1, k2, k3⟩ := cuts_rel hcut h2
        obtain ⟨v, hv, rv⟩ := slice_sound (w := w) h' h1 k1 k2 k3
        exact ⟨v, run_v hv, rv⟩
      · cases h'
  | fieldAddr t x f =>
    obtain ⟨a, rfl⟩ := one hx
    obtain ⟨v, hv, rv⟩ := fieldAddr_pure (w := w) h (one_rel hx)
    exact ⟨v, run_v hv, rv⟩
  | field t x f =>
    obtain ⟨a, rfl⟩ := one hx
    obtain ⟨v, hv, rv⟩ := field_pure (w := w) h (one_rel hx)
    exact ⟨v, run_v hv, rv⟩
  | indexAddr t x y =>
    obtain ⟨a, b, rfl⟩ := two hx
    obtain ⟨h1, h2⟩ := two_rel hx
    cases b <;> (first | (cases h; done) | skip)
    obtain ⟨v, hv, rv⟩ := indexAddr_pure (w := w) h h1
    simp only [VR] at h2
    exact ⟨v, run_v (by rw [h2]; exact hv), rv⟩
  | index t x y =>
    obtain ⟨a, b, rfl⟩ := two hx
    obtain ⟨h1, h2⟩ := two_rel hx
    cases b <;> (first | (cases h; done) | skip)
    obtain ⟨v, hv, rv⟩ := index_pure (w := w) h h1
    simp only [VR] at h2
    exact ⟨v, run_v (by rw [h2]; exact hv), rv⟩
  | typeAssert x xt t ok =>
    obtain ⟨a, rfl⟩ := one hx
    obtain ⟨v, hv, rv⟩ := assert_pure (w := w) h (one_rel hx)
    exact ⟨v, run_v hv, rv⟩
  | extract x i =>
    obtain ⟨a, rfl⟩ := one hx
    obtain ⟨v, hv, rv⟩ := extract_pure (w := w) h (one_rel hx)
    exact ⟨v, run_v hv, rv⟩
  | call c => exact call_pure (t := ty) h hx
  | _ => exfalso; simp [clsOf] at hc

end Go.Proofs.YtblpmmociahklaaGreatDoor.Sx
