/- Plain words of an evaluator: values that lie in a memory of its own, and how they stand to the machine's. -/
import Derived.RangeFuncLeaves
import Derived.OrdersIn
import Derived.RecoverIn
import Derived.Below
import Derived.Laws.Rows
namespace Go.Proofs.YtblpmmociahklaaGreatDoor.Sx
open Go

/-- A tree that keeps things by numbers. -/
inductive Tr (α : Type) where
  | e
  | n (l : Tr α) (v : Option α) (r : Tr α)

namespace Tr
variable {α : Type}
def get : Tr α → Nat → Option α
  | .e, _ => none
  | .n l v r, k => if k = 0 then v else if k % 2 = 1 then get l (k / 2) else get r (k / 2 - 1)
def setF : Nat → Tr α → Nat → α → Tr α
  | 0, t, _, _ => t
  | f + 1, t, k, x =>
    match t with
    | .e => if k = 0 then .n .e (some x) .e else if k % 2 = 1 then .n (setF f .e (k / 2) x) none .e else .n .e none (setF f .e (k / 2 - 1) x)
    | .n l v r => if k = 0 then .n l (some x) r else if k % 2 = 1 then .n (setF f l (k / 2) x) v r else .n l v (setF f r (k / 2 - 1) x)
def set (t : Tr α) (k : Nat) (x : α) : Tr α := setF (k + 1) t k x

theorem get_setF : ∀ (f : Nat) (t : Tr α) (k : Nat) (x : α) (j : Nat), k < f → (setF f t k x).get j = if j = k then some x else t.get j := by
  intro f
  induction f with
  | zero => intro t k x j h; omega
  | succ f ih =>
    intro t k x j h
    cases t with
    | e =>
      simp only [setF]
      by_cases hk : k = 0
      · subst hk
        simp only [if_true, get]
        split <;> simp_all
      · rw [if_neg hk]
        by_cases ho : k % 2 = 1
        · rw [if_pos ho]
          simp only [get, ih .e (k / 2) x _ (by omega)]
          split
          · rw [if_neg (by omega)]
          · split
            · by_cases e : j = k
              · rw [if_pos (by omega), if_pos e]
              · rw [if_neg (by omega), if_neg e]
            · rw [if_neg (by omega)]
        · rw [if_neg ho]
          simp only [get, ih .e (k / 2 - 1) x _ (by omega)]
          split
          · rw [if_neg (by omega)]
          · split
            · rw [if_neg (by omega)]
            · by_cases e : j = k
              · rw [if_pos (by omega), if_pos e]
              · rw [if_neg (by omega), if_neg e]
    | n l v r =>
      simp only [setF]
      by_cases hk : k = 0
      · subst hk
        simp only [if_true, get]
        split <;> simp_all
      · rw [if_neg hk]
        by_cases ho : k % 2 = 1
        · rw [if_pos ho]
          simp only [get, ih l (k / 2) x _ (by omega)]
          split
          · rw [if_neg (by omega)]
          · split
            · by_cases e : j = k
              · rw [if_pos (by omega), if_pos e]
              · rw [if_neg (by omega), if_neg e]
            · rw [if_neg (by omega)]
        · rw [if_neg ho]
          simp only [get, ih r (k / 2 - 1) x _ (by omega)]
          split
          · rw [if_neg (by omega)]
          · split
            · rw [if_neg (by omega)]
            · by_cases e : j = k
              · rw [if_pos (by omega), if_pos e]
              · rw [if_neg (by omega), if_neg e]

theorem get_set (t : Tr α) (k : Nat) (x : α) (j : Nat) : (t.set k x).get j = if j = k then some x else t.get j :=
  get_setF (k + 1) t k x j (by omega)
end Tr

/-- A value of the evaluator: addresses are numbers of blocks of its own memory; a slice's room is known exactly, or from below (then the cells of an element are told); 'sym' stands for one that is not looked into. -/
inductive AV where
  | bool (b : Bool)
  | int (k : IntKind) (n : Int)
  | str (s : List UInt8)
  | flt (k : FloatKind) (b : Nat)
  | cpx (k : FloatKind) (re im : Nat)
  | nilp
  | ptr (b o : Nat)
  | glob (g : Nat)
  | nils
  | slc (b o len cap : Nat) (es : Option Nat)
  | nilm
  | map (b : Nat)
  | fn (f : Fn) (first cap : List AV)
  | yld (b : Nat)
  | nilf
  | ifc (t : TypeId) (v : AV)
  | nili
  | agg (cs : List AV)
  | tup (vs : List AV)
  | sym (i : Nat)
  | any
  deriving Inhabited

def undefA : AV := .tup []

/-- From which cell on a block of the evaluator's lies in one of the machine's; how many cells that one has. -/
structure Pt where
  o : Nat
  n : Nat
def Pt.z : Pt := ⟨0, 0⟩
abbrev Pl := Nat → Option (Nat × Pt)

def Fn.plain : Fn → Bool
  | .yield _ => false
  | _ => true

mutual
def VR (ν : Pl) (σ : Nat → Value) : AV → Value → Prop
  | .bool b, v => v = .bool b
  | .int k n, v => v = .int k n
  | .str s, v => v = .string ⟨s.toArray⟩
  | .flt k b, v => v = .float k b
  | .cpx k a b, v => v = .complex k a b
  | .nilp, v => v = .pointer none
  | .ptr b o, v => ∃ c p, ν b = some (c, p) ∧ v = .pointer (some ⟨c, p.o + o, none⟩)
  | .glob g, v => v = .pointer (some ⟨g, 0, none⟩)
  | .nils, v => v = .slice none 0 0
  | .slc b o len cap es, v => ∃ c p k q, ν b = some (c, p) ∧ cap ≤ k ∧ (es = none → k = cap) ∧ len ≤ cap ∧ ((q = p.o + o ∧ ∀ s, es = some s → q + k * s ≤ p.n) ∨ k = 0) ∧ v = .slice (some ⟨c, q, none⟩) len k
  | .nilm, v => v = .map none
  | .map b, v => ∃ c, ν b = some (c, Pt.z) ∧ v = .map (some c)
  | .fn f xs ys, v => Fn.plain f = true ∧ ∃ xs' ys', VRs ν σ xs xs' ∧ VRs ν σ ys ys' ∧ v = .func f xs'.toArray ys'.toArray
  | .yld b, v => ∃ c, ν b = some (c, Pt.z) ∧ v = .func (.yield c) #[] #[]
  | .nilf, v => v = .nilFunc
  | .ifc t x, v => ∃ y, VR ν σ x y ∧ v = .iface t y
  | .nili, v => v = .nilIface
  | .agg cs, v => ∃ ds, VRs ν σ cs ds ∧ v = .agg ds.toArray
  | .tup cs, v => ∃ ds, VRs ν σ cs ds ∧ v = .tuple ds.toArray
  | .sym i, v => v = σ i
  | .any, v => v.oneCell' = true
def VRs (ν : Pl) (σ : Nat → Value) : List AV → List Value → Prop
  | [], vs => vs = []
  | a :: as, vs => ∃ v ws, vs = v :: ws ∧ VR ν σ a v ∧ VRs ν σ as ws
end

/-- The later places know all that the earlier ones know. -/
def PlLe (ν ν' : Pl) : Prop := ∀ b x, ν b = some x → ν' b = some x

theorem PlLe.refl (ν : Pl) : PlLe ν ν := fun _ _ h => h
theorem PlLe.trans {a b c : Pl} (h : PlLe a b) (k : PlLe b c) : PlLe a c := fun i x hi => k i x (h i x hi)

mutual
theorem VR.mono {ν ν' : Pl} {σ : Nat → Value} (h : PlLe ν ν') : ∀ (a : AV) (v : Value), VR ν σ a v → VR ν' σ a v
  | .bool _, _, r => r
  | .int _ _, _, r => r
  | .str _, _, r => r
  | .flt _ _, _, r => r
  | .cpx _ _ _, _, r => r
  | .nilp, _, r => r
  | .ptr _ _, _, r => let ⟨c, p, hb, e⟩ := r; ⟨c, p, h _ _ hb, e⟩
  | .glob _, _, r => r
  | .nils, _, r => r
  | .slc _ _ _ _ _, _, r => let ⟨c, p, k, q, hb, e⟩ := r; ⟨c, p, k, q, h _ _ hb, e⟩
  | .nilm, _, r => r
  | .map _, _, r => let ⟨c, hb, e⟩ := r; ⟨c, h _ _ hb, e⟩
  | .fn _ xs ys, _, r => let ⟨hp, xs', ys', hx, hy, e⟩ := r; ⟨hp, xs', ys', VRs.mono h xs xs' hx, VRs.mono h ys ys' hy, e⟩
  | .yld _, _, r => let ⟨c, hb, e⟩ := r; ⟨c, h _ _ hb, e⟩
  | .nilf, _, r => r
  | .ifc _ x, _, r => let ⟨y, hy, e⟩ := r; ⟨y, VR.mono h x y hy, e⟩
  | .nili, _, r => r
  | .agg cs, _, r => let ⟨ds, hd, e⟩ := r; ⟨ds, VRs.mono h cs ds hd, e⟩
  | .tup cs, _, r => let ⟨ds, hd, e⟩ := r; ⟨ds, VRs.mono h cs ds hd, e⟩
  | .sym _, _, r => r
  | .any, _, r => r
theorem VRs.mono {ν ν' : Pl} {σ : Nat → Value} (h : PlLe ν ν') : ∀ (as : List AV) (vs : List Value), VRs ν σ as vs → VRs ν' σ as vs
  | [], _, r => r
  | a :: as, _, r => let ⟨v, ws, e, hv, hw⟩ := r; ⟨v, ws, e, VR.mono h a v hv, VRs.mono h as ws hw⟩
end

section lists
variable {ν : Pl} {σ : Nat → Value}
theorem VRs.length : ∀ {as : List AV} {vs : List Value}, VRs ν σ as vs → as.length = vs.length
  | [], _, h => by simp only [VRs] at h; subst h; rfl
  | _ :: as, _, h => by simp only [VRs] at h; obtain ⟨v, ws, rfl, _, hw⟩ := h; simp [VRs.length hw]
theorem VRs.get : ∀ {as : List AV} {vs : List Value}, VRs ν σ as vs → ∀ {i : Nat} {a : AV}, as[i]? = some a → ∃ v, vs[i]? = some v ∧ VR ν σ a v
  | [], _, _, i, a, ha => by simp at ha
  | b :: as, _, h, i, a, ha => by
    simp only [VRs] at h
    obtain ⟨v, ws, rfl, hv, hw⟩ := h
    cases i with
    | zero => simp at ha; subst ha; exact ⟨v, by simp, hv⟩
    | succ i => simp at ha; simpa using VRs.get hw ha
theorem VRs.of_get : ∀ {as : List AV} {vs : List Value}, as.length = vs.length → (∀ (i : Nat) (a : AV) (v : Value), as[i]? = some a → vs[i]? = some v → VR ν σ a v) → VRs ν σ as vs
  | [], vs, hl, _ => by simp only [VRs]; cases vs <;> simp_all
  | a :: as, [], hl, _ => by simp at hl
  | a :: as, v :: vs, hl, h => by
    simp only [VRs]
    exact ⟨v, vs, rfl, h 0 a v (by simp) (by simp), VRs.of_get (by simpa using hl) (fun i b w hb hw => h (i + 1) b w (by simpa using hb) (by simpa using hw))⟩
theorem VRs.append : ∀ {as : List AV} {vs : List Value} {bs : List AV} {ws : List Value}, VRs ν σ as vs → VRs ν σ bs ws → VRs ν σ (as ++ bs) (vs ++ ws)
  | [], _, _, _, h, k => by simp only [VRs] at h; subst h; simpa using k
  | a :: as, _, _, _, h, k => by
    simp only [VRs] at h
    obtain ⟨v, us, rfl, hv, hu⟩ := h
    simp only [List.cons_append, VRs]
    exact ⟨v, _, rfl, hv, VRs.append hu k⟩
theorem VRs.take {as : List AV} {vs : List Value} (h : VRs ν σ as vs) (n : Nat) : VRs ν σ (as.take n) (vs.take n) := by
  refine VRs.of_get (by simp [h.length]) fun i a v ha hv => ?_
  rw [List.getElem?_take] at ha hv
  split at ha
  · rename_i hi
    rw [if_pos hi] at hv
    obtain ⟨v', hv', r⟩ := h.get ha
    rw [hv] at hv'; injection hv' with e; subst e; exact r
  · cases ha
theorem VRs.drop {as : List AV} {vs : List Value} (h : VRs ν σ as vs) (n : Nat) : VRs ν σ (as.drop n) (vs.drop n) := by
  refine VRs.of_get (by simp [h.length]) fun i a v ha hv => ?_
  rw [List.getElem?_drop] at ha hv
  obtain ⟨v', hv', r⟩ := h.get ha
  rw [hv] at hv'; injection hv' with e; subst e; exact r
theorem VRs.set {as : List AV} {vs : List Value} (h : VRs ν σ as vs) (i : Nat) {a : AV} {v : Value} (r : VR ν σ a v) : VRs ν σ (as.set i a) (vs.set i v) := by
  refine VRs.of_get (by simp [h.length]) fun j b w hb hw => ?_
  rw [List.getElem?_set] at hb hw
  have hl := h.length
  split at hb
  · rename_i hij
    rw [if_pos hij] at hw
    split at hb
    · rename_i hlt
      rw [if_pos (hl ▸ hlt)] at hw
      injection hb with e1; injection hw with e2; subst e1; subst e2; exact r
    · cases hb
  · rename_i hij
    rw [if_neg hij] at hw
    obtain ⟨v', hv', r'⟩ := h.get hb
    rw [hw] at hv'; injection hv' with e; subst e; exact r'
theorem VRs.nil_iff {vs : List Value} : VRs ν σ [] vs ↔ vs = [] := by simp [VRs]
theorem VRs.cons_iff {a : AV} {as : List AV} {vs : List Value} : VRs ν σ (a :: as) vs ↔ ∃ v ws, vs = v :: ws ∧ VR ν σ a v ∧ VRs ν σ as ws := by simp [VRs]
theorem VRs.one {a : AV} {v : Value} (h : VR ν σ a v) : VRs ν σ [a] [v] := by simp only [VRs]; exact ⟨v, [], rfl, h, rfl⟩
theorem VRs.getD {as : List AV} {vs : List Value} (h : VRs ν σ as vs) {a : AV} {v : Value} (r : VR ν σ a v) (i : Nat) : VR ν σ (as.getD i a) (vs.getD i v) := by
  simp only [List.getD_eq_getElem?_getD]
  cases ha : as[i]? with
  | some b => obtain ⟨w, hw, r'⟩ := h.get ha; rw [hw]; exact r'
  | none =>
    have : vs[i]? = none := by rw [List.getElem?_eq_none_iff] at ha ⊢; rw [← h.length]; exact ha
    rw [this]; exact r
end lists

/-- What a value is when it holds no place: the constants of a program. -/
def toAF : Nat → Value → Option AV
  | 0, _ => none
  | f + 1, v =>
    match v with
    | .bool b => some (.bool b)
    | .int k n => some (.int k n)
    | .string s => some (.str s.data.toList)
    | .float k b => some (.flt k b)
    | .complex k a b => some (.cpx k a b)
    | .pointer none => some .nilp
    | .slice none 0 0 => some .nils
    | .map none => some .nilm
    | .nilFunc => some .nilf
    | .nilIface => some .nili
    | .iface t x => match toAF f x with | some y => some (.ifc t y) | none => none
    | .func (.yield _) _ _ => none
    | .func g xs ys =>
      match xs.toList, ys.toList with
      | [], [] => some (.fn g [] [])
      | _, _ => none
    | .agg cs => match cs.toList.mapM (toAF f) with | some ds => some (.agg ds) | none => none
    | .tuple cs => match cs.toList.mapM (toAF f) with | some ds => some (.tup ds) | none => none
    | _ => none
def toA (v : Value) : Option AV := toAF 8 v

theorem toAF_sound (ν : Pl) (σ : Nat → Value) : ∀ (f : Nat) (v : Value) (a : AV), toAF f v = some a → VR ν σ a v := by
  intro f
  induction f with
  | zero => intro v a h; simp [toAF] at h
  | succ f ih =>
    have ihs : ∀ (cs : List Value) (ds : List AV), cs.mapM (toAF f) = some ds → VRs ν σ ds cs := by
      intro cs
      induction cs with
      | nil => intro ds h; simp at h; subst h; simp [VRs]
      | cons c cs ihc =>
        intro ds h
        rw [List.mapM_cons] at h
        cases hc : toAF f c with
        | none => simp [hc] at h
        | some d =>
          cases hcs : cs.mapM (toAF f) with
          | none => simp [hc, hcs] at h
          | some ds' =>
            simp [hc, hcs] at h
            subst h
            simp only [VRs]
            exact ⟨c, cs, rfl, ih _ _ hc, ihc _ hcs⟩
    intro v a h
    unfold toAF at h
    split at h
    any_goals (injection h with h; subst h; simp [VR]; done)
    · split at h
      · rename_i y hy
        injection h with h; subst h
        simp only [VR]
        exact ⟨_, ih _ _ hy, rfl⟩
      · cases h
    · cases h
    · rename_i g xs ys hg
      split at h
      · rename_i hx hy
        injection h with h; subst h
        simp only [VR, VRs]
        refine ⟨?_, [], [], rfl, rfl, ?_⟩
        · cases g <;> simp_all [Fn.plain]
        · have e1 : xs = #[] := by cases xs; simp_all
          have e2 : ys = #[] := by cases ys; simp_all
          subst e1; subst e2; rfl
      · cases h
    · split at h
      · rename_i ds hds
        injection h with h; subst h
        simp only [VR]
        exact ⟨_, ihs _ _ hds, by simp⟩
      · cases h
    · split at h
      · rename_i ds hds
        injection h with h; subst h
        simp only [VR]
        exact ⟨_, ihs _ _ hds, by simp⟩
      · cases h
    · cases h

theorem toA_sound (ν : Pl) (σ : Nat → Value) (v : Value) (a : AV) (h : toA v = some a) : VR ν σ a v := toAF_sound ν σ 8 v a h
end Go.Proofs.YtblpmmociahklaaGreatDoor.Sx
