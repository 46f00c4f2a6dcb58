/- A part of the proof of the statement of this claim: V1. -/
import Derived.Test.YtblpmmociahklaaGreatDoorProg
import Derived.WalkKit
import Derived.ProofKit
import Derived.OwnWalk
import Derived.LoopTactic
import Derived.Below
import Derived.Lib.Hide
import Derived.Maps.Own
import Derived.Maps.OwnSet
import Derived.Maps.Ext
import Derived.Maps.Views
import Derived.WalkSpells
import Derived.WalkLawsBesides
namespace Go.Proofs.YtblpmmociahklaaGreatDoor.V
open Go Go.RowKit
set_option linter.unusedVariables false

/-- A fact that the walk does not look into. -/
structure As (p : Prop) : Prop where mk :: (out : p)

theorem box_cell (w : World) (cs : Array Value) (t : TypeId) (j : Nat) (v : Value) (h : cs[j]? = some v) : (w.alloc (.cells cs t)).cell? ⟨w.heap.size, j, none⟩ = some v := by
  simp only [World.cell?, World.alloc, Array.getElem?_push]
  simpa using h
theorem box_free (w : World) (cs : Array Value) (t : TypeId) (j : Nat) : (w.alloc (.cells cs t)).frozen? ⟨w.heap.size, j, none⟩ = false := by
  simp only [World.frozen?, World.alloc, Array.getElem?_push]
  simp
theorem cell_later {w w' : World} {a : Addr} {v : Value} (hb : Below w.heap.size w w') (h : w.cell? a = some v) : w'.cell? a = some v :=
  (hb.cell (World.block_lt_of_cell? w _ h)).trans h

theorem set_cell (w : World) (a : Addr) (v v0 : Value) (hm : a.spot = none) (h : w.cell? a = some v0) : (w.setCell a v).cell? a = some v := by
  obtain ⟨b, o, s⟩ := a
  simp only at hm
  subst hm
  unfold World.cell? at h ⊢
  simp only [World.setCell, Array.getElem?_modify]
  cases hb : w.heap[b]? with
  | none => rw [hb] at h; cases h
  | some ob =>
    rw [hb] at h
    cases ob with
    | cells c e fr =>
      simp only at h
      have := (Array.getElem?_eq_some_iff.1 h).1
      simp [this]
    | _ => cases h
theorem set_cell_alloc (w : World) (a : Addr) (v v0 : Value) (o : Obj) (hm : a.spot = none) (h : w.cell? a = some v0) : ((w.setCell a v).alloc o).cell? a = some v := by
  have h1 := set_cell w a v v0 hm h
  exact (((Below.refl _ _).alloc (Nat.le_refl _) o).cell (World.block_lt_of_cell? _ _ h1)).trans h1

/-- A value of the program's, plain. -/
inductive PV where
  | null
  | later
  | bool (b : Bool)
  | int (n : Int)
  | point (n m : Int)
  | text (s : ByteArray)
  | list (l : List PV)
  | table (m : List (ByteArray × PV))

def PV.kind : PV → Int
  | .null => 0 | .later => 1 | .bool _ => 2 | .int _ => 3 | .point _ _ => 4 | .text _ => 5 | .list _ => 6 | .table _ => 7

/-- An element of a map, as it stands. -/
def Rt (v : Value) : Option (DataW Value × List MemPlace) := some (.held v, [])
def rawD (m : List (ByteArray × Value)) : DataW Value := .map (m.map fun x => (.string x.1.data.toList, .held x.2))

/-- Block b is a map from strings that holds these, by rising keys. -/
def MapAt (w : World) (b : Nat) (r : List (ByteArray × Value)) : Prop := w.ownsMap Tryz.prog 9 Rt b r.length (rawD r)

section puts
variable {α β : Type}
def insA (k : ByteArray) (v : α) : List (ByteArray × α) → List (ByteArray × α)
  | [] => [(k, v)]
  | x :: l => if bytesBefore k.data.toList x.1.data.toList then (k, v) :: x :: l else x :: insA k v l
def keyB (k : ByteArray) (x : ByteArray × α) : Bool := x.1.data.toList == k.data.toList
def putA (r : List (ByteArray × α)) (k : ByteArray) (v : α) : List (ByteArray × α) := insA k v (r.filter fun x => !keyB k x)
def findA (r : List (ByteArray × α)) (k : ByteArray) : Option α := (r.find? (keyB k)).map (·.2)

theorem insA_map (f : α → β) (k : ByteArray) (v : α) : ∀ r : List (ByteArray × α), (insA k v r).map (fun x => (x.1, f x.2)) = insA k (f v) (r.map fun x => (x.1, f x.2))
  | [] => rfl
  | x :: l => by
    simp only [insA, List.map_cons]
    split
    · simp
    · simp [insA_map f k v l]
theorem putA_map (f : α → β) (r : List (ByteArray × α)) (k : ByteArray) (v : α) : (putA r k v).map (fun x => (x.1, f x.2)) = putA (r.map fun x => (x.1, f x.2)) k (f v) := by
  unfold putA
  rw [insA_map, List.filter_map]
  rfl
theorem findA_map (f : α → β) (r : List (ByteArray × α)) (k : ByteArray) : findA (r.map fun x => (x.1, f x.2)) k = (findA r k).map f := by
  unfold findA
  rw [List.find?_map]
  have e : (keyB k ∘ fun x : ByteArray × α => (x.1, f x.2)) = keyB k := rfl
  rw [e]
  cases r.find? (keyB k) <;> rfl
theorem mem_insA {k : ByteArray} {v : α} {x : ByteArray × α} : ∀ {r : List (ByteArray × α)}, x ∈ insA k v r → x = (k, v) ∨ x ∈ r
  | [], h => by simp [insA] at h; exact .inl h
  | y :: l, h => by
    simp only [insA] at h
    split at h
    · simpa using h
    · rcases List.mem_cons.1 h with h | h
      · exact .inr (by simp [h])
      · rcases mem_insA h with h | h
        · exact .inl h
        · exact .inr (by simp [h])
theorem mem_putA {r : List (ByteArray × α)} {k : ByteArray} {v : α} {x : ByteArray × α} (h : x ∈ putA r k v) : x = (k, v) ∨ x ∈ r := by
  rcases mem_insA h with h | h
  · exact .inl h
  · exact .inr (List.mem_filter.1 h).1
theorem length_insA (k : ByteArray) (v : α) : ∀ r : List (ByteArray × α), (insA k v r).length = r.length + 1
  | [] => rfl
  | x :: l => by
    simp only [insA]
    split <;> simp [length_insA k v l]
theorem length_putA_le (r : List (ByteArray × α)) (k : ByteArray) (v : α) : (putA r k v).length ≤ r.length + 1 := by
  unfold putA
  rw [length_insA]
  have := List.length_filter_le (fun x => !keyB k x) r
  omega
theorem length_putA_new (r : List (ByteArray × α)) (k : ByteArray) (v : α) (h : findA r k = none) : (putA r k v).length = r.length + 1 := by
  unfold putA
  rw [length_insA]
  congr 2
  unfold findA at h
  rw [Option.map_eq_none_iff, List.find?_eq_none] at h
  exact List.filter_eq_self.2 (fun x hx => by simpa using h x hx)
end puts

theorem raw_ins (k : ByteArray) (v : Value) : ∀ r : List (ByteArray × Value), (insA k v r).map (fun x => ((.string x.1.data.toList : Lit), (.held x.2 : DataW Value))) = DataW.insert (.string k.data.toList, .held v) (r.map fun x => (.string x.1.data.toList, .held x.2))
  | [] => rfl
  | x :: l => by
    by_cases h : bytesBefore k.data.toList x.1.data.toList = true
    · have h' : (Lit.string k.data.toList).before (.string x.1.data.toList) = true := h
      simp [insA, DataW.insert, h, h']
    · have h' : (Lit.string k.data.toList).before (.string x.1.data.toList) = false := by
        have := h
        simp only [Bool.not_eq_true] at this
        exact this
      simp [insA, DataW.insert, h, h', raw_ins k v l]
theorem rawD_put (r : List (ByteArray × Value)) (k : ByteArray) (v : Value) : (rawD r).put (.string k.data.toList) (.held v) = rawD (putA r k v) := by
  unfold rawD putA
  simp only [DataW.put]
  rw [raw_ins, List.filter_map]
  rfl
theorem rawD_at (r : List (ByteArray × Value)) (k : ByteArray) (z : Value) : (rawD r).atKey (.string k.data.toList) (.held z) = .held ((findA r k).getD z) := by
  unfold rawD findA
  simp only [DataW.atKey]
  rw [List.find?_map]
  have e : ((fun p : Lit × DataW Value => p.1.sameKey (.string k.data.toList)) ∘ fun x : ByteArray × Value => (Lit.string x.1.data.toList, DataW.held x.2)) = keyB k := rfl
  rw [e]
  cases r.find? (keyB k) <;> rfl
theorem rawD_has (r : List (ByteArray × Value)) (k : ByteArray) : Maps.has (rawD r) (.string k.data.toList) = (findA r k).isSome := by
  unfold rawD findA
  simp only [Maps.has]
  rw [List.any_map]
  have e : ((fun p : Lit × DataW Value => p.1.sameKey (.string k.data.toList)) ∘ fun x : ByteArray × Value => (Lit.string x.1.data.toList, DataW.held x.2)) = keyB k := rfl
  rw [e]
  cases h : r.find? (keyB k) with
  | none => rw [List.find?_eq_none] at h; simpa using h
  | some x => simp only [Option.map_some, Option.isSome_some]; rw [List.any_eq_true]; exact ⟨x, List.mem_of_find?_eq_some h, List.find?_some h⟩
theorem size_rawD (r : List (ByteArray × Value)) : Maps.size (rawD r) = r.length := by simp [rawD, Maps.size]

theorem MapAt.of_own {w : World} {b n : Nat} {r : List (ByteArray × Value)} (h : w.ownsMap Tryz.prog 9 Rt b n (rawD r)) : MapAt w b r := by
  obtain ⟨es, clock, hb, F, hs, hD⟩ := h
  refine ⟨es, clock, hb, F, ?_, hD⟩
  have h1 := congrArg Maps.size hD
  rw [size_rawD] at h1
  simp only [Maps.size, length_sorted] at h1
  simp at h1
  omega

/-- A slice of one-cell elements, with what it holds. -/
def RowAt (w : World) (s : Value) (xs : List Value) : Prop :=
  (s = .slice none 0 0 ∧ xs = []) ∨ ∃ b o c, s = .slice (some ⟨b, o, none⟩) xs.length c ∧ xs.length ≤ 8796093022208 ∧ b < w.heap.size ∧ ∀ i (h : i < xs.length), w.cell? ⟨b, o + i, none⟩ = some xs[i]

/-- What an interface value reads as. -/
def VIn (w : World) : Nat → PV → Value → Prop
  | 0, _, _ => False
  | f + 1, v, x =>
    match v with
    | .null => x = .nilIface
    | .later => x = .iface 173 (.agg #[])
    | .bool b => x = .iface 4 (.bool b)
    | .int n => x = .iface 3 (.int .i64 n)
    | .point n m => x = .iface 176 (.complex .f64 (floatOfInt .f64 n) (floatOfInt .f64 m)) ∧ (-9007199254740992 ≤ n ∧ n ≤ 9007199254740992) ∧ -9007199254740992 ≤ m ∧ m ≤ 9007199254740992
    | .text s => x = .iface 9 (.string s) ∧ s.size ≤ 140737488355328
    | .list l => ∃ s xs, x = .iface 177 s ∧ RowAt w s xs ∧ xs.length = l.length ∧ ∀ i (h : i < l.length) (h' : i < xs.length), VIn w f l[i] xs[i]
    | .table m => ∃ (b : Nat) (L : List (ByteArray × PV × Value)), x = .iface 179 (.map (some b)) ∧ MapAt w b (L.map fun t => (t.1, .agg #[t.2.2])) ∧ m = L.map (fun t => (t.1, t.2.1)) ∧ L.length ≤ 8796093022208 ∧ ∀ t ∈ L, t.1.size ≤ 140737488355328 ∧ VIn w f t.2.1 t.2.2

theorem RowAt.below {w w' : World} {s : Value} {xs : List Value} (h : RowAt w s xs) (hb : Below w.heap.size w w') : RowAt w' s xs := by
  rcases h with h | ⟨b, o, c, e, hl, hbl, hi⟩
  · exact .inl h
  · exact .inr ⟨b, o, c, e, hl, Nat.lt_of_lt_of_le hbl hb.size, fun i h => cell_later hb (hi i h)⟩
theorem ownsMap_below {w w' : World} {P : Program} {k : TypeId} {b n : Nat} {D : DataW Value} {R : Value → Option (DataW Value × List MemPlace)} (h : w.ownsMap P k R b n D) (hb : Below w.heap.size w w') : w'.ownsMap P k R b n D := by
  have hlt := h.lt
  obtain ⟨es, clock, he, F, hs, hD⟩ := h
  exact ⟨es, clock, (hb.block b hlt).trans he, F, hs, hD⟩
theorem MapAt.below {w w' : World} {b : Nat} {r : List (ByteArray × Value)} (h : MapAt w b r) (hb : Below w.heap.size w w') : MapAt w' b r := ownsMap_below h hb
theorem MapAt.setCell {w : World} {b : Nat} {r : List (ByteArray × Value)} (h : MapAt w b r) (p : Addr) (v : Value) (hne : b ≠ p.block) : MapAt (w.setCell p v) b r := by
  obtain ⟨es, clock, he, F, hs, hD⟩ := h
  exact ⟨es, clock, (Below.heap_setCell w p v b hne).trans he, F, hs, hD⟩
theorem VIn.below {w w' : World} (hb : Below w.heap.size w w') : ∀ (f : Nat) (v : PV) (x : Value), VIn w f v x → VIn w' f v x
  | 0, _, _, h => by simp [VIn] at h
  | f + 1, v, x, h => by
    cases v <;> simp only [VIn] at h ⊢ <;> try exact h
    case list l =>
      obtain ⟨s, xs, e, hr, hl, hi⟩ := h
      exact ⟨s, xs, e, hr.below hb, hl, fun i h h' => VIn.below hb f _ _ (hi i h h')⟩
    case table m =>
      obtain ⟨b, L, e, ho, hm, hl, hi⟩ := h
      exact ⟨b, L, e, ho.below hb, hm, hl, fun t ht => ⟨(hi t ht).1, VIn.below hb f _ _ (hi t ht).2⟩⟩

/-! ### type assertions -/
section
variable {P : Program} {t u xt : TypeId} {d : TypeDesc} {z v : Value} (w : World)
theorem run_assert_hit (hu : P.underlying t = some d) (hd : ∀ ms, d ≠ .interface ms) : (Instr.typeAssert (.iface t v) xt t true).run P w = .ok (.tuple #[v, .bool true]) w := by
  simp only [Instr.typeAssert, Sem.run_bind, run_underlying hu, Result.andThen_ok]
  cases d <;> first | (simp; done) | (exact absurd rfl (hd _))
theorem run_assert_miss (hu : P.underlying t = some d) (hd : ∀ ms, d ≠ .interface ms) (hz : ∀ w, (zeroValue t).run P w = .ok z w) (hn : u ≠ t) : (Instr.typeAssert (.iface u v) xt t true).run P w = .ok (.tuple #[z, .bool false]) w := by
  simp only [Instr.typeAssert, Sem.run_bind, run_underlying hu, Result.andThen_ok]
  cases d <;> first | (simp [hz, hn]; done) | (exact absurd rfl (hd _))
theorem run_assert_nil (hu : P.underlying t = some d) (hd : ∀ ms, d ≠ .interface ms) (hz : ∀ w, (zeroValue t).run P w = .ok z w) : (Instr.typeAssert .nilIface xt t true).run P w = .ok (.tuple #[z, .bool false]) w := by
  simp only [Instr.typeAssert, Sem.run_bind, run_underlying hu, Result.andThen_ok]
  cases d <;> first | (simp [hz]; done) | (exact absurd rfl (hd _))
end
theorem as_hit_later {xt : TypeId} (v : Value) (w : World) : (Instr.typeAssert (.iface 173 v) xt 173 true).run Tryz.prog w = .ok (.tuple #[v, .bool true]) w := run_assert_hit w Tryz.underlying173 (fun _ h => by cases h)
theorem as_miss_later {xt u : TypeId} (v : Value) (w : World) (hn : u ≠ 173) : (Instr.typeAssert (.iface u v) xt 173 true).run Tryz.prog w = .ok (.tuple #[.agg #[], .bool false]) w := run_assert_miss w Tryz.underlying173 (fun _ h => by cases h) (fun _ => by kernel_rfl) hn
theorem as_nil_later {xt : TypeId} (w : World) : (Instr.typeAssert .nilIface xt 173 true).run Tryz.prog w = .ok (.tuple #[.agg #[], .bool false]) w := run_assert_nil w Tryz.underlying173 (fun _ h => by cases h) (fun _ => by kernel_rfl)
theorem as_hit_bool {xt : TypeId} (v : Value) (w : World) : (Instr.typeAssert (.iface 4 v) xt 4 true).run Tryz.prog w = .ok (.tuple #[v, .bool true]) w := run_assert_hit w Tryz.underlying4 (fun _ h => by cases h)
theorem as_miss_bool {xt u : TypeId} (v : Value) (w : World) (hn : u ≠ 4) : (Instr.typeAssert (.iface u v) xt 4 true).run Tryz.prog w = .ok (.tuple #[.bool false, .bool false]) w := run_assert_miss w Tryz.underlying4 (fun _ h => by cases h) (fun _ => by kernel_rfl) hn
theorem as_nil_bool {xt : TypeId} (w : World) : (Instr.typeAssert .nilIface xt 4 true).run Tryz.prog w = .ok (.tuple #[.bool false, .bool false]) w := run_assert_nil w Tryz.underlying4 (fun _ h => by cases h) (fun _ => by kernel_rfl)
theorem as_hit_int {xt : TypeId} (v : Value) (w : World) : (Instr.typeAssert (.iface 3 v) xt 3 true).run Tryz.prog w = .ok (.tuple #[v, .bool true]) w := run_assert_hit w Tryz.underlying3 (fun _ h => by cases h)
theorem as_miss_int {xt u : TypeId} (v : Value) (w : World) (hn : u ≠ 3) : (Instr.typeAssert (.iface u v) xt 3 true).run Tryz.prog w = .ok (.tuple #[.int .i64 0, .bool false]) w := run_assert_miss w Tryz.underlying3 (fun _ h => by cases h) (fun _ => by kernel_rfl) hn
theorem as_nil_int {xt : TypeId} (w : World) : (Instr.typeAssert .nilIface xt 3 true).run Tryz.prog w = .ok (.tuple #[.int .i64 0, .bool false]) w := run_assert_nil w Tryz.underlying3 (fun _ h => by cases h) (fun _ => by kernel_rfl)
theorem as_hit_complex128 {xt : TypeId} (v : Value) (w : World) : (Instr.typeAssert (.iface 176 v) xt 176 true).run Tryz.prog w = .ok (.tuple #[v, .bool true]) w := run_assert_hit w Tryz.underlying176 (fun _ h => by cases h)
theorem as_miss_complex128 {xt u : TypeId} (v : Value) (w : World) (hn : u ≠ 176) : (Instr.typeAssert (.iface u v) xt 176 true).run Tryz.prog w = .ok (.tuple #[.complex .f64 0 0, .bool false]) w := run_assert_miss w Tryz.underlying176 (fun _ h => by cases h) (fun _ => by kernel_rfl) hn
theorem as_nil_complex128 {xt : TypeId} (w : World) : (Instr.typeAssert .nilIface xt 176 true).run Tryz.prog w = .ok (.tuple #[.complex .f64 0 0, .bool false]) w := run_assert_nil w Tryz.underlying176 (fun _ h => by cases h) (fun _ => by kernel_rfl)
theorem as_hit_string {xt : TypeId} (v : Value) (w : World) : (Instr.typeAssert (.iface 9 v) xt 9 true).run Tryz.prog w = .ok (.tuple #[v, .bool true]) w := run_assert_hit w Tryz.underlying9 (fun _ h => by cases h)
theorem as_miss_string {xt u : TypeId} (v : Value) (w : World) (hn : u ≠ 9) : (Instr.typeAssert (.iface u v) xt 9 true).run Tryz.prog w = .ok (.tuple #[.string ⟨#[]⟩, .bool false]) w := run_assert_miss w Tryz.underlying9 (fun _ h => by cases h) (fun _ => by kernel_rfl) hn
theorem as_nil_string {xt : TypeId} (w : World) : (Instr.typeAssert .nilIface xt 9 true).run Tryz.prog w = .ok (.tuple #[.string ⟨#[]⟩, .bool false]) w := run_assert_nil w Tryz.underlying9 (fun _ h => by cases h) (fun _ => by kernel_rfl)
theorem as_hit_list {xt : TypeId} (v : Value) (w : World) : (Instr.typeAssert (.iface 177 v) xt 177 true).run Tryz.prog w = .ok (.tuple #[v, .bool true]) w := run_assert_hit w Tryz.underlying177 (fun _ h => by cases h)
theorem as_miss_list {xt u : TypeId} (v : Value) (w : World) (hn : u ≠ 177) : (Instr.typeAssert (.iface u v) xt 177 true).run Tryz.prog w = .ok (.tuple #[.slice none 0 0, .bool false]) w := run_assert_miss w Tryz.underlying177 (fun _ h => by cases h) (fun _ => by kernel_rfl) hn
theorem as_nil_list {xt : TypeId} (w : World) : (Instr.typeAssert .nilIface xt 177 true).run Tryz.prog w = .ok (.tuple #[.slice none 0 0, .bool false]) w := run_assert_nil w Tryz.underlying177 (fun _ h => by cases h) (fun _ => by kernel_rfl)
theorem as_hit_table {xt : TypeId} (v : Value) (w : World) : (Instr.typeAssert (.iface 179 v) xt 179 true).run Tryz.prog w = .ok (.tuple #[v, .bool true]) w := run_assert_hit w Tryz.underlying179 (fun _ h => by cases h)
theorem as_miss_table {xt u : TypeId} (v : Value) (w : World) (hn : u ≠ 179) : (Instr.typeAssert (.iface u v) xt 179 true).run Tryz.prog w = .ok (.tuple #[.map none, .bool false]) w := run_assert_miss w Tryz.underlying179 (fun _ h => by cases h) (fun _ => by kernel_rfl) hn
theorem as_nil_table {xt : TypeId} (w : World) : (Instr.typeAssert .nilIface xt 179 true).run Tryz.prog w = .ok (.tuple #[.map none, .bool false]) w := run_assert_nil w Tryz.underlying179 (fun _ h => by cases h) (fun _ => by kernel_rfl)
attribute [go_sem] as_hit_later as_miss_later as_nil_later as_hit_bool as_miss_bool as_nil_bool as_hit_int as_miss_int as_nil_int as_hit_complex128 as_miss_complex128 as_nil_complex128 as_hit_string as_miss_string as_nil_string as_hit_list as_miss_list as_nil_list as_hit_table as_miss_table as_nil_table

end Go.Proofs.YtblpmmociahklaaGreatDoor.V
