/- Functions of the library that are not walked. -/
import Derived.Test.YtblpmmociahklaaGreatDoorSx24
import Derived.Lib.Bytealg
import Derived.Lib.MakeNoZero
namespace Go.Proofs.YtblpmmociahklaaGreatDoor.Sx
open Go

variable {P : Program} {ν : Pl} {σ : Nat → Value} {w : World}

abbrev HkF := List AV → Heap → Option (AV × Heap)

/-- A hook says what an entry of the model's does. -/
def EntOk (P : Program) (σ : Nat → Value) (e : Array Value → Sem Value) (g : HkF) : Prop :=
  ∀ (N : Nat) args H v H', g args H = some (v, H') → ∀ ν w vs, VRs ν σ args vs → HR N ν σ H w → N ≤ w.heap.size →
    ∃ x w' ν', (e vs.toArray).run P w = .ok x w' ∧ VR ν' σ v x ∧ HR N ν' σ H' w' ∧ Ext H ν w H' ν' w'

def idxF : List UInt8 → UInt8 → Nat → Int
  | [], _, _ => -1
  | b :: l, c, i => if b == c then (i : Int) else idxF l c (i + 1)

theorem idxF_eq (c : UInt8) : ∀ (l : List UInt8) (i : Nat), idxF l c i = if Lib.indexByte l c = -1 then -1 else Lib.indexByte l c + i
  | [], i => by simp [idxF, Lib.indexByte]
  | b :: l, i => by
    have hge := Lib.indexByte_ge l c
    simp only [idxF, Lib.indexByte]
    by_cases hb : (b == c) = true
    · simp [hb]
    · have hb' : (b == c) = false := by simpa using hb
      simp only [hb', Bool.false_eq_true, if_false]
      rw [idxF_eq c l (i + 1)]
      by_cases h : Lib.indexByte l c = -1
      · simp [h]
      · have h1 : (Lib.indexByte l c == -1) = false := by simpa using h
        rw [if_neg h, h1]
        simp only [Bool.false_eq_true, if_false]
        rw [if_neg (by omega)]
        omega

def hkIndex : HkF
  | [.str s, .int .u8 c], H => some (.int .i64 (idxF s (UInt8.ofNat c.toNat) 0), H)
  | _, _ => none
def hkCount : HkF
  | [.str s, .int .u8 c], H => some (.int .i64 (s.count (UInt8.ofNat c.toNat) : Nat), H)
  | _, _ => none
def hkSame : HkF
  | [x], H => some (x, H)
  | _, _ => none
def hkMake (e : TypeId) : HkF
  | [.int .i64 n], H => if 0 ≤ n ∧ n ≤ 65536 then some (.slc H.next 0 n.toNat n.toNat (some 1), H.new (.cells e (List.replicate n.toNat .any) false)) else none
  | _, _ => none
def hkClone : HkF
  | [.ifc t (.map b)], H => (match H.get b with | some (.map es c) => some (.ifc t (.map H.next), H.new (.map es c)) | _ => none)
  | _, _ => none

theorem str_int {s : List UInt8} {k : IntKind} {c : Int} {vs : List Value} (h : VRs ν σ [.str s, .int k c] vs) : vs.toArray = #[.string ⟨s.toArray⟩, .int k c] := by
  simp only [VRs, VR] at h
  obtain ⟨v, ws, rfl, rfl, v2, ws2, rfl, rfl, rfl⟩ := h
  rfl

theorem hkIndex_ok : EntOk P σ Extern.BytealgIndexByte.indexByte hkIndex := by
  intro N args H v H' h ν w vs hv hr hN
  unfold hkIndex at h
  split at h
  · rename_i s c
    injection h with h; injection h with e1 e2; subst e1; subst e2
    refine ⟨.int .i64 (Lib.indexByte s (UInt8.ofNat c.toNat)), w, ν, ?_, ?_, hr, Ext.refl _ _ _⟩
    · rw [str_int hv]
      exact Lib.run_indexByteString _ _ w
    · simp only [VR]
      rw [idxF_eq]
      split
      · rename_i h; rw [h]
      · simp
  · cases h

theorem hkCount_ok : EntOk P σ Extern.BytealgCount.count hkCount := by
  intro N args H v H' h ν w vs hv hr hN
  unfold hkCount at h
  split at h
  · rename_i s c
    injection h with h; injection h with e1 e2; subst e1; subst e2
    refine ⟨.int .i64 (Lib.countByte s (UInt8.ofNat c.toNat) : Nat), w, ν, ?_, ?_, hr, Ext.refl _ _ _⟩
    · rw [str_int hv]
      exact Lib.run_countString _ _ w
    · simp only [VR]; rfl
  · cases h

theorem hkSame_ok : EntOk P σ Extern.AbiNoEscape.same hkSame := by
  intro N args H v H' h ν w vs hv hr hN
  unfold hkSame at h
  split at h
  · injection h with h; injection h with e1 e2; subst e1; subst e2
    simp only [VRs] at hv
    obtain ⟨x, ws, rfl, hx, rfl⟩ := hv
    exact ⟨x, w, ν, rfl, hx, hr, Ext.refl _ _ _⟩
  · cases h

theorem digits_int : ∀ (n t : Nat) (acc : Array Value), (∀ v ∈ acc.toList, v.oneCell' = true) → ∀ v ∈ (Extern.BytealgMakeNoZero.digits n t acc).toList, v.oneCell' = true
  | 0, _, acc, h => h
  | n + 1, t, acc, h => by
    rw [Extern.BytealgMakeNoZero.digits]
    refine digits_int n _ _ fun v hv => ?_
    rw [Array.toList_push, List.mem_append, List.mem_singleton] at hv
    rcases hv with hv | rfl
    · exact h v hv
    · rfl

theorem any_rel : ∀ (vs : List Value), (∀ v ∈ vs, v.oneCell' = true) → VRs ν σ (List.replicate vs.length .any) vs
  | [], _ => by simp [VRs]
  | v :: vs, h => by
    simp only [List.length_cons, List.replicate_succ, VRs]
    exact ⟨v, vs, rfl, by simp only [VR]; exact h v (List.mem_cons_self ..), any_rel vs (fun u hu => h u (List.mem_cons_of_mem _ hu))⟩

theorem hkMake_ok {ps : Array TypeId} {t e : TypeId} (ht : P.underlying t = some (.slice e)) : EntOk P σ (Extern.BytealgMakeNoZero.makeNoZero ps #[t]) (hkMake e) := by
  intro N args H v H' h ν w vs hv hr hN
  unfold hkMake at h
  split at h
  rotate_left
  · cases h
  rename_i n
  split at h
  rotate_left
  · cases h
  rename_i hn
  injection h with h; injection h with e1 e2; subst e1; subst e2
  simp only [VRs, VR] at hv
  obtain ⟨x, ws, rfl, rfl, rfl⟩ := hv
  have hdef : Extern.BytealgMakeNoZero.makeNoZero ps #[t] [Value.int .i64 n].toArray =
      (do
        let .slice elem ← underlying t | stuck "bytealg.MakeNoZero: slice type expected"
        if n < 0 || n > 2 ^ 48 then runtimePanic (.error "makeslice: len out of range")
        let cap ← choose (.appendCap n.toNat 0 elem)
        askRoom cap
        let bytes ← choose (.extern "internal/bytealg.MakeNoZero.bytes" 0)
        let a ← newRow elem (Extern.BytealgMakeNoZero.digits cap bytes #[])
        pure (.slice (some a) n.toNat cap)) := rfl
  let arr := Extern.BytealgMakeNoZero.digits (grownCap w n.toNat 0 e) ((Question.extern "internal/bytealg.MakeNoZero.bytes" 0).cut (w.tape (w.drawn + 1) (.extern "internal/bytealg.MakeNoZero.bytes" 0))) #[]
  have hsz : arr.size = grownCap w n.toNat 0 e := by
    have := Lib.size_digits (grownCap w n.toNat 0 e) ((Question.extern "internal/bytealg.MakeNoZero.bytes" 0).cut (w.tape (w.drawn + 1) (.extern "internal/bytealg.MakeNoZero.bytes" 0))) #[]
    simpa using this
  have hge := grownCap_ge w n.toNat 0 e
  have hs : SameHeap w w.drew.drew := ⟨rfl, rfl, rfl, rfl⟩
  have hd := hr.same hs
  have hint : ∀ v ∈ arr.toList, v.oneCell' = true := digits_int _ _ _ (fun v hv => by simp at hv)
  refine ⟨.slice (some ⟨w.heap.size, 0, none⟩) n.toNat (grownCap w n.toNat 0 e), w.drew.drew.alloc (.cells arr e), addPl ν H.next (w.heap.size, ⟨0, arr.size⟩), ?_, ?_, hd.new hN rfl ?_, (Ext.same hs).trans (Ext.new hd rfl ⟨rfl, rfl, rfl⟩)⟩
  · rw [hdef]
    have h1 : ¬ (n < 0) := by omega
    have h2 : ¬ ((281474976710656 : Int) < n) := by omega
    simp [run_underlying ht, h1, h2, Question.forced, newRow, grownCap, arr]
  · simp only [VR]
    refine ⟨w.heap.size, _, grownCap w n.toNat 0 e, 0, addPl_self, hge, fun h => by simp at h, Nat.le_refl _, .inl ⟨rfl, fun s h => ?_⟩, rfl⟩
    injection h with h; subst h
    simp [hsz]
  · refine ⟨w.heap.size, _, arr, (0, 0), addPl_self, heap_alloc_new _ _, .inl rfl, ⟨fun h => by simp at h, rfl⟩, by rw [hsz]; simpa using hge, ?_⟩
    have hl : ((arr.toList.drop 0).take (List.replicate n.toNat AV.any).length).length = n.toNat := by simp [hsz]; omega
    have := any_rel (ν := addPl ν H.next (w.heap.size, ⟨0, arr.size⟩)) (σ := σ) ((arr.toList.drop 0).take (List.replicate n.toNat AV.any).length) (fun v hv => hint v (List.mem_of_mem_drop (List.mem_of_mem_take hv)))
    rw [hl] at this
    exact this

theorem hkClone_ok : EntOk P σ Extern.MapsClone.clone hkClone := by
  intro N args H v H' h ν w vs hv hr hN
  unfold hkClone at h
  split at h
  rotate_left
  · cases h
  rename_i t b
  split at h
  rotate_left
  · cases h
  rename_i es clock hb
  injection h with h; injection h with e1 e2; subst e1; subst e2
  obtain ⟨c, fs, hν, hc, hms⟩ := hr.rel _ _ hb
  simp only [VRs, VR] at hv
  obtain ⟨x, ws, rfl, ⟨y, ⟨c', hν', rfl⟩, rfl⟩, rfl⟩ := hv
  rw [hν] at hν'; injection hν' with hν'; injection hν' with e1 _; subst e1
  refine ⟨.iface t (.map (some w.heap.size)), w.alloc (.map fs clock), addPl ν H.next (w.heap.size, Pt.z), ?_, ?_, hr.new hN rfl ?_, Ext.new hr rfl ⟨rfl, rfl, rfl⟩⟩
  · have hdef : Extern.MapsClone.clone [Value.iface t (.map (some c))].toArray = (do
      let .map entries clock ← getObj c | stuck "maps.clone: a map expected"
      pure (.iface t (.map (some (← newObj (.map entries clock)))))) := rfl
    rw [hdef]
    simp only [Sem.run_bind, run_getObj_map hc, Result.andThen_ok, run_newObj, Sem.run_pure]
  · simp only [VR]
    exact ⟨_, ⟨_, addPl_self, rfl⟩, rfl⟩
  · exact ⟨w.heap.size, fs, addPl_self, heap_alloc_new w _, hms.mono (addPl_le (hr.fresh _ (Nat.le_refl _)))⟩

/-- A table of hooks. -/
def hkOf (l : List (Nat × HkF)) : Hook
  | .fn, f => l.lookup f
  | _, _ => none

theorem mem_of_lookup {β : Type} {f : Nat} {g : β} : ∀ {l : List (Nat × β)}, l.lookup f = some g → (f, g) ∈ l
  | [], h => by cases h
  | (k, b) :: l, h => by
    rw [List.lookup_cons] at h
    split at h
    · rename_i he
      injection h with h; subst h
      have : f = k := by simpa using he
      subst this
      exact List.mem_cons_self ..
    · exact List.mem_cons_of_mem _ (mem_of_lookup h)

/-- Each of the table's is an entry of the model's. -/
def TabOk (P : Program) (σ : Nat → Value) (l : List (Nat × HkF)) : Prop :=
  ∀ x ∈ l, ∃ e, (∀ args w, (callFunc x.1 args).run P w = ((e args).run P w).andThen fun v w' => .ok (.value v) w') ∧ EntOk P σ e x.2

theorem tab_ok {l : List (Nat × HkF)} (h : TabOk P σ l) (N : Nat) : HookOk P N σ (hkOf l) := by
  constructor
  · intro f g hg args H v H' hgo ν w vs n hv hr hN
    obtain ⟨e, h1, h2⟩ := h (f, g) (mem_of_lookup hg)
    obtain ⟨x, w', ν', k1, k2, k3, k4⟩ := h2 N args H v H' hgo ν w vs hv hr hN
    left
    refine ⟨x, w', ν', ?_, k2, k3, k4⟩
    rw [h1, k1]; rfl
  · intro f g hg
    cases hg

/-- All that is walked is entered. -/
theorem enters_of (h : (P.funcs.toList.all fun fn => fn.body.isNone || !(fn.name == "runtime.NumGoroutine")) = true) : Enters P := by
  intro f vs w hb
  unfold bodied at hb
  split at hb
  · rename_i fn hf
    rw [List.all_eq_true] at h
    have hmem : fn ∈ P.funcs.toList := by rw [Array.mem_toList_iff]; exact Array.mem_of_getElem? hf
    have h1 := h fn hmem
    cases hbody : fn.body with
    | none => rw [hbody] at hb; cases hb
    | some c =>
      rw [hbody] at h1
      simp only [Option.isNone_some, Bool.false_or, Bool.not_eq_true'] at h1
      have h2 : fn.name ≠ "runtime.NumGoroutine" := by simpa using h1
      simp [callFunc, hf, h2, hbody]
  · cases hb
end Go.Proofs.YtblpmmociahklaaGreatDoor.Sx
