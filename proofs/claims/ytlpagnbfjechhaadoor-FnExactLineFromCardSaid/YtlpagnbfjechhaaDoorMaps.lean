/-
  Maps that a call makes: what is in them, in order; a look-up, a new entry. Keys: bytes and strokes.
-/
import Derived.Test.YtlpagnbfjechhaaDoorMem
import Derived.Maps.Own
import Derived.Laws.StructEq
import Derived.WalkSpells
namespace Go.Proofs.YtlpagnbfjechhaaDoor
open Go.RowKit Go.Maps
set_option linter.unusedSimpArgs false
set_option linter.unusedVariables false

/-- what is needed of a key's type -/
def KeyL (P : Program) (k : TypeId) (Kp : Value → Prop) : Prop :=
  (∀ (w : World) (em : Bool) (v : Value), Kp v → (Instr.checkKey em 10000 k v).run P w = .ok () w) ∧
  ∀ (w : World) (x : Value), Kp x → ∀ es : List MapEntry, (∀ e ∈ es, Kp e.key) →
    ((Instr.findKey k x es).run P w = .ok none w ∧ ∀ e ∈ es, e.key ≠ x) ∨ ∃ j e, (Instr.findKey k x es).run P w = .ok (some (j, e.val)) w ∧ es[j]? = some e ∧ e.key = x

def byteK (v : Value) : Prop := ∃ b : UInt8, v = .int .u8 (b.toNat : Int)
def stkK (v : Value) : Prop := ∃ s : Stk, v = .agg #[.int .i64 s.1, .int .i64 s.2]
theorem byte_key {P : Program} {k : TypeId} (hk : P.underlying k = some (.int .u8)) : KeyL P k byteK := by
  have K := int_keyed hk
  have key : ∀ v, byteK v → ∃ l, keyOf P k v = some l := by
    rintro _ ⟨b, rfl⟩
    have := b.toNat_lt
    exact ⟨_, keyOf_int_mk hk (WalkArith.wf_u8 (by omega))⟩
  refine ⟨fun w em v hv => ?_, fun w x hx es hes => ?_⟩
  · obtain ⟨l, hl⟩ := key v hv
    exact K.check w em hl
  · obtain ⟨l, hl⟩ := key x hx
    exact K.find w hl es fun e he => key _ (hes e he)
theorem asking {P : Program} {w : World} {k : TypeId} {x : Value} : ∀ (es : List MapEntry) (i : Nat), (∀ e ∈ es, ∃ b, (Op.equal k x e.key).run P w = .ok b w ∧ (b = true ↔ e.key = x)) →
    ((Instr.findAsking k x es i).run P w = .ok none w ∧ ∀ e ∈ es, e.key ≠ x) ∨ ∃ j e, (Instr.findAsking k x es i).run P w = .ok (some (i + j, e.val)) w ∧ es[j]? = some e ∧ e.key = x
  | [], i, _ => .inl ⟨by simp [Instr.findAsking], by simp⟩
  | e :: es, i, h => by
    obtain ⟨b, hb, hiff⟩ := h e (by simp)
    cases b with
    | true => exact .inr ⟨0, e, by simp [Instr.findAsking, hb, Result.andThen], rfl, hiff.1 rfl⟩
    | false =>
      have hne : e.key ≠ x := fun h => by have := hiff.2 h; cases this
      rcases asking es (i + 1) (fun e' he' => h e' (by simp [he'])) with ⟨h1, h2⟩ | ⟨j, e', h1, h2, h3⟩
      · exact .inl ⟨by simp [Instr.findAsking, hb, Result.andThen, h1], by simpa using ⟨hne, h2⟩⟩
      · exact .inr ⟨j + 1, e', by simp [Instr.findAsking, hb, Result.andThen, h1]; omega, by simpa using h2, h3⟩
theorem stk_equal (s t : Stk) (w : World) : (Op.equal 46 (.agg #[.int .i64 s.1, .int .i64 s.2]) (.agg #[.int .i64 t.1, .int .i64 t.2])).run Tryd.prog w = .ok (decide (s = t)) w := by
  obtain ⟨d, s⟩ := s
  obtain ⟨a, b⟩ := t
  show (Op.equalIn 10000 46 _ _).run Tryd.prog w = _
  go_simp
  by_cases h1 : d = a <;> by_cases h2 : s = b <;> simp [h1, h2]
theorem stk_key : KeyL Tryd.prog 46 stkK := by
  refine ⟨fun w em v ⟨s, hs⟩ => ?_, fun w x hx es hes => ?_⟩
  · subst hs
    obtain ⟨d, s⟩ := s
    have : ∀ (em : Bool) (d s : Int) (w : World), (Instr.checkKey em 10000 46 (.agg #[.int .i64 d, .int .i64 s])).run Tryd.prog w = .ok () w := fun em d s w => by kernel_rfl
    exact this em d s w
  · obtain ⟨s, rfl⟩ := hx
    have ha := asking (P := Tryd.prog) (w := w) (k := 46) (x := .agg #[.int .i64 s.1, .int .i64 s.2]) es 0 (fun e he => by
      obtain ⟨t, ht⟩ := hes e he
      refine ⟨_, by rw [ht]; exact stk_equal s t w, ?_⟩
      rw [ht, decide_eq_true_eq]
      obtain ⟨d, s⟩ := s
      obtain ⟨a, b⟩ := t
      simp only [Prod.mk.injEq, Value.agg.injEq, Array.mk.injEq, List.cons.injEq, Value.int.injEq, true_and, and_true]
      exact ⟨fun h => ⟨h.1.symm, h.2.symm⟩, fun h => ⟨h.1.symm, h.2.symm⟩⟩)
    have hf : (Instr.findKey 46 (.agg #[.int .i64 s.1, .int .i64 s.2]) es).run Tryd.prog w = (Instr.findAsking 46 (.agg #[.int .i64 s.1, .int .i64 s.2]) es 0).run Tryd.prog w := by
      cases es with
      | nil => simp [Instr.findKey, run_underlying Tryd.underlying46, Instr.findNow, Instr.findAsking, Result.andThen]
      | cons e es => simp [Instr.findKey, run_underlying Tryd.underlying46, Instr.findNow, Instr.sameNow, Result.andThen]
    rw [hf]
    simpa using ha

/-- Block b is a map with these entries, in order. -/
def MapIs (w : World) (b : Nat) (l : List (Value × Value)) : Prop := ∃ es clock, w.heap[b]? = some (.map es clock) ∧ es.toList.map (fun e => (e.key, e.val)) = l
theorem MapIs.new (w : World) : MapIs (w.alloc (.map #[] 0)) w.heap.size [] := ⟨#[], 0, heap_alloc_new w _, rfl⟩
theorem MapIs.lt {w : World} {b : Nat} {l : List (Value × Value)} (h : MapIs w b l) : b < w.heap.size := by
  obtain ⟨es, cl, h, _⟩ := h
  exact (Array.getElem?_eq_some_iff.1 h).1
theorem MapIs.below {w w' : World} {b : Nat} {l : List (Value × Value)} (h : MapIs w b l) (hb : Below w.heap.size w w') : MapIs w' b l := by
  have hlt := h.lt
  obtain ⟨es, cl, h1, h2⟩ := h
  exact ⟨es, cl, (hb.block b hlt).trans h1, h2⟩
theorem MapIs.grown {w w' : World} {b : Nat} {l : List (Value × Value)} {row : Option Nat} (h : MapIs w b l) (hg : w.grownBy w' row) (hne : some b ≠ row) : MapIs w' b l := by
  have hlt := h.lt
  obtain ⟨es, cl, h1, h2⟩ := h
  exact ⟨es, cl, (hg.block b hlt hne).trans h1, h2⟩
theorem map_lookup {P : Program} {k e t : TypeId} {Kp : Value → Prop} (K : KeyL P k Kp) (ht : P.underlying t = some (.map k e)) {z : Value} {w : World} (hz : (zeroValue e).run P w = .ok z w) {b : Nat} {l : List (Value × Value)} (h : MapIs w b l)
    (hks : ∀ p ∈ l, Kp p.1) {key : Value} (hkey : Kp key) :
    ((Instr.lookup t (.map (some b)) key true).run P w = .ok (.tuple #[z, .bool false]) w ∧ ∀ p ∈ l, p.1 ≠ key) ∨
    ∃ p ∈ l, p.1 = key ∧ (Instr.lookup t (.map (some b)) key true).run P w = .ok (.tuple #[p.2, .bool true]) w := by
  obtain ⟨es, cl, hb, rfl⟩ := h
  have hks' : ∀ e ∈ es.toList, Kp e.key := fun e he => hks (e.key, e.val) (List.mem_map.2 ⟨e, he, rfl⟩)
  rcases K.2 w key hkey es.toList hks' with ⟨h1, h2⟩ | ⟨j, e0, h1, h2, h3⟩
  · refine .inl ⟨by simp [Instr.lookup, run_underlying ht, MapKept.run_getObj_map hb, K.1 w _ _ hkey, h1, hz, Result.andThen], ?_⟩
    intro p hp
    obtain ⟨e, he, rfl⟩ := List.mem_map.1 hp
    exact h2 e he
  · exact .inr ⟨(e0.key, e0.val), List.mem_map.2 ⟨e0, List.mem_of_getElem? h2, rfl⟩, h3, by simp [Instr.lookup, run_underlying ht, MapKept.run_getObj_map hb, K.1 w _ _ hkey, h1, Result.andThen]⟩
theorem map_update {P : Program} {k e t : TypeId} {Kp : Value → Prop} (K : KeyL P k Kp) (ht : P.underlying t = some (.map k e)) {w : World} {b : Nat} {l : List (Value × Value)} (h : MapIs w b l)
    (hks : ∀ p ∈ l, Kp p.1) {key val : Value} (hkey : Kp key) (hnew : ∀ p ∈ l, p.1 ≠ key) :
    ∃ w', (Instr.mapUpdate t (.map (some b)) key val).run P w = .ok () w' ∧ MapIs w' b (l ++ [(key, val)]) ∧ w.grownBy w' (some b) ∧ w'.heap.size = w.heap.size := by
  obtain ⟨es, cl, hb, rfl⟩ := h
  have hks' : ∀ e ∈ es.toList, Kp e.key := fun e he => hks (e.key, e.val) (List.mem_map.2 ⟨e, he, rfl⟩)
  rcases K.2 w key hkey es.toList hks' with ⟨h1, h2⟩ | ⟨j, e0, h1, h2, h3⟩
  · refine ⟨ChangeMaps.setBlock w b (.map (es.push ⟨key, val, cl⟩) (cl + 1)), by simp [Instr.mapUpdate, run_underlying ht, MapKept.run_getObj_map hb, K.1 w false _ hkey, h1, MapKept.run_setObj_map _ hb, Result.andThen, ChangeMaps.setBlock],
      ⟨_, _, ChangeMaps.heap_setBlock_same hb _, by simp⟩, ⟨rfl, rfl, rfl, by simp [ChangeMaps.setBlock], fun i _ hi => ChangeMaps.heap_setBlock_other hb _ (fun e => hi (by rw [e]))⟩, by simp [ChangeMaps.setBlock]⟩
  · exact absurd h3 (hnew (e0.key, e0.val) (List.mem_map.2 ⟨e0, List.mem_of_getElem? h2, rfl⟩))
end Go.Proofs.YtlpagnbfjechhaaDoor
