/-
  Arguments of a law, opened: slices of bytes, strings, strokes, signs, written forms, briefs, as lists in segments of memory.
-/
import Derived.Test.YtlpagnbfjechhaaDoorMem
import Derived.Test.YtlpagnbfjechhaaDoorData
import Derived.Deep.Slices
import Derived.OpenShut
namespace Go.Proofs.YtlpagnbfjechhaaDoor
open Go.RowKit Go.ChangeShapes Go.WideShapes Go.Deep
set_option linter.unusedSimpArgs false
set_option linter.unusedVariables false

section
variable {H : Type} {enc : TypeId × Value → H} {P : Program} {w : World} {sp : Nat → Bool} {held : Bool}

theorem cell_spot {p : Addr} {u : Value} (h : w.cell? p = some u) : p.spot = none ∧ p.block < w.heap.size := by
  unfold World.cell? at h
  split at h
  · rename_i hb
    split at h
    · cases h
    · rename_i hs
      exact ⟨by simpa using hs, (Array.getElem?_eq_some_iff.1 hb).1⟩
  · cases h

theorem open_gen {α : Type} (cells : α → List Value) (ok : α → Prop) {t e : TypeId} {size : Nat} (ht : P.underlying t = some (.slice e)) (hs : P.cellsOf e = size) (hs0 : 0 < size) (hlen : ∀ a, (cells a).length = size)
    (hdec : ∀ n cs x, DataW.trod enc P w 0 sp held n e cs = some x → ∃ a, cs = cells a ∧ ok a)
    {fuel : Nat} {cs : List Value} {x : DataW H × List MemPlace} (h : DataW.trod enc P w 0 sp held fuel t cs = some x) :
    ∃ (A : Option Addr) (c : Nat) (l : List α), cs = [.slice A l.length c] ∧ Seg w 0 w.heap.size A (flat cells l) ∧ (∀ a ∈ l, ok a) ∧ l.length ≤ c ∧ c ≤ maxLen := by
  rcases open_slice ht h with ⟨rfl, _⟩ | ⟨a, len, cap, m, n, D, Pl, rfl, _, hl, hc, hm, _, hi⟩
  · exact ⟨none, 0, [], rfl, Seg.nil, by simp, by simp, by simp [maxLen]⟩
  rw [hs] at hi
  have hlm : len ≤ m := by rw [hm]; split <;> omega
  have each : ∀ i : Fin len, ∃ y : α, ok y ∧ ∀ j, j < size → w.cell? (a.add (i.1 * size + j)) = (cells y)[j]? := by
    intro i
    obtain ⟨cs', h1, h2⟩ := hi i.1 (by omega)
    obtain ⟨y, rfl, hy⟩ := hdec _ _ _ h2
    refine ⟨y, hy, fun j hj => ?_⟩
    have := (World.cells?_some h1).2.2 j hj
    rwa [Go.Deep.add_add] at this
  obtain ⟨f, hf⟩ := Classical.skolem.1 each
  refine ⟨some a, cap, List.ofFn f, by simp, ?_, ?_, by simpa using hl, hc⟩
  · by_cases h0 : len = 0
    · subst h0; exact .inl (by simp [flat])
    · right
      have h1 : ∃ u, w.cell? (a.add (0 * size + 0)) = some u := by
        rw [(hf ⟨0, by omega⟩).2 0 hs0]
        exact ⟨_, List.getElem?_eq_getElem (by rw [hlen]; exact hs0)⟩
      obtain ⟨u, hu⟩ := h1
      have ha : a.add (0 * size + 0) = a := by simp [Addr.add]
      rw [ha] at hu
      obtain ⟨hsp, hb⟩ := cell_spot hu
      obtain ⟨g, o, spot⟩ := a
      subst hsp
      refine ⟨g, o, rfl, Nat.zero_le _, hb, hb, fun j u hu => ?_⟩
      obtain ⟨y, hy, hyu⟩ := flat_split hlen hs0 hu
      obtain ⟨hk, rfl⟩ := List.getElem?_eq_some_iff.1 hy
      rw [List.getElem_ofFn] at hyu
      have := (hf ⟨j / size, by simpa using hk⟩).2 (j % size) (Nat.mod_lt _ hs0)
      rw [hyu, Nat.div_add_mod', addr_add] at this
      exact this
  · intro y hy
    rw [List.mem_ofFn] at hy
    obtain ⟨i, rfl⟩ := hy
    exact (hf i).1

theorem dec_str {e : TypeId} (he : P.underlying e = some .string) : ∀ n cs x, DataW.trod enc P w 0 sp held n e cs = some x → ∃ s, cs = strC s ∧ s.size ≤ maxLen := by
  intro n cs x h
  obtain ⟨s, rfl, _, hs⟩ := DataW.trod_string he h
  exact ⟨s, rfl, hs⟩
theorem dec_byte {e : TypeId} (he : P.underlying e = some (.int .u8)) : ∀ n cs x, DataW.trod enc P w 0 sp held n e cs = some x → ∃ b, cs = byteC b ∧ True := by
  intro n cs x h
  obtain ⟨k, rfl, _, hk⟩ := DataW.trod_int he h
  simp [Lit.wf, IntKind.min, IntKind.max, IntKind.bits, IntKind.signed] at hk
  obtain ⟨m, rfl⟩ := Int.eq_ofNat_of_zero_le (show 0 ≤ k by omega)
  refine ⟨UInt8.ofNat m, ?_, trivial⟩
  have : m < 256 := by omega
  simp [byteC, UInt8.toNat_ofNat', Nat.mod_eq_of_lt this]
def StkOk (s : Stk) : Prop := (Lit.int .i64 s.1).wf = true ∧ (Lit.int .i64 s.2).wf = true
def SgnOk (s : Sgn) : Prop := s.1.size ≤ maxLen ∧ StkOk s.2
/-- a slice that reads as its elements -/
def RowOk {α : Type} (w : World) (cells : α → List Value) (ok : α → Prop) (r : Row α) : Prop :=
  Seg w 0 w.heap.size r.1 (flat cells r.2.2) ∧ (∀ a ∈ r.2.2, ok a) ∧ r.2.2.length ≤ r.2.1 ∧ r.2.1 ≤ maxLen
def StrOk (s : Str) : Prop := s.size ≤ maxLen
def WrtOk (w : World) (x : Wrt) : Prop := RowOk w stkC StkOk x.1 ∧ (Lit.int .i64 x.2).wf = true
def BrfOk (w : World) (x : Brf) : Prop := StrOk x.1 ∧ RowOk w strC StrOk x.2

theorem dec_two {e : TypeId} {f0 f1 : Field} {a b : Nat} (he : P.underlying e = some (.struct #[f0, f1])) (hC : P.cellsOf e = a + b) (h0 : f0.offset = 0 ∧ P.cellsOf f0.type = a) (h1 : f1.offset = a ∧ P.cellsOf f1.type = b)
    {n : Nat} {cs : List Value} {x : DataW H × List MemPlace} (h : DataW.trod enc P w 0 sp held n e cs = some x) :
    ∃ m y0 y1, cs.length = a + b ∧ DataW.trod enc P w 0 sp held m f0.type (cs.take a) = some y0 ∧ DataW.trod enc P w 0 sp held m f1.type (cs.drop a) = some y1 := by
  obtain ⟨xs, m, _, _, hl, hx, hf⟩ := DataW.trod_struct he h
  have e0 := hf 0 f0 rfl
  have e1 := hf 1 f1 rfl
  rw [h0.1, h0.2, List.drop_zero] at e0
  rw [h1.1, h1.2, List.take_of_length_le (by simp [hl, hC])] at e1
  simp at hx
  match xs, hx with
  | [y0, y1], _ => exact ⟨m, y0, y1, hl.trans hC, e0, e1⟩
theorem dec_stk {e : TypeId} {f0 f1 : Field} (he : P.underlying e = some (.struct #[f0, f1])) (hC : P.cellsOf e = 1 + 1) (h0 : f0.offset = 0 ∧ P.cellsOf f0.type = 1) (h1 : f1.offset = 1 ∧ P.cellsOf f1.type = 1)
    (i0 : P.underlying f0.type = some (.int .i64)) (i1 : P.underlying f1.type = some (.int .i64)) : ∀ n cs x, DataW.trod enc P w 0 sp held n e cs = some x → ∃ s, cs = stkC s ∧ StkOk s := by
  intro n cs x h
  obtain ⟨m, y0, y1, hl, t0, t1⟩ := dec_two he hC h0 h1 h
  obtain ⟨d, e0, _, w0⟩ := DataW.trod_int i0 t0
  obtain ⟨s, e1, _, w1⟩ := DataW.trod_int i1 t1
  exact ⟨(d, s), by rw [← List.take_append_drop 1 cs, e0, e1]; rfl, w0, w1⟩
theorem dec_sgn {e : TypeId} {f0 f1 g0 g1 : Field} (he : P.underlying e = some (.struct #[f0, f1])) (hC : P.cellsOf e = 1 + 2) (h0 : f0.offset = 0 ∧ P.cellsOf f0.type = 1) (h1 : f1.offset = 1 ∧ P.cellsOf f1.type = 2)
    (i0 : P.underlying f0.type = some .string) (i1 : P.underlying f1.type = some (.struct #[g0, g1])) (k0 : g0.offset = 0 ∧ P.cellsOf g0.type = 1) (k1 : g1.offset = 1 ∧ P.cellsOf g1.type = 1)
    (j0 : P.underlying g0.type = some (.int .i64)) (j1 : P.underlying g1.type = some (.int .i64)) : ∀ n cs x, DataW.trod enc P w 0 sp held n e cs = some x → ∃ s, cs = sgnC s ∧ SgnOk s := by
  intro n cs x h
  obtain ⟨m, y0, y1, hl, t0, t1⟩ := dec_two he hC h0 h1 h
  obtain ⟨l, e0, _, w0⟩ := DataW.trod_string i0 t0
  obtain ⟨s, e1, w1⟩ := dec_stk i1 h1.2 k0 k1 j0 j1 _ _ _ t1
  exact ⟨(l, s), by rw [← List.take_append_drop 1 cs, e0, e1]; rfl, w0, w1⟩
theorem open_row {α : Type} (cells : α → List Value) (ok : α → Prop) {t e : TypeId} {size : Nat} (ht : P.underlying t = some (.slice e)) (hs : P.cellsOf e = size) (hs0 : 0 < size) (hlen : ∀ a, (cells a).length = size)
    (hdec : ∀ n cs x, DataW.trod enc P w 0 sp held n e cs = some x → ∃ a, cs = cells a ∧ ok a)
    {fuel : Nat} {cs : List Value} {x : DataW H × List MemPlace} (h : DataW.trod enc P w 0 sp held fuel t cs = some x) : ∃ r : Row α, cs = [rowV r] ∧ RowOk w cells ok r := by
  obtain ⟨A, c, l, rfl, h1, h2, h3, h4⟩ := open_gen cells ok ht hs hs0 hlen hdec h
  exact ⟨(A, c, l), rfl, h1, h2, h3, h4⟩
theorem dec_wrt {e : TypeId} {f0 f1 : Field} (he : P.underlying e = some (.struct #[f0, f1])) (hC : P.cellsOf e = 1 + 1) (h0 : f0.offset = 0 ∧ P.cellsOf f0.type = 1) (h1 : f1.offset = 1 ∧ P.cellsOf f1.type = 1)
    {u : TypeId} (i0 : P.underlying f0.type = some (.slice u)) (hu : P.cellsOf u = 2) (hdec : ∀ n cs x, DataW.trod enc P w 0 sp held n u cs = some x → ∃ s, cs = stkC s ∧ StkOk s) (i1 : P.underlying f1.type = some (.int .i64)) :
    ∀ n cs x, DataW.trod enc P w 0 sp held n e cs = some x → ∃ s, cs = wrtC s ∧ WrtOk w s := by
  intro n cs x h
  obtain ⟨m, y0, y1, hl, t0, t1⟩ := dec_two he hC h0 h1 h
  obtain ⟨r, e0, w0⟩ := open_row stkC StkOk i0 hu (by decide) stkC_len hdec t0
  obtain ⟨p, e1, _, w1⟩ := DataW.trod_int i1 t1
  exact ⟨(r, p), by rw [← List.take_append_drop 1 cs, e0, e1]; rfl, w0, w1⟩
theorem dec_brf {e : TypeId} {f0 f1 : Field} (he : P.underlying e = some (.struct #[f0, f1])) (hC : P.cellsOf e = 1 + 1) (h0 : f0.offset = 0 ∧ P.cellsOf f0.type = 1) (h1 : f1.offset = 1 ∧ P.cellsOf f1.type = 1)
    {u : TypeId} (i1 : P.underlying f1.type = some (.slice u)) (hu : P.cellsOf u = 1) (hu' : P.underlying u = some .string) (i0 : P.underlying f0.type = some .string) :
    ∀ n cs x, DataW.trod enc P w 0 sp held n e cs = some x → ∃ s, cs = brfC s ∧ BrfOk w s := by
  intro n cs x h
  obtain ⟨m, y0, y1, hl, t0, t1⟩ := dec_two he hC h0 h1 h
  obtain ⟨r, e1, w1⟩ := open_row strC StrOk i1 hu (by decide) strC_len (dec_str hu') t1
  obtain ⟨p, e0, _, w0⟩ := DataW.trod_string i0 t0
  exact ⟨(p, r), by rw [← List.take_append_drop 1 cs, e0, e1]; rfl, w0, w1⟩

/-- an argument that is a slice -/
theorem arg_row {α : Type} (cells : α → List Value) (ok : α → Prop) {r : Reach} {b0 : Nat} {t e : TypeId} {size : Nat} (ht : P.underlying t = some (.slice e)) (hs : P.cellsOf e = size) (hs0 : 0 < size) (hlen : ∀ a, (cells a).length = size)
    (hdec : ∀ n cs x, DataW.trod enc P w 0 sp held n e cs = some x → ∃ a, cs = cells a ∧ ok a)
    {v : Value} {d : DataW H} {p : List MemPlace} (hv : Value.okWide P w r b0 t v) (h : DataW.Trod enc P w 0 sp held t v d p) : ∃ r : Row α, v = rowV r ∧ RowOk w cells ok r := by
  obtain ⟨a, len, cap, rfl⟩ := okWide_slice ht hv
  obtain ⟨fuel, hf⟩ := h
  obtain ⟨r, e1, h1⟩ := open_row cells ok ht hs hs0 hlen hdec hf
  exact ⟨r, by simpa [Value.cells] using e1, h1⟩
/-- an argument that is a struct -/
theorem arg_struct {α : Type} (cells : α → List Value) (ok : α → Prop) {r : Reach} {b0 : Nat} {t : TypeId} {fs : Array Field} (ht : P.underlying t = some (.struct fs))
    (hdec : ∀ n cs x, DataW.trod enc P w 0 sp held n t cs = some x → ∃ a, cs = cells a ∧ ok a)
    {v : Value} {d : DataW H} {p : List MemPlace} (hv : Value.okWide P w r b0 t v) (h : DataW.Trod enc P w 0 sp held t v d p) : ∃ a : α, v = .agg (cells a).toArray ∧ ok a := by
  obtain ⟨cs, rfl, _⟩ := okWide_struct ht hv
  obtain ⟨fuel, hf⟩ := h
  obtain ⟨a, e1, h1⟩ := hdec _ _ _ hf
  exact ⟨a, by simp [Value.cells] at e1; cases cs; simp at e1; simp [e1], h1⟩
end
end Go.Proofs.YtlpagnbfjechhaaDoor
