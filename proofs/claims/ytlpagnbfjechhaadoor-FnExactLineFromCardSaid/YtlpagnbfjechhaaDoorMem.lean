/-
  Words for memory that the walks share: a segment of cells that a slice leads to; one element appended to a row of the call's own.
-/
import Derived.Test.YtlpagnbfjechhaaDoorProg
import Derived.Test.YtlpagnbfjechhaaDoorBase
import Derived.Test.YtlpagnbfjechhaaDoorData
import Derived.Maps.AppendAt
import Derived.Laws.IdiomStrings
import Derived.Deep.QuietTactic
import Derived.BigQuiet
namespace Go.Proofs.YtlpagnbfjechhaaDoor
open Go.RowKit
set_option linter.unusedSimpArgs false
set_option linter.unusedVariables false

/-- The slice at A (nil or not) leads to the cells xs, in a block from lo on and below hi. -/
def Seg (w : World) (lo hi : Nat) (A : Option Addr) (xs : List Value) : Prop :=
  xs = [] ∨ ∃ g o, A = some ⟨g, o, none⟩ ∧ lo ≤ g ∧ g < hi ∧ g < w.heap.size ∧ ∀ j u, xs[j]? = some u → w.cell? ⟨g, o + j, none⟩ = some u

theorem addr_add (g o j : Nat) : (⟨g, o, none⟩ : Addr).add j = ⟨g, o + j, none⟩ := by
  unfold Addr.add; split <;> simp_all

section
variable {w w' : World} {lo hi lo' hi' : Nat} {A : Option Addr} {xs : List Value}
theorem Seg.nil : Seg w lo hi A [] := .inl rfl
theorem Seg.at_ {k : Nat} {u : Value} (h : Seg w lo hi A xs) (hu : xs[k]? = some u) : ∃ g o, A = some ⟨g, o, none⟩ ∧ g < w.heap.size ∧ ∀ j u, xs[j]? = some u → w.cell? ⟨g, o + j, none⟩ = some u := by
  rcases h with rfl | ⟨g, o, h1, _, _, h2, h3⟩
  · simp at hu
  · exact ⟨g, o, h1, h2, h3⟩
theorem Seg.keep (h : Seg w lo hi A xs) (hs : w.heap.size ≤ w'.heap.size) (hk : ∀ g, lo ≤ g → g < hi → g < w.heap.size → w'.heap[g]? = w.heap[g]?) : Seg w' lo hi A xs := by
  rcases h with h | ⟨g, o, h1, h2, h3, h4, h5⟩
  · exact .inl h
  · exact .inr ⟨g, o, h1, h2, h3, by omega, fun j u hu => (World.cell?_of_block (hk g h2 h3 h4)).trans (h5 j u hu)⟩
theorem Seg.mono (h : Seg w lo hi A xs) (h1 : lo' ≤ lo) (h2 : hi ≤ hi') : Seg w lo' hi' A xs := by
  rcases h with h | ⟨g, o, e, a, b, c⟩
  · exact .inl h
  · exact .inr ⟨g, o, e, by omega, by omega, c⟩
theorem Seg.below (h : Seg w lo hi A xs) (hb : Below w.heap.size w w') : Seg w' lo hi A xs :=
  h.keep hb.size fun g _ _ hg => hb.block g hg
theorem Seg.belowB {B : Nat} (h : Seg w lo hi A xs) (hb : Below B w w') (hB : hi ≤ B) : Seg w' lo hi A xs :=
  h.keep hb.size fun g _ hg _ => hb.block g (by omega)
theorem Seg.top (h : Seg w lo hi A xs) : Seg w lo w.heap.size A xs := by
  rcases h with h | ⟨g, o, e, a, b, c, d⟩
  · exact .inl h
  · exact .inr ⟨g, o, e, a, c, c, d⟩
theorem Seg.of_own {base n c : Nat} {e : TypeId} {size : Nat} (h : w.ownsRow base e size (.slice A n c) n xs) : Seg w base w.heap.size A xs := by
  have h0 := h
  rcases h with ⟨hl, ⟨hv, rfl⟩ | ⟨g, cap, cur, hv, hb, hg, _⟩⟩
  · exact .inl (List.eq_nil_of_length_eq_zero (by simpa using hl))
  · injection hv with hv
    subst hv
    have hlt := (Array.getElem?_eq_some_iff.1 hg).1
    refine .inr ⟨g, 0, rfl, hb, hlt, hlt, fun j u hu => ?_⟩
    have := World.ownsRow.cells h0 (g := g) rfl j u hu
    rwa [addr_add] at this
theorem Seg.drop (h : Seg w lo hi A xs) (k c : Nat) (hc : k < c) : Seg w lo hi (if c = k then A else A.map (·.add k)) (xs.drop k) := by
  rcases h with rfl | ⟨g, o, rfl, a, b, d, h5⟩
  · exact .inl (by simp)
  · refine .inr ⟨g, o + k, by rw [if_neg (by omega)]; simp [addr_add], a, b, d, fun j u hu => ?_⟩
    rw [List.getElem?_drop] at hu
    have := h5 _ u hu
    rwa [show o + k + j = o + (k + j) by omega]
theorem Seg.take (h : Seg w lo hi A xs) (k : Nat) : Seg w lo hi A (xs.take k) := by
  rcases h with rfl | ⟨g, o, rfl, a, b, d, h5⟩
  · exact .inl (by simp)
  · refine .inr ⟨g, o, rfl, a, b, d, fun j u hu => h5 j u ?_⟩
    rw [List.getElem?_take] at hu
    split at hu
    · exact hu
    · cases hu
end

theorem bel_trans {w w1 w2 : World} (h1 : Below w.heap.size w w1) (h2 : Below w1.heap.size w1 w2) : Below w.heap.size w w2 := h1.trans (h2.mono h1.size)
theorem bel_alloc {w w1 : World} (h : Below w.heap.size w w1) (o : Obj) : Below w.heap.size w (w1.alloc o) := h.alloc h.size o
theorem box_cell (w : World) (cs : Array Value) (t : TypeId) (j : Nat) : (w.alloc (.cells cs t)).cell? ⟨w.heap.size, j, none⟩ = cs[j]? := cell_of_row _ _ _ _ _ _ (heap_alloc_new w _)
theorem box_later {w w' : World} {cs : Array Value} {t : TypeId} (h : Below (w.alloc (.cells cs t)).heap.size (w.alloc (.cells cs t)) w') (j : Nat) : w'.cell? ⟨w.heap.size, j, none⟩ = cs[j]? :=
  (h.cell (p := ⟨w.heap.size, j, none⟩) (by simp)).trans (box_cell w cs t j)
theorem Seg.lit (w : World) (cs : Array Value) (t : TypeId) : Seg (w.alloc (.cells cs t)) w.heap.size (w.alloc (.cells cs t)).heap.size (some ⟨w.heap.size, 0, none⟩) cs.toList :=
  .inr ⟨w.heap.size, 0, rfl, Nat.le_refl _, by simp, by simp, fun j u hu => by rw [Nat.zero_add, box_cell]; simpa using hu⟩
theorem Below_drewN {B : Nat} {a w : World} (h : Below B a w) (n : Nat) : Below B a (w.drewN n) := ⟨h.os, h.tape, h.output, h.size, h.block⟩
theorem quietly {P : Program} {f : FuncId} {args : Array Value} {w : World} {n : Nat} {v : Value} (h : Calls P f args (w.drewN n) fun e w' => e = .returned v ∧ w.drewN n = w') :
    Calls P f args (w.drewN n) fun e w'' => e = .returned v ∧ ∃ m, w'' = w.drewN m := h.mono fun _ _ hh => ⟨hh.1, n, hh.2.symm⟩

/-- what an owned row is, as a slice value -/
theorem own_form {w : World} {base : Nat} {e : TypeId} {size n : Nat} {v : Value} {xs : List Value} (h : w.ownsRow base e size v n xs) : ∃ A c, v = .slice A n c ∧ n ≤ c ∧ c ≤ maxLen := by
  rcases h with ⟨_, ⟨rfl, rfl⟩ | ⟨g, cap, cur, rfl, _, _, h1, h2, _⟩⟩
  · exact ⟨none, 0, rfl, Nat.le_refl _, by simp [maxLen]⟩
  · exact ⟨_, cap, rfl, h1, h2⟩
theorem own_below {w w' : World} {base : Nat} {e : TypeId} {size n : Nat} {v : Value} {xs : List Value} (h : w.ownsRow base e size v n xs) (hb : Below w.heap.size w w') : w'.ownsRow base e size v n xs := by
  refine ⟨h.1, ?_⟩
  rcases h.2 with h2 | ⟨g, cap, cur, hv, hg, hh, r⟩
  · exact .inl h2
  · exact .inr ⟨g, cap, cur, hv, hg, (hb.block g (Array.getElem?_eq_some_iff.1 hh).1).trans hh, r⟩
theorem own_mono {w : World} {base base' : Nat} {e : TypeId} {size n : Nat} {v : Value} {xs : List Value} (h : w.ownsRow base e size v n xs) (hb : base' ≤ base) : w.ownsRow base' e size v n xs := by
  refine ⟨h.1, ?_⟩
  rcases h.2 with h2 | ⟨g, cap, cur, hv, hg, r⟩
  · exact .inl h2
  · exact .inr ⟨g, cap, cur, hv, by omega, r⟩
theorem own_grown_below {w w' w0 : World} {base : Nat} {e : TypeId} {size n : Nat} {v : Value} {xs : List Value} (hb : Below base w0 w) (h : w.ownsRow base e size v n xs) (hg : w.grownBy w' v.ownBlock) (hB : base ≤ w.heap.size) : Below base w0 w' :=
  hb.grown hg hB fun k hk => (h.lt k hk).1

/-- one element, laid in a new block of its own, appended to a row of the call's own -/
theorem append_one {P : Program} {ops : Array Oper} {rest : List Oper} {o : Oper} {a : Act} {Q : Exit → Act → World → Prop} (w : World) (hgd : o.guard = none) (s x : Operand) (t : TypeId)
    (ho : o.op = .call { callee := .builtin .append, args := #[s, x], argTypes := #[t, t] })
    (base : Nat) (e : TypeId) (z : Value) (size bytes : Nat) (ht : P.underlying t = some (.slice e)) (hi : (P.info? e).map (fun i => (i.zero, i.size, i.bytes)) = some (some z, size, bytes))
    (hzs : z.cells.size = size) (hsz : 0 < size) (hby : bytes ≤ 64)
    (v : Value) (n : Nat) (xs : List Value) (hs : a.eval s = v) (hown : w.ownsRow base e size v n xs)
    (news : Array Value) (hx : a.eval x = .slice (some ⟨w.heap.size, 0, none⟩) 1 1) (hl : news.size = size) (h1 : ∀ u ∈ news, u.oneCell' = true)
    (hn : n ≤ 8388608) (hbase : base ≤ w.heap.size)
    (h : ∀ v' w', w'.ownsRow base e size v' (n + 1) (xs ++ news.toList) → w.grownBy w' v.ownBlock → wpList P ops Q rest (a.put o.dst v') w') :
    wpList P ops Q (o :: rest) a (w.alloc (.cells news e)) := by
  obtain ⟨i, hi, hz0, hz1, hz2⟩ := info_parts hi
  refine wpList_append_own _ hgd s x t ho base e i z size bytes ht hi hz0 hz1 hz2 hzs hsz v n xs hs (hown.alloc _) ⟨w.heap.size, 0, none⟩ 1 1 news.toList hx (by simpa using hl) ?_ (by simpa using h1)
    (by simp only [maxLen]; omega) ?_ (by simp; omega) ?_
  · intro j u hu
    rw [addr_add]
    have hb := heap_alloc_new w (.cells news e)
    rw [cell_of_row _ _ _ _ _ _ hb]
    simpa using hu
  · have : (n + 1) * bytes ≤ 8388609 * 64 := Nat.mul_le_mul (by omega) hby
    omega
  · intro v' w' h2 h3 _
    refine h v' w' h2 ⟨h3.os, h3.tape, h3.output, Nat.le_trans (by simp) h3.size, fun k hk hne => ?_⟩
    rw [h3.block k (by simp; omega) hne]
    exact Below.heap_alloc w _ k hk

theorem bytes_string {P : Program} {w : World} {base e src dst c n : Nat} {A : Option Addr} {l : List UInt8} (hs : P.underlying src = some (.slice e)) (he : P.underlying e = some (.int .u8)) (hd : P.underlying dst = some .string)
    {lo hi : Nat} (h : Seg w lo hi A (l.map byteCell)) (hn : n = l.length) :
    (convert src dst (.slice A n c)).run P w = .ok (.string ⟨l.toArray⟩) w := by
  subst hn
  rcases h with h | ⟨g, o, rfl, _, _, _, hc⟩
  · have hl : l = [] := by simpa using h
    subst hl
    rw [run_convert_bytes_string w src dst e _ _ _ hs he hd]
    cases A with
    | none => simp [Conv.bytesToString]; rfl
    | some a =>
      have hl : (loadCells a 0).run P w = .ok (([] : List Int).map (Value.int .u8)).toArray w := by simp [loadCells, loadCellsFrom]
      exact run_bytesToString w a 0 c [] hl
  · refine run_convert_bytes_back w src dst e ⟨g, o, none⟩ c l hs he hd fun j hj => ?_
    rw [addr_add]
    exact hc j _ (by simp [List.getElem?_eq_getElem hj, byteCell])
theorem make_n {P : Program} (t e : TypeId) (z : Value) (size bytes : Nat) (ht : P.underlying t = some (.slice e)) (hi : (P.info? e).map (fun i => (i.zero, i.size, i.bytes)) = some (some z, size, bytes))
    (hby : bytes ≤ 64) (n : Nat) (hn : n ≤ 8388608) (w : World) :
    (Instr.makeSlice t (.int .i64 (n : Int)) (.int .i64 (n : Int))).run P w = .ok (.slice (some ⟨w.heap.size, 0, none⟩) n n) (w.alloc (.cells (madeCells z.cells (n * size)) e)) := by
  obtain ⟨i, hi, hz0, hz1, hz2⟩ := info_parts hi
  have h1 : bytes * n ≤ 64 * 8388608 := Nat.mul_le_mul hby hn
  have h2 : ((bytes * n : Nat) : Int) = (bytes : Int) * n := Int.natCast_mul _ _
  have := run_make (P := P) w t e i z ht hi hz0 .i64 .i64 (n : Int) n (by omega) (Int.le_refl _) (by rw [hz2]; omega) (by omega)
  simpa [hz1] using this

/-! ### an element stored into a row of the call's own -/
def setAll (w : World) (g o : Nat) : List Value → World
  | [] => w
  | v :: l => setAll (w.setCell ⟨g, o, none⟩ v) g (o + 1) l
theorem set_take {α : Type} (xs : List α) (o : Nat) (v : α) (h : o < xs.length) : xs.set o v = xs.take o ++ v :: xs.drop (o + 1) := List.set_eq_take_append_cons_drop.trans (if_pos h)
theorem own_setAll {base : Nat} {e : TypeId} {size g n cap : Nat} : ∀ (cs : List Value) (w : World) (o : Nat) (xs : List Value), w.ownsRow base e size (.slice (some ⟨g, 0, none⟩) n cap) n xs → o + cs.length ≤ xs.length →
    (setAll w g o cs).ownsRow base e size (.slice (some ⟨g, 0, none⟩) n cap) n (xs.take o ++ cs ++ xs.drop (o + cs.length))
  | [], w, o, xs, h, hl => by simpa [setAll] using h
  | v :: cs, w, o, xs, h, hl => by
    simp only [List.length_cons] at hl
    have h1 := (h.stored o v).1
    have h2 := own_setAll cs _ (o + 1) _ h1 (by simp; omega)
    rw [show (xs.set o v).take (o + 1) ++ cs ++ (xs.set o v).drop (o + 1 + cs.length) = xs.take o ++ (v :: cs) ++ xs.drop (o + (v :: cs).length) from ?_] at h2
    · exact h2
    · rw [List.drop_set_of_lt (by omega), List.length_cons, show o + 1 + cs.length = o + (cs.length + 1) by omega]
      have : (xs.set o v).take (o + 1) = xs.take o ++ [v] := by
        rw [set_take xs o v (by omega), List.take_append]
        simp [List.length_take, Nat.min_eq_left (show o ≤ xs.length by omega), List.take_take]
      rw [this]; simp
theorem own_put {α : Type} {cells : α → List Value} {size : Nat} (hc : ∀ a, (cells a).length = size) {w : World} {base : Nat} {e : TypeId} {g n cap k : Nat} {l : List α} {z : List Value} {x : α}
    (h : w.ownsRow base e size (.slice (some ⟨g, 0, none⟩) n cap) n (flat cells (l.take k) ++ z)) (hk : l[k]? = some x) (hz : z.length = (l.length - k) * size) :
    (setAll w g (k * size) (cells x)).ownsRow base e size (.slice (some ⟨g, 0, none⟩) n cap) n (flat cells (l.take (k + 1)) ++ z.drop size) ∧ (z.drop size).length = (l.length - (k + 1)) * size := by
  have hkl : k < l.length := (List.getElem?_eq_some_iff.1 hk).1
  have hlen : (flat cells (l.take k)).length = k * size := by rw [flat_length hc, List.length_take, Nat.min_eq_left (by omega)]
  have hzl : z.length = (l.length - (k + 1)) * size + size := by rw [hz, ← Nat.succ_mul]; congr 1; omega
  refine ⟨?_, by simp [hzl]⟩
  have h2 := own_setAll (cells x) w (k * size) _ h (by simp [hlen, hc]; omega)
  rw [take_snoc' hk, flat_snoc]
  have e1 : (flat cells (l.take k) ++ z).take (k * size) = flat cells (l.take k) := by rw [← hlen, List.take_left]
  have e2 : (flat cells (l.take k) ++ z).drop (k * size + (cells x).length) = z.drop size := by
    rw [List.drop_append, List.drop_of_length_le (by omega), hc, hlen, List.nil_append, Nat.add_sub_cancel_left]
  rwa [e1, e2] at h2
theorem bel_setAll {B g : Nat} {a : World} (hg : B ≤ g) : ∀ (cs : List Value) (w : World) (o : Nat), Below B a w → Below B a (setAll w g o cs)
  | [], _, _, h => h
  | v :: cs, w, o, h => bel_setAll hg cs _ _ (h.setCell (p := ⟨g, o, none⟩) hg v)
/-- a row before the store of an element: what its cells hold is something -/
theorem own_room {α : Type} {cells : α → List Value} {size : Nat} (hc : ∀ a, (cells a).length = size) {w : World} {base : Nat} {e : TypeId} {g n cap k : Nat} {l : List α} {z : List Value}
    (h : w.ownsRow base e size (.slice (some ⟨g, 0, none⟩) n cap) n (flat cells (l.take k) ++ z)) (hk : k < l.length) (hz : z.length = (l.length - k) * size) (j : Nat) (hj : j < size) :
    (∃ u, w.cell? ⟨g, k * size + j, none⟩ = some u) ∧ w.frozen? ⟨g, k * size + j, none⟩ = false := by
  have hlen : (flat cells (l.take k)).length = k * size := by rw [flat_length hc, List.length_take, Nat.min_eq_left (by omega)]
  have hzl : z.length = (l.length - (k + 1)) * size + size := by rw [hz, ← Nat.succ_mul]; congr 1; omega
  have hl2 : k * size + j < (flat cells (l.take k) ++ z).length := by simp [hlen]; omega
  have hn : (flat cells (l.take k) ++ z).length = n * size := h.1
  exact ⟨⟨_, (h.cellAt _ (by omega)).trans (List.getElem?_eq_getElem hl2)⟩, h.frozenAt _⟩
end Go.Proofs.YtlpagnbfjechhaaDoor
