/-
  Rows of the call's own: written, kept, apart.
-/
import Derived.Test.YtgddklafeaoleaaMem2
import Derived.Test.YtgddklafeaoleaaData
namespace Go.Proofs.Ytgddklafeaoleaa
open Go.RowKit
set_option linter.unusedSimpArgs false
set_option linter.unusedVariables false

/-- the row's block alone has turned -/
def Wrote (w w' : World) (v : Value) : Prop := w.grownBy w' v.ownBlock ∧ w'.heap.size = w.heap.size
theorem wrote_trans {w1 w2 w3 : World} {v : Value} (h1 : Wrote w1 w2 v) (h2 : Wrote w2 w3 v) : Wrote w1 w3 v :=
  ⟨⟨h2.1.os.trans h1.1.os, h2.1.tape.trans h1.1.tape, h2.1.output.trans h1.1.output, Nat.le_trans h1.1.size h2.1.size, fun k hk hne => (h2.1.block k (Nat.lt_of_lt_of_le hk h1.1.size) hne).trans (h1.1.block k hk hne)⟩, h2.2.trans h1.2⟩
theorem wrote_set (w : World) (b o n c : Nat) (u : Value) : Wrote w (w.setCell ⟨b, o, none⟩ u) (.slice (some ⟨b, 0, none⟩) n c) :=
  ⟨⟨rfl, rfl, rfl, by simp [World.setCell], fun k _ hne => Below.heap_setCell w ⟨b, o, none⟩ u k (by intro e; apply hne; simp [Value.ownBlock]; exact e)⟩, by simp [World.setCell]⟩
theorem own_grew {w w' : World} {base n : Nat} {e : TypeId} {size : Nat} {v vm : Value} {xs : List Value} (h : w.ownsRow base e size v n xs) (hm : w.grownBy w' vm.ownBlock) (hne : ∀ k, v.ownBlock = some k → vm.ownBlock = some k → False) : w'.ownsRow base e size v n xs := by
  refine h.kept hm ?_
  cases hv : v.ownBlock with
  | none => exact .inl rfl
  | some k => exact .inr fun e => hne k hv e.symm
theorem grown_bel {w0 w w' : World} {row : Option Nat} (h : Below w0.heap.size w0 w) (hg : w.grownBy w' row) (hlo : ∀ k, row = some k → w0.heap.size ≤ k) : Below w0.heap.size w0 w' := h.grown hg h.size hlo
theorem grow_trans {w1 w2 w3 : World} {r : Option Nat} (h1 : w1.grownBy w2 r) (h2 : w2.grownBy w3 r) : w1.grownBy w3 r :=
  ⟨h2.os.trans h1.os, h2.tape.trans h1.tape, h2.output.trans h1.output, Nat.le_trans h1.size h2.size, fun k hk hne => (h2.block k (Nat.lt_of_lt_of_le hk h1.size) hne).trans (h1.block k hk hne)⟩
theorem grow_below {w w' : World} {r : Option Nat} (h : Below w.heap.size w w') : w.grownBy w' r := ⟨h.os, h.tape, h.output, h.size, fun k hk _ => h.block k hk⟩
theorem grow_set (w : World) (b o n c : Nat) (u : Value) : w.grownBy (w.setCell ⟨b, o, none⟩ u) (Value.slice (some ⟨b, 0, none⟩) n c).ownBlock := (wrote_set w b o n c u).1
theorem grow_refl (w : World) (r : Option Nat) : w.grownBy w r := ⟨rfl, rfl, rfl, Nat.le_refl _, fun _ _ _ => rfl⟩
theorem own_ne {w : World} {base base' n n' : Nat} {e e' : TypeId} {size size' : Nat} {v v' : Value} {xs xs' : List Value} (h : w.ownsRow base e size v n xs) (h' : w.ownsRow base' e' size' v' n' xs') (hne : e ≠ e') :
    ∀ k, v.ownBlock = some k → v'.ownBlock = some k → False := by
  intro k hk hk'
  rcases h.2 with ⟨rfl, _⟩ | ⟨g, cap, cur, rfl, _, hg, _⟩
  · simp [Value.ownBlock] at hk
  rcases h'.2 with ⟨rfl, _⟩ | ⟨g', cap', cur', rfl, _, hg', _⟩
  · simp [Value.ownBlock] at hk'
  simp [Value.ownBlock] at hk hk'
  subst hk hk'
  rw [hg] at hg'
  injection hg' with h1
  injection h1 with _ h2
  exact hne h2
theorem own_set1 {w : World} {base n b o : Nat} {e : TypeId} {size : Nat} {v : Value} {xs : List Value} (h : w.ownsRow base e size v n xs) (hb : b < base) (u : Value) : (w.setCell ⟨b, o, none⟩ u).ownsRow base e size v n xs :=
  own_grew (vm := .slice (some ⟨b, 0, none⟩) 0 0) h (grow_set w b o 0 0 u) (fun k h1 h2 => by simp [Value.ownBlock] at h2; have := (h.lt k h1).1; omega)
/-- one element more behind those that stand in a row of the call's own -/
theorem own_putS {α : Type} {cells : α → List Value} {size : Nat} (hc : ∀ a, (cells a).length = size) {w : World} {base : Nat} {e : TypeId} {g n cap k : Nat} {ys : List α} {z : List Value} {x : α}
    (h : w.ownsRow base e size (.slice (some ⟨g, 0, none⟩) n cap) n (flat cells ys ++ z)) (hk : ys.length = k) (hz : size ≤ z.length) :
    (setAll w g (k * size) (cells x)).ownsRow base e size (.slice (some ⟨g, 0, none⟩) n cap) n (flat cells (ys ++ [x]) ++ z.drop size) := by
  have hlen : (flat cells ys).length = k * size := by rw [flat_length hc, hk]
  have h2 := own_setAll (cells x) w (k * size) _ h (by simp [hlen, hc]; omega)
  have e1 : (flat cells ys ++ z).take (k * size) = flat cells ys := by rw [← hlen, List.take_left]
  have e2 : (flat cells ys ++ z).drop (k * size + (cells x).length) = z.drop size := by
    rw [List.drop_append, List.drop_of_length_le (by omega), hc, hlen, List.nil_append, Nat.add_sub_cancel_left]
  rw [e1, e2] at h2
  rwa [flat_snoc]
theorem own_roomS {α : Type} {cells : α → List Value} {size : Nat} (hc : ∀ a, (cells a).length = size) {w : World} {base : Nat} {e : TypeId} {g n cap k : Nat} {ys : List α} {z : List Value}
    (h : w.ownsRow base e size (.slice (some ⟨g, 0, none⟩) n cap) n (flat cells ys ++ z)) (hk : ys.length = k) (hz : size ≤ z.length) (j : Nat) (hj : j < size) :
    (∃ u, w.cell? ⟨g, k * size + j, none⟩ = some u) ∧ w.frozen? ⟨g, k * size + j, none⟩ = false := by
  have hlen : (flat cells ys).length = k * size := by rw [flat_length hc, hk]
  have hl2 : k * size + j < (flat cells ys ++ z).length := by simp [hlen]; omega
  have hn : (flat cells ys ++ z).length = n * size := h.1
  exact ⟨⟨_, (h.cellAt _ (by omega)).trans (List.getElem?_eq_getElem hl2)⟩, h.frozenAt _⟩
theorem bcell {W w1 : World} (hb : Below W.heap.size W w1) : (∀ b o, b < W.heap.size → w1.cell? ⟨b, o, none⟩ = W.cell? ⟨b, o, none⟩) ∧ (∀ b o, b < W.heap.size → w1.frozen? ⟨b, o, none⟩ = W.frozen? ⟨b, o, none⟩) :=
  ⟨fun b o h => hb.cell (p := ⟨b, o, none⟩) h, fun b o h => hb.frozen (p := ⟨b, o, none⟩) h⟩
theorem drop_at {α : Type} {l : List α} {k : Nat} {y : α} (h : l[k]? = some y) : l.drop k = y :: l.drop (k + 1) := by
  obtain ⟨h1, rfl⟩ := List.getElem?_eq_some_iff.1 h
  exact List.drop_eq_getElem_cons h1
end Go.Proofs.Ytgddklafeaoleaa
