/-
  Contract of l91Speech: a short list of small texts.
-/
import Derived.Test.YtbcbpcidfcjibaaDraw2
import Derived.Test.YtbcbpcidfcjibaaMem2
import Derived.Test.YtbcbpcidfcjibaaStrs
namespace Go.Proofs.Ytbcbpcidfcjibaa
open Go.RowKit
set_option linter.unusedSimpArgs false
set_option linter.unusedVariables false

theorem Drew.own {g P n : Nat} {w wr w' : World} {e : TypeId} {size : Nat} {v : Value} {xs : List Value} (h : Drew g P w wr) (hown : wr.ownsRow w.heap.size e size v n xs) (hg : wr.grownBy w' v.ownBlock) (hgw : g < w.heap.size) : Drew g P w w' := by
  obtain ⟨⟨p, hp, hr⟩, h2⟩ := h
  have hlo : ∀ k, v.ownBlock = some k → w.heap.size ≤ k := fun k hk => (hown.lt k hk).1
  have hs := h2.size
  refine ⟨⟨p, hp, hr.keep (fun k hk => hg.block k (by omega) fun e => ?_) hg.size⟩, ⟨hg.os.trans h2.os, hg.tape.trans h2.tape, hg.output.trans h2.output, Nat.le_trans h2.size hg.size, fun k hk hne => (hg.block k (by omega) fun e => ?_).trans (h2.block k hk hne)⟩⟩
  · have := hlo k e.symm; omega
  · have := hlo k e.symm; omega
theorem Drew.setOwn {g P b o : Nat} {w wr : World} (h : Drew g P w wr) (hb : w.heap.size ≤ b) (hgw : g < w.heap.size) (u : Value) : Drew g P w (wr.setCell ⟨b, o, none⟩ u) := by
  obtain ⟨⟨p, hp, hr⟩, h2⟩ := h
  have hs := h2.size
  have hk : ∀ k, k < w.heap.size → (wr.setCell ⟨b, o, none⟩ u).heap[k]? = wr.heap[k]? := fun k hk => Below.heap_setCell wr ⟨b, o, none⟩ u k (by simp; omega)
  refine ⟨⟨p, hp, hr.keep (fun k hk' => hk k (by omega)) (by simp [World.setCell])⟩, ⟨h2.os, h2.tape, h2.output, by simp [World.setCell]; exact h2.size, fun k hk' hne => (hk k hk').trans (h2.block k hk' hne)⟩⟩
theorem Drew.kept {g P n base : Nat} {w wr : World} {e : TypeId} {size : Nat} {v : Value} {xs : List Value} (h : Drew g P w wr) (hown : w.ownsRow base e size v n xs) (hg : g < base) : wr.ownsRow base e size v n xs :=
  hown.kept h.2 (.inr (fun e => by have := (hown.lt g e).1; omega))
def DrewStrs (g P n : Nat) (w : World) (e : Ending) (w' : World) : Prop :=
  ∃ A c, ∃ ws : List Str, e = .returned (.slice A ws.length c) ∧ Seg w' w.heap.size w'.heap.size A (flat strC ws) ∧ (∀ s ∈ ws, s.size ≤ 100) ∧ ws.length ≤ n ∧ ws.length ≤ c ∧ c ≤ maxLen ∧ Drew g P w w'

theorem own_strs {w : World} {base n : Nat} {v : Value} {ws : List Str} (h : w.ownsRow base 9 1 v n (flat strC ws)) : ∃ A c, v = .slice A ws.length c ∧ n = ws.length ∧ ws.length ≤ c ∧ c ≤ maxLen ∧ Seg w base w.heap.size A (flat strC ws) := by
  have hl : (flat strC ws).length = n * 1 := h.1
  rw [flat_length strC_len] at hl
  obtain rfl : n = ws.length := by omega
  obtain ⟨A, c, rfl, h1, h2⟩ := own_form h
  exact ⟨A, c, rfl, rfl, h1, h2, Seg.of_own h⟩

end Go.Proofs.Ytbcbpcidfcjibaa
