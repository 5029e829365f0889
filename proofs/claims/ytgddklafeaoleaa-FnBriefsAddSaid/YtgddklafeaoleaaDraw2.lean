/-
  What the draws of a code leave: small texts, a reader moved on, nothing else written.
-/
import Derived.Test.YtgddklafeaoleaaDraw
namespace Go.Proofs.Ytgddklafeaoleaa
open Go.RowKit
set_option linter.unusedSimpArgs false
set_option linter.unusedVariables false

def RdB (w : World) (g P : Nat) : Prop := ∃ p, p ≤ P ∧ Rd w g p
/-- the reader of block g has moved on, to P at most; nothing else that was there is written -/
def Drew (g P : Nat) (w w' : World) : Prop := RdB w' g P ∧ w.grownBy w' (some g)

theorem grown_trans {w1 w2 w3 : World} {g : Nat} (h1 : w1.grownBy w2 (some g)) (h2 : w2.grownBy w3 (some g)) : w1.grownBy w3 (some g) :=
  ⟨h2.os.trans h1.os, h2.tape.trans h1.tape, h2.output.trans h1.output, Nat.le_trans h1.size h2.size, fun k hk hne => (h2.block k (Nat.lt_of_lt_of_le hk h1.size) hne).trans (h1.block k hk hne)⟩
theorem grown_below {w w' : World} {g : Nat} (h : Below w.heap.size w w') : w.grownBy w' (some g) := ⟨h.os, h.tape, h.output, h.size, fun k hk _ => h.block k hk⟩
theorem Drew.trans {g P P' : Nat} {w1 w2 w3 : World} (h1 : Drew g P w1 w2) (h2 : Drew g P' w2 w3) : Drew g P' w1 w3 := ⟨h2.1, grown_trans h1.2 h2.2⟩
theorem Drew.then_ {g P : Nat} {w1 w2 w3 : World} (h1 : Drew g P w1 w2) (h2 : Below w2.heap.size w2 w3) : Drew g P w1 w3 := by
  obtain ⟨⟨p, hp, hr⟩, hg⟩ := h1
  exact ⟨⟨p, hp, hr.below h2⟩, grown_trans hg (grown_below h2)⟩
theorem Drew.mono {g P P' : Nat} {w1 w2 : World} (h : Drew g P w1 w2) (hp : P ≤ P') : Drew g P' w1 w2 := by
  obtain ⟨⟨p, h1, h2⟩, h3⟩ := h
  exact ⟨⟨p, by omega, h2⟩, h3⟩
theorem Drew.size {g P : Nat} {w1 w2 : World} (h : Drew g P w1 w2) : w1.heap.size ≤ w2.heap.size := h.2.size
theorem Drew.seg {g P lo hi : Nat} {w1 w2 : World} {A : Option Addr} {xs : List Value} (h : Drew g P w1 w2) (hs : Seg w1 lo hi A xs) (hlo : g < lo) : Seg w2 lo hi A xs := grown_seg h.2 hs hlo
theorem Drew.bel {g P : Nat} {w w1 w2 : World} (h : Drew g P w1 w2) (hb : Below w.heap.size w w1) (hg : w.heap.size ≤ g) : Below w.heap.size w w2 :=
  hb.grown h.2 hb.size fun k hk => by injection hk with hk; omega
theorem RdB.lt {w : World} {g P : Nat} (h : RdB w g P) : g < w.heap.size := by obtain ⟨p, _, h⟩ := h; exact h.lt
theorem RdB.below {w w' : World} {g P : Nat} (h : RdB w g P) (hb : Below w.heap.size w w') : RdB w' g P := by obtain ⟨p, h1, h⟩ := h; exact ⟨p, h1, h.below hb⟩
theorem RdB.drew {w : World} {g P : Nat} (h : RdB w g P) : Drew g P w w := ⟨h, ⟨rfl, rfl, rfl, Nat.le_refl _, fun _ _ _ => rfl⟩⟩

theorem pickB (g P : Nat) (n : Int) (w : World) (h : RdB w g P) (hp : P ≤ 1000000) (hn : 1 ≤ n) (hn2 : n ≤ 100000) :
    Calls Try.prog 71 #[.pointer (some ⟨g, 0, none⟩), .int .i64 n] w fun e w' => ∃ x : Int, e = .returned (.int .i64 x) ∧ 0 ≤ x ∧ x < n ∧ Drew g (P + 1) w w' := by
  obtain ⟨p, hpP, hr⟩ := h
  exact (spec_pick g p n w hr (by omega) hn hn2).mono fun e w' ⟨x, h1, h2, h3, h4, h5, _⟩ => ⟨x, h1, h2, h3, ⟨p + 1, by omega, h4⟩, h5⟩

def smallStrs (N : Nat) (cs : List Value) : Bool := cs.all fun v => match v with | .string s => decide (s.size ≤ N) | _ => false
theorem small_list {N : Nat} : ∀ {cs : List Value}, smallStrs N cs = true → ∃ ws : List Str, cs = flat strC ws ∧ ∀ s ∈ ws, s.size ≤ N
  | [], _ => ⟨[], rfl, by simp⟩
  | v :: cs, h => by
    simp only [smallStrs, List.all_cons, Bool.and_eq_true] at h
    obtain ⟨ws, h1, h2⟩ := small_list (cs := cs) h.2
    cases v <;> simp at h
    rename_i s
    exact ⟨s :: ws, by rw [flat_cons, ← h1]; rfl, by simpa using ⟨h.1, h2⟩⟩
theorem ofB (N : Nat) (cs : Array Value) (n g P : Nat) (w : World) (hcs : smallStrs N cs.toList = true) (hsz : cs.size = n) (hn : 1 ≤ n) (hn2 : n ≤ 1000) (h : RdB w g P) (hp : P ≤ 1000000) :
    Calls Try.prog 73 #[.pointer (some ⟨g, 0, none⟩), .slice (some ⟨w.heap.size, 0, none⟩) n n] (w.alloc (.cells cs 9)) fun e w' => ∃ s : Str, e = .returned (.string s) ∧ s.size ≤ N ∧ Drew g (P + 1) w w' := by
  obtain ⟨ws, hw, hall⟩ := small_list hcs
  have hseg := Seg.lit w cs 9
  rw [hw] at hseg
  have hlen : n = ws.length := by rw [← hsz, ← Array.length_toList, hw, flat_length strC_len, Nat.mul_one]
  subst hlen
  have hlt := h.lt
  have hb := bel_alloc (Below.refl w.heap.size w) (.cells cs 9)
  obtain ⟨p, hpP, hr⟩ := h
  refine (spec_of g p ws _ _ _ (hr.below hb) (hseg.mono hlt (Nat.le_refl _)) (by omega) hn (by omega)).mono ?_
  rintro e w' ⟨s, h1, h2, h3, h4, _⟩
  exact ⟨s, h1, hall s h2, ⟨p + 1, by omega, h3⟩, grown_trans (grown_below hb) h4⟩
end Go.Proofs.Ytgddklafeaoleaa
