/-
  Contracts of markStrokeS and heldStrokeS.
-/
import Derived.Test.YtlpagnbfjechhaaDoorStks
import Derived.Test.YtlpagnbfjechhaaDoorMem2
namespace Go.Proofs.YtlpagnbfjechhaaDoor
open Go.RowKit
set_option linter.unusedSimpArgs false
set_option linter.unusedVariables false

/-- what the marks of a list of strokes are -/
def markStk (k : Int) (i : Nat) : Stk := (k + 2 * i, k + 2 * i + 1)
def marksStk (k : Int) (n : Nat) : List Stk := (List.range n).map (markStk k)
theorem marksStk_len (k : Int) (n : Nat) : (marksStk k n).length = n := by simp [marksStk]
theorem marksStk_at (k : Int) {n i : Nat} (h : i < n) : (marksStk k n)[i]? = some (markStk k i) := by simp [marksStk, h]

/-- the row's block alone has turned -/
def Wrote (w w' : World) (v : Value) : Prop := w.grownBy w' v.ownBlock ∧ w'.heap.size = w.heap.size
theorem wrote_trans {w1 w2 w3 : World} {v : Value} (h1 : Wrote w1 w2 v) (h2 : Wrote w2 w3 v) : Wrote w1 w3 v :=
  ⟨⟨h2.1.os.trans h1.1.os, h2.1.tape.trans h1.1.tape, h2.1.output.trans h1.1.output, Nat.le_trans h1.1.size h2.1.size, fun k hk hne => (h2.1.block k (Nat.lt_of_lt_of_le hk h1.1.size) hne).trans (h1.1.block k hk hne)⟩, h2.2.trans h1.2⟩
theorem wrote_set (w : World) (b o n c : Nat) (u : Value) : Wrote w (w.setCell ⟨b, o, none⟩ u) (.slice (some ⟨b, 0, none⟩) n c) :=
  ⟨⟨rfl, rfl, rfl, by simp [World.setCell], fun k _ hne => Below.heap_setCell w ⟨b, o, none⟩ u k (by intro e; apply hne; simp [Value.ownBlock]; exact e)⟩, by simp [World.setCell]⟩

theorem laws_markStrokeS (xs : List Stk) (base : Nat) (A : Option Addr) (c : Nat) (k : Int) (w : World) (hown : w.ownsRow base 46 2 (.slice A xs.length c) xs.length (flat stkC xs)) (hn : xs.length ≤ 1048576) (hk0 : 0 ≤ k) (hk1 : k ≤ 1000000000000) :
    Calls Tryd.prog 14 #[.slice A xs.length c, .int .i64 k] w fun e w' => e = .returned (.int .i64 (k + 2 * xs.length)) ∧ w'.ownsRow base 46 2 (.slice A xs.length c) xs.length (flat stkC (marksStk k xs.length)) ∧ Wrote w w' (.slice A xs.length c) := by
  go_enter Tryd.func14, Tryd.ntmps14
  go_wp2
  go_loopw [1, 5] (fun q i wr => ∃ j : Nat, j ≤ xs.length ∧ i = .int .i64 j ∧ q = .int .i64 (k + 2 * (j : Int)) ∧ wr.ownsRow base 46 2 (.slice A xs.length c) xs.length (flat stkC ((marksStk k xs.length).take j) ++ flat stkC (xs.drop j)) ∧ Wrote w wr (.slice A xs.length c)) (fun _ i _ => xs.length - (intOf i).toNat)
  case atStart => exact ⟨0, Nat.zero_le _, rfl, by simp, by simpa [flat] using hown, ⟨⟨rfl, rfl, rfl, Nat.le_refl _, fun _ _ _ => rfl⟩, rfl⟩⟩
  case round =>
    obtain ⟨j, hj, rfl, rfl, hown', hwr⟩ := hrel
    by_cases hlt : j < xs.length
    · obtain ⟨b, c', hv, hb, hbs, _, _⟩ := own_head hown' (by omega)
      injection hv with hA _ hc
      subst hA hc
      have hz : (flat stkC (xs.drop j)).length = ((marksStk k xs.length).length - j) * 2 := by rw [flat_length stkC_len, marksStk_len]; simp
      have hlm : j < (marksStk k xs.length).length := by rw [marksStk_len]; exact hlt
      obtain ⟨⟨u, hcA⟩, hfA⟩ := own_room stkC_len hown' hlm hz 0 (by decide)
      obtain ⟨⟨u', hcB⟩, hfB⟩ := own_room stkC_len hown' hlm hz 1 (by decide)
      rw [Nat.add_zero] at hcA hfA
      have hput := (own_put stkC_len hown' (marksStk_at k hlt) hz).1
      have hdr : (flat stkC (xs.drop j)).drop 2 = flat stkC (xs.drop (j + 1)) := by
        have := flat_drop stkC_len (xs.drop j) 1
        rw [List.drop_drop] at this
        simpa using this
      rw [hdr] at hput
      have HP := Lib.hid hput
      have hw2 := wrote_trans hwr (wrote_trans (wrote_set wr b (j * 2) xs.length c (.int .i64 (k + 2 * (j : Int)))) (wrote_set _ b (j * 2 + 1) xs.length c (.int .i64 (k + 2 * (j : Int) + 1))))
      clear hz hlm hput hdr hown'
      go_wp2
      go_roundw
      case rel => exact ⟨j + 1, by omega, by go_num, by go_num, HP.out, hw2⟩
      case measure => simp [intOf]; omega
    · obtain rfl : j = xs.length := by omega
      rw [List.take_of_length_le (by rw [marksStk_len]; exact Nat.le_refl _), List.drop_eq_nil_of_le (Nat.le_refl _), flat_nil, List.append_nil] at hown'
      go_wp2
      go_ret
      exact ⟨rfl, hown', hwr⟩

theorem laws_heldStrokeS (n : Nat) (k0 : Int) (A : Option Addr) (c : Nat) (w : World) (hw : Seg w 0 w.heap.size A (flat stkC (marksStk k0 n))) (hn : n ≤ 1048576) (hk0 : 0 ≤ k0) (hk1 : k0 ≤ 1000000000000) :
    Calls Tryd.prog 15 #[.slice A n c, .int .i64 k0] w fun e w' => e = .returned (.int .i64 (k0 + 2 * n)) ∧ w = w' := by
  go_enter Tryd.func15, Tryd.ntmps15
  go_wp2
  go_loop [1, 5] (fun q i => ∃ j : Nat, j ≤ n ∧ i = .int .i64 j ∧ q = .int .i64 (k0 + 2 * (j : Int))) (fun _ i => n - (intOf i).toNat)
  case atStart => exact ⟨0, Nat.zero_le _, rfl, by simp⟩
  case round =>
    obtain ⟨j, hj, rfl, rfl⟩ := hrel
    by_cases hlt : j < n
    · obtain ⟨g, o, rfl, hg, _, _, hc1, hc2⟩ := hw.stk (marksStk_at k0 hlt)
      simp only [markStk] at hc1 hc2
      go_wp2
      go_round
      case rel => exact ⟨j + 1, by omega, by go_num, by go_num⟩
      case measure => simp [intOf]; omega
    · obtain rfl : j = n := by omega
      go_wp2
      go_ret
      exact ⟨rfl, rfl⟩
end Go.Proofs.YtlpagnbfjechhaaDoor
