/-
  Contracts of WordValid (both texts) and l6In.
-/
import Derived.Test.YtgddklafeaoleaaProg
import Derived.Test.YtgddklafeaoleaaBase
namespace Go.Proofs.Ytgddklafeaoleaa
open Go.RowKit
set_option linter.unusedSimpArgs false
set_option linter.unusedVariables false

theorem spec_l6In (n lo hi : Int) (w : World) :
    Calls Try.prog 81 #[.int .i64 n, .int .i64 lo, .int .i64 hi] w fun e w' => e = .returned (.bool (decide (lo ≤ n) && decide (n ≤ hi))) ∧ w = w' := by
  by_cases h1 : lo ≤ n
  · by_cases h2 : n ≤ hi
    · go_enter Try.func81, Try.ntmps81
      go_wp2
      go_ret
      exact ⟨by simp [h1, h2], rfl⟩
    · go_enter Try.func81, Try.ntmps81
      go_wp2
      go_ret
      exact ⟨by simp [h1, h2], rfl⟩
  · have h1' : decide (lo ≤ n) = false := by simp [h1]
    go_enter Try.func81, Try.ntmps81
    go_wp2
    go_ret
    exact ⟨by simp [h1], rfl⟩

set_option maxHeartbeats 400000 in
theorem impl_WordValid (s : ByteArray) (w : World) (hs : s.size ≤ maxLen) :
    Calls Try.prog 79 #[.string s] w fun e w' => e = .returned (.bool (wordOk s)) ∧ w = w' := by
  unfold maxLen at hs
  by_cases h1 : (s.size : Int) < 1
  · go_enter Try.func79, Try.ntmps79
    go_wp2
    go_ret
    exact ⟨by simp [wordOk]; omega, rfl⟩
  by_cases h2 : (12 : Int) < s.size
  · go_enter Try.func79, Try.ntmps79
    go_wp2
    go_ret
    exact ⟨by simp [wordOk]; omega, rfl⟩
  go_enter Try.func79, Try.ntmps79
  go_wp2
  go_loop [14] (fun i => ∃ k : Nat, k ≤ s.size ∧ i = .int .i64 k ∧ Hid (lettersOk (s.data.toList.take k) = true)) (fun i => s.size - (intOf i).toNat)
  case atStart => exact ⟨0, Nat.zero_le _, rfl, rfl⟩
  case round =>
    obtain ⟨k, hk, rfl, hl⟩ := hrel
    by_cases hlt : k < s.size
    · have HS := Lib.hid (lettersOk_snoc s k hlt hl.out)
      have HN := Lib.hid (lettersOk_not s k hlt)
      go_wp2
      · go_ret
        exact ⟨ret_bool (by rw [wordOk, HN.out (by simp [letterOk]; omega)]; simp), rfl⟩
      · go_round
        case rel => exact ⟨k + 1, by omega, by go_num, by rw [Hid, HS.out]; simp [letterOk]; omega⟩
        case measure => simp [intOf]; omega
      · go_ret
        exact ⟨ret_bool (by rw [wordOk, HN.out (by simp [letterOk]; omega)]; simp), rfl⟩
    · go_wp2
      go_ret
      have e : s.data.toList.take k = s.data.toList := List.take_of_length_le (by simp; omega)
      have := hl.out
      rw [e] at this
      exact ⟨ret_bool (by simp [wordOk, this]; omega), rfl⟩

set_option maxHeartbeats 400000 in
theorem spec_WordValid (s : ByteArray) (w : World) (hs : s.size ≤ maxLen) :
    Calls Try.prog 76 #[.string s] w fun e w' => e = .returned (.bool (wordOk s)) ∧ w = w' := by
  unfold maxLen at hs
  go_enter Try.func76, Try.ntmps76
  go_wp2
  go_loop [3] (fun i => ∃ k : Nat, k ≤ s.size ∧ i = .int .i64 k ∧ Hid (lettersOk (s.data.toList.take k) = true)) (fun i => s.size - (intOf i).toNat)
  case atStart => exact ⟨0, Nat.zero_le _, rfl, rfl⟩
  case round =>
    obtain ⟨k, hk, rfl, hl⟩ := hrel
    by_cases hlt : k < s.size
    · have HS := Lib.hid (lettersOk_snoc s k hlt hl.out)
      have HN := Lib.hid (lettersOk_not s k hlt)
      go_wp2
      · go_ret
        exact ⟨ret_bool (by rw [wordOk, HN.out (by simp [letterOk]; omega)]; simp), rfl⟩
      · go_round
        case rel => exact ⟨k + 1, by omega, by go_num, by rw [Hid, HS.out]; simp [letterOk]; omega⟩
        case measure => simp [intOf]; omega
      · go_ret
        exact ⟨ret_bool (by rw [wordOk, HN.out (by simp [letterOk]; omega)]; simp), rfl⟩
    · go_wp2_with (go_at_call 81; refine (spec_l6In _ _ _ _).mono ?_; rintro e w' ⟨rfl, rfl⟩)
      go_ret
      have e : s.data.toList.take k = s.data.toList := List.take_of_length_le (by simp; omega)
      have := hl.out
      rw [e] at this
      exact ⟨ret_bool (by rw [wordOk, this, Bool.eq_iff_iff]; simp; omega), rfl⟩
end Go.Proofs.Ytgddklafeaoleaa
