/-
  Contracts of WordPosition and OutlineMany (both texts), and of the checks and copies of a stroke.
-/
import Derived.Test.YtllhnopmkeilfaaWords2
namespace Go.Proofs.Ytllhnopmkeilfaa
open Go.RowKit
set_option linter.unusedSimpArgs false
set_option linter.unusedVariables false

/-- the position of a word -/
def posOf (s : ByteArray) : Int :=
  if wordOk s then
    match vowOf s with
    | [] => 1
    | c :: _ => if c = 97 ∨ c = 111 then 0 else if c = 101 then 1 else 2
  else -1
/-- how many outlines have n strokes -/
def manyTo : Nat → Int
  | 0 => 1
  | 1 => 24
  | k + 2 => manyTo (k + 1) * 18
def manyOf (n : Int) : Int := if 0 ≤ n ∧ n ≤ 8 then manyTo n.toNat else -1
def stkOk (d s : Int) : Bool := decide (0 ≤ d) && decide (d ≤ 7) && (decide (1 ≤ s) && decide (s ≤ 3))


theorem pos_first {s : ByteArray} {c : UInt8} {l : List UInt8} (hv : wordOk s = true) (hw : vowOf s = c :: l) :
    posOf s = if (c.toNat : Int) = 97 ∨ (c.toNat : Int) = 111 then 0 else if (c.toNat : Int) = 101 then 1 else 2 := by
  have h : ∀ n : UInt8, (c = n) ↔ (c.toNat : Int) = (n.toNat : Int) := fun n => by rw [← UInt8.toNat_inj]; omega
  simp only [posOf, hv, hw, if_true, h]
  rfl

theorem impl_WordPosition (s : ByteArray) (w : World) (hs : s.size ≤ maxLen) :
    Calls Try.prog 41 #[.string s] w fun e w' => e = .returned (.int .i64 (posOf s)) ∧ Below w.heap.size w w' := by
  cases hv : wordOk s
  · go_enter Try.func41, Try.ntmps41
    go_wp2_with (first | (go_at_call 19; refine (impl_WordValid _ _ hs).mono ?_; rintro e w' ⟨rfl, rfl⟩; rw [hv]))
    go_ret
    exact ⟨by simp [posOf, hv], Below.refl _ _⟩
  cases hw : vowOf s with
  | nil =>
    go_enter Try.func41, Try.ntmps41
    go_wp2_with (first | (go_at_call 19; refine (impl_WordValid _ _ hs).mono ?_; rintro e w' ⟨rfl, rfl⟩; rw [hv]) | (go_at_call 23; refine (impl_WordVowels _ _ hs).mono ?_; rintro e w1 ⟨rfl, hb1⟩; rw [hw]))
    go_ret
    exact ⟨by simp [posOf, hv, hw], hb1⟩
  | cons c l =>
    have hp := Lib.hid (pos_first hv hw)
    have key : ∀ h, ((⟨(c :: l).toArray⟩ : ByteArray)[0]'h).toNat = c.toNat := fun _ => rfl
    go_enter Try.func41, Try.ntmps41
    go_wp2_with (first | (go_at_call 19; refine (impl_WordValid _ _ hs).mono ?_; rintro e w' ⟨rfl, rfl⟩; rw [hv]) | (go_at_call 23; refine (impl_WordVowels _ _ hs).mono ?_; rintro e w1 ⟨rfl, hb1⟩; rw [hw]))
    all_goals
      go_ret
      refine ⟨ret_int ?_, hb1⟩
      rw [hp.out]
      simp only [key, beq_iff_eq, beq_eq_false_iff_ne, ne_eq] at *
      simp [*]

theorem spec_WordPosition (s : ByteArray) (w : World) (hs : s.size ≤ maxLen) :
    Calls Try.prog 40 #[.string s] w fun e w' => e = .returned (.int .i64 (posOf s)) ∧ w = w' := by
  cases hv : wordOk s
  · go_enter Try.func40, Try.ntmps40
    go_wp2_with (first | (go_at_call 18; refine (spec_WordValid _ _ hs).mono ?_; rintro e w' ⟨rfl, rfl⟩; rw [hv]))
    go_ret
    exact ⟨by simp [posOf, hv], rfl⟩
  cases hw : vowOf s with
  | nil =>
    go_enter Try.func40, Try.ntmps40
    go_wp2_with (first | (go_at_call 18; refine (spec_WordValid _ _ hs).mono ?_; rintro e w' ⟨rfl, rfl⟩; rw [hv]) | (go_at_call 22; refine (spec_WordVowels _ _ hs).mono ?_; rintro e w1 ⟨rfl, rfl⟩; rw [hw]))
    go_ret
    exact ⟨by simp [posOf, hv, hw], rfl⟩
  | cons c l =>
    have hp := Lib.hid (pos_first hv hw)
    have key : ∀ h, ((⟨(c :: l).toArray⟩ : ByteArray)[0]'h).toNat = c.toNat := fun _ => rfl
    go_enter Try.func40, Try.ntmps40
    go_wp2_with (first | (go_at_call 18; refine (spec_WordValid _ _ hs).mono ?_; rintro e w' ⟨rfl, rfl⟩; rw [hv]) | (go_at_call 22; refine (spec_WordVowels _ _ hs).mono ?_; rintro e w1 ⟨rfl, rfl⟩; rw [hw]))
    all_goals
      go_ret
      refine ⟨ret_int ?_, rfl⟩
      rw [hp.out]
      simp only [key, beq_iff_eq, beq_eq_false_iff_ne, ne_eq] at *
      simp [*]

theorem manyTo_le (k : Nat) (h : k ≤ 8) : 1 ≤ manyTo k ∧ manyTo k ≤ 24 * 18 ^ 7 := by
  have : ∀ k ≤ 8, 1 ≤ manyTo k ∧ manyTo k ≤ 24 * 18 ^ 7 := by decide
  exact this k h

theorem impl_OutlineMany (n : Int) (w : World) :
    Calls Try.prog 21 #[.int .i64 n] w fun e w' => e = .returned (.int .i64 (manyOf n)) ∧ w = w' := by
  by_cases h1 : n < 0
  · go_enter Try.func21, Try.ntmps21
    go_wp2
    go_ret
    exact ⟨by rw [manyOf, if_neg (by omega)]; rfl, rfl⟩
  by_cases h2 : 8 < n
  · go_enter Try.func21, Try.ntmps21
    go_wp2
    go_ret
    exact ⟨by rw [manyOf, if_neg (by omega)]; rfl, rfl⟩
  by_cases h3 : n = 0
  · subst h3
    go_enter Try.func21, Try.ntmps21
    go_wp2
    go_ret
    exact ⟨rfl, rfl⟩
  go_enter Try.func21, Try.ntmps21
  go_wp2
  go_loop [3, 14] (fun v i => ∃ k : Nat, (k : Int) ≤ n - 1 ∧ i = .int .i64 k ∧ v = .int .i64 (manyTo (k + 1))) (fun _ i => (n - 1).toNat - (intOf i).toNat)
  case atStart => exact ⟨0, by omega, rfl, rfl⟩
  case round =>
    obtain ⟨k, hk, rfl, rfl⟩ := hrel
    have hm := manyTo_le (k + 1) (by omega)
    by_cases hlt : (k : Int) < n - 1
    · go_wp2
      go_round
      case rel => exact ⟨k + 1, by omega, by go_num, by go_num⟩
      case measure => simp [intOf]; omega
    · go_wp2
      go_ret
      have e : n.toNat = k + 1 := by omega
      exact ⟨ret_int (by rw [manyOf, if_pos (by omega), e]), rfl⟩

theorem spec_OutlineMany (n : Int) (w : World) :
    Calls Try.prog 20 #[.int .i64 n] w fun e w' => e = .returned (.int .i64 (manyOf n)) ∧ w = w' := by
  by_cases h1 : 0 ≤ n ∧ n ≤ 8
  · have hb : (decide (0 ≤ n) && decide (n ≤ 8)) = true := by simp [h1]
    obtain ⟨h1, h2⟩ := h1
    go_enter Try.func20, Try.ntmps20
    go_wp2_with (first | (go_at_call 48; refine (spec_l6In _ _ _ _).mono ?_; rintro e w' ⟨rfl, rfl⟩; rw [hb]))
    go_loop [3, 4] (fun v i => ∃ k : Nat, (k : Int) ≤ n ∧ i = .int .i64 k ∧ v = .int .i64 (manyTo k)) (fun _ i => n.toNat - (intOf i).toNat)
    case atStart => exact ⟨0, by omega, rfl, rfl⟩
    case round =>
      obtain ⟨k, hk, rfl, rfl⟩ := hrel
      have hm := manyTo_le k (by omega)
      by_cases hlt : (k : Int) < n
      · rcases k with _ | k
        · go_wp2
          go_round
          case rel => exact ⟨1, by omega, by go_num, by rfl⟩
          case measure => simp [intOf]; omega
        · go_wp2
          go_round
          case rel => exact ⟨k + 1 + 1, by omega, by go_num, by go_num⟩
          case measure => simp [intOf]; omega
      · go_wp2
        go_ret
        have e : n.toNat = k := by omega
        exact ⟨ret_int (by rw [manyOf, if_pos (by omega), e]), rfl⟩
  · have hb : (decide (0 ≤ n) && decide (n ≤ 8)) = false := by simp; omega
    go_enter Try.func20, Try.ntmps20
    go_wp2_with (first | (go_at_call 48; refine (spec_l6In _ _ _ _).mono ?_; rintro e w' ⟨rfl, rfl⟩; rw [hb]))
    go_ret
    exact ⟨by rw [manyOf, if_neg (by omega)]; rfl, rfl⟩
end Go.Proofs.Ytllhnopmkeilfaa
