/-
  Walks of the laws FnWordBare, FnWordVowels, FnPosition.
-/
import Derived.Test.YtnoffpicjhcpfaaWordsP
import Derived.Test.YtnoffpicjhcpfaaWords3
import Derived.Test.YtnoffpicjhcpfaaDrawW
import Derived.Test.YtnoffpicjhcpfaaOpen
namespace Go.Proofs.Ytnoffpicjhcpfaa
open Go.RowKit
set_option linter.unusedSimpArgs false
set_option linter.unusedVariables false

def SomeStr (N : Nat) (w : World) (e : Ending) (w' : World) : Prop := ∃ s : Str, e = .returned (.string s) ∧ s.size ≤ N ∧ Below w.heap.size w w'
theorem spec_DrawWordBare (l : List UInt8) (A : Option Addr) (c : Nat) (w : World) (hw : Seg w 0 w.heap.size A (flat byteC l)) (hc : l.length ≤ c) (hm : c ≤ maxLen) :
    Calls Try.prog 15 #[.slice A l.length c] w (SomeStr 100 w) := by
  go_enter Try.func15, Try.ntmps15
  go_wp2_with fail
  refine (spec_l6Open l A c _ hw hc hm).mono ?_
  rintro e w1 ⟨rfl, hr, hb, _⟩
  go_wp2_with fail
  refine (spec_l91Word _ 0 _ ⟨0, Nat.le_refl _, hr⟩ (by decide)).mono ?_
  rintro e w2 ⟨s, rfl, hs, d⟩
  have hb2 := d.bel hb (Nat.le_refl _)
  go_wp2
  go_ret
  exact ⟨s, rfl, hs, hb2⟩
theorem spec_DrawWordVowels (l : List UInt8) (A : Option Addr) (c : Nat) (w : World) (hw : Seg w 0 w.heap.size A (flat byteC l)) (hc : l.length ≤ c) (hm : c ≤ maxLen) :
    Calls Try.prog 20 #[.slice A l.length c] w (SomeStr 100 w) := by
  go_enter Try.func20, Try.ntmps20
  go_wp2_with fail
  refine (spec_l6Open l A c _ hw hc hm).mono ?_
  rintro e w1 ⟨rfl, hr, hb, _⟩
  go_wp2_with fail
  refine (spec_l91Word _ 0 _ ⟨0, Nat.le_refl _, hr⟩ (by decide)).mono ?_
  rintro e w2 ⟨s, rfl, hs, d⟩
  have hb2 := d.bel hb (Nat.le_refl _)
  go_wp2
  go_ret
  exact ⟨s, rfl, hs, hb2⟩
theorem spec_DrawWordPosition (l : List UInt8) (A : Option Addr) (c : Nat) (w : World) (hw : Seg w 0 w.heap.size A (flat byteC l)) (hc : l.length ≤ c) (hm : c ≤ maxLen) :
    Calls Try.prog 39 #[.slice A l.length c] w (SomeStr 100 w) := by
  go_enter Try.func39, Try.ntmps39
  go_wp2_with fail
  refine (spec_l6Open l A c _ hw hc hm).mono ?_
  rintro e w1 ⟨rfl, hr, hb, _⟩
  go_wp2_with fail
  refine (spec_l91Word _ 0 _ ⟨0, Nat.le_refl _, hr⟩ (by decide)).mono ?_
  rintro e w2 ⟨s, rfl, hs, d⟩
  have hb2 := d.bel hb (Nat.le_refl _)
  go_wp2
  go_ret
  exact ⟨s, rfl, hs, hb2⟩

theorem walk_FnWordBare (r : Row UInt8) (w : World) (h : RowOk w byteC (fun _ => True) r) : Calls Try.prog 3 #[rowV r] w fun e w' => e = .returned (.bool true) ∧ Below w.heap.size w w' := by
  obtain ⟨A, c, l⟩ := r
  obtain ⟨hw, _, hc, hm⟩ := h
  simp only at hw hc hm
  have hm' : c ≤ 9223372036854775807 := hm
  show Calls Try.prog 3 #[.slice A l.length c] w _
  by_cases hl : (1048576 : Int) < l.length
  · go_enter Try.func3, Try.ntmps3
    go_wp2
    go_ret
    exact ⟨rfl, Below.refl _ _⟩
  go_enter Try.func3, Try.ntmps3
  go_wp2_with fail
  refine (spec_DrawWordBare l A c _ hw hc hm).mono ?_
  rintro e w1 ⟨s, rfl, hs, b1⟩
  have hsm : s.size ≤ maxLen := by unfold maxLen; omega
  go_wp2_with fail
  refine (impl_WordBare s _ hsm).mono ?_
  rintro e w2 ⟨rfl, b2⟩
  have b12 := bel_trans b1 b2
  go_wp2_with fail
  refine (spec_WordBare s _ hsm).mono ?_
  rintro e w3 ⟨rfl, n, rfl⟩
  have b3 := Below_drewN b12 n
  generalize w2.drewN n = w3 at *
  have hvb := vow_bare s
  have hbl := both_len s
  cases hb : bareOf s with
  | nil =>
    clear hvb
    go_wp2
    go_ret
    exact ⟨rfl, b3⟩
  | cons x t =>
    have hok := bare_ok (s := s) (by rw [hb]; simp)
    rw [hb] at hvb hok hbl
    have HV := Lib.hid hvb
    have HO := Lib.hid hok
    have hml : (⟨(x :: t).toArray⟩ : ByteArray).size ≤ maxLen := by rw [size_mk]; simp [maxLen] at hbl ⊢; omega
    have hbb := bare_len ⟨(x :: t).toArray⟩
    rw [size_mk] at hbb
    simp only [List.length_cons] at hbb hbl
    generalize hB : bareOf ⟨(x :: t).toArray⟩ = B at *
    generalize hV : vowOf s = V at *
    have HB := Lib.hid hB
    have HVV := Lib.hid hV
    clear hvb hok hb hB hV
    go_wp2_with fail
    refine (impl_WordVowels ⟨(x :: t).toArray⟩ _ hml).mono ?_
    rintro e w4 ⟨rfl, b4⟩
    rw [HV.out]
    go_wp2_with fail
    refine (impl_WordValid ⟨(x :: t).toArray⟩ _ hml).mono ?_
    rintro e w4' ⟨rfl, rfl⟩
    rw [HO.out]
    go_wp2_with fail
    refine (impl_WordBare ⟨(x :: t).toArray⟩ _ hml).mono ?_
    rintro e w5 ⟨rfl, b5⟩
    rw [HB.out]
    go_wp2_with fail
    refine (impl_WordVowels s _ hsm).mono ?_
    rintro e w6 ⟨rfl, b6⟩
    rw [HVV.out]
    have ball := bel_trans b3 (bel_trans b4 (bel_trans b5 b6))
    go_wp2
    go_ret
    exact ⟨ret_bool (by simp; omega), ball⟩

theorem walk_FnWordVowels (r : Row UInt8) (w : World) (h : RowOk w byteC (fun _ => True) r) : Calls Try.prog 4 #[rowV r] w fun e w' => e = .returned (.bool true) ∧ Below w.heap.size w w' := by
  obtain ⟨A, c, l⟩ := r
  obtain ⟨hw, _, hc, hm⟩ := h
  simp only at hw hc hm
  have hm' : c ≤ 9223372036854775807 := hm
  show Calls Try.prog 4 #[.slice A l.length c] w _
  by_cases hl : (1048576 : Int) < l.length
  · go_enter Try.func4, Try.ntmps4
    go_wp2
    go_ret
    exact ⟨rfl, Below.refl _ _⟩
  go_enter Try.func4, Try.ntmps4
  go_wp2_with fail
  refine (spec_DrawWordVowels l A c _ hw hc hm).mono ?_
  rintro e w1 ⟨s, rfl, hs, b1⟩
  have hsm : s.size ≤ maxLen := by unfold maxLen; omega
  go_wp2_with fail
  refine (impl_WordVowels s _ hsm).mono ?_
  rintro e w2 ⟨rfl, b2⟩
  have b3 := bel_trans b1 b2
  go_wp2_with fail
  refine (spec_WordVowels s _ hsm).mono ?_
  rintro e w3 ⟨rfl, rfl⟩
  have hvb := bare_vow s
  have hvl := vow_len s
  cases hb : vowOf s with
  | nil =>
    clear hvb hvl
    go_wp2
    go_ret
    exact ⟨rfl, b3⟩
  | cons x t =>
    have hwd := vow_word (s := s) (by rw [hb]; simp)
    rw [hb] at hvb hvl
    have HB := Lib.hid hb
    have HV := Lib.hid hvb
    have HW := Lib.hid hwd
    simp only [List.length_cons] at hvl
    have hml : (⟨(x :: t).toArray⟩ : ByteArray).size ≤ maxLen := by rw [size_mk]; simp [maxLen]; omega
    have hs12 := (wordOk_size hwd).2
    clear hvb hb hwd
    by_cases h12 : s.size = 12
    · have z : ((s.size : Int) == 12) = true := by simp; omega
      clear h12
      go_wp2_with fail
      refine (impl_WordBare ⟨(x :: t).toArray⟩ _ hml).mono ?_
      rintro e w4 ⟨rfl, b4⟩
      rw [HV.out]
      have ball := bel_trans b3 b4
      go_wp2
      go_ret
      exact ⟨rfl, ball⟩
    · have z : ((s.size : Int) == 12) = false := by simp; omega
      have h11 : s.size ≤ 11 := by omega
      have A1 := Lib.hid (ahead_bare (c := 97) HW.out h11 rfl rfl)
      have A2 := Lib.hid (ahead_vow (c := 97) HW.out h11 rfl rfl)
      have ham : (ahead 97 s).size ≤ maxLen := by rw [ahead_size]; unfold maxLen; omega
      clear h12
      go_wp2_with fail
      refine (impl_WordBare ⟨(x :: t).toArray⟩ _ hml).mono ?_
      rintro e w4 ⟨rfl, b4⟩
      rw [HV.out]
      go_wp2_with fail
      refine (impl_WordBare (ahead 97 s) _ ham).mono ?_
      rintro e w5 ⟨rfl, b5⟩
      rw [A1.out]
      go_wp2_with fail
      refine (impl_WordBare s _ hsm).mono ?_
      rintro e w6 ⟨rfl, b6⟩
      go_wp2_with fail
      refine (impl_WordVowels (ahead 97 s) _ ham).mono ?_
      rintro e w7 ⟨rfl, b7⟩
      rw [A2.out, HB.out]
      have ball := bel_trans b3 (bel_trans b4 (bel_trans b5 (bel_trans b6 b7)))
      go_wp2
      go_ret
      exact ⟨ret_bool (by rw [ByteArray.toList_eq]; simp [ByteArray.data_append]), ball⟩

theorem pos_ahead {s : ByteArray} (hw : wordOk s = true) (hs : s.size ≤ 11) : posOf (ahead 97 s) = 0 ∧ posOf (ahead 101 s) = 1 ∧ posOf (ahead 105 s) = 2 := by
  refine ⟨?_, ?_, ?_⟩ <;> (unfold posOf; rw [ahead_ok hw hs rfl, ahead_vow hw hs rfl rfl]; rfl)
theorem pos_vow {s : ByteArray} (h : vowOf s ≠ []) : posOf ⟨(vowOf s).toArray⟩ = posOf s := by
  unfold posOf
  rw [vow_ok h, vow_word h, vow_vow]
theorem pos_bounds {s : ByteArray} (h : wordOk s = true) : 0 ≤ posOf s := by
  unfold posOf
  rw [if_pos h]
  split
  · decide
  · split
    · decide
    · split <;> decide

theorem walk_FnPosition (r : Row UInt8) (w : World) (h : RowOk w byteC (fun _ => True) r) : Calls Try.prog 10 #[rowV r] w fun e w' => e = .returned (.bool true) ∧ Below w.heap.size w w' := by
  obtain ⟨A, c, l⟩ := r
  obtain ⟨hw, _, hc, hm⟩ := h
  simp only at hw hc hm
  have hm' : c ≤ 9223372036854775807 := hm
  show Calls Try.prog 10 #[.slice A l.length c] w _
  by_cases hl : (1048576 : Int) < l.length
  · go_enter Try.func10, Try.ntmps10
    go_wp2
    go_ret
    exact ⟨rfl, Below.refl _ _⟩
  go_enter Try.func10, Try.ntmps10
  go_wp2_with fail
  refine (spec_DrawWordPosition l A c _ hw hc hm).mono ?_
  rintro e w1 ⟨s, rfl, hs, b1⟩
  have hsm : s.size ≤ maxLen := by unfold maxLen; omega
  go_wp2_with fail
  refine (impl_WordPosition s _ hsm).mono ?_
  rintro e w2 ⟨rfl, b2⟩
  have b3 := bel_trans b1 b2
  go_wp2_with fail
  refine (spec_WordPosition s _ hsm).mono ?_
  rintro e w3 ⟨rfl, rfl⟩
  cases hwd : wordOk s
  · have hp : posOf s = -1 := by unfold posOf; rw [hwd]; rfl
    rw [hp]
    clear hp
    go_wp2
    go_ret
    exact ⟨rfl, b3⟩
  have hp0 := pos_bounds hwd
  have hs12 := (wordOk_size hwd).2
  have HW := Lib.hid hwd
  have hvl := vow_len s
  cases hb : vowOf s with
  | nil =>
    have hp : posOf s = 1 := by unfold posOf; rw [hwd, hb]; rfl
    rw [hp]
    have HB := Lib.hid hb
    clear hp hb hwd hp0 hvl
    by_cases h12 : s.size = 12
    · have z : ((s.size : Int) == 12) = true := by simp; omega
      clear h12
      go_wp2_with fail
      refine (impl_WordVowels s _ hsm).mono ?_
      rintro e w4 ⟨rfl, b4⟩
      rw [HB.out]
      have ball := bel_trans b3 b4
      go_wp2
      go_ret
      exact ⟨rfl, ball⟩
    · have z : ((s.size : Int) == 12) = false := by simp; omega
      have h11 : s.size ≤ 11 := by omega
      obtain ⟨p1, p2, p3⟩ := pos_ahead HW.out h11
      have P1 := Lib.hid p1
      have P2 := Lib.hid p2
      have P3 := Lib.hid p3
      have ham : ∀ c, (ahead c s).size ≤ maxLen := fun c => by rw [ahead_size]; unfold maxLen; omega
      have HAM := Lib.hid ham
      clear h12 p1 p2 p3 ham
      go_wp2_with fail
      refine (impl_WordVowels s _ hsm).mono ?_
      rintro e w4 ⟨rfl, b4⟩
      rw [HB.out]
      go_wp2_with fail
      refine (impl_WordPosition (ahead 97 s) _ (HAM.out _)).mono ?_
      rintro e w5 ⟨rfl, b5⟩
      rw [P1.out]
      go_wp2_with fail
      refine (impl_WordPosition (ahead 101 s) _ (HAM.out _)).mono ?_
      rintro e w6 ⟨rfl, b6⟩
      rw [P2.out]
      go_wp2_with fail
      refine (impl_WordPosition (ahead 105 s) _ (HAM.out _)).mono ?_
      rintro e w7 ⟨rfl, b7⟩
      rw [P3.out]
      have ball := bel_trans b3 (bel_trans b4 (bel_trans b5 (bel_trans b6 b7)))
      go_wp2
      go_ret
      exact ⟨rfl, ball⟩
  | cons x t =>
    have hpv := pos_vow (s := s) (by rw [hb]; simp)
    rw [hb] at hpv hvl
    generalize hP : posOf s = p at *
    have HP := Lib.hid hpv
    have HB := Lib.hid hb
    simp only [List.length_cons] at hvl
    have hml : (⟨(x :: t).toArray⟩ : ByteArray).size ≤ maxLen := by rw [size_mk]; simp [maxLen]; omega
    have zp : decide (p < 0) = false := by simp; omega
    clear hpv hb hwd hP hvl
    by_cases h12 : s.size = 12
    · have z : ((s.size : Int) == 12) = true := by simp; omega
      clear h12
      go_wp2_with fail
      refine (impl_WordVowels s _ hsm).mono ?_
      rintro e w4 ⟨rfl, b4⟩
      rw [HB.out]
      go_wp2_with fail
      refine (impl_WordPosition ⟨(x :: t).toArray⟩ _ hml).mono ?_
      rintro e w4' ⟨rfl, b4'⟩
      rw [HP.out]
      have ball := bel_trans b3 (bel_trans b4 b4')
      go_wp2
      go_ret
      exact ⟨rfl, ball⟩
    · have z : ((s.size : Int) == 12) = false := by simp; omega
      have h11 : s.size ≤ 11 := by omega
      obtain ⟨p1, p2, p3⟩ := pos_ahead HW.out h11
      have P1 := Lib.hid p1
      have P2 := Lib.hid p2
      have P3 := Lib.hid p3
      have ham : ∀ c, (ahead c s).size ≤ maxLen := fun c => by rw [ahead_size]; unfold maxLen; omega
      have HAM := Lib.hid ham
      clear h12 p1 p2 p3 ham
      go_wp2_with fail
      refine (impl_WordVowels s _ hsm).mono ?_
      rintro e w4 ⟨rfl, b4⟩
      rw [HB.out]
      go_wp2_with fail
      refine (impl_WordPosition ⟨(x :: t).toArray⟩ _ hml).mono ?_
      rintro e w4' ⟨rfl, b4'⟩
      rw [HP.out]
      go_wp2_with fail
      refine (impl_WordPosition (ahead 97 s) _ (HAM.out _)).mono ?_
      rintro e w5 ⟨rfl, b5⟩
      rw [P1.out]
      go_wp2_with fail
      refine (impl_WordPosition (ahead 101 s) _ (HAM.out _)).mono ?_
      rintro e w6 ⟨rfl, b6⟩
      rw [P2.out]
      go_wp2_with fail
      refine (impl_WordPosition (ahead 105 s) _ (HAM.out _)).mono ?_
      rintro e w7 ⟨rfl, b7⟩
      rw [P3.out]
      have ball := bel_trans b3 (bel_trans (bel_trans b4 b4') (bel_trans b5 (bel_trans b6 b7)))
      go_wp2
      go_ret
      exact ⟨rfl, ball⟩
end Go.Proofs.Ytnoffpicjhcpfaa
