/-
  Walks of the laws over lists of words.
-/
import Derived.Test.YtllhnopmkeilfaaStrs
import Derived.Test.YtllhnopmkeilfaaOpen
namespace Go.Proofs.Ytllhnopmkeilfaa
open Go.RowKit
set_option linter.unusedSimpArgs false
set_option linter.unusedVariables false

theorem walk_FnExactSpeechValid (r : Row Str) (w : World) (h : RowOk w strC StrOk r) : Calls Try.prog 10 #[rowV r] w fun e w' => e = .returned (.bool true) ∧ Below w.heap.size w w' := by
  obtain ⟨A, c, ws⟩ := r
  obtain ⟨hw, ho, hc, hm⟩ := h
  have hw : Seg w 0 w.heap.size A (strs ws) := by simpa [flat_strC, strs] using hw
  have ho : StrsOk ws := ho
  simp only at hc hm
  have hn : ws.length ≤ maxLen := by omega
  show Calls Try.prog 10 #[.slice A ws.length c] w _
  go_enter Try.func10, Try.ntmps10
  go_wp2_with fail
  refine (laws_szStringS ws A c _ _ hw ho hn (by decide) (by decide)).mono ?_
  rintro e w' ⟨⟨z, rfl, hz⟩, rfl⟩
  rcases hz with rfl | ⟨hz0, hz1⟩
  · go_wp2
    go_ret
    exact ⟨rfl, Below.refl _ _⟩
  have hl : ws.length ≤ 1048576 := by
    have h5 : sumTo (szStr ws) 0 ≤ sumTo (szStr ws) ws.length := sumTo_mono (fun i => by simp [szStr]) (Nat.zero_le _)
    simp [sumTo] at h5
    omega
  clear hz1
  go_wp2_with fail
  refine (laws_toStringS ws A c _ hw hl).mono ?_
  rintro e w1 ⟨A1, rfl, s1, b1⟩
  have hw1 := (hw.below b1).top
  go_wp2_with fail
  refine (spec_SpeechValid ws A1 _ _ (s1.mono (Nat.zero_le _) (Nat.le_refl _)) ho hn).mono ?_
  rintro e w1' ⟨rfl, rfl⟩
  go_wp2_with fail
  refine (laws_toStringS ws A c _ hw1 hl).mono ?_
  rintro e w2 ⟨A2, rfl, s2, b2⟩
  have hw2 := (hw1.below b2).top
  have s2' := s2.mono (Nat.zero_le _) (Nat.le_refl _)
  go_wp2_with fail
  refine (impl_SpeechValid ws A2 _ _ s2' ho hn).mono ?_
  rintro e w2' ⟨rfl, rfl⟩
  go_wp2_with fail
  refine (laws_toStringS ws A c _ hw2 hl).mono ?_
  rintro e w3 ⟨A3, rfl, s3, b3⟩
  go_wp2_with fail
  refine (laws_eqStringS ws A2 A3 _ _ _ (s2'.below b3 |>.top) (s3.mono (Nat.zero_le _) (Nat.le_refl _)) hl).mono ?_
  rintro e w4 ⟨rfl, n, rfl⟩
  go_wp2
  go_ret
  exact ⟨rfl, Below_drewN (bel_trans (bel_trans b1 b2) b3) n⟩

theorem walk_FnExactDictionaryValid (r : Row Str) (w : World) (h : RowOk w strC StrOk r) : Calls Try.prog 11 #[rowV r] w fun e w' => e = .returned (.bool true) ∧ Below w.heap.size w w' := by
  obtain ⟨A, c, ws⟩ := r
  obtain ⟨hw, ho, hc, hm⟩ := h
  have hw : Seg w 0 w.heap.size A (strs ws) := by simpa [flat_strC, strs] using hw
  have ho : StrsOk ws := ho
  simp only at hc hm
  have hn : ws.length ≤ maxLen := by omega
  show Calls Try.prog 11 #[.slice A ws.length c] w _
  go_enter Try.func11, Try.ntmps11
  go_wp2_with fail
  refine (laws_szStringS ws A c _ _ hw ho hn (by decide) (by decide)).mono ?_
  rintro e w' ⟨⟨z, rfl, hz⟩, rfl⟩
  rcases hz with rfl | ⟨hz0, hz1⟩
  · go_wp2
    go_ret
    exact ⟨rfl, Below.refl _ _⟩
  have hl : ws.length ≤ 1048576 := by
    have h5 : sumTo (szStr ws) 0 ≤ sumTo (szStr ws) ws.length := sumTo_mono (fun i => by simp [szStr]) (Nat.zero_le _)
    simp [sumTo] at h5
    omega
  clear hz1
  go_wp2_with fail
  refine (laws_toStringS ws A c _ hw hl).mono ?_
  rintro e w1 ⟨A1, rfl, s1, b1⟩
  have hw1 := (hw.below b1).top
  go_wp2_with fail
  refine (spec_DictionaryValid ws A1 _ _ (s1.mono (Nat.zero_le _) (Nat.le_refl _)) ho hn).mono ?_
  rintro e w1' ⟨rfl, n0, rfl⟩
  have hw1 : Seg (w1.drewN n0) 0 (w1.drewN n0).heap.size A (strs ws) := hw1
  go_wp2_with fail
  refine (laws_toStringS ws A c _ hw1 hl).mono ?_
  rintro e w2 ⟨A2, rfl, s2, b2⟩
  have hw2 := (hw1.below b2).top
  have s2' := s2.mono (Nat.zero_le _) (Nat.le_refl _)
  go_wp2_with fail
  refine (impl_DictionaryValid ws A2 _ _ s2' ho hn (Nat.le_refl _) hn).mono ?_
  rintro e w2' ⟨rfl, rfl⟩
  go_wp2_with fail
  refine (laws_toStringS ws A c _ hw2 hl).mono ?_
  rintro e w3 ⟨A3, rfl, s3, b3⟩
  go_wp2_with fail
  refine (laws_eqStringS ws A2 A3 _ _ _ (s2'.below b3 |>.top) (s3.mono (Nat.zero_le _) (Nat.le_refl _)) hl).mono ?_
  rintro e w4 ⟨rfl, n, rfl⟩
  go_wp2
  go_ret
  exact ⟨rfl, Below_drewN (bel_trans (bel_trans (Below_drewN b1 n0) b2) b3) n⟩

end Go.Proofs.Ytllhnopmkeilfaa
