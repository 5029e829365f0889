/-
  Contracts of the vowels, WordVowels, WordBare, WordPosition (both texts).
-/
import Derived.Test.YtbcbpcidfcjibaaMem
import Derived.Test.YtbcbpcidfcjibaaWords1
import Derived.Lib.Bytealg
import Derived.Deep.QuietTactic
import Derived.BigQuiet
namespace Go.Proofs.Ytbcbpcidfcjibaa
open Go.RowKit
set_option linter.unusedSimpArgs false
set_option linter.unusedVariables false

theorem idx_vowels (c : UInt8) : decide (0 ≤ Lib.indexByte [97, 101, 105, 111, 117] c) = vowel c := by
  have : ∀ n : Fin 256, decide (0 ≤ Lib.indexByte [97, 101, 105, 111, 117] (UInt8.ofNat n.1)) = vowel (UInt8.ofNat n.1) := by decide +kernel
  have h := this ⟨c.toNat, c.toNat_lt⟩
  simpa using h

set_option maxRecDepth 100000 in
set_option maxHeartbeats 400000 in
theorem strings_IndexByte (s : ByteArray) (c : Int) (w : World) :
    Calls Try.prog 40 #[.string s, .int .u8 c] w fun e w' => e = .returned (.int .i64 (Lib.indexByte s.data.toList c.toNat.toUInt8)) ∧ w = w' := by
  go_enter Try.func40, Try.ntmps40
  go_wp2
  rw [run_callFunc_extern Try.func56 (by kernel_rfl) (by kernel_rfl) (by kernel_rfl) (e := Extern.BytealgIndexByte.indexByte) (by kernel_rfl), Lib.run_indexByteString]
  simp only [Result.andThen]
  rw [Oper.upon_value]
  go_wp2
  go_ret
  exact ⟨rfl, rfl⟩

set_option maxHeartbeats 400000 in
theorem impl_isVowel (c : UInt8) (w : World) :
    Calls Try.prog 25 #[.int .u8 c.toNat] w fun e w' => e = .returned (.bool (vowel c)) ∧ w = w' := by
  have hv := Lib.hid (idx_vowels c)
  go_enter Try.func25, Try.ntmps25
  go_wp2_with (go_at_call 40; refine (strings_IndexByte _ _ _).mono ?_; rintro e w' ⟨rfl, rfl⟩)
  go_ret
  exact ⟨ret_bool (by have := hv.out; simpa using this), rfl⟩

theorem vowel_cases (c : UInt8) : vowel c = (decide ((c.toNat : Int) = 97) || decide ((c.toNat : Int) = 101) || decide ((c.toNat : Int) = 105) || decide ((c.toNat : Int) = 111) || decide ((c.toNat : Int) = 117)) := by
  unfold vowel
  rw [Bool.eq_iff_iff]
  simp [← UInt8.toNat_inj]
  omega

set_option maxHeartbeats 400000 in
theorem spec_l2Vowel (c : UInt8) (w : World) :
    Calls Try.prog 47 #[.int .u8 c.toNat] w fun e w' => e = .returned (.bool (vowel c)) ∧ w = w' := by
  have hv := Lib.hid (vowel_cases c)
  by_cases h1 : ((c.toNat : Int) == 97) = true
  · go_enter Try.func47, Try.ntmps47
    go_wp2
    go_ret
    exact ⟨ret_bool (by rw [hv.out]; simp at h1; simp [h1]), rfl⟩
  rw [Bool.not_eq_true] at h1
  by_cases h2 : ((c.toNat : Int) == 101) = true
  · go_enter Try.func47, Try.ntmps47
    go_wp2
    go_ret
    exact ⟨ret_bool (by rw [hv.out]; simp at h2; simp [h2]), rfl⟩
  rw [Bool.not_eq_true] at h2
  by_cases h3 : ((c.toNat : Int) == 105) = true
  · go_enter Try.func47, Try.ntmps47
    go_wp2
    go_ret
    exact ⟨ret_bool (by rw [hv.out]; simp at h3; simp [h3]), rfl⟩
  rw [Bool.not_eq_true] at h3
  by_cases h4 : ((c.toNat : Int) == 111) = true
  · go_enter Try.func47, Try.ntmps47
    go_wp2
    go_ret
    exact ⟨ret_bool (by rw [hv.out]; simp at h4; simp [h4]), rfl⟩
  rw [Bool.not_eq_true] at h4
  by_cases h5 : ((c.toNat : Int) == 117) = true
  · go_enter Try.func47, Try.ntmps47
    go_wp2
    go_ret
    exact ⟨ret_bool (by rw [hv.out]; simp at h5; simp [h5]), rfl⟩
  rw [Bool.not_eq_true] at h5
  go_enter Try.func47, Try.ntmps47
  go_wp2
  go_ret
  exact ⟨ret_bool (by rw [hv.out]; simp at h1 h2 h3 h4 h5; simp [h1, h2, h3, h4, h5]), rfl⟩

theorem info_u8 : (Try.prog.info? 5).map (fun i => (i.zero, i.size, i.bytes)) = some (some (.int .u8 0), 1, 1) := by kernel_rfl

theorem impl_isVowel_of (c : UInt8) (b : Bool) (w : World) (h : vowel c = b) :
    Calls Try.prog 25 #[.int .u8 c.toNat] w fun e w' => e = .returned (.bool b) ∧ w = w' := by
  subst h; exact impl_isVowel c w
theorem spec_l2Vowel_of (c : UInt8) (b : Bool) (w : World) (h : vowel c = b) :
    Calls Try.prog 47 #[.int .u8 c.toNat] w fun e w' => e = .returned (.bool b) ∧ w = w' := by
  subst h; exact spec_l2Vowel c w
theorem bare_vowel {s : ByteArray} {k : Nat} (h : vowel (byteAt s k) = true) : bareAt s k = false := by simp [bareAt, h]

set_option maxHeartbeats 1000000 in
theorem impl_WordBare (s : ByteArray) (w : World) (hs : s.size ≤ maxLen) :
    Calls Try.prog 8 #[.string s] w fun e w' => e = .returned (.string ⟨(bareOf s).toArray⟩) ∧ Below w.heap.size w w' := by
  by_cases hw : wordOk s = true
  · have hsz := wordOk_size hw
    have hvo : Hid (bareOf s = bareTo s s.size) := by simp [Hid, bareOf, hw]
    go_enter Try.func8, Try.ntmps8
    go_wp2_with (go_at_call 24; refine (impl_WordValid _ _ hs).mono ?_; rintro e w' ⟨rfl, rfl⟩)
    go_loopw [3, 11] (fun v i wr => ∃ k : Nat, k ≤ s.size ∧ i = .int .i64 k ∧ wr.ownsRow w.heap.size 5 1 v (bareTo s k).length ((bareTo s k).map byteCell) ∧ Below w.heap.size w wr) (fun _ i _ => s.size - (intOf i).toNat)
    case atStart => exact ⟨0, Nat.zero_le _, rfl, World.ownsRow_made w #[] 0 (Nat.le_refl _) (by simp [maxLen]) (by simp), (Below.refl _ _).alloc (Nat.le_refl _) _⟩
    case round =>
      obtain ⟨k, hk, rfl, hown, hbel⟩ := hrel
      have hln' : (bareTo s k).length ≤ k := gather_length _ k
      have hB := hbel.size
      by_cases hlt : k < s.size
      · have HB := Lib.hid (byteAt_get s k hlt)
        by_cases hv : vowel s[k] = true
        · have R1 : wr.ownsRow w.heap.size 5 1 u3 (bareTo s (k + 1)).length ((bareTo s (k + 1)).map byteCell) := by
            rw [bareTo_no (bare_vowel (by rw [← HB.out]; exact hv))]
            exact hown
          clear hown
          go_wp2
          go_quiet ((go_at_call 25; exact quietly (impl_isVowel_of _ true _ hv)))
          go_wp2
          go_roundw
          case rel => exact ⟨k + 1, by omega, by go_num, R1, Below_drewN hbel _⟩
          case measure => simp [intOf]; omega
        rw [Bool.not_eq_true] at hv
        by_cases h0 : k = 0
        · have HK : Hid (bareAt s k = true) := by rw [Hid, bareAt, ← HB.out, hv]; simp [h0]
          have hd : decide ((0 : Int) < (k : Int)) = false := by simp [h0]
          have hdn : decide (0 < k) = false := by simp [h0]
          have H0 := Lib.hid h0
          clear h0
          go_wp2
          go_quiet ((go_at_call 25; exact quietly (impl_isVowel_of _ false _ hv)))
          go_wp2_with (at_builtin; refine append_one (wr.drewN nq) (by rfl) (.tmp 32) (.tmp 36) 22 (by rfl) (w.heap.size) 5 _ 1 1 Try.underlying22 info_u8 rfl (by decide) (by decide) (u3) _ _ (by rfl) hown #[byteCell s[k]] (by rfl) rfl (by simp [byteCell, Value.oneCell']) (by omega) hB ?_; intro v' w1 hown' hgrow)
          have R1 : w1.ownsRow w.heap.size 5 1 v' (bareTo s (k + 1)).length ((bareTo s (k + 1)).map byteCell) := by
            rw [bareTo_yes HK.out]
            simpa [HB.out] using hown'
          have R2 := own_grown_below (Below_drewN hbel nq) hown hgrow hB
          clear hown' hgrow hown hbel
          go_wp2
          go_roundw
          case rel => exact ⟨k + 1, by omega, by go_num, R1, R2⟩
          case measure => simp [intOf]; omega
        have hk0 : 0 < k := by omega
        have hk1 : 1 ≤ k := by omega
        have hki : (0 : Int) < (k : Int) := by omega
        have hkt : decide ((0 : Int) < (k : Int)) = true := by simpa using hki
        have HB' := Lib.hid (byteAt_get s (k - 1) (by omega))
        have hi1 : k - 1 < s.size := by omega
        have e1 : IntKind.i64.wrap ((k : Int) - 1) = (k : Int) - 1 := IntWalk.i64_in _ (by omega)
        have e2 : (1 : Int) ≤ (k : Int) := by omega
        have e3 : ((k : Int) - 1).toNat = k - 1 := by omega
        have e4 : (k : Int) - 1 < (s.size : Int) := by omega
        by_cases he : ((s[k].toNat : Int) == (s[k - 1].toNat : Int)) = true
        · have R1 : wr.ownsRow w.heap.size 5 1 u3 (bareTo s (k + 1)).length ((bareTo s (k + 1)).map byteCell) := by
            rw [bareTo_no ?_]
            · exact hown
            · simp only [beq_iff_eq, Int.ofNat_inj, UInt8.toNat_inj] at he
              simp [bareAt, ← HB.out, ← HB'.out, h0, he]
          have H0 := Lib.hid h0
          clear hown h0
          go_wp2
          go_quiet ((go_at_call 25; exact quietly (impl_isVowel_of _ false _ hv)))
          clear e1
          go_wp2
          go_roundw
          case rel => exact ⟨k + 1, by omega, by go_num, R1, Below_drewN hbel _⟩
          case measure => simp [intOf]; omega
        · rw [Bool.not_eq_true] at he
          have HK : Hid (bareAt s k = true) := by
            have he' := he
            simp only [beq_eq_false_iff_ne, ne_eq, Int.ofNat_inj, UInt8.toNat_inj] at he'
            simp [Hid, bareAt, ← HB.out, ← HB'.out, hv, he']
          have H0 := Lib.hid h0
          clear h0
          go_wp2
          go_quiet ((go_at_call 25; exact quietly (impl_isVowel_of _ false _ hv)))
          clear e1
          go_wp2_with (at_builtin; refine append_one (wr.drewN nq) (by rfl) (.tmp 32) (.tmp 36) 22 (by rfl) (w.heap.size) 5 _ 1 1 Try.underlying22 info_u8 rfl (by decide) (by decide) (u3) _ _ (by rfl) hown #[byteCell s[k]] (by rfl) rfl (by simp [byteCell, Value.oneCell']) (by omega) hB ?_; intro v' w1 hown' hgrow)
          have R1 : w1.ownsRow w.heap.size 5 1 v' (bareTo s (k + 1)).length ((bareTo s (k + 1)).map byteCell) := by
            rw [bareTo_yes HK.out]
            simpa [HB.out] using hown'
          have R2 := own_grown_below (Below_drewN hbel nq) hown hgrow hB
          clear hown' hgrow hown hbel
          go_wp2
          go_roundw
          case rel => exact ⟨k + 1, by omega, by go_num, R1, R2⟩
          case measure => simp [intOf]; omega
      · obtain rfl : k = s.size := by omega
        obtain ⟨A, c, rfl, _, _⟩ := own_form hown
        have hcv := bytes_string (P := Try.prog) (c := c) Try.underlying22 Try.underlying5 Try.underlying9 (base := 0) (Seg.of_own hown) rfl
        go_wp2
        go_ret
        exact ⟨by rw [hvo.out]; rfl, hbel⟩
  · rw [Bool.not_eq_true] at hw
    have hvo : Hid (bareOf s = []) := by simp [Hid, bareOf, hw]
    go_enter Try.func8, Try.ntmps8
    go_wp2_with (go_at_call 24; refine (impl_WordValid _ _ hs).mono ?_; rintro e w' ⟨rfl, rfl⟩)
    go_ret
    exact ⟨by rw [hvo.out]; rfl, Below.refl _ _⟩

set_option maxHeartbeats 1000000 in
theorem spec_WordBare (s : ByteArray) (w : World) (hs : s.size ≤ maxLen) :
    Calls Try.prog 32 #[.string s] w fun e w' => e = .returned (.string ⟨(bareOf s).toArray⟩) ∧ ∃ n, w' = w.drewN n := by
  by_cases hw : wordOk s = true
  · have hsz := wordOk_size hw
    have hvo : Hid (bareOf s = bareTo s s.size) := by simp [Hid, bareOf, hw]
    go_enter Try.func32, Try.ntmps32
    go_wp2
    go_loopw [3, 4] (fun v i wr => ∃ k : Nat, k ≤ s.size ∧ i = .int .i64 k ∧ v = .string ⟨(bareTo s k).toArray⟩ ∧ ∃ n, wr = w.drewN n) (fun _ i _ => s.size - (intOf i).toNat)
    case atStart => exact ⟨0, Nat.zero_le _, rfl, rfl, 0, rfl⟩
    case round =>
      obtain ⟨k, hk, rfl, rfl, n, rfl⟩ := hrel
      have hln' : (bareTo s k).length ≤ k := gather_length _ k
      by_cases hlt : k < s.size
      · have HB := Lib.hid (byteAt_get s k hlt)
        generalize hwr : w.drewN n = wr
        have HW := Lib.hid hwr
        clear hwr
        by_cases hv : vowel s[k] = true
        · have HK : Hid (bareAt s k = false) := bare_vowel (by rw [← HB.out]; exact hv)
          go_wp2_with (go_at_call 31; refine (spec_WordValid _ _ hs).mono ?_; rintro e w' ⟨rfl, rfl⟩)
          go_quiet ((go_at_call 47; exact quietly (spec_l2Vowel_of _ true _ hv)))
          go_wp2
          go_roundw
          case rel => exact ⟨k + 1, by omega, by go_num, by rw [bareTo_no HK.out], n + nq, by rw [← HW.out, World.drewN_drewN]⟩
          case measure => simp [intOf]; omega
        rw [Bool.not_eq_true] at hv
        by_cases h0 : k = 0
        · have HK : Hid (bareAt s k = true) := by rw [Hid, bareAt, ← HB.out, hv]; simp [h0]
          have hd : ((k : Int) == 0) = true := by simp [h0]
          have H0 := Lib.hid h0
          clear h0
          go_wp2_with (go_at_call 31; refine (spec_WordValid _ _ hs).mono ?_; rintro e w' ⟨rfl, rfl⟩)
          go_quiet ((go_at_call 47; exact quietly (spec_l2Vowel_of _ false _ hv)))
          go_wp2
          go_roundw
          case rel => exact ⟨k + 1, by omega, by go_num, by rw [bareTo_yes HK.out, str_snoc _ _ _ hlt], n + nq, by rw [← HW.out, World.drewN_drewN]⟩
          case measure => simp [intOf]; omega
        have hd : ((k : Int) == 0) = false := by simp [h0]
        have hk0 : 0 < k := by omega
        have hk1 : 1 ≤ k := by omega
        have HB' := Lib.hid (byteAt_get s (k - 1) (by omega))
        have hi1 : k - 1 < s.size := by omega
        have e1 : IntKind.i64.wrap ((k : Int) - 1) = (k : Int) - 1 := IntWalk.i64_in _ (by omega)
        have e2 : (1 : Int) ≤ (k : Int) := by omega
        have e3 : ((k : Int) - 1).toNat = k - 1 := by omega
        have e4 : (k : Int) - 1 < (s.size : Int) := by omega
        by_cases he : ((s[k - 1].toNat : Int) != (s[k].toNat : Int)) = false
        · have HK : Hid (bareAt s k = false) := by
            have he' := he
            simp only [bne_eq_false_iff_eq, Int.ofNat_inj, UInt8.toNat_inj] at he'
            simp [Hid, bareAt, ← HB.out, ← HB'.out, h0, he']
          have H0 := Lib.hid h0
          clear h0
          go_wp2_with (go_at_call 31; refine (spec_WordValid _ _ hs).mono ?_; rintro e w' ⟨rfl, rfl⟩)
          go_quiet ((go_at_call 47; exact quietly (spec_l2Vowel_of _ false _ hv)))
          go_wp2
          go_roundw
          case rel => exact ⟨k + 1, by omega, by go_num, by rw [bareTo_no HK.out], n + nq, by rw [← HW.out, World.drewN_drewN]⟩
          case measure => simp [intOf]; omega
        · rw [Bool.not_eq_false] at he
          have HK : Hid (bareAt s k = true) := by
            have he' := he
            simp only [bne_iff_ne, ne_eq, Int.ofNat_inj, UInt8.toNat_inj] at he'
            simp [Hid, bareAt, ← HB.out, ← HB'.out, hv, h0]
            exact fun h => he' h.symm
          have H0 := Lib.hid h0
          clear h0
          go_wp2_with (go_at_call 31; refine (spec_WordValid _ _ hs).mono ?_; rintro e w' ⟨rfl, rfl⟩)
          go_quiet ((go_at_call 47; exact quietly (spec_l2Vowel_of _ false _ hv)))
          go_wp2
          go_roundw
          case rel => exact ⟨k + 1, by omega, by go_num, by rw [bareTo_yes HK.out, str_snoc _ _ _ hlt], n + nq, by rw [← HW.out, World.drewN_drewN]⟩
          case measure => simp [intOf]; omega
      · obtain rfl : k = s.size := by omega
        go_wp2
        go_ret
        exact ⟨by rw [hvo.out]; rfl, n, rfl⟩
  · rw [Bool.not_eq_true] at hw
    have hvo : Hid (bareOf s = []) := by simp [Hid, bareOf, hw]
    go_enter Try.func32, Try.ntmps32
    go_wp2
    refine wp_loop_rounds 1 ?_
    rw [rounds_succ]
    go_wp2_with (go_at_call 31; refine (spec_WordValid _ _ hs).mono ?_; rintro e w' ⟨rfl, rfl⟩)
    all_goals
      go_ret
      exact ⟨by rw [hvo.out]; rfl, 0, rfl⟩
end Go.Proofs.Ytbcbpcidfcjibaa
