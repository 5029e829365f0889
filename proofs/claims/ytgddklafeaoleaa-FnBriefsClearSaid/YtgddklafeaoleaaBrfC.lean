/-
  Contracts of BriefsClear (both texts).
-/
import Derived.Test.YtgddklafeaoleaaBrfW
import Derived.Test.YtgddklafeaoleaaVaries
namespace Go.Proofs.Ytgddklafeaoleaa
open Go.RowKit Go.Sort
set_option linter.unusedSimpArgs false
set_option linter.unusedVariables false

/-! ### plain -/
theorem strs_oneC (xs : List Str) : ∀ u ∈ strs xs, u.oneCell' = true := by
  intro u hu
  simp only [strs, List.mem_map] at hu
  obtain ⟨x, _, rfl⟩ := hu
  rfl
theorem strs_append (a b : List Str) : strs (a ++ b) = strs a ++ strs b := by simp [strs]
theorem allWords_succ {xs : List Brf} {k : Nat} {x : Brf} (h : xs[k]? = some x) : allWords (pbsOf (xs.take (k + 1))) = allWords (pbsOf (xs.take k)) ++ x.2.2.2 := by
  rw [take_snoc' h, pbsOf_snoc]; simp [allWords]
theorem allWords_len {bs : List PB} (h : bvOk bs = true) : ∀ k, k ≤ bs.length → (allWords (bs.take k)).length ≤ 3 * k
  | 0, _ => by simp [allWords]
  | k + 1, hk => by
    have ih := allWords_len h k (by omega)
    obtain ⟨b, hb⟩ := get_lt (show k < bs.length by omega)
    have h1 := bv_words h (show k < bs.length by omega)
    rw [pbAt_eq hb] at h1
    rw [take_snoc' hb]
    simp only [allWords, List.flatMap_append, List.length_append, List.flatMap_cons, List.flatMap_nil, List.append_nil] at ih ⊢
    omega
theorem allWords_prefix (bs : List PB) (k : Nat) : ∃ r, allWords bs = allWords (bs.take k) ++ r := ⟨allWords (bs.drop k), by rw [allWords, allWords, allWords, ← List.flatMap_append, List.take_append_drop]⟩
theorem hasNo_iff {ws : List Str} {x : Str} : hasNo ws x ws.length = true ↔ x ∉ ws := by
  unfold hasNo
  rw [allTo_iff]
  constructor
  · intro h hx
    obtain ⟨i, hi⟩ := List.getElem?_of_mem hx
    have := h i (List.getElem?_eq_some_iff.1 hi).1
    rw [strAt_eq hi] at this
    simp at this
  · intro h i hi
    obtain ⟨s, hs⟩ := get_lt hi
    rw [strAt_eq hs]
    have : s ≠ x := fun e => h (e ▸ List.mem_of_getElem? hs)
    simp [this]
theorem allDiff_snoc {l : List Str} {x : Str} (h : allDiff l = true) (hx : hasNo l x l.length = true) : allDiff (l ++ [x]) = true := by
  rw [allDiff_iff, List.pairwise_append]
  refine ⟨allDiff_iff.1 h, by simp, fun a ha b hb => ?_⟩
  simp at hb; subst hb
  intro e; subst e
  exact hasNo_iff.1 hx ha
theorem allDiff_no {l r : List Str} {x : Str} (hx : hasNo l x l.length = false) : allDiff (l ++ x :: r) = false := by
  cases h : allDiff (l ++ x :: r)
  · rfl
  · rw [allDiff_iff, List.pairwise_append] at h
    have : x ∉ l := fun hm => h.2.2 x hm x (List.mem_cons_self ..) rfl
    rw [hasNo_iff.2 this] at hx
    cases hx
theorem diff_all (ws : List Str) : ∀ n, (diffTo ws n = n ↔ allTo (fun k => hasNo ws (strAt ws k) k) n = true)
  | 0 => by simp [diffTo, sumTo, allTo]
  | n + 1 => by
    have ih := diff_all ws n
    have hl := diffTo_le ws n
    have e : diffTo ws (n + 1) = diffTo ws n + diffAt ws n := rfl
    rw [e, allTo, Bool.and_eq_true, ← ih, diffAt]
    cases hasNo ws (strAt ws n) n <;> simp <;> omega
theorem diff_eq (ws : List Str) : (diffTo ws ws.length == (ws.length : Int)) = allDiff ws := by
  rw [Bool.eq_iff_iff, beq_iff_eq]
  exact diff_all ws ws.length

/-! ### walks -/
set_option maxRecDepth 100000 in
set_option maxHeartbeats 1000000 in
theorem spec_BriefsClear (xs : List Brf) (A : Option Addr) (c : Nat) (w : World) (hw : Seg w 0 w.heap.size A (flat brfC xs)) (ho : BrfsAt w xs) (hn : xs.length ≤ maxLen) :
    Calls Try.prog 19 #[.slice A xs.length c] w fun e w' => e = .returned (.bool (clOk (pbsOf xs))) ∧ Below w.heap.size w w' := by
  have hn' : xs.length ≤ 9223372036854775807 := hn
  have own0 : (w.alloc (.cells #[] 9)).ownsRow w.heap.size 9 1 (.slice (some ⟨w.heap.size, 0, none⟩) 0 0) 0 (strs []) := World.ownsRow_made w #[] 0 (Nat.le_refl _) (by simp [maxLen]) (by simp [strs])
  have bA := bel_alloc (Below.refl w.heap.size w) (.cells #[] 9)
  cases hv : bvOk (pbsOf xs)
  · have HO : Hid (clOk (pbsOf xs) = false) := by rw [Hid, clOk, hv]; rfl
    have hs1 := (hw.below bA).top
    have ho1 := ho.below bA
    clear own0
    by_cases h0 : (0 : Int) < (xs.length : Int)
    · have h0d : decide ((0 : Int) < (xs.length : Int)) = true := decide_eq_true h0
      have h0n : 0 < xs.length := by omega
      have h0dn : decide (0 < xs.length) = true := decide_eq_true h0n
      go_enter Try.func19, Try.ntmps19
      go_wp2
      refine wp_loop_rounds 1 ?_
      rw [rounds_succ]
      go_wp2_with fail
      refine (spec_BriefsValid xs A c _ hs1 ho1 hn).mono ?_
      rintro e w1 ⟨rfl, b1⟩
      rw [hv]
      have b01 := bel_trans bA b1
      have hs2 := (hs1.below b1).top
      have ho2 := ho1.below b1
      go_wp2_with fail
      refine (spec_BriefsValid xs A c _ hs2 ho2 hn).mono ?_
      rintro e w2 ⟨rfl, b2⟩
      rw [hv]
      have b02 := bel_trans b01 b2
      go_wp2
      go_ret
      exact ⟨ret_bool HO.out.symm, b02⟩
    · obtain rfl : xs = [] := List.eq_nil_of_length_eq_zero (by omega)
      exact absurd hv (by decide)
  have hl8 := bv_len hv
  rw [pbsOf_len] at hl8
  have HAL : Hid (∀ k, k ≤ xs.length → (allWords (pbsOf (xs.take k))).length ≤ 3 * k) := fun k hk => by rw [pbsOf_take]; exact allWords_len hv k (by rw [pbsOf_len]; exact hk)
  go_enter Try.func19, Try.ntmps19
  go_wp2
  go_loopw [3, 4] (fun v i wr => ∃ k : Nat, k ≤ xs.length ∧ i = .int .i64 k ∧ wr.ownsRow w.heap.size 9 1 v (allWords (pbsOf (xs.take k))).length (strs (allWords (pbsOf (xs.take k)))) ∧ Below w.heap.size w wr) (fun _ i _ => xs.length - (intOf i).toNat)
  case atStart => exact ⟨0, Nat.zero_le _, rfl, own0, bA⟩
  case round =>
    obtain ⟨k, hk, rfl, hown, hb⟩ := hrel
    have hln := HAL.out k hk
    by_cases hlt : k < xs.length
    · have hkd : decide ((k : Int) < (xs.length : Int)) = true := decide_eq_true (by omega)
      have hkdn : decide (k < xs.length) = true := decide_eq_true hlt
      obtain ⟨⟨xm, xA, xc, xl⟩, hs⟩ := get_lt hlt
      have HAS := Lib.hid (allWords_succ hs)
      simp only at HAS
      have hxl3 : xl.length ≤ 3 := by
        have := (bv_words hv (k := k) (by rw [pbsOf_len]; exact hlt)).2
        rwa [pbAt_of hs] at this
      generalize allWords (pbsOf (xs.take k)) = seen at *
      go_wp2_with fail
      refine (spec_BriefsValid xs A c _ (hw.below hb).top (ho.below hb) hn).mono ?_
      rintro e w1 ⟨rfl, b1⟩
      rw [hv]
      have hb1 := bel_trans hb b1
      have hown1 := own_below hown b1
      obtain ⟨g, o, rfl, hg, _, hgw, hc1, hc2⟩ := (hw.below hb1).brf hs
      simp only [rowV] at hc1 hc2
      have hxw := ((ho _ (List.mem_of_getElem? hs)).below hb1).2.1
      simp only at hxw
      have hB1 := hb1.size
      have h1A : ∀ u ∈ strs xl, u.oneCell' = true := strs_oneC xl
      have HL1 : Hid ((strs xl).length = xl.length * 1) := by simp [Hid, strs]
      have H1A := Lib.hid h1A
      clear hs hown b1 h1A
      go_wp2_with (at_builtin; refine append_seg _ (by rfl) (.tmp 16) (.tmp 21) 30 (by rfl) (w.heap.size) 9 _ 1 16 Try.underlying30 info_str rfl (by decide) (by decide) (_) _ _ (by rfl) hown1 xA xl.length xc (strs xl) _ _ (by rfl) hxw HL1.out H1A.out (by omega) hB1 ?_; intro v' w2 hown' hgrow)
      have R1 : w2.ownsRow w.heap.size 9 1 v' (allWords (pbsOf (xs.take (k + 1)))).length (strs (allWords (pbsOf (xs.take (k + 1))))) := by rw [HAS.out, List.length_append, strs_append]; exact hown'
      have R2 := own_grown_below hb1 hown1 hgrow hB1
      clear hown' hgrow hown1 hc1 hc2 hxw
      go_wp2
      go_roundw
      case rel => exact ⟨k + 1, by omega, by go_num, R1, R2⟩
      case measure => simp [intOf]; omega
    · have hkd : decide ((k : Int) < (xs.length : Int)) = false := decide_eq_false (by omega)
      have hkdn : decide (k < xs.length) = false := decide_eq_false hlt
      have HO : Hid (clOk (pbsOf xs) = (diffTo (allWords (pbsOf (xs.take k))) (allWords (pbsOf (xs.take k))).length == ((allWords (pbsOf (xs.take k))).length : Int))) := by
        rw [Hid, diff_eq, clOk, hv, Bool.true_and, List.take_of_length_le (by omega)]
      generalize allWords (pbsOf (xs.take k)) = seen at *
      go_wp2_with fail
      refine (spec_BriefsValid xs A c _ (hw.below hb).top (ho.below hb) hn).mono ?_
      rintro e w1 ⟨rfl, b1⟩
      rw [hv]
      have hb1 := bel_trans hb b1
      have hown1 := own_below hown b1
      obtain ⟨A2, c2, rfl, _, _⟩ := own_form hown1
      have sg := (Seg.of_own hown1).mono (lo' := 0) (Nat.zero_le _) (Nat.le_refl _)
      clear hown hown1
      go_wp2_with fail
      refine (spec_l4Different seen A2 c2 _ sg (by omega)).mono ?_
      rintro e w2 ⟨rfl, n, rfl⟩
      go_wp2
      go_ret
      exact ⟨ret_bool HO.out.symm, Below_drewN hb1 n⟩

set_option maxRecDepth 100000 in
set_option maxHeartbeats 1000000 in
theorem impl_BriefsClear (xs : List Brf) (A : Option Addr) (c : Nat) (w : World) (hw : Seg w 0 w.heap.size A (flat brfC xs)) (ho : BrfsAt w xs) (hn : xs.length ≤ maxLen) (hc : xs.length ≤ c) (hcm : c ≤ maxLen) :
    Calls Try.prog 20 #[.slice A xs.length c] w fun e w' => e = .returned (.bool (clOk (pbsOf xs))) ∧ Below w.heap.size w w' := by
  have hn' : xs.length ≤ 9223372036854775807 := hn
  cases hv : bvOk (pbsOf xs)
  · have HO : Hid (clOk (pbsOf xs) = false) := by rw [Hid, clOk, hv]; rfl
    go_enter Try.func20, Try.ntmps20
    go_wp2_with fail
    refine (impl_BriefsValid xs A c _ hw ho hn hc hcm).mono ?_
    rintro e w1 ⟨rfl, b1⟩
    rw [hv]
    go_wp2
    go_ret
    exact ⟨ret_bool HO.out.symm, b1⟩
  have hl8 := bv_len hv
  rw [pbsOf_len] at hl8
  have HAL : Hid (∀ k, k ≤ xs.length → (allWords (pbsOf (xs.take k))).length ≤ 3 * k) := fun k hk => by rw [pbsOf_take]; exact allWords_len hv k (by rw [pbsOf_len]; exact hk)
  go_enter Try.func20, Try.ntmps20
  go_wp2_with fail
  refine (impl_BriefsValid xs A c _ hw ho hn hc hcm).mono ?_
  rintro e w1 ⟨rfl, b1⟩
  rw [hv]
  have hB1 := b1.size
  have own0 : (w1.alloc (.cells #[] 9)).ownsRow w.heap.size 9 1 (.slice (some ⟨w1.heap.size, 0, none⟩) 0 0) 0 (strs []) := World.ownsRow_made w1 #[] 0 hB1 (by simp [maxLen]) (by simp [strs])
  have bA := bel_alloc b1 (.cells #[] 9)
  go_wp2
  go_loopw [3, 7, 14] (fun v _ i wr => ∃ k : Nat, k ≤ xs.length ∧ i = .int .i64 k ∧ wr.ownsRow w.heap.size 9 1 v (allWords (pbsOf (xs.take k))).length (strs (allWords (pbsOf (xs.take k)))) ∧ Hid (allDiff (allWords (pbsOf (xs.take k))) = true) ∧ Below w.heap.size w wr) (fun _ _ i _ => xs.length - (intOf i).toNat)
  case atStart => exact ⟨0, Nat.zero_le _, rfl, own0, rfl, bA⟩
  case round =>
    obtain ⟨k, hk, rfl, hown, hdi, hb⟩ := hrel
    have hln := HAL.out k hk
    by_cases hlt : k < xs.length
    · obtain ⟨⟨xm, xA, xc, xl⟩, hs⟩ := get_lt hlt
      have HAS := Lib.hid (allWords_succ hs)
      simp only at HAS
      have hxl3 : xl.length ≤ 3 := by
        have := (bv_words hv (k := k) (by rw [pbsOf_len]; exact hlt)).2
        rwa [pbAt_of hs] at this
      have HPX : Hid (∃ r, allWords (pbsOf xs) = allWords (pbsOf (xs.take (k + 1))) ++ r) := by rw [pbsOf_take]; exact allWords_prefix _ _
      obtain ⟨g, o, rfl, hg, _, hgw, hc1, hc2⟩ := (hw.below hb).brf hs
      simp only [rowV] at hc1 hc2
      have HXW := Lib.hid ((ho _ (List.mem_of_getElem? hs)).2.1)
      simp only at HXW
      have bX := bel_alloc hb (.cells #[.string xm, .slice xA xl.length xc] 35)
      have hown1 := hown.alloc (.cells #[.string xm, .slice xA xl.length xc] 35)
      generalize allWords (pbsOf (xs.take k)) = seen at *
      have own00 : (wr.alloc (.cells #[.string xm, .slice xA xl.length xc] 35)).ownsRow w.heap.size 9 1 u3 (seen ++ xl.take 0).length (strs (seen ++ xl.take 0)) := by rw [List.take_zero, List.append_nil]; exact hown1
      have di00 : Hid (allDiff (seen ++ xl.take 0) = true) := by rw [Hid, List.take_zero, List.append_nil]; exact hdi.out
      clear hs hown hown1
      go_wp2
      go_loopw [3, 7, 21] (fun v _ i wi => ∃ j : Nat, j ≤ xl.length ∧ i = .int .i64 j ∧ wi.ownsRow w.heap.size 9 1 v (seen ++ xl.take j).length (strs (seen ++ xl.take j)) ∧ Hid (allDiff (seen ++ xl.take j) = true) ∧ Below w.heap.size w wi) (fun _ _ i _ => xl.length - (intOf i).toNat)
      case atStart => exact ⟨0, Nat.zero_le _, rfl, own00, di00, bX⟩
      case round =>
        obtain ⟨j, hj, rfl, hown2, hd2, hb2⟩ := hrel
        by_cases hjl : j < xl.length
        · obtain ⟨s, hs⟩ := get_lt hjl
          obtain ⟨g2, o2, rfl, hg2, hcell⟩ := (HXW.out.below hb2).strk hs
          have HT := Lib.hid (take_snoc' hs)
          have HDR := Lib.hid (List.take_append_drop j xl)
          have HDJ := Lib.hid (List.drop_eq_getElem_cons hjl)
          have HSJ : Hid (xl[j] = s) := (List.getElem?_eq_some_iff.1 hs).2
          have hlj : (seen ++ xl.take j).length ≤ 30 := by rw [List.length_append, List.length_take]; omega
          generalize hq : seen ++ xl.take j = cur at *
          obtain ⟨A2, c2, rfl, _, _⟩ := own_form hown2
          have sg := (Seg.of_own hown2).mono (lo' := 0) (Nat.zero_le _) (Nat.le_refl _)
          have HQ := Lib.hid hq
          clear hs hq
          go_wp2_with fail
          refine (slices_Contains cur s A2 c2 _ sg (by unfold maxLen; omega)).mono ?_
          rintro e w' ⟨rfl, rfl⟩
          cases hh : hasNo cur s cur.length
          · have HO : Hid (clOk (pbsOf xs) = false) := by
              obtain ⟨r, hr⟩ := HPX.out
              have e1 : xl = xl.take j ++ s :: xl.drop (j + 1) := by rw [← HSJ.out, ← HDJ.out, HDR.out]
              rw [Hid, clOk, hv, hr, HAS.out, e1, Bool.true_and, ← List.append_assoc, HQ.out, List.append_assoc]
              exact allDiff_no hh
            clear sg hown2
            go_wp2
            go_ret
            exact ⟨ret_bool HO.out.symm, hb2⟩
          · have HD := Lib.hid (allDiff_snoc hd2.out hh)
            have hB2 := hb2.size
            clear sg
            go_wp2_with (at_builtin; refine append_one wr (by rfl) (.tmp 28) (.tmp 30) 30 (by rfl) (w.heap.size) 9 _ 1 16 Try.underlying30 info_str rfl (by decide) (by decide) (_) _ _ (by rfl) hown2 #[.string s] (by rfl) rfl (by simp [Value.oneCell']) (by omega) hB2 ?_; intro v' w3 hown' hgrow)
            have E : Hid (seen ++ xl.take (j + 1) = cur ++ [s]) := by rw [Hid, HT.out, ← List.append_assoc, HQ.out]
            have R1 : w3.ownsRow w.heap.size 9 1 v' (seen ++ xl.take (j + 1)).length (strs (seen ++ xl.take (j + 1))) := by rw [E.out, List.length_append, strs_append]; exact hown'
            have R2 := own_grown_below hb2 hown2 hgrow hB2
            have R3 : Hid (allDiff (seen ++ xl.take (j + 1)) = true) := by rw [Hid, E.out]; exact HD.out
            clear hown' hgrow hown2
            go_wp2
            go_roundw
            case rel => exact ⟨j + 1, by omega, by go_num, R1, R3, R2⟩
            case measure => simp [intOf]; omega
        · have R1 : wr.ownsRow w.heap.size 9 1 u3 (allWords (pbsOf (xs.take (k + 1)))).length (strs (allWords (pbsOf (xs.take (k + 1))))) := by
            rw [HAS.out]
            rwa [List.take_of_length_le (by omega)] at hown2
          have R3 : Hid (allDiff (allWords (pbsOf (xs.take (k + 1)))) = true) := by
            have := hd2.out
            rw [Hid, HAS.out]
            rwa [List.take_of_length_le (by omega)] at this
          clear hown2
          go_wp2
          go_roundw
          case rel => exact ⟨k + 1, by omega, by go_num, R1, R3, hb2⟩
          case measure => simp [intOf]; omega
    · have HO : Hid (clOk (pbsOf xs) = true) := by
        have := hdi.out
        rw [List.take_of_length_le (by omega)] at this
        rw [Hid, clOk, hv, this]; rfl
      go_wp2
      go_ret
      exact ⟨ret_bool HO.out.symm, hb⟩
end Go.Proofs.Ytgddklafeaoleaa
