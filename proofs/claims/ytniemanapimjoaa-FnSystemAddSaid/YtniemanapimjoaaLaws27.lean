/-
  Walk of the law FnSystemAdd.
-/
import Derived.Test.YtniemanapimjoaaDrawA
import Derived.Test.YtniemanapimjoaaLaws22
namespace Go.Proofs.Ytniemanapimjoaa
open Go.RowKit Go.Sort
set_option linter.unusedSimpArgs false
set_option linter.unusedVariables false

set_option maxRecDepth 100000 in
set_option maxHeartbeats 4000000 in
theorem walk_FnSystemAdd (r : Row UInt8) (w : World) (h : RowOk w byteC (fun _ => True) r) : Calls Try.prog 7 #[rowV r] w fun e w' => e = .returned (.bool true) ∧ Below w.heap.size w w' := by
  obtain ⟨A, c, l⟩ := r
  obtain ⟨hw, _, hc, hm⟩ := h
  simp only at hw hc hm
  have hm' : c ≤ 9223372036854775807 := hm
  show Calls Try.prog 7 #[.slice A l.length c] w _
  by_cases hl : (1048576 : Int) < l.length
  · go_enter Try.func7, Try.ntmps7
    go_wp2
    go_ret
    exact ⟨rfl, Below.refl _ _⟩
  go_enter Try.func7, Try.ntmps7
  go_wp2_with fail
  refine (spec_DrawSystemAdd l A c _ hw hc hm).mono ?_
  rintro e w1 ⟨A1, c1, ss, x, rfl, sg, hok, hn8, hs, b1⟩
  have hnm : ss.length ≤ 1048576 := Nat.le_trans hn8 (by decide)
  have hsm : x.1.size ≤ maxLen := Nat.le_trans hs (by decide)
  have hnm' : ss.length ≤ 9223372036854775807 := Nat.le_trans hn8 (by decide)
  have bX := bel_alloc (Below.refl w1.heap.size w1) (.cells #[.string x.1, .int .i64 x.2.1, .int .i64 x.2.2] 59)
  have LX := Seg.lit w1 #[.string x.1, .int .i64 x.2.1, .int .i64 x.2.2] 59
  have sg := (sg.below bX).top
  have b01 := bel_trans b1 bX
  obtain ⟨kx0, kx1, kx2, kx3⟩ : (w1.alloc (.cells #[.string x.1, .int .i64 x.2.1, .int .i64 x.2.2] 59)).cell? ⟨w1.heap.size, 0, none⟩ = some (.string x.1) ∧ (w1.alloc (.cells #[.string x.1, .int .i64 x.2.1, .int .i64 x.2.2] 59)).cell? ⟨w1.heap.size, 1, none⟩ = some (.int .i64 x.2.1) ∧ (w1.alloc (.cells #[.string x.1, .int .i64 x.2.1, .int .i64 x.2.2] 59)).cell? ⟨w1.heap.size, 2, none⟩ = some (.int .i64 x.2.2) ∧ w1.heap.size < (w1.alloc (.cells #[.string x.1, .int .i64 x.2.1, .int .i64 x.2.2] 59)).heap.size := ⟨box_cell _ _ _ 0, box_cell _ _ _ 1, box_cell _ _ _ 2, by simp⟩
  clear bX LX
  go_wp2_with fail
  refine (impl_SystemAdd ss x A1 c1 _ sg hok hsm hnm).mono ?_
  rintro e w2 ⟨v2, rfl, own2, b2⟩
  obtain ⟨A2, c2, rfl, _, _, s2⟩ := own2.form
  have s2 := s2.mono (lo' := 0) (Nat.zero_le _) (Nat.le_refl _)
  have sg := (sg.below b2).top
  have kx0 := (b2.cell (p := ⟨w1.heap.size, 0, none⟩) kx3).trans kx0
  have kx1 := (b2.cell (p := ⟨w1.heap.size, 1, none⟩) kx3).trans kx1
  have kx2 := (b2.cell (p := ⟨w1.heap.size, 2, none⟩) kx3).trans kx2
  have kx3 := Nat.lt_of_lt_of_le kx3 b2.size
  have b02 := bel_trans b01 b2
  clear own2 b01 b1
  go_wp2_with fail
  refine (spec_SystemAdd ss x A1 c1 _ sg hok hsm hnm).mono ?_
  rintro e w3 ⟨v3, rfl, own3, b3⟩
  obtain ⟨A3, c3, rfl, _, _, s3⟩ := own3.form
  have s3 := s3.mono (lo' := 0) (Nat.zero_le _) (Nat.le_refl _)
  have s2 := (s2.below b3).top
  have sg := (sg.below b3).top
  have kx0 := (b3.cell (p := ⟨w1.heap.size, 0, none⟩) kx3).trans kx0
  have kx1 := (b3.cell (p := ⟨w1.heap.size, 1, none⟩) kx3).trans kx1
  have kx2 := (b3.cell (p := ⟨w1.heap.size, 2, none⟩) kx3).trans kx2
  have kx3 := Nat.lt_of_lt_of_le kx3 b3.size
  have b03 := bel_trans b02 b3
  have hal : (added ss x).length ≤ 1048576 := Nat.le_trans (added_len ss x) (by decide)
  clear own3 b02 b2
  cases ha : addOk ss x
  · go_wp2_with fail
    refine (sgns_same (added ss x) A2 A3 c2 c3 _ s2 s3 hal).mono ?_
    rintro e w4 ⟨rfl, b4⟩
    have s2 := (s2.below b4).top
    have s3 := (s3.below b4).top
    have b04 := bel_trans b03 b4
    go_wp2_with fail
    refine (sgns_same (added ss x) A2 A3 c2 c3 _ s2 s3 hal).mono ?_
    rintro e w5 ⟨rfl, b5⟩
    have b05 := bel_trans b04 b5
    go_wp2
    go_ret
    exact ⟨rfl, b05⟩
  go_wp2_with fail
  refine (sgns_same (added ss x) A2 A3 c2 c3 _ s2 s3 hal).mono ?_
  rintro e w4 ⟨rfl, b4⟩
  have s2 := (s2.below b4).top
  have sg := (sg.below b4).top
  have kx0 := (b4.cell (p := ⟨w1.heap.size, 0, none⟩) kx3).trans kx0
  have kx1 := (b4.cell (p := ⟨w1.heap.size, 1, none⟩) kx3).trans kx1
  have kx2 := (b4.cell (p := ⟨w1.heap.size, 2, none⟩) kx3).trans kx2
  have kx3 := Nat.lt_of_lt_of_le kx3 b4.size
  have b04 := bel_trans b03 b4
  have hoks := added_oks (x := x) hok hsm
  have hadd : added ss x = ss ++ [x] := by rw [added, ha]; rfl
  have hsys : sysOk (ss ++ [x]) = true := ha
  rw [hadd] at s2 hal hoks
  rw [hadd]
  have hlen : (ss ++ [x]).length = ss.length + 1 := by simp
  have hnA : (ss ++ [x]).length ≤ maxLen := Nat.le_trans hal (by decide)
  have HM : Hid (∀ y ∈ ss ++ [x], strokeOf (ss ++ [x]) y.1 = some y.2) := fun y hy => strokeOf_mem hsys hy
  have HAG : Hid (addOk (ss ++ [x]) x = false) := add_again
  have HX := Lib.hid (List.mem_append_right ss (List.mem_singleton.2 (rfl : x = x)))
  have HL : Hid (∀ y ∈ ss, y ∈ ss ++ [x]) := fun y hy => List.mem_append_left _ hy
  generalize ss ++ [x] = out at *
  have HLEN := Lib.hid hlen
  clear s3 b03 b3 ha hadd hsys hlen
  go_wp2
  go_loopw [9] (fun i wr => ∃ k : Nat, k ≤ ss.length ∧ i = .int .i64 k ∧ Below w4.heap.size w4 wr) (fun i _ => ss.length - (intOf i).toNat)
  case atStart => exact ⟨0, Nat.zero_le _, rfl, Below.refl _ _⟩
  case round =>
    obtain ⟨k, hk, rfl, hb⟩ := hrel
    by_cases hlt : k < ss.length
    · obtain ⟨y, hy⟩ := get_lt hlt
      have HY := Lib.hid (HM.out y (HL.out y (List.mem_of_getElem? hy)))
      have hym := hok.at_ hy
      obtain ⟨g, o, rfl, hg, _, _, e1, e2, e3⟩ := (sg.below hb).sgn hy
      clear hy
      go_wp2_with fail
      refine (impl_SystemStroke out y.1 A2 c2 _ (s2.below hb).top hoks hnA hym).mono ?_
      rintro e w5 ⟨rfl, b5⟩
      rw [HY.out]
      have hso : stkOr (some y.2) = y.2 := rfl
      rw [hso]
      have bal := hb.trans (b5.mono hb.size)
      have b6 := bel_alloc (Below.refl w5.heap.size w5) (.cells #[.int .i64 y.2.1, .int .i64 y.2.2] 52)
      have hg5 := Nat.lt_of_lt_of_le hg b5.size
      have d2 := (b6.cell (p := ⟨g, o + k * 3 + 1, none⟩) hg5).trans ((b5.cell (p := ⟨g, o + k * 3 + 1, none⟩) hg).trans e2)
      have d3 := (b6.cell (p := ⟨g, o + k * 3 + 2, none⟩) hg5).trans ((b5.cell (p := ⟨g, o + k * 3 + 2, none⟩) hg).trans e3)
      have bal2 := bel_alloc bal (.cells #[.int .i64 y.2.1, .int .i64 y.2.2] 52)
      clear e1 e2 e3 hso b5 b6 bal
      go_wp2
      go_quiet (fail)
      go_wp2
      go_roundw
      case rel => exact ⟨k + 1, by omega, by go_num, Below_drewN bal2 nq⟩
      case measure => simp [intOf]; omega
    · have kx0 := (hb.cell (p := ⟨w1.heap.size, 0, none⟩) kx3).trans kx0
      have kx1 := (hb.cell (p := ⟨w1.heap.size, 1, none⟩) kx3).trans kx1
      have kx2 := (hb.cell (p := ⟨w1.heap.size, 2, none⟩) kx3).trans kx2
      have kx3 := Nat.lt_of_lt_of_le kx3 hb.size
      have s2 := (s2.below hb).top
      have b05 := bel_trans b04 hb
      have HXX := Lib.hid (HM.out x HX.out)
      go_wp2_with fail
      refine (impl_SystemStroke out x.1 A2 c2 _ s2 hoks hnA hsm).mono ?_
      rintro e w5 ⟨rfl, b5⟩
      rw [HXX.out]
      have hso : stkOr (some x.2) = x.2 := rfl
      rw [hso]
      have bB := bel_alloc b5 (.cells #[.int .i64 x.2.1, .int .i64 x.2.2] 52)
      have kx0 := (bB.cell (p := ⟨w1.heap.size, 0, none⟩) kx3).trans kx0
      have kx1 := (bB.cell (p := ⟨w1.heap.size, 1, none⟩) kx3).trans kx1
      have kx2 := (bB.cell (p := ⟨w1.heap.size, 2, none⟩) kx3).trans kx2
      have kx3 := Nat.lt_of_lt_of_le kx3 bB.size
      have s2 := (s2.below bB).top
      have b06 := bel_trans b05 bB
      have ky0 : (w5.alloc (.cells #[.int .i64 x.2.1, .int .i64 x.2.2] 52)).cell? ⟨w5.heap.size, 0, none⟩ = some (.int .i64 x.2.1) := box_cell _ _ _ 0
      have ky1 : (w5.alloc (.cells #[.int .i64 x.2.1, .int .i64 x.2.2] 52)).cell? ⟨w5.heap.size, 1, none⟩ = some (.int .i64 x.2.2) := box_cell _ _ _ 1
      have ky2 : w5.heap.size < (w5.alloc (.cells #[.int .i64 x.2.1, .int .i64 x.2.2] 52)).heap.size := by simp
      clear hso b5 bB
      go_wp2_with fail
      refine (impl_SystemAdd out x A2 c2 _ s2 hoks hsm hal).mono ?_
      rintro e w6 ⟨v6, rfl, own6, b6⟩
      rw [HAG.out]
      have kx1 := (b6.cell (p := ⟨w1.heap.size, 1, none⟩) kx3).trans kx1
      have kx2 := (b6.cell (p := ⟨w1.heap.size, 2, none⟩) kx3).trans kx2
      have ky0 := (b6.cell (p := ⟨w5.heap.size, 0, none⟩) ky2).trans ky0
      have ky1 := (b6.cell (p := ⟨w5.heap.size, 1, none⟩) ky2).trans ky1
      have b07 := bel_trans b06 b6
      have hlen : (out.length : Int) = (ss.length : Int) + 1 := by have := HLEN.out; omega
      clear own6 b6
      go_wp2
      go_ret
      exact ⟨rfl, b07⟩
end Go.Proofs.Ytniemanapimjoaa
