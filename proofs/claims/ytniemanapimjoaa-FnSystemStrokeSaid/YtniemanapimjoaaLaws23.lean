/-
  Walk of the law FnSystemStroke.
-/
import Derived.Test.YtniemanapimjoaaLaws22
import Derived.Test.YtniemanapimjoaaWrtK
namespace Go.Proofs.Ytniemanapimjoaa
open Go.RowKit Go.Sort
set_option linter.unusedSimpArgs false
set_option linter.unusedVariables false

theorem spec_DrawSystemStroke (l : List UInt8) (A : Option Addr) (c : Nat) (w : World) (hw : Seg w 0 w.heap.size A (flat byteC l)) (hc : l.length ≤ c) (hm : c ≤ maxLen) :
    Calls Try.prog 51 #[.slice A l.length c] w (SomeSysWord w) := by
  go_enter Try.func51, Try.ntmps51
  go_wp2_with fail
  refine (spec_l6Open l A c _ hw hc hm).mono ?_
  rintro e w1 ⟨rfl, hr, hb, hsz⟩
  go_wp2_with fail
  refine (spec_l91System _ 0 _ ⟨0, Nat.le_refl _, hr⟩ (by decide)).mono ?_
  rintro e w2 ⟨A2, c2, ss, rfl, own2, hs, hn, hlc, hcm, d⟩
  have hb2 := d.bel hb (Nat.le_refl _)
  have hlo : w.heap.size < w1.heap.size := by omega
  have sg2 := Seg.of_own own2
  clear own2
  go_wp2_with fail
  refine (ofB 13 _ 8 _ _ _ rfl rfl (by decide) (by decide) d.1 (by decide)).mono ?_
  rintro e w3 ⟨s, rfl, hs3, d3⟩
  have hb3 := d3.bel hb2 (Nat.le_refl _)
  have SG := Lib.hid ((d3.seg sg2 hlo).top.mono (lo' := 0) (Nat.zero_le _) (Nat.le_refl _))
  clear sg2
  go_wp2
  go_ret2
  exact ⟨A2, c2, ss, s, rfl, SG.out, fun x hx => Nat.le_trans (hs x hx) (by decide), hn, by omega, hb3⟩

def keepNot (l : Str) (ss : List Sgn) : List Sgn := ss.filter fun x => decide (x.1 ≠ l)
theorem keepNot_snoc_yes {l : Str} {ss : List Sgn} {x : Sgn} (h : x.1 ≠ l) : keepNot l (ss ++ [x]) = keepNot l ss ++ [x] := by simp [keepNot, List.filter_append, h]
theorem keepNot_snoc_no {l : Str} {ss : List Sgn} {x : Sgn} (h : x.1 = l) : keepNot l (ss ++ [x]) = keepNot l ss := by simp [keepNot, List.filter_append, h]
theorem keepNot_len (l : Str) (ss : List Sgn) : (keepNot l ss).length ≤ ss.length := List.length_filter_le _ _

set_option maxRecDepth 100000 in
set_option maxHeartbeats 4000000 in
theorem walk_FnSystemStroke (r : Row UInt8) (w : World) (h : RowOk w byteC (fun _ => True) r) : Calls Try.prog 10 #[rowV r] w fun e w' => e = .returned (.bool true) ∧ Below w.heap.size w w' := by
  obtain ⟨A, c, l⟩ := r
  obtain ⟨hw, _, hc, hm⟩ := h
  simp only at hw hc hm
  have hm' : c ≤ 9223372036854775807 := hm
  show Calls Try.prog 10 #[.slice A l.length c] w _
  by_cases hl : (1048576 : Int) < l.length
  · go_enter Try.func10, Try.ntmps10
    go_wp2
    go_ret
    exact ⟨rfl, Below.refl _ _⟩
  go_enter Try.func10, Try.ntmps10
  go_wp2_with fail
  refine (spec_DrawSystemStroke l A c _ hw hc hm).mono ?_
  rintro e w1 ⟨A1, c1, ss, s, rfl, sg, hok, hn8, hs, b1⟩
  have hnm : ss.length ≤ maxLen := Nat.le_trans hn8 (by decide)
  have hsm : s.size ≤ maxLen := Nat.le_trans hs (by decide)
  have hnm' : ss.length ≤ 9223372036854775807 := hnm
  go_wp2_with fail
  refine (impl_SystemStroke ss s A1 c1 _ sg hok hnm hsm).mono ?_
  rintro e w2 ⟨rfl, b2⟩
  generalize hst : stkOr (strokeOf ss s) = st
  have HST := Lib.hid hst
  clear hst
  have bX := bel_alloc (Below.refl w2.heap.size w2) (.cells #[.int .i64 st.1, .int .i64 st.2] 52)
  have LX := Seg.lit w2 #[.int .i64 st.1, .int .i64 st.2] 52
  have sg := ((sg.below b2).top.below bX).top
  have b02 := bel_trans (bel_trans b1 b2) bX
  clear bX
  go_wp2_with fail
  refine (spec_SystemStroke ss s A1 c1 _ sg hok hnm).mono ?_
  rintro e w3 ⟨rfl, b3⟩
  rw [HST.out]
  have sg := (sg.below b3).top
  have LX := LX.below b3
  have b03 := bel_trans b02 b3
  obtain ⟨kx0, kx1, kx2⟩ : w3.cell? ⟨w2.heap.size, 0, none⟩ = some (.int .i64 st.1) ∧ w3.cell? ⟨w2.heap.size, 1, none⟩ = some (.int .i64 st.2) ∧ w2.heap.size < w3.heap.size := LX.box2
  have bY := bel_alloc (Below.refl w3.heap.size w3) (.cells #[.int .i64 st.1, .int .i64 st.2] 52)
  cases hso : (strokeOf ss s).isSome
  · go_wp2
    go_ret
    exact ⟨rfl, bel_alloc b03 _⟩
  have hst2 : strokeOf ss s = some st := by
    obtain ⟨st', hst'⟩ := Option.isSome_iff_exists.1 hso
    have hste : st' = st := by have := HST.out; rw [hst'] at this; exact this
    rw [hst', hste]
  have HLF := Lib.hid (letter_facts hst2)
  clear hst2
  have sg := (sg.below bY).top
  have LX : Seg _ _ _ _ _ := LX.below bY
  have b04 := bel_trans b03 bY
  clear bY
  go_wp2_with fail
  refine (impl_WordOutline ss s A1 c1 _ sg hok hnm hsm).mono ?_
  rintro e w4 ⟨v4, rfl, own4, b4⟩
  rw [HLF.out.2.2.1] at own4
  rw [HLF.out.2.1]
  have sg := (sg.below b4).top
  have LX := LX.below b4
  have b05 := bel_trans b04 b4
  obtain ⟨A4, c4, rfl, _, _, s4⟩ := own4.form
  have s4 := s4.mono (lo' := 0) (Nat.zero_le _) (Nat.le_refl _)
  clear kx0 kx1 kx2 own4
  obtain ⟨kx0, kx1, kx2⟩ := LX.box2
  have bZ := bel_alloc (Below.refl w4.heap.size w4) (.cells #[.int .i64 st.1, .int .i64 st.2] 52)
  have sZ : Seg (w4.alloc (.cells #[.int .i64 st.1, .int .i64 st.2] 52)) 0 (w4.alloc (.cells #[.int .i64 st.1, .int .i64 st.2] 52)).heap.size (some ⟨w4.heap.size, 0, none⟩) (flat stkC [st]) := (Seg.lit w4 #[.int .i64 st.1, .int .i64 st.2] 52).mono (Nat.zero_le _) (Nat.le_refl _)
  have sg := (sg.below bZ).top
  have LX := LX.below bZ
  have s4 := (s4.below bZ).top
  have b06 := bel_trans b05 bZ
  clear bZ
  go_wp2_with fail
  refine (impl_OutlineBare ss [st] A1 (some ⟨w4.heap.size, 0, none⟩) c1 1 _ sg sZ hok hnm (by simp [maxLen])).mono ?_
  rintro e w5 ⟨rfl, b5⟩
  rw [HLF.out.2.2.2.1, HLF.out.2.2.2.2]
  have sg := (sg.below b5).top
  have LX := LX.below b5
  have s4 := (s4.below b5).top
  have b07 := bel_trans b06 b5
  clear kx0 kx1 kx2 sZ
  have own0 : Hid ((w5.alloc (.cells #[] 59)).ownsRow w5.heap.size 59 3 (.slice (some ⟨w5.heap.size, 0, none⟩) 0 0) 0 (flat sgnC (keepNot s (ss.take 0)))) := World.ownsRow_made w5 #[] 0 (Nat.le_refl _) (by simp [maxLen]) (by simp)
  have bW := bel_alloc (Below.refl w5.heap.size w5) (.cells #[] 59)
  go_wp2
  go_loopw [13, 14] (fun v i wr => ∃ k : Nat, k ≤ ss.length ∧ i = .int .i64 k ∧ (keepNot s (ss.take k)).length ≤ 8 ∧ wr.ownsRow w5.heap.size 59 3 v (keepNot s (ss.take k)).length (flat sgnC (keepNot s (ss.take k))) ∧ Below w5.heap.size w5 wr) (fun _ i _ => ss.length - (intOf i).toNat)
  case atStart => exact ⟨0, Nat.zero_le _, rfl, Nat.zero_le _, own0.out, bW⟩
  case round =>
    obtain ⟨k, hk, rfl, hkl, hown, hb⟩ := hrel
    by_cases hlt : k < ss.length
    · obtain ⟨x, hx⟩ := get_lt hlt
      obtain ⟨g, o, rfl, hg, _, _, e1, e2, e3⟩ := (sg.below hb).sgn hx
      have hB := hb.size
      have hkd : decide ((k : Int) < (ss.length : Int)) = true := decide_eq_true (by omega)
      have hkdn : decide (k < ss.length) = true := decide_eq_true hlt
      have hlen1 := keepNot_len s (ss.take (k + 1))
      rw [List.length_take] at hlen1
      have hlen2 : (keepNot s (ss.take (k + 1))).length ≤ 8 := by omega
      by_cases he : x.1 = s
      · have HK : Hid (keepNot s (ss.take (k + 1)) = keepNot s (ss.take k)) := by rw [Hid, take_snoc' hx, keepNot_snoc_no he]
        have R1 : wr.ownsRow w5.heap.size 59 3 u13 (keepNot s (ss.take (k + 1))).length (flat sgnC (keepNot s (ss.take (k + 1)))) := by rw [HK.out]; exact hown
        rw [he] at e1
        have hbn : (ByteArray.toList s != ByteArray.toList s) = false := by simp
        clear he hx hown hlen1
        go_wp2
        go_roundw
        case rel => exact ⟨k + 1, by omega, by go_num, hlen2, R1, hb⟩
        case measure => simp [intOf]; omega
      · have HK : Hid (flat sgnC (keepNot s (ss.take (k + 1))) = flat sgnC (keepNot s (ss.take k)) ++ [.string x.1, .int .i64 x.2.1, .int .i64 x.2.2] ∧ (keepNot s (ss.take (k + 1))).length = (keepNot s (ss.take k)).length + 1) := by
          rw [Hid, take_snoc' hx, keepNot_snoc_yes he, flat_snoc, List.length_append]; exact ⟨rfl, rfl⟩
        have hbn : (ByteArray.toList x.1 != ByteArray.toList s) = true := by rw [bne, str_ne he]; rfl
        have hxe := str_ne he
        have HE := Lib.hid he
        clear he hx hlen1
        go_wp2_with (at_builtin; refine append_one wr (by rfl) (.tmp 84) (.tmp 89) 30 (by rfl) (w5.heap.size) 59 _ 3 32 Try.underlying30 info_sgn rfl (by decide) (by decide) (u13) _ _ (by rfl) hown #[.string x.1, .int .i64 x.2.1, .int .i64 x.2.2] (by rfl) rfl (by simp [Value.oneCell']) (by omega) hB ?_; intro v' w6 hown' hgrow)
        have R1 : w6.ownsRow w5.heap.size 59 3 v' (keepNot s (ss.take (k + 1))).length (flat sgnC (keepNot s (ss.take (k + 1)))) := by rw [HK.out.1, HK.out.2]; exact hown'
        have R2 := own_grown_below hb hown hgrow hB
        clear hown' hgrow hown
        go_wp2
        go_roundw
        case rel => exact ⟨k + 1, by omega, by go_num, hlen2, R1, R2⟩
        case measure => simp [intOf]; omega
    · have hke : k = ss.length := by omega
      rw [hke, List.take_of_length_le (Nat.le_refl _)] at hown
      obtain ⟨A6, c6, hv6, _, _⟩ := own_form hown
      subst hv6
      have sR := (Seg.of_own hown).mono (lo' := 0) (Nat.zero_le _) (Nat.le_refl _)
      have hkd : decide ((k : Int) < (ss.length : Int)) = false := decide_eq_false (by omega)
      have hkdn : decide (k < ss.length) = false := decide_eq_false hlt
      have hokR : OkSgns (keepNot s ss) := fun x hx => hok x (List.mem_filter.1 hx).1
      have hnR : (keepNot s ss).length ≤ maxLen := Nat.le_trans (keepNot_len s ss) hnm
      have HRN : Hid (strokeOf (keepNot s ss) s = none) := rest_none
      have LX := LX.below hb
      have s4 := (s4.below hb).top
      have b08 := bel_trans b07 hb
      clear hke hown hkl
      go_wp2_with fail
      refine (impl_SystemStroke (keepNot s ss) s A6 c6 _ sR hokR hnR hsm).mono ?_
      rintro e w7 ⟨rfl, b7⟩
      rw [HRN.out]
      have hso0 : stkOr none = ((0, 0) : Stk) := rfl
      rw [hso0]
      clear hso0
      have LX := LX.below b7
      have s4 := (s4.below b7).top
      have b09 := bel_trans b08 b7
      obtain ⟨kx0, kx1, kx2⟩ := LX.box2
      have bV := bel_alloc (bel_alloc (Below.refl w7.heap.size w7) (.cells #[.int .i64 0, .int .i64 0] 52)) (.cells #[.int .i64 st.1, .int .i64 st.2] 52)
      have sV := (Seg.lit (w7.alloc (.cells #[.int .i64 0, .int .i64 0] 52)) #[.int .i64 st.1, .int .i64 st.2] 52).mono (lo' := 0) (Nat.zero_le _) (Nat.le_refl _)
      have eV : (w7.alloc (.cells #[.int .i64 0, .int .i64 0] 52)).heap.size = w7.heap.size + 1 := by simp
      rw [eV] at sV
      have s4 := (s4.below bV).top
      have b10 := bel_trans b09 bV
      clear bV eV
      go_wp2_with fail
      refine (stks_same [st] A4 (some ⟨w7.heap.size + 1, 0, none⟩) c4 1 _ s4 sV (by simp)).mono ?_
      rintro e w8 ⟨rfl, b8⟩
      have b11 := bel_trans b10 b8
      go_wp2
      go_ret
      exact ⟨rfl, b11⟩
end Go.Proofs.Ytniemanapimjoaa
