/-
  Walk of the law FnCopyMany.
-/
import Derived.Test.YtgddklafeaoleaaDrawC
import Derived.Test.YtgddklafeaoleaaManyS
import Derived.Test.YtgddklafeaoleaaVarL
import Derived.Test.YtgddklafeaoleaaStrD
import Derived.IntWalk
namespace Go.Proofs.Ytgddklafeaoleaa
open Go.RowKit Go.Sort
set_option linter.unusedSimpArgs false
set_option linter.unusedVariables false

theorem impl_CopyManyK (ys : List Brf) (ws : List Str) (n : Nat) (hn : ws.length = n) (A B : Option Addr) (c d : Nat) (w : World) (hy : BrfsIn w A c ys) (hw : Seg w 0 w.heap.size B (strs ws)) (ho : StrsOk ws) (hd : n ≤ d) (hdm : d ≤ maxLen) :
    Calls Try.prog 22 #[.slice A ys.length c, .slice B n d] w fun e w' => e = .returned (.int .i64 (manyOf (pbsOf ys) ws)) ∧ Below w.heap.size w w' := by
  subst hn
  exact impl_CopyMany ys ws A B c d w hy.seg hy.ats hw ho (Nat.le_trans hy.lc hy.cm) hy.lc hy.cm hd hdm
theorem spec_CopyManyK (ys : List Brf) (ws : List Str) (n : Nat) (hn : ws.length = n) (A B : Option Addr) (c d : Nat) (w : World) (hy : BrfsIn w A c ys) (hw : Seg w 0 w.heap.size B (strs ws)) (ho : StrsOk ws) (hd : n ≤ d) (hdm : d ≤ maxLen) :
    Calls Try.prog 23 #[.slice A ys.length c, .slice B n d] w fun e w' => e = .returned (.int .i64 (manyOf (pbsOf ys) ws)) ∧ Below w.heap.size w w' := by
  subst hn
  exact spec_CopyMany ys ws A B c d w hy.seg hy.ats hw ho (Nat.le_trans hy.lc hy.cm) hd hdm
theorem strs_dropK {w : World} {lo hi : Nat} {B : Option Addr} {ws : List Str} (h : Seg w lo hi B (strs ws)) (k d : Nat) (hk : k ≤ ws.length) (hd : ws.length ≤ d) : Seg w lo hi (if d = k then B else B.map (·.add k)) (strs (ws.drop k)) := by
  have e : strs (ws.drop k) = (strs ws).drop k := by simp [strs]
  by_cases hck : d = k
  · have : ws.drop k = [] := List.drop_eq_nil_of_le (by omega)
    rw [this]; exact Seg.nil
  · rw [e]; exact h.drop k d (by omega)
theorem strs_takeK {w : World} {lo hi : Nat} {B : Option Addr} {ws : List Str} (h : Seg w lo hi B (strs ws)) (k : Nat) : Seg w lo hi B (strs (ws.take k)) := by
  have e : strs (ws.take k) = (strs ws).take k := by simp [strs]
  rw [e]; exact h.take k
theorem same_textsK (xs ys : List Str) (n m : Nat) (hn : xs.length = n) (hm : ys.length = m) (A B : Option Addr) (c d : Nat) (w : World) (hw : Seg w 0 w.heap.size A (strs xs)) (hv : Seg w 0 w.heap.size B (strs ys)) (h1 : n ≤ maxLen) (h2 : m ≤ maxLen) :
    Calls Try.prog 24 #[.slice A n c, .slice B m d] w fun e w' => e = .returned (.bool (decide (xs = ys))) ∧ Below w.heap.size w w' := by
  subst hn hm; exact laws_sameTexts xs ys A B c d w hw hv h1 h2
theorem many_ok {bs : List PB} {ws : List Str} (h : cpOk bs ws = true) : manyOf bs ws = ways bs ws := by rw [manyOf, h]; rfl
theorem cp_parts {bs : List PB} {ws : List Str} (h : cpOk bs ws = true) : bvOk bs = true ∧ speechOk ws = true := by simpa [cpOk] using h
theorem cp_drop {bs : List PB} {ws : List Str} (h : cpOk bs ws = true) (k : Nat) : cpOk bs (ws.drop k) = true := by
  obtain ⟨h1, h2⟩ := cp_parts h
  simp [cpOk, h1, speech_drop h2 k]
theorem cp_take {bs : List PB} {ws : List Str} (h : cpOk bs ws = true) (k : Nat) : cpOk bs (ws.take k) = true := by
  obtain ⟨h1, h2⟩ := cp_parts h
  simp [cpOk, h1, speech_take h2 k]
theorem many_small {bs : List PB} {ws : List Str} (h : cpOk bs ws = true) : 1 ≤ manyOf bs ws ∧ manyOf bs ws ≤ 1099511627776 := by
  rw [many_ok h]
  exact ways_small (cp_parts h).1 (speech_parts (cp_parts h).2).1
theorem many_no {bs : List PB} {ws : List Str} (h : cpOk bs ws = false) : manyOf bs ws = -1 := by rw [manyOf, h]; rfl
theorem many_sum {bs : List PB} {ws : List Str} (h : cpOk bs ws = true) (hw : ws ≠ []) : manyOf bs (ws.drop 1) + sumTo (wayAt bs ws) bs.length = manyOf bs ws := by
  rw [many_ok h, many_ok (cp_drop h 1)]
  cases ws with
  | nil => exact absurd rfl hw
  | cons a rest => rw [ways_cons (cp_parts h).1]; rfl
theorem way_yes {bs : List PB} {ws : List Str} {k n : Nat} {b : PB} (h : cpOk bs ws = true) (hb : bs[k]? = some b) (hn : b.2.length = n) (he : ws.take n = b.2) : wayAt bs ws k = manyOf bs (ws.drop n) := by
  rw [many_ok (cp_drop h n), wayAt, pbAt_eq hb, if_pos (by simp [pre, hn, he]), hn]
theorem way_not {bs : List PB} {ws : List Str} {k n : Nat} {b : PB} (hb : bs[k]? = some b) (hn : b.2.length = n) (he : ws.take n ≠ b.2) : wayAt bs ws k = 0 := by
  rw [wayAt, pbAt_eq hb, if_neg (by simp [pre, hn, he])]
theorem way_long {bs : List PB} {ws : List Str} {k n : Nat} {b : PB} (hb : bs[k]? = some b) (hn : b.2.length = n) (he : ¬ n ≤ ws.length) : wayAt bs ws k = 0 := by
  refine way_not hb hn fun e => ?_
  have := congrArg List.length e
  rw [List.length_take] at this; omega

set_option maxRecDepth 100000 in
set_option maxHeartbeats 2000000 in
theorem walk_FnCopyMany (r0 : Row UInt8) (w : World) (h0 : RowOk w byteC (fun _ => True) r0) : Calls Try.prog 5 #[rowV r0] w fun e w' => e = .returned (.bool true) ∧ Below w.heap.size w w' := by
  obtain ⟨A, c, l⟩ := r0
  obtain ⟨hw, _, hc, hm⟩ := h0
  simp only at hw hc hm
  have hm' : c ≤ 9223372036854775807 := hm
  show Calls Try.prog 5 #[.slice A l.length c] w _
  by_cases hl : (1048576 : Int) < l.length
  · go_enter Try.func5, Try.ntmps5
    go_wp2
    go_ret
    exact ⟨rfl, Below.refl _ _⟩
  go_enter Try.func5, Try.ntmps5
  go_wp2_with fail
  refine (spec_DrawCopyMany l A c _ hw hc hm).mono ?_
  rintro e w1 ⟨A1, c1, ys, B, d, ws, rfl, I1, S1, b1⟩
  have I0 := Lib.hid I1
  have hdm := S1.cm
  have hdm' : d ≤ 9223372036854775807 := hdm
  have hlc := S1.lc
  have hl100 := S1.len
  have hcm' : c1 ≤ 9223372036854775807 := I1.cm
  have hys5 := I1.len
  have hso := Lib.hid S1.strs
  go_wp2_with fail
  refine (impl_CopyManyK ys ws _ rfl A1 B c1 d _ I1 S1.seg S1.strs S1.lc S1.cm).mono ?_
  rintro e w2 ⟨rfl, b2⟩
  have I2 := I1.below b2
  have S2 := S1.below b2
  have B2 := bel_trans b1 b2
  clear I1 S1 b1 b2
  go_wp2_with fail
  refine (spec_CopyManyK ys ws _ rfl A1 B c1 d _ I2 S2.seg S2.strs S2.lc S2.cm).mono ?_
  rintro e w3 ⟨rfl, b3⟩
  have I3 := I2.below b3
  have S3 := S2.below b3
  have B3 := bel_trans B2 b3
  clear I2 S2 B2 b3
  cases hok : cpOk (pbsOf ys) ws
  · rw [many_no hok]
    go_wp2
    go_ret
    exact ⟨rfl, B3⟩
  have hms := many_small hok
  have HMS := Lib.hid hms
  have HSUM := Lib.hid (fun hw => many_sum hok hw)
  have HDR := Lib.hid (fun k => many_small (cp_drop hok k))
  have HOK := Lib.hid hok
  by_cases hw0 : ws.length = 0
  · obtain rfl : ws = [] := List.eq_nil_of_length_eq_zero hw0
    have h1 : manyOf (pbsOf ys) [] = 1 := by rw [many_ok hok, ways_nil]
    rw [h1]
    clear hok
    go_wp2
    go_ret
    exact ⟨rfl, B3⟩
  generalize hV : manyOf (pbsOf ys) ws = V at *
  have HV := Lib.hid hV
  clear hV hok
  have hne : ws ≠ [] := fun e => hw0 (by rw [e]; rfl)
  have hsum := HSUM.out hne
  have hd1 := HDR.out 1
  generalize hM1 : manyOf (pbsOf ys) (ws.drop 1) = M1 at *
  have HM1 := Lib.hid hM1
  clear hM1
  obtain ⟨w0, hw0'⟩ := get_lt (show 0 < ws.length by omega)
  obtain ⟨gB, oB, rfl, hgB, hcB⟩ := S3.seg.at_ (strs_at hw0')
  clear hcB hw0'
  have t1 : ((ws.length : Int) == 0) = false := beq_eq_false_iff_ne.2 (by omega)
  have t2 : (1 : Int) ≤ (ws.length : Int) := by omega
  have t3 : 1 ≤ d := by omega
  have HNE := Lib.hid hne
  have HW0 := Lib.hid hw0
  have HSM := Lib.hid hsum
  clear hne hw0 hsum
  have t4 : ¬ ws = [] := HNE.out
  have t5 : decide (V < 0) = false := decide_eq_false (by omega)
  have t6 : ¬ V < 0 := by omega
  have KS : ∀ BS dS, Seg w3 0 w3.heap.size BS (strs (ws.drop 1)) → ws.length - 1 ≤ dS → dS ≤ maxLen → Calls Try.prog 22 #[.slice A1 ys.length c1, .slice BS (ws.length - 1) dS] w3 fun e w' => e = .returned (.int .i64 M1) ∧ Below w3.heap.size w3 w' := by
    intro BS dS h1 h2 h3
    have := impl_CopyManyK ys (ws.drop 1) (ws.length - 1) (by rw [List.length_drop]) A1 BS c1 dS w3 I3 h1 (fun s h => hso.out s (List.mem_of_mem_drop h)) h2 h3
    rwa [HM1.out] at this
  have HKS := Lib.hid KS
  have SB := Lib.hid (S3.seg.dropS (c := 0) 1)
  clear KS
  go_wp2_with fail
  all_goals
    refine (HKS.out _ _ ?sg ?le ?cm).mono ?_
    case sg => first | exact SB.out | (rw [List.drop_eq_nil_of_le (by omega)]; exact Seg.nil)
    case le => omega
    case cm => omega
    rintro e w4 ⟨rfl, b4⟩
    have I4 := I3.below b4
    have S4 := S3.below b4
    have B4 := bel_trans B3 b4
    clear I3 S3 B3 b4 SB HKS
    try subst h
    have HVM := Lib.hid HMS.out
    have hdb := S4.lc
    have hdc : _ ≤ 9223372036854775807 := S4.cm
    clear hdm hdm' hlc t3 hms hd1
    go_wp2
    go_loopw [7, 8, 9] (fun s i _ wr => ∃ k : Nat, k ≤ ys.length ∧ i = .int .i64 k ∧ ∃ T : Int, s = .int .i64 T ∧ Hid (T = M1 + sumTo (wayAt (pbsOf ys) ws) k) ∧ Hid (Below w4.heap.size w4 wr)) (fun _ i _ _ => ys.length - (intOf i).toNat)
    case atStart => exact ⟨0, Nat.zero_le _, rfl, M1, rfl, by simp [Hid, sumTo], Below.refl _ _⟩
    case round =>
      obtain ⟨k, hk, rfl, T, rfl, hT, hb⟩ := hrel
      have Ir := I4.below hb.out
      have Sr := S4.below hb.out
      have HB := sum_small (wayAt_small (cp_parts HOK.out).1 (speech_parts (cp_parts HOK.out).2).1) k
      by_cases hlt : k < ys.length
      · obtain ⟨⟨xm, xA, xc, xl⟩, hs⟩ := get_lt hlt
        obtain ⟨g, o, rfl, hg, _, hgw, hc1, hc2⟩ := Ir.seg.brf hs
        simp only [rowV] at hc1 hc2
        have hpb := Lib.hid (pbsOf_at hs)
        have hxl := Nat.le_trans (Ir.talk _ (List.mem_of_getElem? (pbsOf_at hs))).2.1 (by decide : 101 ≤ 1000)
        have hxs := (Ir.ats _ (List.mem_of_getElem? hs)).2.1
        simp only at hxl hxs
        have hki : (k : Int) < (ys.length : Int) := by omega
        generalize hnn : xl.length = n at *
        have HN := Lib.hid hnn
        clear hs hnn
        by_cases hle : n ≤ ws.length
        · have hd9 : decide ((n : Int) ≤ (ws.length : Int)) = true := decide_eq_true (by omega)
          have hd8 : (n : Int) ≤ (ws.length : Int) := by omega
          have hnd := Nat.le_trans hle Sr.lc
          have hndi := Int.ofNat_le.2 hnd
          try simp only [Int.natCast_one] at hndi
          have hlt2 : Hid ((ws.take n).length = n) := by rw [Hid, List.length_take]; omega
          have HST : ∀ b : Bool, decide (ws.take n = xl) = b → Hid (∀ dq osq cc, Calls Try.prog 24 #[.slice (some ⟨gB, oB, none⟩) n cc, .slice xA n xc] (grow (redrawn wr dq) osq) fun e w'' => e = .returned (.bool b) ∧ ∃ p : Regrown, w'' = grow (redrawn wr p.d) p.os) := by
            intro b hbb dq osq cc
            subst hbb
            have hqq := below_regrown wr dq osq
            have := same_textsK (ws.take n) xl n n hlt2.out HN.out (some ⟨gB, oB, none⟩) xA cc xc (grow (redrawn wr dq) osq) ((Sr.seg.takeS _).below hqq).top (hxs.below hqq).top (by unfold maxLen; omega) (by unfold maxLen; omega)
            exact Calls.regrown_of this
          by_cases hq9 : ws.take n = xl
          · have HEQ := HST true (decide_eq_true hq9)
            have hmk := HDR.out n
            generalize hMK : manyOf (pbsOf ys) (ws.drop n) = MK at *
            have HMK := Lib.hid hMK
            have R1 : Hid (T + MK = M1 + sumTo (wayAt (pbsOf ys) ws) (k + 1)) := by
              have h1 := way_yes (ws := ws) HOK.out hpb.out HN.out hq9
              have h2 := hT.out
              show T + MK = _
              rw [sumTo, h1, hMK]; omega
            have TB : Hid (0 ≤ T ∧ T ≤ 10000000000000) := by
              have h1 := hT.out
              have h2 := HM1.out
              have h3 := HVM.out
              have h4 := HDR.out 1
              rw [h2] at h4
              refine ⟨?_, ?_⟩ <;> omega
            have e9 : IntKind.i64.wrap (T + MK) = T + MK := IntWalk.i64_in _ (by have := TB.out; omega)
            clear HST hq9 hMK
            go_wp2_with fail
            have q1 := cell_regrown hc1
            have q2 := cell_regrown hc2
            (refine wp_region_quiet_below (by kernel_rfl) (by kernel_rfl) ?_; (repeat (go_big_quiet_step (((go_at_call 24; with_reducible exact HEQ.out _ _ _))))); refine wpQuiet_nil ?_; intro _ hw'; obtain ⟨⟨dq, osq⟩, hw''⟩ := hw'; subst hw'')
            have hq := below_regrown wr dq osq
            generalize grow (redrawn wr dq) osq = wq at *
            have HBW := Lib.hid (bel_trans hb.out hq)
            have Iq := Ir.below hq
            have Sq := Sr.below hq
            have HKN : Hid (∀ BS dS, Seg wq 0 wq.heap.size BS (strs (ws.drop n)) → ws.length - n ≤ dS → dS ≤ maxLen → Calls Try.prog 22 #[.slice (some ⟨g, o, none⟩) ys.length c1, .slice BS (ws.length - n) dS] wq fun e w' => e = .returned (.int .i64 MK) ∧ Below wq.heap.size wq w') := by
              intro BS dS h1 h2 h3
              have := impl_CopyManyK ys (ws.drop n) (ws.length - n) (by rw [List.length_drop]) (some ⟨g, o, none⟩) BS c1 dS wq Iq h1 (fun s h => hso.out s (List.mem_of_mem_drop h)) h2 h3
              rwa [HMK.out] at this
            have SB := Lib.hid (Sq.seg.dropS (c := 0) n)
            have hdl := Sq.lc
            have hdm := Lib.hid Sq.cm
            clear hq hc1 hc2 q1 q2 Ir Sr Iq Sq
            go_wp2_with fail
            all_goals
              try subst h
              refine (HKN.out _ _ ?sg ?le ?cm).mono ?_
              case sg => first | exact SB.out | (rw [List.drop_eq_nil_of_le (by omega)]; exact Seg.nil)
              case le => omega
              case cm => have := hdm.out; omega
              rintro e w5 ⟨rfl, b5⟩
              have R2 := Lib.hid (bel_trans HBW.out b5)
              clear b5 HKN SB
              go_wp2
              go_roundw
              case rel => exact ⟨k + 1, by omega, by go_num, T + MK, rfl, R1, R2⟩
              case measure => simp [intOf]; omega
          · have HEQ := HST false (decide_eq_false hq9)
            have R1 : Hid (T = M1 + sumTo (wayAt (pbsOf ys) ws) (k + 1)) := by
              have h1 := way_not (ws := ws) hpb.out HN.out hq9
              have h2 := hT.out
              show T = _
              rw [sumTo, h1]; omega
            clear HST hq9
            go_wp2_with fail
            have q1 := cell_regrown hc1
            have q2 := cell_regrown hc2
            (refine wp_region_quiet_below (by kernel_rfl) (by kernel_rfl) ?_; (repeat (go_big_quiet_step (((go_at_call 24; with_reducible exact HEQ.out _ _ _))))); refine wpQuiet_nil ?_; intro _ hw'; obtain ⟨⟨dq, osq⟩, hw''⟩ := hw'; subst hw'')
            have hq := below_regrown wr dq osq
            generalize grow (redrawn wr dq) osq = wq at *
            have R2 := Lib.hid (bel_trans hb.out hq)
            clear hq hc1 hc2 q1 q2
            go_wp2
            go_roundw
            case rel => exact ⟨k + 1, by omega, by go_num, T, rfl, R1, R2⟩
            case measure => simp [intOf]; omega
        · have hd9 : decide ((n : Int) ≤ (ws.length : Int)) = false := decide_eq_false (by omega)
          have hd8 : ¬ (n : Int) ≤ (ws.length : Int) := by omega
          have R1 : Hid (T = M1 + sumTo (wayAt (pbsOf ys) ws) (k + 1)) := by
            have h1 := way_long (ws := ws) hpb.out HN.out hle
            have h2 := hT.out
            show T = _
            rw [sumTo, h1]; omega
          go_wp2_with fail
          (refine wp_region_quiet_below (by kernel_rfl) (by kernel_rfl) ?_; (repeat (go_big_quiet_step ((fail)))); refine wpQuiet_nil ?_; intro _ hw'; obtain ⟨⟨dq, osq⟩, hw''⟩ := hw'; subst hw'')
          have hq := below_regrown wr dq osq
          generalize grow (redrawn wr dq) osq = wq at *
          have R2 := Lib.hid (bel_trans hb.out hq)
          clear hq hc1 hc2
          go_wp2
          go_roundw
          case rel => exact ⟨k + 1, by omega, by go_num, T, rfl, R1, R2⟩
          case measure => simp [intOf]; omega
      · have hTV : T = V := by
          obtain rfl : k = ys.length := by omega
          rw [hT.out, ← HSM.out, pbsOf_len]
        have BF := bel_trans B4 hb.out
        have HTV := Lib.hid hTV
        clear hTV
        rw [HTV.out]
        go_wp2
        go_ret
        exact ⟨rfl, BF⟩
end Go.Proofs.Ytgddklafeaoleaa
