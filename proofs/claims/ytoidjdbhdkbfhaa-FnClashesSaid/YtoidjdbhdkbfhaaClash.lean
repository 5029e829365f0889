/-
  Contracts of DictionaryClashes (both texts).
-/
import Derived.Test.YtoidjdbhdkbfhaaRead
namespace Go.Proofs.Ytoidjdbhdkbfhaa
open Go.RowKit Go.Sort
set_option linter.unusedSimpArgs false
set_option linter.unusedVariables false

def hitsAt (ss : List Sgn) (ws : List Str) (i : Nat) : Int := if woOk ss (strAt ws i) then ((readTo ss ws (woOf ss (strAt ws i)) i).length : Int) else 0
def clashTo (ss : List Sgn) (ws : List Str) (n : Nat) : Int := sumTo (hitsAt ss ws) n
def clashOf (ss : List Sgn) (ws : List Str) : Int := if bothOk ss ws then clashTo ss ws ws.length else -1
theorem hitsAt_le (ss : List Sgn) (ws : List Str) (i : Nat) : 0 ≤ hitsAt ss ws i ∧ hitsAt ss ws i ≤ i := by
  unfold hitsAt
  split
  · have := readTo_len ss ws (woOf ss (strAt ws i)) i; omega
  · omega
theorem clashTo_le (ss : List Sgn) (ws : List Str) (n : Nat) : 0 ≤ clashTo ss ws n ∧ (n ≤ 20 → clashTo ss ws n ≤ 20 * n) := by
  induction n with
  | zero => simp [clashTo, sumTo]
  | succ n ih =>
    have := hitsAt_le ss ws n
    simp only [clashTo, sumTo] at *
    exact ⟨by omega, fun h => by have := ih.2 (by omega); omega⟩
def pairAt (l : List (Nat × List Stk)) (m : Nat) : Int := ((pick (l.getD m (0, [])).2 (l.take m)).length : Int)
def pairTo (l : List (Nat × List Stk)) (n : Nat) : Int := sumTo (pairAt l) n
theorem pairTo_left (l : List (Nat × List Stk)) (p : Nat × List Stk) {n : Nat} (h : n ≤ l.length) : pairTo (l ++ [p]) n = pairTo l n := by
  refine sumTo_congr fun i hi => ?_
  have hil : i < l.length := by omega
  rw [pairAt, pairAt, List.take_append_of_le_length (by omega)]
  simp [List.getD, List.getElem?_append_left hil]
theorem pairTo_snoc (l : List (Nat × List Stk)) (p : Nat × List Stk) : pairTo (l ++ [p]) (l ++ [p]).length = pairTo l l.length + ((pick p.2 l).length : Int) := by
  rw [List.length_append, List.length_singleton]
  have h : pairTo (l ++ [p]) (l.length + 1) = pairTo (l ++ [p]) l.length + pairAt (l ++ [p]) l.length := rfl
  rw [h, pairTo_left l p (Nat.le_refl _), pairAt]
  congr 2
  simp [List.getD]
theorem pair_clash (ss : List Sgn) (ws : List Str) (k : Nat) : pairTo (writTo ss ws k) (writTo ss ws k).length = clashTo ss ws k := by
  induction k with
  | zero => rfl
  | succ k ih =>
    have h0 : clashTo ss ws (k + 1) = clashTo ss ws k + hitsAt ss ws k := rfl
    cases h : woOk ss (strAt ws k)
    · rw [writTo_no rfl h, ih, h0, hitsAt, h]; simp
    · rw [writTo_yes rfl h, pairTo_snoc, ih, pick_read, h0, hitsAt, h]; rfl
theorem clash_yes {ss : List Sgn} {ws : List Str} {k : Nat} {s : Str} (hs : strAt ws k = s) (h : woOk ss s = true) : clashTo ss ws (k + 1) = clashTo ss ws k + ((readTo ss ws (woOf ss s) k).length : Int) := by
  show clashTo ss ws k + hitsAt ss ws k = _
  rw [hitsAt, hs, h]; rfl
theorem clash_no {ss : List Sgn} {ws : List Str} {k : Nat} {s : Str} (hs : strAt ws k = s) (h : woOk ss s = false) : clashTo ss ws (k + 1) = clashTo ss ws k := by
  show clashTo ss ws k + hitsAt ss ws k = _
  rw [hitsAt, hs, h]; simp

set_option maxRecDepth 100000 in
set_option maxHeartbeats 2000000 in
theorem spec_DictionaryClashes (ss : List Sgn) (ws : List Str) (A B : Option Addr) (c d : Nat) (w : World) (hw : Seg w 0 w.heap.size A (flat sgnC ss)) (hv : Seg w 0 w.heap.size B (strs ws)) (ho : OkSgns ss) (hp : StrsOk ws) (hn : ss.length ≤ maxLen) (hm : ws.length ≤ maxLen) :
    Calls Try.prog 9 #[.slice A ss.length c, .slice B ws.length d] w fun e w' => e = .returned (.int .i64 (clashOf ss ws)) ∧ Below w.heap.size w w' := by
  cases hbb : bothOk ss ws
  · have HJ : Hid (clashOf ss ws = -1) := by rw [Hid, clashOf, hbb]; rfl
    go_enter Try.func9, Try.ntmps9
    go_wp2_with fail
    refine (spec_l2Both ss ws A B c d _ hw hv ho hp hn hm).mono ?_
    rintro e w1 ⟨rfl, b1⟩
    rw [hbb]
    go_wp2
    go_ret
    exact ⟨ret_int HJ.out.symm, b1⟩
  have HJ : Hid (clashOf ss ws = clashTo ss ws ws.length) := by rw [Hid, clashOf, hbb]; rfl
  have h20 : ws.length ≤ 20 := by simp only [bothOk, Bool.and_eq_true] at hbb; exact dict_len hbb.2
  go_enter Try.func9, Try.ntmps9
  go_wp2_with fail
  refine (spec_l2Both ss ws A B c d _ hw hv ho hp hn hm).mono ?_
  rintro e w1 ⟨rfl, b1⟩
  rw [hbb]
  go_wp2
  go_loopw [5, 6] (fun v i wr => ∃ k : Nat, ∃ z : Int, k ≤ ws.length ∧ i = .int .i64 k ∧ v = .int .i64 z ∧ 0 ≤ z ∧ z ≤ 400 ∧ Hid (z = clashTo ss ws k) ∧ Below w.heap.size w wr) (fun _ i _ => ws.length - (intOf i).toNat)
  case atStart => exact ⟨0, 0, Nat.zero_le _, rfl, rfl, by decide, by decide, rfl, b1⟩
  case round =>
    obtain ⟨k, z, hk, rfl, rfl, hz0, hz1, hz, hb⟩ := hrel
    by_cases hlt : k < ws.length
    · obtain ⟨s, hs'⟩ := get_lt hlt
      have HS := Lib.hid (strAt_eq hs')
      have hsm := hp.at_ hs'
      obtain ⟨g, o, rfl, hg, hc⟩ := (hv.below hb).at_ (strs_at hs')
      have hcell := hc k _ (strs_at hs')
      have hkd : decide ((k : Int) < (ws.length : Int)) = true := decide_eq_true (by omega)
      have hkdn : decide (k < ws.length) = true := decide_eq_true hlt
      clear hs' hc
      go_wp2_with fail
      refine (spec_WordOutline ss s A c _ (hw.below hb).top ho hn hsm).mono ?_
      rintro e w3 ⟨v2, rfl, own2, b3⟩
      obtain ⟨A2, c2, rfl, _, _, sg2⟩ := own2.form
      have hb3 := bel_trans hb b3
      have SG2 := Lib.hid (sg2.mono (lo' := 0) (Nat.zero_le _) (Nat.le_refl _))
      clear own2 b3 hcell sg2
      cases hx : woOk ss s
      · have HN : Hid (z = clashTo ss ws (k + 1)) := by rw [Hid, clash_no HS.out hx]; exact hz.out
        go_wp2
        go_loopw [5, 9] (fun v i wi => v = .int .i64 z ∧ i = .int .i64 0 ∧ Hid (wi = w3)) (fun _ _ _ => 0)
        case atStart => exact ⟨rfl, rfl, rfl⟩
        case round =>
          obtain ⟨rfl, rfl, hwi⟩ := hrel
          have hbw : Below w.heap.size w wr := by rw [hwi.out]; exact hb3
          by_cases hk0 : 0 < k
          · have d1 : decide ((0 : Int) < (k : Int)) = true := decide_eq_true (by omega)
            have d2 : decide (0 < k) = true := decide_eq_true hk0
            go_wp2
            go_roundw
            case rel => exact ⟨k + 1, z, by omega, by go_num, rfl, hz0, hz1, HN, hbw⟩
            case measure => simp [intOf]; omega
          · have d1 : decide ((0 : Int) < (k : Int)) = false := decide_eq_false (by omega)
            have d2 : decide (0 < k) = false := decide_eq_false hk0
            go_wp2
            go_roundw
            case rel => exact ⟨k + 1, z, by omega, by go_num, rfl, hz0, hz1, HN, hbw⟩
            case measure => simp [intOf]; omega
      have HOW := Lib.hid (woOf_out hx)
      have HZ1 : Hid (z + ((readTo ss ws (woOf ss s) k).length : Int) = clashTo ss ws (k + 1)) := by rw [Hid, clash_yes HS.out hx, hz.out]
      have hz2 : z ≤ 20 * k := by rw [hz.out]; exact (clashTo_le ss ws k).2 (by omega)
      have hwl : (woOf ss s).length ≤ maxLen := Nat.le_trans (woOf_len ss s) (by decide)
      generalize woOf ss s = os at *
      go_wp2
      go_loopw [5, 9] (fun v i wi => ∃ j : Nat, ∃ y : Int, j ≤ k ∧ i = .int .i64 j ∧ v = .int .i64 y ∧ 0 ≤ y ∧ y ≤ 20 * k + j ∧ Hid (y = z + ((readTo ss ws os j).length : Int)) ∧ Below w3.heap.size w3 wi) (fun _ i _ => k - (intOf i).toNat)
      case atStart => exact ⟨0, z, Nat.zero_le _, rfl, rfl, hz0, by omega, by simp [Hid, readTo, gather], Below.refl _ _⟩
      case round =>
        obtain ⟨j, y, hj, rfl, rfl, hy0, hy1, hy, hbi⟩ := hrel
        have hbw := bel_trans hb3 hbi
        by_cases hjl : j < k
        · obtain ⟨s', hs''⟩ := get_lt (show j < ws.length by omega)
          have HS' := Lib.hid (strAt_eq hs'')
          have hsm' := hp.at_ hs''
          obtain ⟨g', o', e', hg', hc'⟩ := (hv.below hbw).at_ (strs_at hs'')
          injection e' with e'
          injection e' with e1 e2
          subst e1 e2
          have hcell' := hc' j _ (strs_at hs'')
          have hjd : decide ((j : Int) < (k : Int)) = true := decide_eq_true (by omega)
          have hjdn : decide (j < k) = true := decide_eq_true hjl
          have hjw : j < ws.length := by omega
          clear hs'' hc'
          go_wp2_with fail
          refine (spec_WordOutline ss s' A c _ (hw.below hbw).top ho hn hsm').mono ?_
          rintro e w4 ⟨v3, rfl, own3, b4⟩
          obtain ⟨A3, c3, rfl, _, _, sg3⟩ := own3.form
          have hbi4 := bel_trans hbi b4
          have SG3 := Lib.hid (sg3.mono (lo' := 0) (Nat.zero_le _) (Nat.le_refl _))
          clear own3 b4 hcell' sg3
          cases hx' : woOk ss s'
          · have HN : Hid (y = z + ((readTo ss ws os (j + 1)).length : Int)) := by rw [Hid, readTo_no HS'.out (.inl hx')]; exact hy.out
            go_wp2
            go_roundw
            case rel => exact ⟨j + 1, y, by omega, by go_num, rfl, hy0, by omega, HN, hbi4⟩
            case measure => simp [intOf]; omega
          · have hwl' : (woOf ss s').length ≤ maxLen := Nat.le_trans (woOf_len ss s') (by decide)
            have HOW' := Lib.hid (woOf_out hx')
            go_wp2_with fail
            refine (spec_OutlineText os A2 c2 _ (SG2.out.below hbi4).top hwl).mono ?_
            rintro e w5 ⟨rfl, b5⟩
            have hbi5 := bel_trans hbi4 b5
            have sg5 := SG3.out.below b5
            go_wp2_with fail
            refine (spec_OutlineText (woOf ss s') A3 c3 _ sg5.top hwl').mono ?_
            rintro e w6 ⟨rfl, b6⟩
            have hbi6 := bel_trans hbi5 b6
            clear b5 b6 sg5
            by_cases he : woOf ss s' = os
            · have HN : Hid (y + 1 = z + ((readTo ss ws os (j + 1)).length : Int)) := by
                have := hy.out
                rw [Hid, readTo_yes HS'.out hx' he, List.length_append]; simp; omega
              have hte : outText (woOf ss s') = outText os := by rw [he]
              rw [hte]
              clear hte he
              go_wp2
              go_roundw
              case rel => exact ⟨j + 1, y + 1, by omega, by go_num, by go_num, by omega, by omega, HN, hbi6⟩
              case measure => simp [intOf]; omega
            · have HN : Hid (y = z + ((readTo ss ws os (j + 1)).length : Int)) := by rw [Hid, readTo_no HS'.out (.inr he)]; exact hy.out
              have hne := str_ne (fun h => he (outText_inj HOW.out HOW'.out h).symm)
              clear he
              go_wp2
              go_roundw
              case rel => exact ⟨j + 1, y, by omega, by go_num, rfl, hy0, by omega, HN, hbi6⟩
              case measure => simp [intOf]; omega
        · have hje : j = k := by omega
          have HN : Hid (y = clashTo ss ws (k + 1)) := by
            have h1 := hy.out
            rw [hje] at h1
            rw [Hid, h1]; exact HZ1.out
          have hjd : decide ((j : Int) < (k : Int)) = false := decide_eq_false (by omega)
          have hjdn : decide (j < k) = false := decide_eq_false hjl
          have hy4 : y ≤ 400 := by omega
          clear hje
          go_wp2
          go_roundw
          case rel => exact ⟨k + 1, y, by omega, by go_num, rfl, hy0, hy4, HN, hbw⟩
          case measure => simp [intOf]; omega
    · have hke : k = ws.length := by omega
      have HE : Hid (clashOf ss ws = z) := by rw [Hid, HJ.out, hz.out, hke]
      have hkd : decide ((k : Int) < (ws.length : Int)) = false := decide_eq_false (by omega)
      have hkdn : decide (k < ws.length) = false := decide_eq_false hlt
      clear hke
      go_wp2
      go_ret
      exact ⟨ret_int HE.out.symm, hb⟩

set_option maxRecDepth 100000 in
set_option maxHeartbeats 2000000 in
theorem impl_DictionaryClashes (ss : List Sgn) (ws : List Str) (A B : Option Addr) (c d : Nat) (w : World) (hw : Seg w 0 w.heap.size A (flat sgnC ss)) (hv : Seg w 0 w.heap.size B (strs ws)) (ho : OkSgns ss) (hp : StrsOk ws) (hn : ss.length ≤ maxLen) (hm : ws.length ≤ maxLen) (hd : ws.length ≤ d) (hdm : d ≤ maxLen) :
    Calls Try.prog 12 #[.slice A ss.length c, .slice B ws.length d] w fun e w' => e = .returned (.int .i64 (clashOf ss ws)) ∧ Below w.heap.size w w' := by
  go_enter Try.func12, Try.ntmps12
  go_wp2_with fail
  refine (impl_writtenWords ss ws A B c d w hw hv ho hp hn hm hd hdm).mono ?_
  rintro e w1 ⟨v, es, rfl, own1, oo, heq, b1⟩
  have OO := Lib.hid oo
  have hel : es.length ≤ 20 := by
    have h := writOf_len ss ws
    rw [← heq, outsOf, List.length_map] at h
    exact h
  obtain ⟨A1, c1, rfl, hc1l, hc1m⟩ := own_form own1
  have hc1m' : c1 ≤ 9223372036854775807 := hc1m
  have sg1 := (Seg.of_own own1).mono (lo' := 0) (Nat.zero_le _) (Nat.le_refl _)
  have HEQ := Lib.hid heq
  clear own1 heq oo
  cases hbb : bothOk ss ws
  · have HJ : Hid (clashOf ss ws = -1) := by rw [Hid, clashOf, hbb]; rfl
    go_wp2
    go_ret
    exact ⟨ret_int HJ.out.symm, b1⟩
  have HJ : Hid (clashOf ss ws = pairTo (outsOf es) es.length) := by
    have h1 : writOf ss ws = writTo ss ws ws.length := by rw [writOf, hbb]; rfl
    have h2 : es.length = (outsOf es).length := by rw [outsOf, List.length_map]
    rw [Hid, h2, HEQ.out, h1, pair_clash, clashOf, hbb]; rfl
  go_wp2
  go_loopw [7, 22] (fun v i wr => ∃ k : Nat, ∃ z : Int, k ≤ es.length ∧ i = .int .i64 k ∧ v = .int .i64 z ∧ 0 ≤ z ∧ z ≤ 20 * k ∧ Hid (z = pairTo (outsOf es) k) ∧ Below w1.heap.size w1 wr) (fun _ i _ => es.length - (intOf i).toNat)
  case atStart => exact ⟨0, 0, Nat.zero_le _, rfl, rfl, by decide, by omega, rfl, Below.refl _ _⟩
  case round =>
    obtain ⟨k, z, hk, rfl, rfl, hz0, hz1, hz, hb⟩ := hrel
    by_cases hlt : k < es.length
    · obtain ⟨⟨xi, xA, xc, xs⟩, hx⟩ := get_lt hlt
      have sgr := sg1.below hb
      obtain ⟨g, o, rfl, hg, _, _, hc1, hc2⟩ := sgr.outl hx
      simp only [rowV] at hc1 hc2
      have hox : OwnStks w1 w.heap.size (.slice xA xs.length xc) xs := OO.out _ (List.mem_of_getElem? hx)
      have hsx := ((Seg.of_own hox).mono (lo' := 0) (Nat.zero_le _) (Nat.le_refl _)).below hb
      have hxl : xs.length ≤ maxLen := by
        obtain ⟨A9, c9, h9, h10, h11, _⟩ := hox.form
        omega
      have HZ1 : Hid (pairTo (outsOf es) (k + 1) = z + ((pick xs ((outsOf es).take k)).length : Int)) := by
        show pairTo (outsOf es) k + pairAt (outsOf es) k = _
        rw [pairAt, hz.out]
        congr 3
        simp [outsOf, List.getD, hx]
      have bX := bel_alloc (Below.refl wr.heap.size wr) (.cells #[.int .i64 (xi : Int), .slice xA xs.length xc] 68)
      have hbX := bel_trans hb bX
      have hsx4 := Lib.hid (hsx.below bX)
      have kx0 : (wr.alloc (.cells #[.int .i64 (xi : Int), .slice xA xs.length xc] 68)).cell? ⟨wr.heap.size, 1, none⟩ = some (.slice xA xs.length xc) := box_cell _ _ _ 1
      have hBX : wr.heap.size < (wr.alloc (.cells #[.int .i64 (xi : Int), .slice xA xs.length xc] 68)).heap.size := by simp
      have KX := Lib.hid kx0
      have hki : (k : Int) ≤ (c1 : Int) := by omega
      have hkn : k ≤ c1 := by omega
      clear hx hox hsx bX kx0
      go_wp2
      generalize wr.alloc (.cells #[.int .i64 (xi : Int), .slice xA xs.length xc] 68) = w2 at *
      generalize wr.heap.size = bx at *
      go_loopw [7, 31] (fun v i wi => ∃ j : Nat, ∃ y : Int, j ≤ k ∧ i = .int .i64 j ∧ v = .int .i64 y ∧ 0 ≤ y ∧ y ≤ 20 * k + j ∧ Hid (y = z + ((pick xs ((outsOf es).take j)).length : Int)) ∧ Below w2.heap.size w2 wi) (fun _ i _ => k - (intOf i).toNat)
      case atStart => exact ⟨0, z, Nat.zero_le _, rfl, rfl, hz0, by omega, by simp [Hid, pick], Below.refl _ _⟩
      case round =>
        obtain ⟨j, y, hj, rfl, rfl, hy0, hy1, hy, hbi⟩ := hrel
        have hbw := bel_trans hbX hbi
        by_cases hjl : j < k
        · obtain ⟨⟨yi, yA, yc, ys⟩, hyx⟩ := get_lt (show j < es.length by omega)
          obtain ⟨g', o', e', hg', _, _, hd1, hd2⟩ := (sg1.below hbw).outl hyx
          injection e' with e'
          injection e' with e1 e2
          subst e1 e2
          simp only [rowV] at hd1 hd2
          have hoy : OwnStks w1 w.heap.size (.slice yA ys.length yc) ys := OO.out _ (List.mem_of_getElem? hyx)
          have hsy := ((Seg.of_own hoy).mono (lo' := 0) (Nat.zero_le _) (Nat.le_refl _)).below hbw
          have hyl : ys.length ≤ maxLen := by
            obtain ⟨A9, c9, h9, h10, h11, _⟩ := hoy.form
            omega
          have HT : Hid ((outsOf es).take (j + 1) = (outsOf es).take j ++ [((yi, ys) : Nat × List Stk)]) := take_snoc' (by simp [outsOf, hyx])
          have bY := bel_alloc (Below.refl wr.heap.size wr) (.cells #[.int .i64 (yi : Int), .slice yA ys.length yc] 68)
          have kx1 : wr.cell? ⟨bx, 1, none⟩ = some (.slice xA xs.length xc) := (hbi.cell (p := ⟨bx, 1, none⟩) hBX).trans KX.out
          have hsx5 := (hsx4.out.below hbi).below bY
          have hsy5 := hsy.below bY
          have hbxr : bx < wr.heap.size := Nat.lt_of_lt_of_le hBX hbi.size
          have hbiY := bel_trans hbi bY
          clear hyx hoy hsy bY
          go_wp2_with fail
          refine (slices_EqualStk xs ys xA yA xc yc _ hsx5.top hsy5.top hxl hyl).mono ?_
          rintro e w5 ⟨rfl, b5⟩
          have hbi5 := bel_trans hbiY b5
          clear hsx5 hsy5 b5 kx1 hd1 hd2
          by_cases he : ys = xs
          · have HN : Hid (y + 1 = z + ((pick xs ((outsOf es).take (j + 1))).length : Int)) := by
              have := hy.out
              rw [Hid, HT.out, pick_snoc, if_pos he, List.length_append]; simp; omega
            have hdt : decide (xs = ys) = true := decide_eq_true he.symm
            rw [hdt]
            clear he hdt
            go_wp2
            go_roundw
            case rel => exact ⟨j + 1, y + 1, by omega, by go_num, by go_num, by omega, by omega, HN, hbi5⟩
            case measure => simp [intOf]; omega
          · have HN : Hid (y = z + ((pick xs ((outsOf es).take (j + 1))).length : Int)) := by
              have := hy.out
              rw [Hid, HT.out, pick_snoc, if_neg he, List.append_nil]; exact this
            have hdt : decide (xs = ys) = false := decide_eq_false fun h => he h.symm
            rw [hdt]
            clear he hdt
            go_wp2
            go_roundw
            case rel => exact ⟨j + 1, y, by omega, by go_num, rfl, hy0, by omega, HN, hbi5⟩
            case measure => simp [intOf]; omega
        · have hje : j = k := by omega
          have HN : Hid (y = pairTo (outsOf es) (k + 1)) := by
            have h1 := hy.out
            rw [hje] at h1
            rw [Hid, HZ1.out]; exact h1
          have hjd : decide ((j : Int) < (k : Int)) = false := decide_eq_false (by omega)
          have hjdn : decide (j < k) = false := decide_eq_false hjl
          have hy4 : y ≤ 20 * k + 20 := by omega
          clear hje
          go_wp2
          go_roundw
          case rel => exact ⟨k + 1, y, by omega, by go_num, rfl, hy0, by omega, HN, hbw⟩
          case measure => simp [intOf]; omega
    · have hke : k = es.length := by omega
      have HE : Hid (clashOf ss ws = z) := by rw [Hid, HJ.out, hz.out, hke]
      have bal := bel_trans b1 hb
      clear hke
      go_wp2
      go_ret
      exact ⟨ret_int HE.out.symm, bal⟩
end Go.Proofs.Ytoidjdbhdkbfhaa
