/-
  Contracts of DictionaryRead (both texts).
-/
import Derived.Test.YtbcbpcidfcjibaaDict
import Derived.Test.YtbcbpcidfcjibaaTxt
namespace Go.Proofs.Ytbcbpcidfcjibaa
open Go.RowKit Go.Sort
set_option linter.unusedSimpArgs false
set_option linter.unusedVariables false

def readAt (ss : List Sgn) (ws : List Str) (os : List Stk) (i : Nat) : Option Int := if woOk ss (strAt ws i) && decide (woOf ss (strAt ws i) = os) then some (i : Int) else none
def readTo (ss : List Sgn) (ws : List Str) (os : List Stk) (k : Nat) : List Int := gather (readAt ss ws os) k
def readOk (ss : List Sgn) (ws : List Str) (os : List Stk) : Bool := bothOk ss ws && outOk os
def readOf (ss : List Sgn) (ws : List Str) (os : List Stk) : List Int := if readOk ss ws os then readTo ss ws os ws.length else []
theorem readTo_len (ss : List Sgn) (ws : List Str) (os : List Stk) (k : Nat) : (readTo ss ws os k).length ≤ k := gather_length _ _
theorem readTo_yes {ss : List Sgn} {ws : List Str} {os : List Stk} {k : Nat} {s : Str} (hs : strAt ws k = s) (h : woOk ss s = true) (h2 : woOf ss s = os) : readTo ss ws os (k + 1) = readTo ss ws os k ++ [(k : Int)] := gather_some (by simp [readAt, hs, h, h2])
theorem readTo_no {ss : List Sgn} {ws : List Str} {os : List Stk} {k : Nat} {s : Str} (hs : strAt ws k = s) (h : woOk ss s = false ∨ woOf ss s ≠ os) : readTo ss ws os (k + 1) = readTo ss ws os k := gather_none (by rcases h with h | h <;> simp [readAt, hs, h])
theorem readOf_len (ss : List Sgn) (ws : List Str) (os : List Stk) : (readOf ss ws os).length ≤ 20 := by
  unfold readOf
  split
  · rename_i h
    simp only [readOk, bothOk, Bool.and_eq_true] at h
    exact Nat.le_trans (readTo_len _ _ _ _) (dict_len h.1.2)
  · simp
def pick (os : List Stk) (l : List (Nat × List Stk)) : List Int := (l.filter fun p => decide (p.2 = os)).map fun p => (p.1 : Int)
theorem pick_snoc (os : List Stk) (l : List (Nat × List Stk)) (p : Nat × List Stk) : pick os (l ++ [p]) = pick os l ++ if p.2 = os then [(p.1 : Int)] else [] := by
  simp only [pick, List.filter_append, List.map_append]
  congr 1
  by_cases h : p.2 = os <;> simp [h]
theorem pick_read (ss : List Sgn) (ws : List Str) (os : List Stk) (k : Nat) : pick os (writTo ss ws k) = readTo ss ws os k := by
  induction k with
  | zero => rfl
  | succ k ih =>
    cases h : woOk ss (strAt ws k)
    · rw [writTo_no rfl h, readTo_no rfl (.inl h), ih]
    · rw [writTo_yes rfl h, pick_snoc, ih]
      by_cases h2 : woOf ss (strAt ws k) = os
      · rw [readTo_yes rfl h h2, if_pos h2]
      · rw [readTo_no rfl (.inr h2), if_neg h2, List.append_nil]
theorem pick_len (os : List Stk) (l : List (Nat × List Stk)) : (pick os l).length ≤ l.length := by
  simp only [pick, List.length_map]; exact List.length_filter_le _ _

set_option maxRecDepth 100000 in
set_option maxHeartbeats 1000000 in
theorem spec_DictionaryRead (ss : List Sgn) (ws : List Str) (os : List Stk) (A B C : Option Addr) (c d f : Nat) (w : World) (hw : Seg w 0 w.heap.size A (flat sgnC ss)) (hv : Seg w 0 w.heap.size B (strs ws)) (hu : Seg w 0 w.heap.size C (flat stkC os)) (ho : OkSgns ss) (hp : StrsOk ws) (hn : ss.length ≤ maxLen) (hm : ws.length ≤ maxLen) (hl : os.length ≤ maxLen) :
    Calls Try.prog 6 #[.slice A ss.length c, .slice B ws.length d, .slice C os.length f] w (GaveInts (readOf ss ws os) w) := by
  have hm' : ws.length ≤ 9223372036854775807 := hm
  have own0 : Hid ((w.alloc (.cells #[] 3)).ownsRow w.heap.size 3 1 (.slice (some ⟨w.heap.size, 0, none⟩) 0 0) 0 []) := World.ownsRow_made w #[] 0 (Nat.le_refl _) (by simp [maxLen]) (by simp)
  have b0 := bel_alloc (Below.refl w.heap.size w) (.cells #[] 3)
  have HB0 : readOk ss ws os = true → ws.length ≤ 20 ∧ readOf ss ws os = readTo ss ws os ws.length := fun h => by
    refine ⟨?_, by rw [readOf, h]; rfl⟩
    simp only [readOk, bothOk, Bool.and_eq_true] at h
    exact dict_len h.1.2
  have HN0 : readOk ss ws os = false → readOf ss ws os = [] := fun h => by rw [readOf, h]; rfl
  have HB := Lib.hid HB0
  have HN := Lib.hid HN0
  clear HB0 HN0
  go_enter Try.func6, Try.ntmps6
  go_wp2
  go_loopw [7, 8] (fun v i wr => ∃ k : Nat, k ≤ ws.length ∧ i = .int .i64 k ∧ Hid (k = 0 ∨ readOk ss ws os = true) ∧ (readTo ss ws os k).length ≤ k ∧ wr.ownsRow w.heap.size 3 1 v (readTo ss ws os k).length (flat intC (readTo ss ws os k)) ∧ Below w.heap.size w wr) (fun _ i _ => ws.length - (intOf i).toNat)
  case atStart => exact ⟨0, Nat.zero_le _, rfl, .inl rfl, Nat.le_refl _, own0.out, b0⟩
  case round =>
    obtain ⟨k, hk, rfl, hbo, hln, hown, hb⟩ := hrel
    by_cases hlt : k < ws.length
    · obtain ⟨s, hs'⟩ := get_lt hlt
      have HS := Lib.hid (strAt_eq hs')
      have hsm := hp.at_ hs'
      have hkd : decide ((k : Int) < (ws.length : Int)) = true := by simp; omega
      have hkdn : decide (k < ws.length) = true := by simp; omega
      have HHS := Lib.hid hs'
      clear hs'
      go_wp2_with fail
      refine (spec_l2Both ss ws A B c d _ (hw.below hb).top (hv.below hb).top ho hp hn hm).mono ?_
      rintro e w1 ⟨rfl, b1⟩
      have hb1 := bel_trans hb b1
      have hown1 := own_below hown b1
      clear hown b1
      cases hbb : bothOk ss ws
      · have hro : readOk ss ws os = false := by rw [readOk, hbb]; rfl
        have hk0 : k = 0 := by
          rcases hbo.out with h | h
          · exact h
          · rw [hro] at h; cases h
        subst hk0
        have HE : Hid (OwnInts w1 w.heap.size u7 (readOf ss ws os)) := by rw [HN.out hro]; exact hown1
        clear hown1 hro
        go_wp2
        go_ret
        exact ⟨_, rfl, HE.out, hb1⟩
      · go_wp2_with fail
        refine (spec_OutlineValid os C f _ (hu.below hb1).top hl).mono ?_
        rintro e w2 ⟨rfl, b2⟩
        have hb2 := bel_trans hb1 b2
        have hown2 := own_below hown1 b2
        clear hown1 b2
        cases hoo : outOk os
        · have hro : readOk ss ws os = false := by rw [readOk, hoo, Bool.and_false]
          have hk0 : k = 0 := by
            rcases hbo.out with h | h
            · exact h
            · rw [hro] at h; cases h
          subst hk0
          have HE : Hid (OwnInts w2 w.heap.size u7 (readOf ss ws os)) := by rw [HN.out hro]; exact hown2
          clear hown2 hro
          go_wp2
          go_ret
          exact ⟨_, rfl, HE.out, hb2⟩
        have hro : readOk ss ws os = true := by rw [readOk, hbb, hoo]; rfl
        have h20 := (HB.out hro).1
        have HRO := Lib.hid hro
        obtain ⟨g, o, rfl, hg, hc⟩ := (hv.below hb2).at_ (strs_at HHS.out)
        have hcell := hc k _ (strs_at HHS.out)
        clear hc hro
        go_wp2_with fail
        refine (spec_WordOutline ss s A c _ (hw.below hb2).top ho hn hsm).mono ?_
        rintro e w3 ⟨v2, rfl, own2, b3⟩
        obtain ⟨A2, c2, rfl, _, _, sg2⟩ := own2.form
        have hown3 := own_below hown2 b3
        have hb3 := bel_trans hb2 b3
        clear hown2 b3 own2 hcell
        cases hx : woOk ss s
        · have HW := Lib.hid (readTo_no (os := os) HS.out (.inl hx))
          have R1 : w3.ownsRow w.heap.size 3 1 u7 (readTo ss ws os (k + 1)).length (flat intC (readTo ss ws os (k + 1))) := by rw [HW.out]; exact hown3
          have R2 : (readTo ss ws os (k + 1)).length ≤ k + 1 := by rw [HW.out]; omega
          clear hown3 sg2
          go_wp2
          go_roundw
          case rel => exact ⟨k + 1, by omega, by go_num, .inr HRO.out, R2, R1, hb3⟩
          case measure => simp [intOf]; omega
        · have hwl : (woOf ss s).length ≤ maxLen := Nat.le_trans (woOf_len ss s) (by decide)
          have HOW := Lib.hid (woOf_out hx)
          go_wp2_with fail
          refine (spec_OutlineText (woOf ss s) A2 c2 _ (sg2.mono (Nat.zero_le _) (Nat.le_refl _)) hwl).mono ?_
          rintro e w4 ⟨rfl, b4⟩
          have hb4 := bel_trans hb3 b4
          have hown4 := own_below hown3 b4
          clear b4 hown3 sg2
          go_wp2_with fail
          refine (spec_OutlineText os C f _ (hu.below hb4).top hl).mono ?_
          rintro e w5 ⟨rfl, b5⟩
          have hb5 := bel_trans hb4 b5
          have hown5 := own_below hown4 b5
          have hB5 := hb5.size
          clear b5 hown4
          by_cases he : woOf ss s = os
          · have HW := Lib.hid (readTo_yes HS.out hx he)
            have hte : outText (woOf ss s) = outText os := by rw [he]
            rw [hte]
            clear hte he
            go_wp2_with (at_builtin; refine append_one w5 (by rfl) (.tmp 44) (.tmp 46) 28 (by rfl) (w.heap.size) 3 _ 1 8 Try.underlying28 info_int rfl (by decide) (by decide) (u7) _ _ (by rfl) hown5 #[.int .i64 (k : Int)] (by rfl) rfl (by simp [Value.oneCell']) (by omega) hB5 ?_; intro v' w6 hown' hgrow)
            have R1 : w6.ownsRow w.heap.size 3 1 v' (readTo ss ws os (k + 1)).length (flat intC (readTo ss ws os (k + 1))) := by
              rw [HW.out, List.length_append, flat_append]; exact hown'
            have R2 : (readTo ss ws os (k + 1)).length ≤ k + 1 := by rw [HW.out, List.length_append]; simp; omega
            have R4 := own_grown_below hb5 hown5 hgrow hB5
            clear hown' hgrow hown5
            go_wp2
            go_roundw
            case rel => exact ⟨k + 1, by omega, by go_num, .inr HRO.out, R2, R1, R4⟩
            case measure => simp [intOf]; omega
          · have HW := Lib.hid (readTo_no (os := os) HS.out (.inr he))
            have R1 : w5.ownsRow w.heap.size 3 1 u7 (readTo ss ws os (k + 1)).length (flat intC (readTo ss ws os (k + 1))) := by rw [HW.out]; exact hown5
            have R2 : (readTo ss ws os (k + 1)).length ≤ k + 1 := by rw [HW.out]; omega
            have hne := str_ne (fun h => he (outText_inj HOW.out hoo h))
            clear he hown5
            go_wp2
            go_roundw
            case rel => exact ⟨k + 1, by omega, by go_num, .inr HRO.out, R2, R1, hb5⟩
            case measure => simp [intOf]; omega
    · have hke : k = ws.length := by omega
      have HE : Hid (OwnInts wr w.heap.size u7 (readOf ss ws os)) := by
        have h0 : readTo ss ws os k = readOf ss ws os := by
          rcases hbo.out with h | h
          · cases hbb : readOk ss ws os
            · rw [HN.out hbb, h]; rfl
            · rw [(HB.out hbb).2, hke]
          · rw [(HB.out h).2, ← hke]
        rw [Hid, OwnInts, ← h0]; exact hown
      have hkd : decide ((k : Int) < (ws.length : Int)) = false := by simp; omega
      have hkdn : decide (k < ws.length) = false := by simp; omega
      clear hke hown
      go_wp2
      go_ret
      exact ⟨_, rfl, HE.out, hb⟩

theorem ints_none (w : World) (base : Nat) : OwnInts w base (.slice none 0 0) [] := ⟨rfl, .inl ⟨rfl, rfl⟩⟩
set_option maxRecDepth 100000 in
set_option maxHeartbeats 1000000 in
theorem impl_DictionaryRead (ss : List Sgn) (ws : List Str) (os : List Stk) (A B C : Option Addr) (c d f : Nat) (w : World) (hw : Seg w 0 w.heap.size A (flat sgnC ss)) (hv : Seg w 0 w.heap.size B (strs ws)) (hu : Seg w 0 w.heap.size C (flat stkC os)) (ho : OkSgns ss) (hp : StrsOk ws) (hn : ss.length ≤ maxLen) (hm : ws.length ≤ maxLen) (hl : os.length ≤ maxLen) (hd : ws.length ≤ d) (hdm : d ≤ maxLen) :
    Calls Try.prog 5 #[.slice A ss.length c, .slice B ws.length d, .slice C os.length f] w (GaveInts (readOf ss ws os) w) := by
  go_enter Try.func5, Try.ntmps5
  go_wp2_with fail
  refine (impl_writtenWords ss ws A B c d w hw hv ho hp hn hm hd hdm).mono ?_
  rintro e w1 ⟨v, es, rfl, own1, oo, heq, b1⟩
  have OO := Lib.hid oo
  have hel : es.length ≤ 20 := by
    have h := writOf_len ss ws
    rw [← heq, outsOf, List.length_map] at h
    exact h
  obtain ⟨A1, c1, rfl, _, _⟩ := own_form own1
  have OWN1 := Lib.hid own1
  have HEQ := Lib.hid heq
  clear own1 heq oo
  cases hbb : bothOk ss ws
  · have HJ : Hid (readOf ss ws os = []) := by rw [Hid, readOf, readOk, hbb]; rfl
    go_wp2
    go_ret
    exact ⟨.slice none 0 0, rfl, by rw [HJ.out]; exact ints_none _ _, b1⟩
  go_wp2_with fail
  refine (impl_OutlineValid os C f _ (hu.below b1).top hl).mono ?_
  rintro e w2 ⟨rfl, b2⟩
  have b12 := bel_trans b1 b2
  cases hoo : outOk os
  · have HJ : Hid (readOf ss ws os = []) := by rw [Hid, readOf, readOk, hoo, Bool.and_false]; rfl
    go_wp2
    go_ret
    exact ⟨.slice none 0 0, rfl, by rw [HJ.out]; exact ints_none _ _, b12⟩
  have OO2 := Lib.hid (OO.out.below b2)
  have own2 := own_below OWN1.out b2
  have sg2 := (Seg.of_own own2).mono (Nat.zero_le _) (Nat.le_refl _)
  have HQ : Hid (readOf ss ws os = pick os (outsOf es)) := by
    have h1 : writOf ss ws = writTo ss ws ws.length := by rw [writOf, hbb]; rfl
    have h2 : readOk ss ws os = true := by rw [readOk, hbb, hoo]; rfl
    rw [Hid, HEQ.out, h1, pick_read, readOf, h2]; rfl
  have own0 : Hid ((w2.alloc (.cells #[] 3)).ownsRow w2.heap.size 3 1 (.slice (some ⟨w2.heap.size, 0, none⟩) 0 0) 0 []) := World.ownsRow_made w2 #[] 0 (Nat.le_refl _) (by simp [maxLen]) (by simp)
  have b3 := bel_alloc (Below.refl w2.heap.size w2) (.cells #[] 3)
  have hbs2 := b12.size
  clear own2 b2
  go_wp2
  go_loopw [9, 28] (fun v i wr => ∃ k : Nat, k ≤ es.length ∧ i = .int .i64 k ∧ (pick os (outsOf (es.take k))).length ≤ k ∧ wr.ownsRow w2.heap.size 3 1 v (pick os (outsOf (es.take k))).length (flat intC (pick os (outsOf (es.take k)))) ∧ Below w2.heap.size w2 wr) (fun _ i _ => es.length - (intOf i).toNat)
  case atStart => exact ⟨0, Nat.zero_le _, rfl, Nat.le_refl _, own0.out, b3⟩
  case round =>
    obtain ⟨k, hk, rfl, hln, hown, hb⟩ := hrel
    have hbw := bel_trans b12 hb
    by_cases hlt : k < es.length
    · obtain ⟨⟨xi, xA, xc, xs⟩, hx⟩ := get_lt hlt
      obtain ⟨g, o, rfl, hg, _, _, hc1, hc2⟩ := (sg2.below hb).outl hx
      simp only [rowV] at hc1 hc2
      have HX := Lib.hid hx
      have hox : OwnStks w2 w.heap.size (.slice xA xs.length xc) xs := OO2.out _ (List.mem_of_getElem? hx)
      have hsx := ((Seg.of_own hox).mono (lo' := 0) (Nat.zero_le _) (Nat.le_refl _)).below hb
      have hxl : xs.length ≤ maxLen := by
        obtain ⟨A9, c9, h9, h10, h11, _⟩ := hox.form
        omega
      have hown4 := hown.alloc (.cells #[.int .i64 (xi : Int), .slice xA xs.length xc] 49)
      have hb4 := bel_alloc hb (.cells #[.int .i64 (xi : Int), .slice xA xs.length xc] 49)
      have bX := bel_alloc (Below.refl wr.heap.size wr) (.cells #[.int .i64 (xi : Int), .slice xA xs.length xc] 49)
      have hsx4 := hsx.below bX
      have hu4 := (hu.below hbw).below bX
      clear hx hown hox
      go_wp2_with fail
      refine (slices_EqualStk xs os xA C xc f _ hsx4.top hu4.top hxl hl).mono ?_
      rintro e w5 ⟨rfl, b5⟩
      have hown5 := own_below hown4 b5
      have hb5 := bel_trans hb4 b5
      have hB5 := hb5.size
      have kx0 : w5.cell? ⟨wr.heap.size, 0, none⟩ = some (.int .i64 (xi : Int)) := box_later b5 0
      clear hown4 hsx hsx4 hu4 b5 bX hc1 hc2
      have HT : Hid (pick os (outsOf (es.take (k + 1))) = pick os (outsOf (es.take k)) ++ if xs = os then [(xi : Int)] else []) := by
        rw [Hid, take_snoc' HX.out, outsOf, List.map_append, ← outsOf, List.map_cons, List.map_nil, pick_snoc]
      by_cases he : xs = os
      · have HT2 : Hid (pick os (outsOf (es.take (k + 1))) = pick os (outsOf (es.take k)) ++ [(xi : Int)]) := by rw [Hid, HT.out, if_pos he]
        have hdt : decide (xs = os) = true := decide_eq_true he
        rw [hdt]
        clear he hdt
        go_wp2_with (at_builtin; refine append_one w5 (by rfl) (.tmp 36) (.tmp 39) 28 (by rfl) (w2.heap.size) 3 _ 1 8 Try.underlying28 info_int rfl (by decide) (by decide) (u9) _ _ (by rfl) hown5 #[.int .i64 (xi : Int)] (by rfl) rfl (by simp [Value.oneCell']) (by omega) hB5 ?_; intro v' w6 hown' hgrow)
        have R1 : w6.ownsRow w2.heap.size 3 1 v' (pick os (outsOf (es.take (k + 1)))).length (flat intC (pick os (outsOf (es.take (k + 1))))) := by
          rw [HT2.out, List.length_append, flat_append]; exact hown'
        have R2 : (pick os (outsOf (es.take (k + 1)))).length ≤ k + 1 := by rw [HT2.out, List.length_append]; simp; omega
        have R4 := own_grown_below hb5 hown5 hgrow hB5
        clear hown' hgrow hown5
        go_wp2
        go_roundw
        case rel => exact ⟨k + 1, by omega, by go_num, R2, R1, R4⟩
        case measure => simp [intOf]; omega
      · have HT2 : Hid (pick os (outsOf (es.take (k + 1))) = pick os (outsOf (es.take k))) := by rw [Hid, HT.out, if_neg he, List.append_nil]
        have hdt : decide (xs = os) = false := decide_eq_false he
        rw [hdt]
        have R1 : w5.ownsRow w2.heap.size 3 1 u9 (pick os (outsOf (es.take (k + 1)))).length (flat intC (pick os (outsOf (es.take (k + 1))))) := by rw [HT2.out]; exact hown5
        have R2 : (pick os (outsOf (es.take (k + 1)))).length ≤ k + 1 := by rw [HT2.out]; omega
        clear he hdt hown5
        go_wp2
        go_roundw
        case rel => exact ⟨k + 1, by omega, by go_num, R2, R1, hb5⟩
        case measure => simp [intOf]; omega
    · have hke : k = es.length := by omega
      have HE : Hid (OwnInts wr w.heap.size u9 (readOf ss ws os)) := by
        rw [List.take_of_length_le (by omega)] at hown
        rw [Hid, OwnInts, HQ.out]
        exact own_mono hown hbs2
      clear hke hown
      go_wp2
      go_ret
      exact ⟨_, rfl, HE.out, hbw⟩
end Go.Proofs.Ytbcbpcidfcjibaa
