/-
  Contracts of CopyRead (the reference's) and CopyCost (both texts).
-/
import Derived.Test.YtgddklafeaoleaaCopy
import Derived.Test.YtgddklafeaoleaaLett
namespace Go.Proofs.Ytgddklafeaoleaa
open Go.RowKit Go.Sort
set_option linter.unusedSimpArgs false
set_option linter.unusedVariables false

theorem mark_word {s : Str} (h : markOk s = true) : wordOk s = false := by
  cases hw : wordOk s
  · rfl
  · have h1 := mark_len h
    simp only [markOk, Bool.and_eq_true] at h
    simp only [wordOk, lettersOk, Bool.and_eq_true] at hw
    have hlen : s.data.toList.length = s.size := rfl
    obtain ⟨x, hx⟩ := get_lt (l := s.data.toList) (k := 0) (by omega)
    have hm := List.mem_of_getElem? hx
    have a1 := List.all_eq_true.1 h.2 x hm
    have a2 := List.all_eq_true.1 hw.2 x hm
    simp [upOk] at a1
    simp [letterOk] at a2
    omega
theorem brief_word {bs : List PB} (hb : bvOk bs = true) {k : Nat} (hk : k < bs.length) : wordOk (pbAt bs k).1 = false := by
  have h1 := (bv_at hb hk).1
  simp only [pbOk, Bool.and_eq_true] at h1
  exact mark_word h1.1
def wd1 (t : Str) : List Str := if wordOk t then [t] else []
/-- how far the reference's search for a mark has come -/
def Seen (bs : List PB) (t : Str) (ws : List Str) (j : Nat) (fb : Bool) (cur : List Str) : Prop :=
  ((∀ i, i < j → (pbAt bs i).1 ≠ t) ∧ fb = wordOk t ∧ cur = ws ++ wd1 t) ∨ (∃ (i : Nat) (b : PB), i < j ∧ bs[i]? = some b ∧ b.1 = t ∧ brBy bs t = some b ∧ fb = true ∧ cur = ws ++ b.2)
theorem seen_no {bs : List PB} {t : Str} {ws cur : List Str} {j : Nat} {fb : Bool} {b : PB} (h : Seen bs t ws j fb cur) (hb : bs[j]? = some b) (hne : b.1 ≠ t) : Seen bs t ws (j + 1) fb cur := by
  rcases h with ⟨h1, h2⟩ | ⟨i, c, h1, h2⟩
  · refine .inl ⟨fun i hi => ?_, h2⟩
    by_cases e : i = j
    · subst e; rw [pbAt_eq hb]; exact hne
    · exact h1 i (by omega)
  · exact .inr ⟨i, c, by omega, h2⟩
theorem seen_yes {bs : List PB} (hv : bvOk bs = true) {t : Str} {ws cur : List Str} {j : Nat} {fb : Bool} {b : PB} (h : Seen bs t ws j fb cur) (hb : bs[j]? = some b) (he : b.1 = t) : Seen bs t ws (j + 1) true (cur ++ b.2) ∧ cur = ws := by
  have hjl := (List.getElem?_eq_some_iff.1 hb).1
  rcases h with ⟨h1, _, h3⟩ | ⟨i, c, h1, h2, h3, _⟩
  · have hw : wordOk t = false := by have := brief_word hv hjl; rwa [pbAt_eq hb, he] at this
    have hc : cur = ws := by rw [h3, wd1, hw]; simp
    exact ⟨.inr ⟨j, b, by omega, hb, he, brBy_hit hb he h1, rfl, by rw [hc]⟩, hc⟩
  · have := (bv_ne hv (j := i) (k := j) (by omega) hjl (by omega)).1
    rw [pbAt_eq h2, pbAt_eq hb, h3, he] at this
    exact absurd rfl this
theorem seen_len {bs : List PB} (hv : bvOk bs = true) {t : Str} {ws cur : List Str} {j : Nat} {fb : Bool} (h : Seen bs t ws j fb cur) : cur.length ≤ ws.length + 3 := by
  rcases h with ⟨_, _, h3⟩ | ⟨i, c, _, h2, _, _, _, h4⟩
  · rw [h3, List.length_append, wd1]; split <;> simp
  · have := (bv_words hv (List.getElem?_eq_some_iff.1 h2).1).2
    rw [pbAt_eq h2] at this
    rw [h4, List.length_append]; omega
/-- the end of the search -/
theorem seen_end {bs : List PB} {t : Str} {ws cur : List Str} {fb : Bool} (h : Seen bs t ws bs.length fb cur) : (fb = false ∧ crTok bs t = none) ∨ (fb = true ∧ ∃ l, crTok bs t = some l ∧ cur = ws ++ l) := by
  rcases h with ⟨h1, h2, h3⟩ | ⟨i, c, _, _, _, h4, h5, h6⟩
  · have hn := brBy_none h1
    cases hw : wordOk t
    · exact .inl ⟨by rw [h2, hw], cr_none hn hw⟩
    · exact .inr ⟨by rw [h2, hw], [t], cr_word hn hw, by rw [h3, wd1, hw]; rfl⟩
  · exact .inr ⟨h5, c.2, cr_brief h4, h6⟩

set_option maxRecDepth 100000 in
set_option maxHeartbeats 4000000 in
theorem spec_CopyRead (xs : List Brf) (ts : List Str) (A B : Option Addr) (c d : Nat) (w : World) (hw : Seg w 0 w.heap.size A (flat brfC xs)) (ho : BrfsAt w xs) (hv : Seg w 0 w.heap.size B (strs ts)) (hp : StrsOk ts) (hn : xs.length ≤ maxLen) (hm : ts.length ≤ maxLen) :
    Calls Try.prog 41 #[.slice A xs.length c, .slice B ts.length d] w (GaveStrs (crOf (pbsOf xs) ts) w) := by
  have hm' : ts.length ≤ 9223372036854775807 := hm
  have own0 := ownS_made w w.heap.size _ rfl (Nat.le_refl _)
  have b0 := bel_alloc (Below.refl w.heap.size w) (.cells #[] 9)
  cases hbv : bvOk (pbsOf xs)
  · have HO : Hid (crOf (pbsOf xs) ts = none) := crOf_no hbv
    have OWN := Lib.hid own0
    clear own0
    go_enter Try.func41, Try.ntmps41
    go_wp2_with fail
    refine (spec_BriefsValid xs A c _ (hw.below b0).top (ho.below b0) hn).mono ?_
    rintro e w1 ⟨rfl, b1⟩
    rw [hbv]
    have own1 := Lib.hid (own_below OWN.out b1)
    have bal := bel_trans b0 b1
    go_wp2_with fail
    go_ret2
    exact ⟨_, by rw [HO.out]; rfl, by rw [HO.out]; exact own1.out, bal⟩
  have hx8 : xs.length ≤ 8 := by have := bv_len hbv; rwa [pbsOf_len] at this
  have OWN := Lib.hid own0
  clear own0
  go_enter Try.func41, Try.ntmps41
  go_wp2_with fail
  refine (spec_BriefsValid xs A c _ (hw.below b0).top (ho.below b0) hn).mono ?_
  rintro e w1 ⟨rfl, b1⟩
  rw [hbv]
  have own1 := own_below OWN.out b1
  have bal := bel_trans b0 b1
  go_wp2_with fail
  go_loopw [6, 7, 8, 9] (fun v i _ _ wr => ∃ k : Nat, ∃ ws : List Str, k ≤ ts.length ∧ i = .int .i64 k ∧ ws.length ≤ 20 ∧ wr.ownsRow w.heap.size 9 1 v ws.length (strs ws) ∧ Hid (crTo (pbsOf xs) ts k = some ws) ∧ Below w.heap.size w wr) (fun _ i _ _ _ => ts.length - (intOf i).toNat)
  case atStart => exact ⟨0, [], Nat.zero_le _, rfl, by simp, own1, rfl, bal⟩
  case round =>
    obtain ⟨k, ws, hk, rfl, hwl, hown, hcr, hb⟩ := hrel
    generalize wr = w3 at *
    by_cases hlt : k < ts.length
    · obtain ⟨t, ht⟩ := get_lt hlt
      have HTA := Lib.hid (strAt_eq ht)
      have htm := hp.at_ ht
      obtain ⟨g, o, rfl, hg, hcell⟩ := (hv.below hb).strk ht
      have HC := Lib.hid hcell
      have hBw := hb.size
      have HT := Lib.hid ht
      clear ht
      cases hwk : wordOk t
      all_goals
        have HWK := Lib.hid hwk
        have hwt : wd1 t = if wordOk t then [t] else [] := rfl
        rw [hwk] at hwt
      case' false =>
        have st0 : Seen (pbsOf xs) t ws 0 false ws := .inl ⟨fun i hi => by omega, hwk.symm, by rw [hwt]; simp⟩
        have ST := Lib.hid st0
        have own4 := hown
        have hb4 := hb
        have hl4 : ws.length ≤ 24 := by omega
        clear st0 hwt hown
        go_wp2_with (go_at_call 76; refine (spec_WordValid _ _ htm).mono ?_; rintro e w' ⟨rfl, rfl⟩; rw [HWK.out])
      case' true =>
        have st0 : Seen (pbsOf xs) t ws 0 true (ws ++ [t]) := .inl ⟨fun i hi => by omega, hwk.symm, by rw [hwt]; simp⟩
        have ST := Lib.hid st0
        have HL : Hid ((ws ++ [t]).length = ws.length + 1) := List.length_append
        clear st0 hwt
        go_wp2_with (first
          | (go_at_call 76; refine (spec_WordValid _ _ htm).mono ?_; rintro e w' ⟨rfl, rfl⟩; rw [HWK.out])
          | (at_builtin; refine append_one w3 (by rfl) (.tmp 27) (.tmp 32) 30 (by rfl) (w.heap.size) 9 _ 1 16 Try.underlying30 info_str rfl (by decide) (by decide) (_) _ _ (by rfl) hown #[.string t] (by rfl) rfl (by simp [Value.oneCell']) (by omega) hBw ?_; intro v' w4 hown' hgrow
             have own4 : w4.ownsRow w.heap.size 9 1 v' (ws ++ [t]).length (strs (ws ++ [t])) := (by rw [HL.out, strs_app]; exact hown')
             have hb4 := own_grown_below hb hown hgrow hBw
             have hl4 : (ws ++ [t]).length ≤ 24 := (by rw [HL.out]; omega)
             clear hown' hgrow hown))
      all_goals
        clear hcell hwk
        go_loopw [6, 8, 9] (fun v f i wi => ∃ (j : Nat) (cur : List Str) (fb : Bool), j ≤ xs.length ∧ i = .int .i64 j ∧ f = .bool fb ∧ cur.length ≤ 24 ∧ wi.ownsRow w.heap.size 9 1 v cur.length (strs cur) ∧ Hid (Seen (pbsOf xs) t ws j fb cur) ∧ Below w.heap.size w wi) (fun _ _ i _ => xs.length - (intOf i).toNat)
        case atStart => exact ⟨0, _, _, Nat.zero_le _, rfl, rfl, hl4, own4, ST, hb4⟩
        case round =>
          obtain ⟨j, cur, fb, hj, rfl, rfl, hcl, hown, hse, hb2⟩ := hrel
          by_cases hjl : j < xs.length
          · obtain ⟨⟨ym, yA, yc, yl⟩, hy⟩ := get_lt hjl
            obtain ⟨gA, oA, rfl, hgA, _, hgwA, hc1, hc2⟩ := (hw.below hb2).brf hy
            simp only [rowV] at hc1 hc2
            obtain ⟨_, _, e', hgB, hct⟩ := (hv.below hb2).strk HT.out
            injection e' with e'
            injection e' with e1 e2
            subst e1 e2
            have hyw0 := ((ho _ (List.mem_of_getElem? hy)).below hb2).2.1
            simp only at hyw0
            have HY := Lib.hid (pbsOf_at hy)
            have hyl3 : yl.length ≤ 3 := by
              have := (bv_words hbv (k := j) (by rw [pbsOf_len]; exact hjl)).2
              rwa [pbAt_of hy] at this
            have hki : (k : Int) < (ts.length : Int) := by omega
            clear hy
            by_cases he : ym = t
            · obtain ⟨hs1, hs2⟩ := seen_yes hbv hse.out HY.out he
              have HS1 := Lib.hid hs1
              have HCW := Lib.hid hs2
              subst he
              have hbe : (ByteArray.toList ym == ByteArray.toList ym) = true := by simp
              have HLC : Hid (cur.length ≤ 20) := by rw [Hid, HCW.out]; exact hwl
              clear hs1 hs2
              go_wp2_with fail
              go_quiet (fail)
              have bq := Below_drewN (Below.refl wr.heap.size wr) nq
              have hbq := Below_drewN hb2 nq
              have hcw := (bq.cell (p := ⟨gA, oA + j * 2 + 1, none⟩) hgA).trans hc2
              have ownq := own_below hown bq
              have hyw := (hyw0.below bq).top
              generalize wr.drewN nq = wq at *
              have hBq := hbq.size
              have HL1 : Hid ((strs yl).length = yl.length * 1) := by simp [Hid, strs]
              have H1A := Lib.hid (strs_one1 yl)
              have HL2 : Hid ((cur ++ yl).length = cur.length + yl.length) := List.length_append
              clear hc1 hc2 hown hyw0 bq hct
              go_wp2_with (at_builtin; refine append_seg _ (by rfl) (.tmp 50) (.tmp 55) 30 (by rfl) (w.heap.size) 9 _ 1 16 Try.underlying30 info_str rfl (by decide) (by decide) (_) _ _ (by rfl) ownq yA yl.length yc (strs yl) _ _ (by rfl) hyw HL1.out H1A.out (by omega) hBq ?_; intro v' w6 hown' hgrow)
              have R1 : w6.ownsRow w.heap.size 9 1 v' (cur ++ yl).length (strs (cur ++ yl)) := by rw [HL2.out, strs_app]; exact hown'
              have R2 := own_grown_below hbq ownq hgrow hBq
              clear hown' hgrow ownq hcw hyw
              go_wp2_with fail
              go_roundw
              case rel => exact ⟨j + 1, cur ++ yl, true, by omega, by go_num, rfl, by rw [HL2.out]; have := HLC.out; omega, R1, HS1, R2⟩
              case measure => simp [intOf]; omega
            · have HS1 := Lib.hid (seen_no hse.out HY.out he)
              have hbe := str_ne he
              have HE := Lib.hid he
              clear he
              go_wp2_with fail
              go_quiet (fail)
              have bq := Below_drewN (Below.refl wr.heap.size wr) nq
              have hbq := Below_drewN hb2 nq
              have ownq := own_below hown bq
              generalize wr.drewN nq = wq at *
              clear hc1 hc2 hown hyw0 bq hct
              go_wp2_with fail
              go_roundw
              case rel => exact ⟨j + 1, cur, fb, by omega, by go_num, rfl, hcl, ownq, HS1, hbq⟩
              case measure => simp [intOf]; omega
          · have hje : j = (pbsOf xs).length := by rw [pbsOf_len]; omega
            have hend := hse.out
            rw [hje] at hend
            have HEND := Lib.hid (seen_end hend)
            have hBr := hb2.size
            clear hend hje
            rcases HEND.out with ⟨rfl, hno⟩ | ⟨rfl, l, hl, hcur⟩
            · have HO : Hid (crOf (pbsOf xs) ts = none) := crOf_fail hbv hlt (crTo_miss HTA.out hno)
              have OWM := Lib.hid (ownS_made wr w.heap.size _ rfl hBr)
              have bM := bel_alloc hb2 (.cells #[] 9)
              have HNO := Lib.hid hno
              clear hno hown
              go_wp2_with fail
              go_ret2
              exact ⟨_, by rw [HO.out]; rfl, by rw [HO.out]; exact OWM.out, bM⟩
            · have HCU := Lib.hid hcur
              have HLL := Lib.hid hl
              clear hcur hl
              obtain ⟨A4, c4, rfl, _, _⟩ := own_form hown
              by_cases h20 : cur.length ≤ 20
              · have h20i : ¬ (20 : Int) < (cur.length : Int) := by omega
                have HCS : Hid (crTo (pbsOf xs) ts (k + 1) = some cur) := by
                  have := crTo_step hcr.out HTA.out HLL.out (by rw [← HCU.out]; exact h20)
                  rw [Hid, this, ← HCU.out]
                go_wp2_with fail
                go_roundw
                case rel => exact ⟨k + 1, cur, by omega, by go_num, h20, hown, HCS, hb2⟩
                case measure => simp [intOf]; omega
              · have h20i : (20 : Int) < (cur.length : Int) := by omega
                have HO : Hid (crOf (pbsOf xs) ts = none) := crOf_fail hbv hlt (crTo_long hcr.out HTA.out HLL.out (by rw [← HCU.out]; exact h20))
                have OWM := Lib.hid (ownS_made wr w.heap.size _ rfl hBr)
                have bM := bel_alloc hb2 (.cells #[] 9)
                clear hown
                go_wp2_with fail
                go_ret2
                exact ⟨_, by rw [HO.out]; rfl, by rw [HO.out]; exact OWM.out, bM⟩
    · have HO : Hid (crOf (pbsOf xs) ts = some ws) := by
        obtain rfl : k = ts.length := by omega
        exact crOf_end hbv hcr.out
      have HOW := Lib.hid hown
      clear hown
      go_wp2_with fail
      go_ret2
      exact ⟨_, by rw [HO.out]; rfl, by rw [HO.out]; exact HOW.out, hb⟩

def costOf (bs : List PB) (ts : List Str) : Int := if (crOf bs ts).isSome then letters ts else -1
theorem impl_CopyCost (xs : List Brf) (ts : List Str) (A B : Option Addr) (c d : Nat) (w : World) (hw : Seg w 0 w.heap.size A (flat brfC xs)) (ho : BrfsAt w xs) (hv : Seg w 0 w.heap.size B (strs ts)) (hp : StrsOk ts) (hn : xs.length ≤ maxLen) (hc : xs.length ≤ c) (hcm : c ≤ maxLen) (hm : ts.length ≤ maxLen) (hl : letters ts ≤ 1048576) :
    Calls Try.prog 33 #[.slice A xs.length c, .slice B ts.length d] w fun e w' => e = .returned (.int .i64 (costOf (pbsOf xs) ts)) ∧ Below w.heap.size w w' := by
  go_enter Try.func33, Try.ntmps33
  go_wp2_with fail
  refine (impl_CopyRead xs ts A B c d _ hw ho hv hp hn hc hcm hm).mono ?_
  rintro e w1 ⟨v, rfl, _, b1⟩
  cases hr : (crOf (pbsOf xs) ts).isSome
  · have HO : Hid (costOf (pbsOf xs) ts = -1) := by rw [Hid, costOf, hr]; rfl
    go_wp2_with fail
    go_ret
    exact ⟨ret_int HO.out.symm, b1⟩
  · have HO : Hid (costOf (pbsOf xs) ts = letters ts) := by rw [Hid, costOf, hr]; rfl
    go_wp2_with fail
    refine (impl_lettersOf ts B d _ (hv.below b1).top hm hl).mono ?_
    rintro e w' ⟨rfl, rfl⟩
    go_wp2_with fail
    go_ret
    exact ⟨ret_int HO.out.symm, b1⟩
theorem spec_CopyCost (xs : List Brf) (ts : List Str) (A B : Option Addr) (c d : Nat) (w : World) (hw : Seg w 0 w.heap.size A (flat brfC xs)) (ho : BrfsAt w xs) (hv : Seg w 0 w.heap.size B (strs ts)) (hp : StrsOk ts) (hn : xs.length ≤ maxLen) (hm : ts.length ≤ maxLen) (hl : letters ts ≤ 1048576) :
    Calls Try.prog 32 #[.slice A xs.length c, .slice B ts.length d] w fun e w' => e = .returned (.int .i64 (costOf (pbsOf xs) ts)) ∧ Below w.heap.size w w' := by
  go_enter Try.func32, Try.ntmps32
  go_wp2_with fail
  refine (spec_CopyRead xs ts A B c d _ hw ho hv hp hn hm).mono ?_
  rintro e w1 ⟨v, rfl, _, b1⟩
  cases hr : (crOf (pbsOf xs) ts).isSome
  · have HO : Hid (costOf (pbsOf xs) ts = -1) := by rw [Hid, costOf, hr]; rfl
    go_wp2_with fail
    go_ret
    exact ⟨ret_int HO.out.symm, b1⟩
  · have HO : Hid (costOf (pbsOf xs) ts = letters ts) := by rw [Hid, costOf, hr]; rfl
    go_wp2_with fail
    refine (spec_l4Letters ts B d _ (hv.below b1).top hm hl).mono ?_
    rintro e w' ⟨rfl, rfl⟩
    go_wp2_with fail
    go_ret
    exact ⟨ret_int HO.out.symm, b1⟩
end Go.Proofs.Ytgddklafeaoleaa
