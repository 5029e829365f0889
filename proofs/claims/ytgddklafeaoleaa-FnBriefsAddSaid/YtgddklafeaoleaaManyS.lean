/-
  Contracts of l4At, l4Both and CopyMany (the reference's).
-/
import Derived.Test.YtgddklafeaoleaaManyI
namespace Go.Proofs.Ytgddklafeaoleaa
open Go.RowKit Go.Sort
set_option linter.unusedSimpArgs false
set_option linter.unusedVariables false

theorem same_take (xl ts : List Str) (n : Nat) (hn : n = xl.length) (A B : Option Addr) (c d : Nat) (w : World) (hw : Seg w 0 w.heap.size A (strs xl)) (hv : Seg w 0 w.heap.size B (strs ts)) (hx : xl.length ≤ maxLen) (hl : n ≤ ts.length) (ht : ts.length ≤ maxLen) :
    Calls Try.prog 49 #[.slice B n d, .slice A xl.length c] w fun e w' => e = .returned (.bool (pre xl ts)) ∧ Below w.heap.size w w' := by
  subst hn
  have h := spec_l4Same (ts.take xl.length) xl B A d c w (hv.takeS _) hw (by rw [List.length_take]; omega) hx
  rw [List.length_take, Nat.min_eq_left hl] at h
  exact h

set_option maxRecDepth 100000 in
theorem spec_l4At (ws xl : List Str) (xm : Str) (k : Nat) (gB oB : Nat) (A : Option Addr) (c d : Nat) (w : World) (hv : Seg w 0 w.heap.size (some ⟨gB, oB, none⟩) (strs ws)) (hw : Seg w 0 w.heap.size A (strs xl)) (hx : xl.length ≤ 1000000) (hm : ws.length ≤ d) (hdm : d ≤ maxLen) (h20 : ws.length ≤ 1000000) (hk : k < ws.length) :
    Calls Try.prog 64 #[.slice (some ⟨gB, oB, none⟩) ws.length d, .int .i64 (k : Int), .agg #[.string xm, .slice A xl.length c]] w fun e w' => e = .returned (.bool (pre xl (ws.drop k))) ∧ Below w.heap.size w w' := by
  have hdm' : d ≤ 9223372036854775807 := hdm
  have bX := bel_alloc (Below.refl w.heap.size w) (.cells #[.string xm, .slice A xl.length c] 35)
  have bx1 : (w.alloc (.cells #[.string xm, .slice A xl.length c] 35)).cell? ⟨w.heap.size, 1, none⟩ = some (.slice A xl.length c) := box_cell _ _ _ 1
  have hvk := ((hv.dropS (c := 0) k).below bX).top
  have hwx := (hw.below bX).top
  have HLD : Hid ((ws.drop k).length = ws.length - k) := List.length_drop
  have e1 : IntKind.i64.wrap ((k : Int) + (xl.length : Int)) = (k : Int) + (xl.length : Int) := IntWalk.i64_in _ (by omega)
  have e2 : ((k : Int) + (xl.length : Int)).toNat = k + xl.length := by omega
  have e3 : (0 : Int) ≤ (k : Int) + (xl.length : Int) := by omega
  by_cases hle : xl.length ≤ ws.length - k
  · have HEQ : Hid (∀ dq osq cc, Calls Try.prog 49 #[.slice (some ⟨gB, oB + k, none⟩) xl.length cc, .slice A xl.length c] (grow (redrawn (w.alloc (.cells #[.string xm, .slice A xl.length c] 35)) dq) osq) fun e w'' => e = .returned (.bool (pre xl (ws.drop k))) ∧ ∃ p : Regrown, w'' = grow (redrawn (w.alloc (.cells #[.string xm, .slice A xl.length c] 35)) p.d) p.os) :=
      fun dq osq cc => Calls.regrown_of (same_take xl (ws.drop k) xl.length rfl A _ c cc _ (hwx.below (below_regrown _ dq osq)).top (hvk.below (below_regrown _ dq osq)).top (by unfold maxLen; omega) (by rw [HLD.out]; omega) (by rw [HLD.out]; unfold maxLen; omega))
    have h1 : (k : Int) + (xl.length : Int) ≤ (ws.length : Int) := by omega
    have hd1 : decide ((k : Int) + (xl.length : Int) ≤ (ws.length : Int)) = true := decide_eq_true h1
    have h2 : k + xl.length ≤ d := by omega
    have h2i : (k : Int) + (xl.length : Int) ≤ (d : Int) := by omega
    have h3i : (k : Int) ≤ (k : Int) + (xl.length : Int) := by omega
    go_enter Try.func64, Try.ntmps64
    go_wp2_with fail
    generalize hX : w.alloc (.cells #[.string xm, .slice A xl.length c] 35) = wx at *
    have q1 := cell_regrown bx1
    have HX := Lib.hid hX
    clear hX
    (refine wp_region_quiet_below (by kernel_rfl) (by kernel_rfl) ?_; (repeat (go_big_quiet_step (((go_at_call 49; with_reducible exact HEQ.out _ _ _))))); refine wpQuiet_nil ?_; intro _ hw'; obtain ⟨⟨dq, osq⟩, hw''⟩ := hw'; subst hw'')
    have hq := below_regrown wx dq osq
    generalize grow (redrawn wx dq) osq = wq at *
    have bQ := bX.trans (hq.mono bX.size)
    clear q1 e1 e2
    go_wp2_with fail
    go_ret
    exact ⟨rfl, bQ⟩
  · have HT : Hid (pre xl (ws.drop k) = false) := pre_long (by rw [HLD.out]; omega)
    have h1 : ¬ (k : Int) + (xl.length : Int) ≤ (ws.length : Int) := by omega
    have hd1 : decide ((k : Int) + (xl.length : Int) ≤ (ws.length : Int)) = false := decide_eq_false h1
    go_enter Try.func64, Try.ntmps64
    go_wp2_with fail
    generalize hX : w.alloc (.cells #[.string xm, .slice A xl.length c] 35) = wx at *
    have HX := Lib.hid hX
    clear hX
    (refine wp_region_quiet_below (by kernel_rfl) (by kernel_rfl) ?_; (repeat (go_big_quiet_step ((fail)))); refine wpQuiet_nil ?_; intro _ hw'; obtain ⟨⟨dq, osq⟩, hw''⟩ := hw'; subst hw'')
    have hq := below_regrown wx dq osq
    generalize grow (redrawn wx dq) osq = wq at *
    have bQ := bX.trans (hq.mono bX.size)
    clear e1 e2
    go_wp2_with fail
    go_ret
    exact ⟨ret_bool HT.out.symm, bQ⟩

theorem spec_l4Both (xs : List Brf) (ws : List Str) (A B : Option Addr) (c d : Nat) (w : World) (hw : Seg w 0 w.heap.size A (flat brfC xs)) (ho : BrfsAt w xs) (hn : xs.length ≤ maxLen) (hv : Seg w 0 w.heap.size B (strs ws)) (hp : StrsOk ws) (hm : ws.length ≤ maxLen) :
    Calls Try.prog 63 #[.slice A xs.length c, .slice B ws.length d] w fun e w' => e = .returned (.bool (cpOk (pbsOf xs) ws)) ∧ Below w.heap.size w w' := by
  go_enter Try.func63, Try.ntmps63
  go_wp2_with fail
  refine (spec_BriefsValid xs A c _ hw ho hn).mono ?_
  rintro e w1 ⟨rfl, b1⟩
  cases hbv : bvOk (pbsOf xs)
  · have HO : Hid (cpOk (pbsOf xs) ws = false) := by rw [Hid, cpOk, hbv]; rfl
    go_wp2_with fail
    go_ret
    exact ⟨ret_bool HO.out.symm, b1⟩
  · have HO : Hid (cpOk (pbsOf xs) ws = speechOk ws) := by rw [Hid, cpOk, hbv]; rfl
    go_wp2_with fail
    refine (spec_SpeechValid ws B d _ (hv.below b1).top hp hm).mono ?_
    rintro e w' ⟨rfl, rfl⟩
    go_wp2_with fail
    go_ret
    exact ⟨ret_bool HO.out.symm, b1⟩

/-- the reference's table: place k after j briefs -/
def manyS (bs : List PB) (ws : List Str) (k j : Nat) : Nat → Int := fun i => if i < k then 0 else if i = k then ways bs (ws.drop (k + 1)) + sumTo (wayAt bs (ws.drop k)) j else ways bs (ws.drop i)
theorem manyS_start (bs : List PB) (ws : List Str) (k i : Nat) : updF (manyF bs ws (k + 1)) k (ways bs (ws.drop (k + 1))) i = manyS bs ws k 0 i := by
  unfold manyS
  by_cases h2 : i = k
  · subst h2; rw [updF_same, if_neg (Nat.lt_irrefl i), if_pos rfl]; simp [sumTo]
  · rw [updF_other _ _ h2]
    unfold manyF
    by_cases h1 : i < k
    · rw [if_pos (by omega), if_pos h1]
    · rw [if_neg (by omega), if_neg h1, if_neg h2]
theorem manyS_end {bs : List PB} (hb : bvOk bs = true) {ws : List Str} {k : Nat} (hk : k < ws.length) (i : Nat) : manyS bs ws k bs.length i = manyF bs ws k i := by
  unfold manyF manyS
  by_cases h1 : i < k
  · rw [if_pos h1, if_pos h1]
  · by_cases h2 : i = k
    · subst h2
      obtain ⟨s, hs⟩ := get_lt hk
      have e : ws.drop i = s :: ws.drop (i + 1) := by
        obtain ⟨h3, h4⟩ := List.getElem?_eq_some_iff.1 hs
        rw [List.drop_eq_getElem_cons h3, h4]
      rw [if_neg h1, if_pos rfl, if_neg h1, e, ways_cons hb]
    · rw [if_neg h1, if_neg h2, if_neg h1]
theorem manyS_yes {bs : List PB} {ws : List Str} {k j : Nat} {b : PB} (hb : pbAt bs j = b) (hp : pre b.2 (ws.drop k) = true) (h1 : 1 ≤ b.2.length) (i : Nat) :
    updF (manyS bs ws k j) k (manyS bs ws k j k + manyS bs ws k j (k + b.2.length)) i = manyS bs ws k (j + 1) i := by
  by_cases h2 : i = k
  · subst h2
    rw [updF_same]
    unfold manyS
    rw [if_neg (Nat.lt_irrefl i), if_pos rfl, if_neg (by omega : ¬ i + b.2.length < i), if_neg (by omega : ¬ i + b.2.length = i), if_neg (Nat.lt_irrefl i), if_pos rfl, sumTo]
    have e : wayAt bs (ws.drop i) j = ways bs (ws.drop (i + b.2.length)) := by unfold wayAt; rw [hb, if_pos hp, List.drop_drop]
    rw [e]; omega
  · rw [updF_other _ _ h2]
    unfold manyS
    by_cases h3 : i < k
    · rw [if_pos h3, if_pos h3]
    · rw [if_neg h3, if_neg h2, if_neg h3, if_neg h2]
theorem manyS_no {bs : List PB} {ws : List Str} {k j : Nat} {b : PB} (hb : pbAt bs j = b) (hp : pre b.2 (ws.drop k) = false) (i : Nat) : manyS bs ws k j i = manyS bs ws k (j + 1) i := by
  unfold manyS
  have e : wayAt bs (ws.drop k) j = 0 := by unfold wayAt; rw [hb, hp]; simp
  rw [sumTo, e, Int.add_zero]
theorem manyS_le {bs : List PB} (hb : bvOk bs = true) {ws : List Str} (hl : ws.length ≤ 20) (k j i : Nat) (hj : j ≤ 8) : 0 ≤ manyS bs ws k j i ∧ manyS bs ws k j i ≤ 1000000000000000 := by
  unfold manyS
  split
  · omega
  · split
    · have h1 := ways_le hb hl (k + 1)
      have h2 := sum_small (f := wayAt bs (ws.drop k)) (M := 1099511627776) (fun i => wayAt_small hb (by rw [List.length_drop]; omega) i) j
      omega
    · have := ways_le hb hl i; omega

set_option maxRecDepth 100000 in
set_option maxHeartbeats 2000000 in
theorem spec_CopyMany (xs : List Brf) (ws : List Str) (A B : Option Addr) (c d : Nat) (w : World) (hw : Seg w 0 w.heap.size A (flat brfC xs)) (ho : BrfsAt w xs) (hv : Seg w 0 w.heap.size B (strs ws)) (hp : StrsOk ws) (hn : xs.length ≤ maxLen) (hm : ws.length ≤ d) (hdm : d ≤ maxLen) :
    Calls Try.prog 23 #[.slice A xs.length c, .slice B ws.length d] w fun e w' => e = .returned (.int .i64 (manyOf (pbsOf xs) ws)) ∧ Below w.heap.size w w' := by
  cases hok : cpOk (pbsOf xs) ws
  · have HO : Hid (manyOf (pbsOf xs) ws = -1) := by rw [Hid, manyOf, hok]; rfl
    go_enter Try.func23, Try.ntmps23
    go_wp2_with fail
    refine (spec_l4Both xs ws A B c d _ hw ho hn hv hp (Nat.le_trans hm hdm)).mono ?_
    rintro e w1 ⟨rfl, b1⟩
    rw [hok]
    go_wp2_with fail
    go_ret
    exact ⟨ret_int HO.out.symm, b1⟩
  have HO : Hid (manyOf (pbsOf xs) ws = ways (pbsOf xs) ws) := by rw [Hid, manyOf, hok]; rfl
  have HOK := Lib.hid hok
  simp only [cpOk, Bool.and_eq_true] at hok
  obtain ⟨hbv, hsp⟩ := hok
  have h20 := (speech_parts hsp).1
  have hx8 : xs.length ≤ 8 := by have := bv_len hbv; rwa [pbsOf_len] at this
  have hmk := make_n (P := Try.prog) 67 3 (.int .i64 0) 1 8 Try.underlying67 info_int (by decide) (ws.length + 1) (by omega)
  have ec : ((ws.length + 1 : Nat) : Int) = (ws.length : Int) + 1 := by omega
  rw [ec] at hmk
  clear ec
  go_enter Try.func23, Try.ntmps23
  go_wp2_with fail
  refine (spec_l4Both xs ws A B c d _ hw ho hn hv hp (Nat.le_trans hm hdm)).mono ?_
  rintro e w1 ⟨rfl, b1⟩
  rw [HOK.out]
  have hw1 := b1.size
  have T3 := Tab.madeH w1 w.heap.size (ws.length + 1) w1.heap.size rfl hw1 (by omega)
  have b3 := bel_alloc b1 (.cells (madeCells #[Value.int .i64 0] (ws.length + 1)) 3)
  have c0 := T3.cell (i := ws.length) (by omega)
  have f0 := T3.free ws.length
  have EW : (w1.alloc (.cells (madeCells #[Value.int .i64 0] (ws.length + 1)) 3)).setCell ⟨w1.heap.size, ws.length, none⟩ (.int .i64 1)
      = w1.alloc (.cells ((madeCells #[Value.int .i64 0] (ws.length + 1)).setIfInBounds ws.length (.int .i64 1)) 3) := by
    go_simp
  have T4 := ((T3.set ws.length 1).congr (g := manyF (pbsOf xs) ws ws.length) (fun i hi => by
    unfold updF manyF
    by_cases h : i = ws.length
    · rw [if_pos h, if_neg (by omega), h, List.drop_length, ways_nil]
    · rw [if_neg h, if_pos (by omega)]))
  have b4 := (b3.setCell (p := ⟨w1.heap.size, ws.length, none⟩) hw1 (.int .i64 1))
  rw [EW] at T4 b4
  have HT4 := Lib.hid T4
  have HB4 := Lib.hid b4
  clear T3 b3 EW T4 b4
  go_wp2_with fail
  generalize hq : w1.heap.size = q at *
  go_loopw [6, 7] (fun i _ wr => ∃ m : Nat, m ≤ ws.length ∧ i = .int .i64 ((m : Int) - 1) ∧ Hid (Tab wr w.heap.size q (ws.length + 1) (manyF (pbsOf xs) ws m)) ∧ Below w.heap.size w wr) (fun i _ _ => (intOf i + 1).toNat)
  case atStart => exact ⟨ws.length, Nat.le_refl _, rfl, HT4, HB4.out⟩
  case round =>
    obtain ⟨m, hml, rfl, hT, hb⟩ := hrel
    generalize wr = w5 at *
    cases m with
    | zero =>
      have c1 := hT.out.cell (i := 0) (by omega)
      have HF : Hid (manyF (pbsOf xs) ws 0 0 = ways (pbsOf xs) ws) := by unfold manyF; simp [Hid]
      rw [HF.out] at c1
      have hneg : ¬ (0 : Int) ≤ (((0 : Nat) : Int) - 1) := by omega
      have h0 : (0 : Int) < ((ws.length + 1 : Nat) : Int) := by omega
      clear c0 f0 hmk
      go_wp2_with fail
      go_ret
      exact ⟨ret_int HO.out.symm, hb⟩
    | succ k =>
      have ek : ((k + 1 : Nat) : Int) - 1 = (k : Int) := by omega
      rw [ek]
      have hkl : k < ws.length := by omega
      have hnn : (0 : Int) ≤ (k : Int) := by omega
      have c1 := hT.out.cell (i := k + 1) (by omega)
      have hcu := hT.out.cell (i := k) (by omega)
      have f1 := hT.out.free k
      have HF : Hid (manyF (pbsOf xs) ws (k + 1) (k + 1) = ways (pbsOf xs) (ws.drop (k + 1))) := by unfold manyF; rw [Hid, if_neg (by omega)]
      rw [HF.out] at c1
      have T2 : Hid (Tab (w5.setCell ⟨q, k, none⟩ (.int .i64 (ways (pbsOf xs) (ws.drop (k + 1))))) w.heap.size q (ws.length + 1) (manyS (pbsOf xs) ws k 0)) := (hT.out.set k _).congr fun i _ => manyS_start (pbsOf xs) ws k i
      have hqlo := hT.out.lt.1
      have b2 := hb.setCell (p := ⟨q, k, none⟩) hqlo (.int .i64 (ways (pbsOf xs) (ws.drop (k + 1))))
      obtain ⟨s0, hs0⟩ := get_lt hkl
      obtain ⟨gB, oB, rfl, hgB, hcB⟩ := hv.strk hs0
      have HEND := Lib.hid (fun i => manyS_end hbv (ws := ws) (k := k) hkl i)
      generalize ways (pbsOf xs) (ws.drop (k + 1)) = wk at *
      clear hmk c0 f0 hs0
      go_wp2_with fail
      go_loopw [7] (fun i wr => ∃ j : Nat, j ≤ xs.length ∧ i = .int .i64 (j : Int) ∧ Hid (Tab wr w.heap.size q (ws.length + 1) (manyS (pbsOf xs) ws k j)) ∧ Below w.heap.size w wr) (fun i _ => xs.length - (intOf i).toNat)
      case atStart => exact ⟨0, Nat.zero_le _, rfl, T2, b2⟩
      case round =>
        obtain ⟨j, hj, rfl, hT2, hb2⟩ := hrel
        by_cases hjl : j < xs.length
        · obtain ⟨⟨xm, xA, xc, xl⟩, hs⟩ := get_lt hjl
          obtain ⟨g, o, rfl, hg, _, hgw, hc1, hc2⟩ := (hw.below hb2).brf hs
          simp only [rowV] at hc1 hc2
          obtain ⟨hxm, hxw, hxo, hxc, hxn⟩ := (ho _ (List.mem_of_getElem? hs)).below hb2
          simp only at hxm hxw hxo hxc hxn
          have HP := Lib.hid (pbAt_of hs)
          have hwl := bv_words hbv (k := j) (by rw [pbsOf_len]; exact hjl)
          rw [HP.out] at hwl
          simp only at hwl
          obtain ⟨hwl1, hwl3⟩ := hwl
          have hgj := hgw
          have hvr := (hv.below hb2).top
          clear hs
          go_wp2_with fail
          refine (spec_l4At ws xl xm k gB oB xA xc d _ hvr hxw (by omega) hm hdm (by omega) hkl).mono ?_
          rintro e w7 ⟨rfl, b7⟩
          have hb7 := bel_trans hb2 b7
          have T7 := hT2.out.below b7
          cases hpr : pre xl (ws.drop k)
          · have T8 : Hid (Tab w7 w.heap.size q (ws.length + 1) (manyS (pbsOf xs) ws k (j + 1))) := T7.congr fun i _ => manyS_no HP.out hpr i
            clear T7 hc1 hc2 hpr
            go_wp2_with fail
            go_roundw
            case rel => exact ⟨j + 1, by omega, by go_num, T8, hb7⟩
            case measure => simp [intOf]; omega
          · have hfit : k + xl.length ≤ ws.length := by have := pre_len hpr; rw [List.length_drop] at this; omega
            have d1 := T7.cell (i := k) (by omega)
            have d2 := T7.cell (i := k + xl.length) (by omega)
            have d3 := T7.free k
            have d4 := (b7.cell (p := ⟨g, o + j * 2 + 1, none⟩) hg).trans hc2
            have l1 := manyS_le hbv h20 k j k (by omega)
            have l2 := manyS_le hbv h20 k j (k + xl.length) (by omega)
            have T8 : Hid (Tab (w7.drew.setCell ⟨q, k, none⟩ (.int .i64 (manyS (pbsOf xs) ws k j k + manyS (pbsOf xs) ws k j (k + xl.length)))) w.heap.size q (ws.length + 1) (manyS (pbsOf xs) ws k (j + 1))) :=
              ((T7.below (Below.refl _ _).drew).set k _).congr fun i _ => manyS_yes (b := (xm, xl)) HP.out hpr hwl1 i
            have b8 := hb7.drew.setCell (p := ⟨q, k, none⟩) hqlo (.int .i64 (manyS (pbsOf xs) ws k j k + manyS (pbsOf xs) ws k j (k + xl.length)))
            generalize manyS (pbsOf xs) ws k j k = va at *
            generalize manyS (pbsOf xs) ws k j (k + xl.length) = vb at *
            have e1 : IntKind.i64.wrap ((k : Int) + (xl.length : Int)) = (k : Int) + (xl.length : Int) := IntWalk.i64_in _ (by omega)
            have e2 : ((k : Int) + (xl.length : Int)).toNat = k + xl.length := by omega
            have e3 : (0 : Int) ≤ (k : Int) + (xl.length : Int) := by omega
            have e4 : (k : Int) + (xl.length : Int) < (ws.length : Int) + 1 := by omega
            have e5 : (k : Int) < (ws.length : Int) + 1 := by omega
            have e6 : IntKind.i64.wrap (va + vb) = va + vb := IntWalk.i64_in _ (by omega)
            have e7 : (j : Int) < (xs.length : Int) := by omega
            have HPR := Lib.hid hpr
            clear T7 hc1 hc2 hpr
            go_wp2_with fail
            go_still_tail 19, (by kernel_rfl)
            go_wp2_with fail
            go_roundw
            case rel => exact ⟨j + 1, by omega, by go_num, T8, b8⟩
            case measure => simp [intOf]; omega
        · have T8 : Hid (Tab wr w.heap.size q (ws.length + 1) (manyF (pbsOf xs) ws k)) := by
            have hje : j = (pbsOf xs).length := by rw [pbsOf_len]; omega
            have := hT2.out
            rw [hje] at this
            exact this.congr fun i _ => HEND.out i
          go_wp2_with fail
          go_roundw
          case rel => exact ⟨k, by omega, by go_num, T8, hb2⟩
          case measure => simp [intOf] <;> omega
end Go.Proofs.Ytgddklafeaoleaa
