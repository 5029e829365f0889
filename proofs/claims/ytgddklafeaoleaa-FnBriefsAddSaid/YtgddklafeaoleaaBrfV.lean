/-
  Contracts of BriefsValid (both texts).
-/
import Derived.Test.YtgddklafeaoleaaBrfK
namespace Go.Proofs.Ytgddklafeaoleaa
open Go.RowKit Go.Sort
set_option linter.unusedSimpArgs false
set_option linter.unusedVariables false

theorem ups_snoc (s : ByteArray) (k : Nat) (h : k < s.size) (hl : (s.data.toList.take k).all upOk = true) : (s.data.toList.take (k + 1)).all upOk = upOk s[k] := by
  rw [take_snoc s k h]
  simp [List.all_append, hl]
theorem ups_not (s : ByteArray) (k : Nat) (h : k < s.size) (hl : upOk s[k] = false) : s.data.toList.all upOk = false := by
  have e : s.data.toList = s.data.toList.take k ++ s[k] :: s.data.toList.drop (k + 1) := by
    conv => lhs; rw [← List.take_append_drop (k + 1) s.data.toList, take_snoc s k h]
    simp
  rw [e]
  simp [List.all_append, hl]
theorem mark_not {s : ByteArray} (h : s.data.toList.all upOk = false) : markOk s = false := by rw [markOk, h, Bool.and_false]
theorem mark_of {s : ByteArray} (h : s.data.toList.all upOk = true) : markOk s = (decide (1 ≤ (s.size : Int)) && decide ((s.size : Int) ≤ 3)) := by
  rw [markOk, h, Bool.and_true, Bool.eq_iff_iff]; simp; omega

set_option maxHeartbeats 400000 in
theorem spec_l4Mark (s : ByteArray) (w : World) (hs : s.size ≤ maxLen) :
    Calls Try.prog 47 #[.string s] w fun e w' => e = .returned (.bool (markOk s)) ∧ w = w' := by
  unfold maxLen at hs
  go_enter Try.func47, Try.ntmps47
  go_wp2
  go_loop [3] (fun i => ∃ k : Nat, k ≤ s.size ∧ i = .int .i64 k ∧ Hid ((s.data.toList.take k).all upOk = true)) (fun i => s.size - (intOf i).toNat)
  case atStart => exact ⟨0, Nat.zero_le _, rfl, rfl⟩
  case round =>
    obtain ⟨k, hk, rfl, hl⟩ := hrel
    by_cases hlt : k < s.size
    · have HS := Lib.hid (ups_snoc s k hlt hl.out)
      have HN := Lib.hid (fun h => mark_not (ups_not s k hlt h))
      go_wp2
      · go_ret
        exact ⟨ret_bool (by rw [HN.out (by simp [upOk]; omega)]), rfl⟩
      · go_round
        case rel => exact ⟨k + 1, by omega, by go_num, by rw [Hid, HS.out]; simp [upOk]; omega⟩
        case measure => simp [intOf]; omega
      · go_ret
        exact ⟨ret_bool (by rw [HN.out (by simp [upOk]; omega)]), rfl⟩
    · have HO : Hid (markOk s = (decide (1 ≤ (s.size : Int)) && decide ((s.size : Int) ≤ 3))) := by
        have e : s.data.toList.take k = s.data.toList := List.take_of_length_le (by simp; omega)
        have := hl.out
        rw [e] at this
        exact mark_of this
      go_wp2_with (go_at_call 81; refine (spec_l6In _ _ _ _).mono ?_; rintro e w' ⟨rfl, rfl⟩)
      go_ret
      exact ⟨ret_bool HO.out.symm, rfl⟩

theorem three_of (ws : List Str) : threeOk ws = (allTo (fun k => wordOk (strAt ws k)) ws.length && (decide ((1 : Int) ≤ ws.length) && decide ((ws.length : Int) ≤ 3))) := by
  rw [threeOk, Bool.and_comm]; congr 1; rw [Bool.eq_iff_iff]; simp; omega
theorem three_speech {ws : List Str} (h1 : ¬ (ws.length : Int) < 1) (h2 : ¬ (3 : Int) < ws.length) : speechOk ws = threeOk ws := by
  rw [speechOk, threeOk]; congr 1; rw [Bool.eq_iff_iff]; simp; omega

theorem bv_no {bs : List PB} {k : Nat} (hk : k < bs.length) (h : pbOk (pbAt bs k) = false) : bvOk bs = false := by
  rw [bvOk, allTo_not (k := k) (by rw [bvAt, h, Bool.false_and]) hk, Bool.and_false]
theorem bv_hit {bs : List PB} {j k : Nat} (hj : j < k) (hk : k < bs.length) (h : apartB (pbAt bs j) (pbAt bs k) = false) : bvOk bs = false := by
  rw [bvOk, allTo_not (k := k) (by rw [bvAt, allTo_not (k := j) h hj, Bool.and_false]) hk, Bool.and_false]
theorem apart_mark {a b : PB} (h : a.1 = b.1) : apartB a b = false := by simp [apartB, h]
theorem apart_words {a b : PB} (h : a.2 = b.2) : apartB a b = false := by simp [apartB, h]
theorem apart_none {a b : PB} (h1 : a.1 ≠ b.1) (h2 : a.2 ≠ b.2) : apartB a b = true := by simp [apartB, h1, h2]

set_option maxRecDepth 100000 in
set_option maxHeartbeats 1000000 in
theorem spec_BriefsValid (xs : List Brf) (A : Option Addr) (c : Nat) (w : World) (hw : Seg w 0 w.heap.size A (flat brfC xs)) (ho : BrfsAt w xs) (hn : xs.length ≤ maxLen) :
    Calls Try.prog 15 #[.slice A xs.length c] w fun e w' => e = .returned (.bool (bvOk (pbsOf xs))) ∧ Below w.heap.size w w' := by
  have hn' : xs.length ≤ 9223372036854775807 := hn
  go_enter Try.func15, Try.ntmps15
  go_wp2
  go_loopw [3, 4] (fun i _ wr => ∃ k : Nat, k ≤ xs.length ∧ i = .int .i64 k ∧ Hid (allTo (bvAt (pbsOf xs)) k = true) ∧ Below w.heap.size w wr) (fun i _ _ => xs.length - (intOf i).toNat)
  case atStart => exact ⟨0, Nat.zero_le _, rfl, rfl, Below.refl _ _⟩
  case round =>
    obtain ⟨k, hk, rfl, hl, hb⟩ := hrel
    by_cases hlt : k < xs.length
    · generalize wr = w3 at *
      obtain ⟨⟨xm, xA, xc, xl⟩, hs⟩ := get_lt hlt
      obtain ⟨g, o, rfl, hg, _, hgw, hc1, hc2⟩ := (hw.below hb).brf hs
      simp only [rowV] at hc1 hc2
      obtain ⟨hxm, hxw, hxo, hxc, hxn⟩ := (ho _ (List.mem_of_getElem? hs)).below hb
      simp only at hxm hxw hxo hxc hxn
      have HP := Lib.hid (pbAt_of hs)
      have hkp : k < (pbsOf xs).length := by rw [pbsOf_len]; exact hlt
      have hxl : xl.length ≤ maxLen := Nat.le_trans hxc hxn
      clear hs
      cases hm : markOk xm
      · have HO : Hid (bvOk (pbsOf xs) = false) := bv_no hkp (by rw [HP.out, pbOk, hm]; rfl)
        go_wp2_with (go_at_call 47; refine (spec_l4Mark xm _ hxm).mono ?_; rintro e w' ⟨rfl, rfl⟩; rw [hm])
        go_ret
        exact ⟨ret_bool HO.out.symm, hb⟩
      cases ht : threeOk xl
      · have HO : Hid (bvOk (pbsOf xs) = false) := bv_no hkp (by rw [HP.out, pbOk, ht, Bool.and_false])
        go_wp2_with (first | (go_at_call 47; refine (spec_l4Mark xm _ hxm).mono ?_; rintro e w' ⟨rfl, rfl⟩; rw [hm]) | (go_at_call 48; refine (spec_l4Words xl _ _ _ _ _ hxw hxo hxl).mono ?_; rintro e w' ⟨rfl, rfl⟩; rw [← three_of, ht]))
        go_ret
        exact ⟨ret_bool HO.out.symm, hb⟩
      go_wp2_with (first | (go_at_call 47; refine (spec_l4Mark xm _ hxm).mono ?_; rintro e w' ⟨rfl, rfl⟩; rw [hm]) | (go_at_call 48; refine (spec_l4Words xl _ _ _ _ _ hxw hxo hxl).mono ?_; rintro e w' ⟨rfl, rfl⟩; rw [← three_of, ht]))
      go_loopw [4] (fun i wr => ∃ j : Nat, j ≤ k ∧ i = .int .i64 j ∧ Hid (allTo (fun j => apartB (pbAt (pbsOf xs) j) (xm, xl)) j = true) ∧ Below w3.heap.size w3 wr) (fun i _ => k - (intOf i).toNat)
      case atStart => exact ⟨0, Nat.zero_le _, rfl, rfl, Below.refl _ _⟩
      case round =>
        rename_i wi
        obtain ⟨j, hj, rfl, hh, hb3⟩ := hrel
        by_cases hjl : j < k
        · obtain ⟨⟨ym, yA, yc, yl⟩, hs'⟩ := get_lt (show j < xs.length by omega)
          obtain ⟨g2, o2, e2, _, _, _, hd1, hd2⟩ := (hw.below hb).brf hs'
          injection e2 with e2
          injection e2 with e21 e22
          subst e21 e22
          simp only [rowV] at hd1 hd2
          obtain ⟨_, hyw, _, hyc, hyn⟩ := ((ho _ (List.mem_of_getElem? hs')).below hb).below hb3
          simp only at hyw hyc hyn
          have hxw3 := (hxw.below hb3).top
          have HP' := Lib.hid (pbAt_of hs')
          have hyl : yl.length ≤ maxLen := Nat.le_trans hyc hyn
          have r1 := (hb3.cell (p := ⟨g, o + k * 2, none⟩) hg).trans hc1
          have r2 := (hb3.cell (p := ⟨g, o + k * 2 + 1, none⟩) hg).trans hc2
          have r3 := (hb3.cell (p := ⟨g, o + j * 2, none⟩) hg).trans hd1
          have r4 := (hb3.cell (p := ⟨g, o + j * 2 + 1, none⟩) hg).trans hd2
          have q1 := cell_regrown r1
          have q2 := cell_regrown r2
          have q3 := cell_regrown r3
          have q4 := cell_regrown r4
          have hk3 : (k : Int) < (xs.length : Int) := by omega
          have hj3 : (j : Int) < (xs.length : Int) := by omega
          have HC := Lib.hid (fun dq osq => spec_l4Same yl xl yA xA yc xc (grow (redrawn wr dq) osq) (hyw.below (below_regrown wr dq osq)).top (hxw3.below (below_regrown wr dq osq)).top hyl hxl)
          clear hs' hd1 hd2 hyw hxw3
          by_cases h1 : ym = xm
          · have HO : Hid (bvOk (pbsOf xs) = false) := bv_hit hjl hkp (by rw [HP.out, HP'.out]; exact apart_mark h1)
            subst h1
            have hbe : (ByteArray.toList ym == ByteArray.toList ym) = true := by simp
            have HM := Lib.hid hm
            clear r1 r2 r3 r4 hm ht
            go_wp2
            (refine wp_region_quiet_below (by kernel_rfl) (by kernel_rfl) ?_; (repeat (go_big_quiet_step ((fail)))); refine wpQuiet_nil ?_; intro _ hw'; obtain ⟨⟨dq, osq⟩, hw''⟩ := hw'; subst hw'')
            have hq := below_regrown wr dq osq
            generalize grow (redrawn wr dq) osq = wq at *
            go_wp2
            go_ret
            exact ⟨ret_bool HO.out.symm, bel_trans hb (bel_trans hb3 hq)⟩
          · have hbe := str_ne h1
            by_cases h2 : yl = xl
            · have HO : Hid (bvOk (pbsOf xs) = false) := bv_hit hjl hkp (by rw [HP.out, HP'.out]; exact apart_words h2)
              have HC2 : Hid (∀ dq osq, Calls Try.prog 49 #[.slice yA yl.length yc, .slice xA xl.length xc] (grow (redrawn wr dq) osq) fun e w'' => e = .returned (.bool true) ∧ ∃ p : Regrown, w'' = grow (redrawn wr p.d) p.os) :=
                fun dq osq => by have := HC.out dq osq; rw [decide_eq_true h2] at this; exact Calls.regrown_of this
              have HM := Lib.hid hm
              have H1 := Lib.hid h1
              have H2 := Lib.hid h2
              clear r1 r2 r3 r4 h1 hm ht h2 HC
              go_wp2
              (refine wp_region_quiet_below (by kernel_rfl) (by kernel_rfl) ?_; (repeat (go_big_quiet_step (((go_at_call 49; with_reducible exact HC2.out _ _))))); refine wpQuiet_nil ?_; intro _ hw'; obtain ⟨⟨dq, osq⟩, hw''⟩ := hw'; subst hw'')
              have hq := below_regrown wr dq osq
              generalize grow (redrawn wr dq) osq = wq at *
              go_wp2
              go_ret
              exact ⟨ret_bool HO.out.symm, bel_trans hb (bel_trans hb3 hq)⟩
            · have HN := Lib.hid (allTo_step hh.out (show apartB (pbAt (pbsOf xs) j) (xm, xl) = true by rw [HP'.out]; exact apart_none h1 h2))
              have HC2 : Hid (∀ dq osq, Calls Try.prog 49 #[.slice yA yl.length yc, .slice xA xl.length xc] (grow (redrawn wr dq) osq) fun e w'' => e = .returned (.bool false) ∧ ∃ p : Regrown, w'' = grow (redrawn wr p.d) p.os) :=
                fun dq osq => by have := HC.out dq osq; rw [decide_eq_false h2] at this; exact Calls.regrown_of this
              have HM := Lib.hid hm
              have HT := Lib.hid ht
              clear r1 r2 r3 r4 h1 hm ht h2 HC
              go_wp2
              (refine wp_region_quiet_below (by kernel_rfl) (by kernel_rfl) ?_; (repeat (go_big_quiet_step (((go_at_call 49; with_reducible exact HC2.out _ _))))); refine wpQuiet_nil ?_; intro _ hw'; obtain ⟨⟨dq, osq⟩, hw''⟩ := hw'; subst hw'')
              have hq := below_regrown wr dq osq
              generalize grow (redrawn wr dq) osq = wq at *
              clear q1 q2 q3 q4
              go_wp2
              go_roundw
              case rel => exact ⟨j + 1, by omega, by go_num, HN, bel_trans hb3 hq⟩
              case measure => simp [intOf]; omega
        · have HN : Hid (allTo (bvAt (pbsOf xs)) (k + 1) = true) := by
            obtain rfl : j = k := by omega
            refine allTo_step hl.out ?_
            rw [bvAt, HP.out, pbOk, hm, ht]
            exact hh.out
          have hb4 := bel_trans hb hb3
          go_wp2
          go_roundw
          case rel => exact ⟨k + 1, by omega, by go_num, HN, hb4⟩
          case measure => simp [intOf]; omega
    · have HO : Hid (bvOk (pbsOf xs) = decide ((xs.length : Int) ≤ 8)) := by
        obtain rfl : k = xs.length := by omega
        rw [Hid, bvOk, pbsOf_len, hl.out, Bool.and_true, Bool.eq_iff_iff]; simp; omega
      go_wp2
      go_ret
      exact ⟨ret_bool HO.out.symm, hb⟩
end Go.Proofs.Ytgddklafeaoleaa
