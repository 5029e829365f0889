/-
  Walk of the law FnWritten.
-/
import Derived.Test.YtniemanapimjoaaWritL
import Derived.Test.YtniemanapimjoaaDrawD
import Derived.Test.YtniemanapimjoaaMrk2
import Derived.Test.YtniemanapimjoaaOpen
namespace Go.Proofs.Ytniemanapimjoaa
open Go.RowKit Go.Sort
set_option linter.unusedSimpArgs false
set_option linter.unusedVariables false

theorem ints_same (xs : List Int) (A B : Option Addr) (c d : Nat) (w : World) (hw : Seg w 0 w.heap.size A (flat intC xs)) (hv : Seg w 0 w.heap.size B (flat intC xs)) (hn : xs.length ≤ 1048576) :
    Calls Try.prog 62 #[.slice A xs.length c, .slice B xs.length d] w fun e w' => e = .returned (.bool true) ∧ Below w.heap.size w w' := by
  go_enter Try.func62, Try.ntmps62
  go_wp2
  go_loopw [5] (fun i wr => ∃ k : Nat, k ≤ xs.length ∧ i = .int .i64 k ∧ Hid (∃ n, wr = w.drewN n)) (fun i _ => xs.length - (intOf i).toNat)
  case atStart => exact ⟨0, Nat.zero_le _, rfl, 0, rfl⟩
  case round =>
    obtain ⟨k, hk, rfl, hd⟩ := hrel
    by_cases hlt : k < xs.length
    · obtain ⟨x, hx⟩ := get_lt hlt
      obtain ⟨g, o, rfl, hg, e1⟩ := hw.int1 hx
      obtain ⟨g', o', rfl, hg', e2⟩ := hv.int1 hx
      obtain ⟨m, hm⟩ := hd.out
      have d1 : wr.cell? ⟨g, o + k, none⟩ = some (.int .i64 x) := by rw [hm]; exact e1
      have d2 : wr.cell? ⟨g', o' + k, none⟩ = some (.int .i64 x) := by rw [hm]; exact e2
      clear hx e1 e2 hm
      go_wp2
      go_quiet (fail)
      go_wp2
      go_roundw
      case rel => exact ⟨k + 1, by omega, by go_num, by obtain ⟨m, hm⟩ := hd.out; exact ⟨m + nq, by rw [hm, World.drewN_drewN]⟩⟩
      case measure => simp [intOf]; omega
    · go_wp2
      go_ret
      exact ⟨rfl, by obtain ⟨m, hm⟩ := hd.out; rw [hm]; exact Below_drewN (Below.refl _ _) _⟩
theorem laws_hasInt (xs : List Int) (v : Int) (A : Option Addr) (c : Nat) (w : World) (hw : Seg w 0 w.heap.size A (flat intC xs)) (hn : xs.length ≤ 1048576) :
    Calls Try.prog 63 #[.slice A xs.length c, .int .i64 v] w fun e w' => e = .returned (.bool (decide (v ∈ xs))) ∧ w = w' := by
  go_enter Try.func63, Try.ntmps63
  go_wp2
  go_loop [5] (fun i => ∃ k : Nat, k ≤ xs.length ∧ i = .int .i64 k ∧ Hid (v ∉ xs.take k)) (fun i => xs.length - (intOf i).toNat)
  case atStart => exact ⟨0, Nat.zero_le _, rfl, by simp [Hid]⟩
  case round =>
    obtain ⟨k, hk, rfl, hno⟩ := hrel
    by_cases hlt : k < xs.length
    · obtain ⟨x, hx⟩ := get_lt hlt
      obtain ⟨g, o, rfl, hg, e1⟩ := hw.int1 hx
      by_cases he : x = v
      · have HN : Hid (decide (v ∈ xs) = true) := by rw [Hid, decide_eq_true_iff, ← he]; exact List.mem_of_getElem? hx
        subst he
        clear hx
        go_wp2
        go_ret
        exact ⟨ret_bool HN.out.symm, rfl⟩
      · have HN : Hid (v ∉ xs.take (k + 1)) := by
          rw [Hid, take_snoc' hx, List.mem_append]
          rintro (h | h)
          · exact hno.out h
          · simp at h; exact he h.symm
        have hb : (x == v) = false := beq_eq_false_iff_ne.2 he
        clear hx
        go_wp2
        go_round
        case rel => exact ⟨k + 1, by omega, by go_num, HN⟩
        case measure => simp [intOf]; omega
    · have HN : Hid (decide (v ∈ xs) = false) := by
        rw [Hid, decide_eq_false_iff_not]
        have := hno.out
        rwa [List.take_of_length_le (by omega)] at this
      go_wp2
      go_ret
      exact ⟨ret_bool HN.out.symm, rfl⟩

set_option maxRecDepth 100000 in
set_option maxHeartbeats 4000000 in
theorem walk_FnWritten (r0 r1 : Row UInt8) (w : World) (h0 : RowOk w byteC (fun _ => True) r0) (h1 : RowOk w byteC (fun _ => True) r1) : Calls Try.prog 14 #[rowV r0, rowV r1] w fun e w' => e = .returned (.bool true) ∧ Below w.heap.size w w' := by
  obtain ⟨A, c, l⟩ := r0
  obtain ⟨hw, _, hc, hm⟩ := h0
  obtain ⟨A1, c1, l1⟩ := r1
  obtain ⟨_, _, hc1, hm1⟩ := h1
  simp only at hw hc hm hc1 hm1
  have hm' : c ≤ 9223372036854775807 := hm
  have hm1' : c1 ≤ 9223372036854775807 := hm1
  show Calls Try.prog 14 #[.slice A l.length c, .slice A1 l1.length c1] w _
  by_cases hl : (1048576 : Int) < l.length
  · go_enter Try.func14, Try.ntmps14
    go_wp2
    go_ret
    exact ⟨rfl, Below.refl _ _⟩
  by_cases hl1 : (1048576 : Int) < l1.length
  · go_enter Try.func14, Try.ntmps14
    go_wp2
    go_ret
    exact ⟨rfl, Below.refl _ _⟩
  go_enter Try.func14, Try.ntmps14
  go_wp2_with fail
  refine (spec_DrawDictionaryWritten l A c _ hw hc hm).mono ?_
  rintro e w1 ⟨A2, c2, A3, c3, ss, ws, rfl, sg, sw, hok, hwo, hn8, hn10, h3a, h3b, b1⟩
  have hnm : ss.length ≤ maxLen := Nat.le_trans hn8 (by decide)
  have hnq : ss.length ≤ 1048576 := Nat.le_trans hn8 (by decide)
  have hwm : ws.length ≤ maxLen := Nat.le_trans hn10 (by decide)
  go_wp2_with fail
  refine (impl_DictionaryWritten ss ws A2 A3 c2 c3 _ sg sw hok hwo hnm hwm h3a h3b).mono ?_
  rintro e w2 ⟨v2, rfl, own2, b2⟩
  have sg := (sg.below b2).top
  have sw := (sw.below b2).top
  have b02 := bel_trans b1 b2
  obtain ⟨A4, c4, rfl, _, _, s4⟩ := own2.form
  have s4 := s4.mono (lo' := 0) (Nat.zero_le _) (Nat.le_refl _)
  clear own2
  go_wp2_with fail
  refine (spec_DictionaryWritten ss ws A2 A3 c2 c3 _ sg sw hok hwo hnm hwm).mono ?_
  rintro e w3 ⟨v3, rfl, own3, b3⟩
  have sg := (sg.below b3).top
  have sw := (sw.below b3).top
  have s4 := (s4.below b3).top
  have b03 := bel_trans b02 b3
  obtain ⟨A5, c5, rfl, _, _, s5⟩ := own3.form
  have s5 := s5.mono (lo' := 0) (Nat.zero_le _) (Nat.le_refl _)
  clear own3
  have hI20 : (idxs (writOf ss ws)).length ≤ 20 := by rw [idxs_len]; exact writOf_len ss ws
  have hIq : (idxs (writOf ss ws)).length ≤ 1048576 := by omega
  go_wp2_with fail
  refine (ints_same (idxs (writOf ss ws)) A4 A5 c4 c5 _ s4 s5 hIq).mono ?_
  rintro e w4 ⟨rfl, b4⟩
  have sg := (sg.below b4).top
  have sw := (sw.below b4).top
  have s4 := (s4.below b4).top
  have s5 := (s5.below b4).top
  have b04 := bel_trans b03 b4
  by_cases hI0 : (idxs (writOf ss ws)).length = 0
  · have z1 : (((idxs (writOf ss ws)).length : Int) == 0) = true := by rw [beq_iff_eq]; omega
    have HI0 := Lib.hid hI0
    clear hI0
    go_wp2_with fail
    refine (ints_same (idxs (writOf ss ws)) A4 A5 c4 c5 _ s4 s5 hIq).mono ?_
    rintro e w5 ⟨rfl, b5⟩
    have b05 := bel_trans b04 b5
    go_wp2
    go_ret
    exact ⟨rfl, b05⟩
  have z1 : (((idxs (writOf ss ws)).length : Int) == 0) = false := beq_eq_false_iff_ne.2 (by omega)
  have hboth := writ_both (fun e => hI0 (by rw [e]; rfl))
  have HMEM := Lib.hid (fun v => writ_mem hboth.1 (v := v))
  have HB := Lib.hid hboth.1
  have HI0 := Lib.hid hI0
  clear hI0 hboth s5
  generalize idxs (writOf ss ws) = I at *
  go_wp2
  go_loopw [9] (fun i wr => ∃ k : Nat, k ≤ ws.length ∧ i = .int .i64 k ∧ Below w4.heap.size w4 wr) (fun i _ => ws.length - (intOf i).toNat)
  case atStart => exact ⟨0, Nat.zero_le _, rfl, Below.refl _ _⟩
  case round =>
    obtain ⟨k, hk, rfl, hb⟩ := hrel
    by_cases hlt : k < ws.length
    · obtain ⟨s, hs'⟩ := get_lt hlt
      have HS := Lib.hid (strAt_eq hs')
      have hsm := hwo.at_ hs'
      obtain ⟨g, o, rfl, hg, hcx⟩ := (sw.below hb).at_ (strs_at hs')
      have hcell := hcx k _ (strs_at hs')
      have hkd : decide ((k : Int) < (ws.length : Int)) = true := decide_eq_true (by omega)
      have hkdn : decide (k < ws.length) = true := decide_eq_true hlt
      clear hs' hcx
      go_wp2_with fail
      refine (impl_WordOutline ss s A2 c2 _ (sg.below hb).top hok hnm hsm).mono ?_
      rintro e w5 ⟨v5, rfl, own5, b5⟩
      have hb5 := bel_trans hb b5
      have s5 := (s4.below hb5).top
      have HD : Hid (decide ((k : Int) ∈ I) = woOk ss s) := by
        rw [Hid, Bool.eq_iff_iff, decide_eq_true_iff, HMEM.out]
        constructor
        · rintro ⟨i, _, h2, h3⟩
          have : i = k := by omega
          rw [this, HS.out] at h3; exact h3
        · intro h
          exact ⟨k, hlt, rfl, by rw [HS.out]; exact h⟩
      clear own5 hcell
      go_wp2_with fail
      refine (laws_hasInt I (k : Int) A4 c4 _ s5 hIq).mono ?_
      rintro e w' ⟨rfl, rfl⟩
      rw [HD.out]
      cases hx : woOk ss s
      all_goals
        go_wp2
        go_roundw
        case rel => exact ⟨k + 1, by omega, by go_num, hb5⟩
        case measure => simp [intOf]; omega
    · have hkd : decide ((k : Int) < (ws.length : Int)) = false := decide_eq_false (by omega)
      have hkdn : decide (k < ws.length) = false := decide_eq_false hlt
      have b05 := bel_trans b04 hb
      have sg := (sg.below hb).top
      have sw := (sw.below hb).top
      have s4 := (s4.below hb).top
      go_wp2_with fail
      refine (impl_SystemAdd ss (⟨#[122]⟩, (_, _)) A2 c2 _ sg hok (show (⟨#[122]⟩ : ByteArray).size ≤ maxLen by decide) hnq).mono ?_
      rintro e w6 ⟨v6, rfl, own6, b6⟩
      have hmore := fun h => add_more (ss := ss) (x := ((⟨#[122]⟩, ((l1.length : Int) % 8, 1 + (l1.length : Int) / 8 % 3)) : Sgn)) h
      have hoks := added_oks (ss := ss) (x := ((⟨#[122]⟩, ((l1.length : Int) % 8, 1 + (l1.length : Int) / 8 % 3)) : Sgn)) hok (by show (⟨#[122]⟩ : ByteArray).size ≤ maxLen; decide)
      have hal := added_len ss ((⟨#[122]⟩, ((l1.length : Int) % 8, 1 + (l1.length : Int) / 8 % 3)) : Sgn)
      generalize added ss ((⟨#[122]⟩, ((l1.length : Int) % 8, 1 + (l1.length : Int) / 8 % 3)) : Sgn) = sx at *
      generalize addOk ss ((⟨#[122]⟩, ((l1.length : Int) % 8, 1 + (l1.length : Int) / 8 % 3)) : Sgn) = q at *
      have HMORE := Lib.hid hmore
      have sw := (sw.below b6).top
      have s4 := (s4.below b6).top
      have b06 := bel_trans b05 b6
      obtain ⟨A6, c6, rfl, _, _, s6⟩ := own6.form
      have s6 := s6.mono (lo' := 0) (Nat.zero_le _) (Nat.le_refl _)
      clear own6 hmore
      go_wp2_with fail
      refine (impl_DictionaryWritten sx ws A6 A3 c6 c3 _ s6 sw hoks hwo (Nat.le_trans hal (by decide)) hwm h3a h3b).mono ?_
      rintro e w7 ⟨v7, rfl, own7, b7⟩
      have s4 := (s4.below b7).top
      have b07 := bel_trans b06 b7
      obtain ⟨A7, c7, rfl, _, _, s7⟩ := own7.form
      have s7 := s7.mono (lo' := 0) (Nat.zero_le _) (Nat.le_refl _)
      have hJq : (idxs (writOf sx ws)).length ≤ 1048576 := by rw [idxs_len]; exact Nat.le_trans (writOf_len sx ws) (by decide)
      have HIN : Hid (q = true → ∀ v ∈ I, v ∈ idxs (writOf sx ws)) := by
        intro hq v hv
        obtain ⟨h1, h2⟩ := HMORE.out hq
        have hbo : bothOk sx ws = true := by
          have := HB.out
          simp only [bothOk, Bool.and_eq_true] at this ⊢
          exact ⟨h1, this.2⟩
        obtain ⟨i, a, b, d⟩ := (HMEM.out v).1 hv
        exact (writ_mem hbo).2 ⟨i, a, b, h2 _ d⟩
      clear own7
      generalize idxs (writOf sx ws) = J at *
      go_wp2
      go_loopw [15] (fun i wi => ∃ j : Nat, j ≤ I.length ∧ i = .int .i64 j ∧ Hid (wi = w7)) (fun i _ => I.length - (intOf i).toNat)
      case atStart => exact ⟨0, Nat.zero_le _, rfl, rfl⟩
      case round =>
        obtain ⟨j, hj, rfl, hwi⟩ := hrel
        have hbw : Below w.heap.size w wr := by rw [hwi.out]; exact b07
        have s4r : Seg wr 0 wr.heap.size A4 (flat intC I) := by rw [hwi.out]; exact s4
        have s7r : Seg wr 0 wr.heap.size A7 (flat intC J) := by rw [hwi.out]; exact s7
        by_cases hjl : j < I.length
        · have hjd : decide ((j : Int) < (I.length : Int)) = true := decide_eq_true (by omega)
          have hjdn : decide (j < I.length) = true := decide_eq_true hjl
          cases q
          · go_wp2
            go_ret
            exact ⟨rfl, hbw⟩
          · obtain ⟨v, hv⟩ := get_lt hjl
            obtain ⟨g, o, rfl, hg, hcell⟩ := s4r.int1 hv
            have HVJ : Hid (decide (v ∈ J) = true) := by rw [Hid, decide_eq_true_iff]; exact HIN.out rfl v (List.mem_of_getElem? hv)
            clear hv
            go_wp2_with fail
            refine (laws_hasInt J v A7 c7 _ s7r hJq).mono ?_
            rintro e w' ⟨rfl, rfl⟩
            rw [HVJ.out]
            go_wp2
            go_roundw
            case rel => exact ⟨j + 1, by omega, by go_num, hwi⟩
            case measure => simp [intOf]; omega
        · have hjd : decide ((j : Int) < (I.length : Int)) = false := decide_eq_false (by omega)
          have hjdn : decide (j < I.length) = false := decide_eq_false hjl
          go_wp2
          go_ret
          exact ⟨rfl, hbw⟩
end Go.Proofs.Ytniemanapimjoaa
