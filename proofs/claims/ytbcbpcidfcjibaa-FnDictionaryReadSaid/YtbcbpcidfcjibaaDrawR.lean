/-
  Contract of DrawDictionaryRead; the laws' comparison of two lists of strokes.
-/
import Derived.Test.YtbcbpcidfcjibaaDrawD
import Derived.Test.YtbcbpcidfcjibaaDrawO
import Derived.Test.YtbcbpcidfcjibaaRead
import Derived.Test.YtbcbpcidfcjibaaWritL
import Derived.Test.YtbcbpcidfcjibaaWo
import Derived.Test.YtbcbpcidfcjibaaMrk2
namespace Go.Proofs.Ytbcbpcidfcjibaa
open Go.RowKit Go.Sort
set_option linter.unusedSimpArgs false
set_option linter.unusedVariables false

theorem stks_sameD (xs ys : List Stk) (A B : Option Addr) (c d : Nat) (w : World) (hw : Seg w 0 w.heap.size A (flat stkC xs)) (hv : Seg w 0 w.heap.size B (flat stkC ys)) (hn : xs.length ≤ maxLen) (hm : ys.length ≤ maxLen) :
    Calls Try.prog 10 #[.slice A xs.length c, .slice B ys.length d] w fun e w' => e = .returned (.bool (decide (xs = ys))) ∧ Below w.heap.size w w' := by
  have hn' : xs.length ≤ 9223372036854775807 := hn
  have hm' : ys.length ≤ 9223372036854775807 := hm
  by_cases hle : xs.length = ys.length
  · have hnb : (((xs.length : Nat) : Int) != ((ys.length : Nat) : Int)) = false := by rw [hle]; simp
    have HLE := Lib.hid hle
    clear hle
    go_enter Try.func10, Try.ntmps10
    go_wp2
    go_loopw [5] (fun i wr => ∃ k : Nat, k ≤ xs.length ∧ i = .int .i64 k ∧ Hid (xs.take k = ys.take k) ∧ Hid (∃ n, wr = w.drewN n)) (fun i _ => xs.length - (intOf i).toNat)
    case atStart => exact ⟨0, Nat.zero_le _, rfl, rfl, 0, rfl⟩
    case round =>
      obtain ⟨k, hk, rfl, hq, hd⟩ := hrel
      by_cases hlt : k < xs.length
      · have hlt2 : k < ys.length := by have := HLE.out; omega
        obtain ⟨⟨xa, xb⟩, hx⟩ := get_lt hlt
        obtain ⟨⟨ya, yb⟩, hy⟩ := get_lt hlt2
        obtain ⟨g, o, rfl, hg, _, _, e1, e2⟩ := hw.stk hx
        obtain ⟨g', o', rfl, hg', _, _, e3, e4⟩ := hv.stk hy
        simp only at e1 e2 e3 e4
        obtain ⟨m, hm2⟩ := hd.out
        have d1 : wr.cell? ⟨g, o + k * 2, none⟩ = some (.int .i64 xa) := by rw [hm2]; exact e1
        have d2 : wr.cell? ⟨g, o + k * 2 + 1, none⟩ = some (.int .i64 xb) := by rw [hm2]; exact e2
        have d3 : wr.cell? ⟨g', o' + k * 2, none⟩ = some (.int .i64 ya) := by rw [hm2]; exact e3
        have d4 : wr.cell? ⟨g', o' + k * 2 + 1, none⟩ = some (.int .i64 yb) := by rw [hm2]; exact e4
        clear e1 e2 e3 e4 hm2
        by_cases h1 : xa = ya
        · by_cases h2 : xb = yb
          · subst h1 h2
            have HQ : Hid (xs.take (k + 1) = ys.take (k + 1)) := by rw [Hid, take_snoc' hx, take_snoc' hy, hq.out]
            clear hx hy
            go_wp2
            go_quiet (fail)
            go_wp2
            go_roundw
            case rel => exact ⟨k + 1, by omega, by go_num, HQ, by obtain ⟨m, hm⟩ := hd.out; exact ⟨m + nq, by rw [hm, World.drewN_drewN]⟩⟩
            case measure => simp [intOf]; omega
          · subst h1
            have HN : Hid (decide (xs = ys) = false) := by
              rw [Hid, decide_eq_false_iff_not]
              intro e; rw [e, hy] at hx
              injection hx with hx; injection hx with _ hx; exact h2 hx.symm
            clear hx hy
            go_wp2
            go_quiet (fail)
            go_wp2
            go_ret
            exact ⟨ret_bool HN.out.symm, by obtain ⟨m, hm⟩ := hd.out; rw [hm, World.drewN_drewN]; exact Below_drewN (Below.refl _ _) _⟩
        · have HN : Hid (decide (xs = ys) = false) := by
            rw [Hid, decide_eq_false_iff_not]
            intro e; rw [e, hy] at hx
            injection hx with hx; injection hx with hx _; exact h1 hx.symm
          clear hx hy
          go_wp2
          go_quiet (fail)
          go_wp2
          go_ret
          exact ⟨ret_bool HN.out.symm, by obtain ⟨m, hm⟩ := hd.out; rw [hm, World.drewN_drewN]; exact Below_drewN (Below.refl _ _) _⟩
      · have HN : Hid (decide (xs = ys) = true) := by
          rw [Hid, decide_eq_true_iff]
          have h1 := hq.out
          have h2 := HLE.out
          rwa [List.take_of_length_le (by omega), List.take_of_length_le (by omega)] at h1
        go_wp2
        go_ret
        exact ⟨ret_bool HN.out.symm, by obtain ⟨m, hm⟩ := hd.out; rw [hm]; exact Below_drewN (Below.refl _ _) _⟩
  · have hnb : (((xs.length : Nat) : Int) != ((ys.length : Nat) : Int)) = true := by rw [bne_iff_ne]; omega
    have HN : Hid (decide (xs = ys) = false) := by rw [Hid, decide_eq_false_iff_not]; intro e; exact hle (by rw [e])
    have HLE := Lib.hid hle
    clear hle
    go_enter Try.func10, Try.ntmps10
    go_wp2
    go_ret
    exact ⟨ret_bool HN.out.symm, Below.refl _ _⟩

def SomeRead (w : World) (e : Ending) (w' : World) : Prop := ∃ A c B d C f, ∃ ss : List Sgn, ∃ ws : List Str, ∃ os : List Stk, e = .returned (.tuple #[.slice A ss.length c, .slice B ws.length d, .slice C os.length f]) ∧ Seg w' 0 w'.heap.size A (flat sgnC ss) ∧ Seg w' 0 w'.heap.size B (strs ws) ∧ Seg w' 0 w'.heap.size C (flat stkC os) ∧ OkSgns ss ∧ StrsOk ws ∧ ss.length ≤ 8 ∧ ws.length ≤ 10 ∧ os.length ≤ 8 ∧ ws.length ≤ d ∧ d ≤ maxLen ∧ Below w.heap.size w w'

set_option maxRecDepth 100000 in
set_option maxHeartbeats 1000000 in
theorem spec_DrawDictionaryRead (l : List UInt8) (A : Option Addr) (c : Nat) (w : World) (hw : Seg w 0 w.heap.size A (flat byteC l)) (hc : l.length ≤ c) (hm : c ≤ maxLen) :
    Calls Try.prog 4 #[.slice A l.length c] w (SomeRead w) := by
  go_enter Try.func4, Try.ntmps4
  go_wp2_with fail
  refine (spec_l6Open l A c _ hw hc hm).mono ?_
  rintro e w1 ⟨rfl, hr, hb, hsz⟩
  have hgw : w.heap.size < w1.heap.size := by omega
  go_wp2_with fail
  refine (spec_l91Both _ 0 _ ⟨0, Nat.le_refl _, hr⟩ (by decide)).mono ?_
  rintro e w2 ⟨A2, c2, B2, d2, ss, ws, rfl, s1, s2, hok, hwo, hn8, hn10, h3a, h3b, dr⟩
  have hnm : ss.length ≤ maxLen := Nat.le_trans hn8 (by decide)
  have hwm : ws.length ≤ maxLen := Nat.le_trans hn10 (by decide)
  have hg2 : w.heap.size < w2.heap.size := by have := dr.size; omega
  go_wp2_with fail
  refine (spec_DictionaryWritten ss ws A2 B2 c2 d2 _ (s1.mono (Nat.zero_le _) (Nat.le_refl _)) (s2.mono (Nat.zero_le _) (Nat.le_refl _)) hok hwo hnm hwm).mono ?_
  rintro e w3 ⟨v3, rfl, own3, b3⟩
  have dr3 := dr.then_ b3
  have s1 := (s1.below b3).top
  have s2 := (s2.below b3).top
  have HM : Hid (∀ v ∈ idxs (writOf ss ws), ∃ i : Nat, i < ws.length ∧ v = i) := by
    intro v hv
    have hbo := (writ_both (ss := ss) (ws := ws) (by intro e; rw [e] at hv; simp at hv)).1
    obtain ⟨i, h1, h2, _⟩ := (writ_mem hbo).1 hv
    exact ⟨i, h1, h2⟩
  have hI20 : (idxs (writOf ss ws)).length ≤ 20 := by rw [idxs_len]; exact writOf_len ss ws
  obtain ⟨A4, c4, rfl, _, _, s4⟩ := own3.form
  have s4 := s4.mono (lo' := w.heap.size + 1) (by omega) (Nat.le_refl _)
  clear own3 b3 dr
  generalize idxs (writOf ss ws) = I at *
  by_cases h0 : (0 : Int) < (I.length : Int)
  · have h0d : decide ((0 : Int) < (I.length : Int)) = true := decide_eq_true h0
    have h0n : 0 < I.length := by omega
    go_wp2_with fail
    refine (pickB w.heap.size _ 5 _ dr3.1 (by omega) (by decide) (by decide)).mono ?_
    rintro e w4 ⟨y, rfl, hy0, hy1, d4⟩
    have s1 := (d4.seg s1 (by omega)).top
    have s2 := (d4.seg s2 (by omega)).top
    have s4 := (d4.seg s4 (by omega)).top
    have dr4 := dr3.trans d4
    by_cases hy : 0 < y
    · go_wp2_with fail
      refine (pickB w.heap.size _ (I.length : Int) _ dr4.1 (by omega) (by omega) (by omega)).mono ?_
      rintro e w5 ⟨j, rfl, hj0, hj1, d5⟩
      have s1 := (d5.seg s1 (by omega)).top
      have s2 := (d5.seg s2 (by omega)).top
      have s4 := (d5.seg s4 (by omega)).top
      have dr5 := dr4.trans d5
      obtain ⟨k, rfl⟩ := Int.eq_ofNat_of_zero_le hj0
      obtain ⟨v, hv⟩ := get_lt (l := I) (k := k) (by omega)
      obtain ⟨i, hil, rfl⟩ := HM.out v (List.mem_of_getElem? hv)
      obtain ⟨g, o, rfl, hg, hcell⟩ := s4.int1 hv
      obtain ⟨s, hs⟩ := get_lt hil
      obtain ⟨g', o', rfl, hg', hcx⟩ := s2.at_ (strs_at hs)
      have hcell2 := hcx i _ (strs_at hs)
      have hsm := hwo.at_ hs
      have hkl : (k : Int) < (I.length : Int) := by omega
      have hil2 : (i : Int) < (ws.length : Int) := by omega
      have S2 := Lib.hid s2
      clear hv hs hcx s2 s4
      go_wp2_with fail
      refine (spec_WordOutline ss s A2 c2 _ (s1.mono (Nat.zero_le _) (Nat.le_refl _)) hok hnm hsm).mono ?_
      rintro e w6 ⟨v6, rfl, own6, b6⟩
      obtain ⟨A6, c6, rfl, _, _, s6⟩ := own6.form
      have h8 := woOf_len ss s
      have hfin : SomeRead w (.returned (.tuple #[.slice A2 ss.length c2, .slice (some ⟨g', o', none⟩) ws.length d2, .slice A6 (woOf ss s).length c6])) w6 :=
        ⟨_, _, _, _, _, _, ss, ws, _, rfl, ((s1.below b6).top).mono (Nat.zero_le _) (Nat.le_refl _), ((S2.out.below b6).top).mono (Nat.zero_le _) (Nat.le_refl _), s6.mono (Nat.zero_le _) (Nat.le_refl _), hok, hwo, hn8, hn10, h8, h3a, h3b, (dr5.then_ b6).bel hb (Nat.le_refl _)⟩
      have HF := Lib.hid hfin
      clear own6 hcell hcell2 hfin s1 s6
      go_wp2
      go_ret3
      exact HF.out
    · go_wp2_with fail
      refine (spec_l91Outline w.heap.size _ 3 _ dr4.1 (by omega) (by decide)).mono ?_
      rintro e w6 ⟨A6, c6, os, rfl, own6, h6, _, _, d6⟩
      have hfin : SomeRead w (.returned (.tuple #[.slice A2 ss.length c2, .slice B2 ws.length d2, .slice A6 os.length c6])) w6 :=
        ⟨_, _, _, _, _, _, ss, ws, _, rfl, ((d6.seg s1 (by omega)).top).mono (Nat.zero_le _) (Nat.le_refl _), ((d6.seg s2 (by omega)).top).mono (Nat.zero_le _) (Nat.le_refl _), (Seg.of_own own6).mono (Nat.zero_le _) (Nat.le_refl _), hok, hwo, hn8, hn10, by omega, h3a, h3b, (dr4.trans d6).bel hb (Nat.le_refl _)⟩
      have HF := Lib.hid hfin
      clear own6 hfin s1 s2 s4
      go_wp2
      go_ret3
      exact HF.out
  · have h0d : decide ((0 : Int) < (I.length : Int)) = false := decide_eq_false h0
    have h0n : ¬ 0 < I.length := by omega
    go_wp2_with fail
    refine (spec_l91Outline w.heap.size _ 3 _ dr3.1 (by omega) (by decide)).mono ?_
    rintro e w6 ⟨A6, c6, os, rfl, own6, h6, _, _, d6⟩
    have hfin : SomeRead w (.returned (.tuple #[.slice A2 ss.length c2, .slice B2 ws.length d2, .slice A6 os.length c6])) w6 :=
      ⟨_, _, _, _, _, _, ss, ws, _, rfl, ((d6.seg s1 (by omega)).top).mono (Nat.zero_le _) (Nat.le_refl _), ((d6.seg s2 (by omega)).top).mono (Nat.zero_le _) (Nat.le_refl _), (Seg.of_own own6).mono (Nat.zero_le _) (Nat.le_refl _), hok, hwo, hn8, hn10, by omega, h3a, h3b, (dr3.trans d6).bel hb (Nat.le_refl _)⟩
    have HF := Lib.hid hfin
    clear own6 hfin s1 s2 s4
    go_wp2
    go_ret3
    exact HF.out
end Go.Proofs.Ytbcbpcidfcjibaa
