/-
  Walk of the law FnDictionaryRead.
-/
import Derived.Test.YtbcbpcidfcjibaaDrawR
import Derived.Test.YtbcbpcidfcjibaaSysL
import Derived.Test.YtbcbpcidfcjibaaIntsS
import Derived.Test.YtbcbpcidfcjibaaOpen
namespace Go.Proofs.Ytbcbpcidfcjibaa
open Go.RowKit Go.Sort
set_option linter.unusedSimpArgs false
set_option linter.unusedVariables false

theorem wo_of {ss : List Sgn} {s : Str} (h : woOk ss s = true) : woOf ss s = stksL ss (bareOf s) (bareOf s).length := by rw [woOf, h]; rfl
/-- two written words: one outline just if one bare form -/
theorem wo_eq {ss : List Sgn} {a b : Str} (ha : woOk ss a = true) (hb : woOk ss b = true) : woOf ss a = woOf ss b ↔ (⟨(bareOf a).toArray⟩ : ByteArray) = ⟨(bareOf b).toArray⟩ := by
  constructor
  · intro h
    rw [← (wo_back ha).2.1, ← (wo_back hb).2.1, h]
  · intro h
    have h1 : bareOf a = bareOf b := by
      have := congrArg (fun x : ByteArray => x.data.toList) h
      simpa using this
    rw [wo_of ha, wo_of hb, h1]
theorem read_mem {ss : List Sgn} {ws : List Str} {os : List Stk} {v : Int} : ∀ {n : Nat}, v ∈ readTo ss ws os n ↔ ∃ i : Nat, i < n ∧ v = i ∧ woOk ss (strAt ws i) = true ∧ woOf ss (strAt ws i) = os
  | 0 => by simp [readTo, gather]
  | n + 1 => by
    have ih := read_mem (ss := ss) (ws := ws) (os := os) (v := v) (n := n)
    by_cases h : woOk ss (strAt ws n) = true ∧ woOf ss (strAt ws n) = os
    · rw [readTo_yes rfl h.1 h.2, List.mem_append, ih]
      constructor
      · rintro (⟨i, h1, h2⟩ | h1)
        · exact ⟨i, by omega, h2⟩
        · simp at h1; exact ⟨n, by omega, h1, h⟩
      · rintro ⟨i, h1, h2, h3⟩
        by_cases e : i = n
        · subst e; exact .inr (by simp [h2])
        · exact .inl ⟨i, by omega, h2, h3⟩
    · rw [readTo_no rfl (by cases h2 : woOk ss (strAt ws n); · exact .inl rfl
                            · exact .inr fun e => h ⟨h2, e⟩), ih]
      constructor
      · rintro ⟨i, h1, h2⟩; exact ⟨i, by omega, h2⟩
      · rintro ⟨i, h1, h2, h3⟩
        by_cases e : i = n
        · subst e; exact absurd h3 h
        · exact ⟨i, by omega, h2, h3⟩
theorem read_ok {ss : List Sgn} {ws : List Str} {os : List Stk} (h : readOf ss ws os ≠ []) : readOf ss ws os = readTo ss ws os ws.length := by
  unfold readOf at h ⊢
  split
  · rfl
  · rename_i h1; rw [if_neg h1] at h; exact absurd rfl h

set_option maxRecDepth 100000 in
set_option maxHeartbeats 4000000 in
theorem walk_FnDictionaryRead (r0 : Row UInt8) (w : World) (h0 : RowOk w byteC (fun _ => True) r0) : Calls Try.prog 3 #[rowV r0] w fun e w' => e = .returned (.bool true) ∧ Below w.heap.size w w' := by
  obtain ⟨A, c, l⟩ := r0
  obtain ⟨hw, _, hc, hm⟩ := h0
  simp only at hw hc hm
  have hm' : c ≤ 9223372036854775807 := hm
  show Calls Try.prog 3 #[.slice A l.length c] w _
  by_cases hl : (1048576 : Int) < l.length
  · go_enter Try.func3, Try.ntmps3
    go_wp2
    go_ret
    exact ⟨rfl, Below.refl _ _⟩
  go_enter Try.func3, Try.ntmps3
  go_wp2_with fail
  refine (spec_DrawDictionaryRead l A c _ hw hc hm).mono ?_
  rintro e w1 ⟨A2, c2, A3, c3, A4, c4, ss, ws, os, rfl, sg, sw, so, hok, hwo, hn8, hn10, ho8, h3a, h3b, b1⟩
  have hnm : ss.length ≤ maxLen := Nat.le_trans hn8 (by decide)
  have hwm : ws.length ≤ maxLen := Nat.le_trans hn10 (by decide)
  have hom : os.length ≤ maxLen := Nat.le_trans ho8 (by decide)
  go_wp2_with fail
  refine (impl_DictionaryRead ss ws os A2 A3 A4 c2 c3 c4 _ sg sw so hok hwo hnm hwm hom h3a h3b).mono ?_
  rintro e w2 ⟨v2, rfl, own2, b2⟩
  have sg := (sg.below b2).top
  have sw := (sw.below b2).top
  have so := (so.below b2).top
  have b02 := bel_trans b1 b2
  obtain ⟨A5, c5, rfl, _, _, s5⟩ := own2.form
  have s5 := s5.mono (lo' := 0) (Nat.zero_le _) (Nat.le_refl _)
  clear own2
  go_wp2_with fail
  refine (spec_DictionaryRead ss ws os A2 A3 A4 c2 c3 c4 _ sg sw so hok hwo hnm hwm hom).mono ?_
  rintro e w3 ⟨v3, rfl, own3, b3⟩
  have sg := (sg.below b3).top
  have sw := (sw.below b3).top
  have so := (so.below b3).top
  have s5 := (s5.below b3).top
  have b03 := bel_trans b02 b3
  obtain ⟨A6, c6, rfl, _, _, s6⟩ := own3.form
  have s6 := s6.mono (lo' := 0) (Nat.zero_le _) (Nat.le_refl _)
  clear own3
  have hI20 := readOf_len ss ws os
  have hIq : (readOf ss ws os).length ≤ 1048576 := by omega
  go_wp2_with fail
  refine (ints_same (readOf ss ws os) A5 A6 c5 c6 _ s5 s6 hIq).mono ?_
  rintro e w4 ⟨rfl, b4⟩
  have sg := (sg.below b4).top
  have sw := (sw.below b4).top
  have so := (so.below b4).top
  have s5 := (s5.below b4).top
  have s6 := (s6.below b4).top
  have b04 := bel_trans b03 b4
  by_cases hI0 : (readOf ss ws os).length = 0
  · have z1 : (((readOf ss ws os).length : Int) == 0) = true := by rw [beq_iff_eq]; omega
    have HI0 := Lib.hid hI0
    clear hI0
    go_wp2_with fail
    refine (ints_same (readOf ss ws os) A5 A6 c5 c6 _ s5 s6 hIq).mono ?_
    rintro e w5 ⟨rfl, b5⟩
    have b05 := bel_trans b04 b5
    go_wp2
    go_ret
    exact ⟨rfl, b05⟩
  have z1 : (((readOf ss ws os).length : Int) == 0) = false := beq_eq_false_iff_ne.2 (by omega)
  have HMEM : Hid (∀ v : Int, v ∈ readOf ss ws os ↔ ∃ i : Nat, i < ws.length ∧ v = i ∧ woOk ss (strAt ws i) = true ∧ woOf ss (strAt ws i) = os) := by
    intro v
    rw [read_ok (fun e => hI0 (by rw [e]; rfl))]
    exact read_mem
  have hpos : (0 : Int) < ((readOf ss ws os).length : Int) := by omega
  have hposn : 0 < (readOf ss ws os).length := by omega
  have HI0 := Lib.hid hI0
  clear hI0 s6
  generalize readOf ss ws os = I at *
  obtain ⟨v0, hv0⟩ := get_lt hposn
  obtain ⟨i0, hi0, rfl, hk0, he0⟩ := (HMEM.out v0).1 (List.mem_of_getElem? hv0)
  obtain ⟨g0, o0, rfl, hg0, hcell0⟩ := s5.int1 hv0
  rw [Nat.add_zero] at hcell0
  obtain ⟨t, ht⟩ := get_lt hi0
  have hts := strAt_eq ht
  rw [hts] at hk0 he0
  obtain ⟨g1, o1, rfl, hg1, hcx1⟩ := sw.at_ (strs_at ht)
  have hcell1 := hcx1 i0 _ (strs_at ht)
  have htm := hwo.at_ ht
  have hi0' : (i0 : Int) < (ws.length : Int) := by omega
  have HWE : Hid (∀ s, woOk ss s = true → (woOf ss s = os ↔ (⟨(bareOf s).toArray⟩ : ByteArray) = ⟨(bareOf t).toArray⟩)) := fun s hs => by rw [← he0]; exact wo_eq hs hk0
  clear hv0 ht hts hcx1 hk0 he0
  go_wp2_with fail
  refine (impl_WordBare t _ htm).mono ?_
  rintro e w5 ⟨rfl, b5⟩
  have sg := (sg.below b5).top
  have sw := (sw.below b5).top
  have so := (so.below b5).top
  have s5 := (s5.below b5).top
  have b05 := bel_trans b04 b5
  generalize (⟨(bareOf t).toArray⟩ : ByteArray) = bt at *
  clear hcell0 hcell1 b4 b5 b04
  go_wp2
  go_loopw [9] (fun i wr => ∃ k : Nat, k ≤ ws.length ∧ i = .int .i64 k ∧ Below w5.heap.size w5 wr) (fun i _ => ws.length - (intOf i).toNat)
  case atStart => exact ⟨0, Nat.zero_le _, rfl, Below.refl _ _⟩
  case round =>
    obtain ⟨k, hk, rfl, hb⟩ := hrel
    by_cases hlt : k < ws.length
    · obtain ⟨s, hs'⟩ := get_lt hlt
      have HS := Lib.hid (strAt_eq hs')
      have hsm := hwo.at_ hs'
      obtain ⟨g, o, e', hg, hcx⟩ := (sw.below hb).at_ (strs_at hs')
      injection e' with e'
      injection e' with e1 e2
      subst e1 e2
      have hcell := hcx k _ (strs_at hs')
      have hkd : decide ((k : Int) < (ws.length : Int)) = true := decide_eq_true (by omega)
      have hkdn : decide (k < ws.length) = true := decide_eq_true hlt
      have hki : (k : Int) < (ws.length : Int) := by omega
      clear hs' hcx
      go_wp2_with fail
      refine (impl_WordOutline ss s A2 c2 _ (sg.below hb).top hok hnm hsm).mono ?_
      rintro e w6 ⟨v6, rfl, own6, b6⟩
      have hb6 := bel_trans hb b6
      have s56 := (s5.below hb6).top
      have so6 := (so.below hb6).top
      have HC := Lib.hid hcell
      have hcell6 := (b6.cell (p := ⟨g1, o1 + k, none⟩) hg).trans hcell
      have HD : Hid (decide ((k : Int) ∈ I) = (woOk ss s && decide (woOf ss s = os))) := by
        rw [Hid, Bool.eq_iff_iff, decide_eq_true_iff, HMEM.out, Bool.and_eq_true, decide_eq_true_iff]
        constructor
        · rintro ⟨i, _, h2, h3⟩
          have : i = k := by omega
          rw [this, HS.out] at h3; exact h3
        · intro h
          exact ⟨k, hlt, rfl, by rw [HS.out]; exact h⟩
      have HW := Lib.hid (HWE.out s)
      obtain ⟨A7, c7, rfl, _, _, s7⟩ := own6.form
      have s7 := s7.mono (lo' := 0) (Nat.zero_le _) (Nat.le_refl _)
      have h8 := woOf_len ss s
      clear own6 hcell
      cases hx : woOk ss s
      · have HD2 : Hid (decide ((k : Int) ∈ I) = false) := by rw [Hid, HD.out, hx]; rfl
        clear s7
        go_wp2_with fail
        refine (laws_hasInt I (k : Int) _ c5 _ s56 hIq).mono ?_
        rintro e w' ⟨rfl, rfl⟩
        rw [HD2.out]
        go_wp2
        go_roundw
        case rel => exact ⟨k + 1, by omega, by go_num, hb6⟩
        case measure => simp [intOf]; omega
      · have HD2 : Hid (decide ((k : Int) ∈ I) = decide (woOf ss s = os)) := by rw [Hid, HD.out, hx]; rfl
        have HW2 := Lib.hid (HW.out hx)
        go_wp2_with fail
        refine (stks_sameD (woOf ss s) os A7 A4 c7 c4 _ s7 so6 (by omega) hom).mono ?_
        rintro e w7 ⟨rfl, b7⟩
        have hb7 := bel_trans hb6 b7
        have s57 := (s56.below b7).top
        have hg6 := Nat.lt_of_lt_of_le hg b6.size
        have hcell7 := (b7.cell (p := ⟨g1, o1 + k, none⟩) hg6).trans hcell6
        clear hcell6 s7 b7 so6
        go_wp2_with fail
        refine (laws_hasInt I (k : Int) _ c5 _ s57 hIq).mono ?_
        rintro e w' ⟨rfl, rfl⟩
        rw [HD2.out]
        by_cases hq : woOf ss s = os
        · have hd : decide (woOf ss s = os) = true := decide_eq_true hq
          rw [hd]
          have he := HW2.out.1 hq
          clear hq hd
          go_wp2_with fail
          refine (impl_WordBare s _ hsm).mono ?_
          rintro e w8 ⟨rfl, b8⟩
          have hb8 := bel_trans hb7 b8
          rw [he]
          have hbe : (ByteArray.toList bt == ByteArray.toList bt) = true := by simp
          clear he hcell7 b8
          go_wp2
          go_roundw
          case rel => exact ⟨k + 1, by omega, by go_num, hb8⟩
          case measure => simp [intOf]; omega
        · have hd : decide (woOf ss s = os) = false := decide_eq_false hq
          rw [hd]
          have he := fun h => hq (HW2.out.2 h)
          clear hq hd
          go_wp2_with fail
          refine (impl_WordBare s _ hsm).mono ?_
          rintro e w8 ⟨rfl, b8⟩
          have hb8 := bel_trans hb7 b8
          generalize (⟨(bareOf s).toArray⟩ : ByteArray) = bu at *
          have hbe : (ByteArray.toList bu == ByteArray.toList bt) = false := str_ne he
          clear he hcell7 b8 HW HW2
          go_wp2
          go_roundw
          case rel => exact ⟨k + 1, by omega, by go_num, hb8⟩
          case measure => simp [intOf]; omega
    · have hkd : decide ((k : Int) < (ws.length : Int)) = false := decide_eq_false (by omega)
      have hkdn : decide (k < ws.length) = false := decide_eq_false hlt
      have b06 := bel_trans b05 hb
      go_wp2
      go_ret
      exact ⟨rfl, b06⟩
end Go.Proofs.Ytbcbpcidfcjibaa
