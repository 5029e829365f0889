/-
  Walk of the law FnWordOutline.
-/
import Derived.Test.YtniemanapimjoaaSysL
import Derived.Test.YtniemanapimjoaaDrawSys
import Derived.Test.YtniemanapimjoaaDrawW
import Derived.Test.YtniemanapimjoaaOpen
namespace Go.Proofs.Ytniemanapimjoaa
open Go.RowKit Go.Sort
set_option linter.unusedSimpArgs false
set_option linter.unusedVariables false

theorem stks_same (xs : List Stk) (A B : Option Addr) (c d : Nat) (w : World) (hw : Seg w 0 w.heap.size A (flat stkC xs)) (hv : Seg w 0 w.heap.size B (flat stkC xs)) (hn : xs.length ≤ 1048576) :
    Calls Try.prog 53 #[.slice A xs.length c, .slice B xs.length d] w fun e w' => e = .returned (.bool true) ∧ Below w.heap.size w w' := by
  go_enter Try.func53, Try.ntmps53
  go_wp2
  go_loopw [5] (fun i wr => ∃ k : Nat, k ≤ xs.length ∧ i = .int .i64 k ∧ Hid (∃ n, wr = w.drewN n)) (fun i _ => xs.length - (intOf i).toNat)
  case atStart => exact ⟨0, Nat.zero_le _, rfl, 0, rfl⟩
  case round =>
    obtain ⟨k, hk, rfl, hd⟩ := hrel
    by_cases hlt : k < xs.length
    · obtain ⟨s, hs⟩ := get_lt hlt
      obtain ⟨g, o, rfl, hg, _, _, e1, e2⟩ := hw.stk hs
      obtain ⟨g', o', rfl, hg', _, _, e3, e4⟩ := hv.stk hs
      obtain ⟨m, hm⟩ := hd.out
      have d1 : wr.cell? ⟨g, o + k * 2, none⟩ = some (.int .i64 s.1) := by rw [hm]; exact e1
      have d2 : wr.cell? ⟨g, o + k * 2 + 1, none⟩ = some (.int .i64 s.2) := by rw [hm]; exact e2
      have d3 : wr.cell? ⟨g', o' + k * 2, none⟩ = some (.int .i64 s.1) := by rw [hm]; exact e3
      have d4 : wr.cell? ⟨g', o' + k * 2 + 1, none⟩ = some (.int .i64 s.2) := by rw [hm]; exact e4
      clear hs e1 e2 e3 e4 hm
      go_wp2
      go_quiet (fail)
      go_wp2
      go_roundw
      case rel => exact ⟨k + 1, by omega, by go_num, by obtain ⟨m, hm⟩ := hd.out; exact ⟨m + nq, by rw [hm, World.drewN_drewN]⟩⟩
      case measure => simp [intOf]; omega
    · go_wp2
      go_ret
      exact ⟨rfl, by obtain ⟨m, hm⟩ := hd.out; rw [hm]; exact Below_drewN (Below.refl _ _) _⟩

def SomeSysWord (w : World) (e : Ending) (w' : World) : Prop := ∃ A c, ∃ ss : List Sgn, ∃ s : Str, e = .returned (.tuple #[.slice A ss.length c, .string s]) ∧ Seg w' 0 w'.heap.size A (flat sgnC ss) ∧ OkSgns ss ∧ ss.length ≤ 8 ∧ s.size ≤ 100 ∧ Below w.heap.size w w'
theorem spec_DrawWordOutline (l : List UInt8) (A : Option Addr) (c : Nat) (w : World) (hw : Seg w 0 w.heap.size A (flat byteC l)) (hc : l.length ≤ c) (hm : c ≤ maxLen) :
    Calls Try.prog 54 #[.slice A l.length c] w (SomeSysWord w) := by
  go_enter Try.func54, Try.ntmps54
  go_wp2_with fail
  refine (spec_l6Open l A c _ hw hc hm).mono ?_
  rintro e w1 ⟨rfl, hr, hb, hsz⟩
  go_wp2_with fail
  refine (spec_l91System _ 0 _ ⟨0, Nat.le_refl _, hr⟩ (by decide)).mono ?_
  rintro e w2 ⟨A2, c2, ss, rfl, own2, hs, hn, hlc, hcm, d⟩
  have hb2 := d.bel hb (Nat.le_refl _)
  have hlo : w.heap.size < w1.heap.size := by omega
  have sg2 := Seg.of_own own2
  clear own2
  go_wp2_with fail
  refine (spec_l91Word _ _ _ d.1 (by decide)).mono ?_
  rintro e w3 ⟨s, rfl, hs3, d3⟩
  have hb3 := d3.bel hb2 (Nat.le_refl _)
  have SG := Lib.hid ((d3.seg sg2 hlo).top.mono (lo' := 0) (Nat.zero_le _) (Nat.le_refl _))
  clear sg2
  go_wp2
  go_ret2
  exact ⟨A2, c2, ss, s, rfl, SG.out, fun x hx => Nat.le_trans (hs x hx) (by decide), hn, hs3, hb3⟩

set_option maxRecDepth 100000 in
set_option maxHeartbeats 2000000 in
theorem walk_FnWordOutline (r : Row UInt8) (w : World) (h : RowOk w byteC (fun _ => True) r) : Calls Try.prog 11 #[rowV r] w fun e w' => e = .returned (.bool true) ∧ Below w.heap.size w w' := by
  obtain ⟨A, c, l⟩ := r
  obtain ⟨hw, _, hc, hm⟩ := h
  simp only at hw hc hm
  have hm' : c ≤ 9223372036854775807 := hm
  show Calls Try.prog 11 #[.slice A l.length c] w _
  by_cases hl : (1048576 : Int) < l.length
  · go_enter Try.func11, Try.ntmps11
    go_wp2
    go_ret
    exact ⟨rfl, Below.refl _ _⟩
  go_enter Try.func11, Try.ntmps11
  go_wp2_with fail
  refine (spec_DrawWordOutline l A c _ hw hc hm).mono ?_
  rintro e w1 ⟨A1, c1, ss, s, rfl, sg, hok, hn8, hs, b1⟩
  have hnm : ss.length ≤ maxLen := Nat.le_trans hn8 (by decide)
  have hsm : s.size ≤ maxLen := Nat.le_trans hs (by decide)
  go_wp2_with fail
  refine (impl_WordOutline ss s A1 c1 _ sg hok hnm hsm).mono ?_
  rintro e w2 ⟨v2, rfl, own2, b2⟩
  have sg := (sg.below b2).top
  have b02 := bel_trans b1 b2
  obtain ⟨A2, c2, rfl, _, _, s2⟩ := own2.form
  have s2 := s2.mono (lo' := 0) (Nat.zero_le _) (Nat.le_refl _)
  clear own2
  go_wp2_with fail
  refine (spec_WordOutline ss s A1 c1 _ sg hok hnm hsm).mono ?_
  rintro e w3 ⟨v3, rfl, own3, b3⟩
  have sg := (sg.below b3).top
  have b03 := bel_trans b02 b3
  have s2 := (s2.below b3).top
  obtain ⟨A3, c3, rfl, _, _, s3⟩ := own3.form
  have s3 := s3.mono (lo' := 0) (Nat.zero_le _) (Nat.le_refl _)
  have hq : (woOf ss s).length ≤ 1048576 := Nat.le_trans (woOf_len ss s) (by decide)
  have hqm : (woOf ss s).length ≤ maxLen := Nat.le_trans (woOf_len ss s) (by decide)
  clear own3
  cases hk : woOk ss s
  · go_wp2_with fail
    refine (stks_same (woOf ss s) A2 A3 c2 c3 _ s2 s3 hq).mono ?_
    rintro e w4 ⟨rfl, b4⟩
    have b04 := bel_trans b03 b4
    have sg := (sg.below b4).top
    have s2 := (s2.below b4).top
    have s3 := (s3.below b4).top
    go_wp2_with fail
    refine (stks_same (woOf ss s) A2 A3 c2 c3 _ s2 s3 hq).mono ?_
    rintro e w5 ⟨rfl, b5⟩
    have b05 := bel_trans b04 b5
    go_wp2
    go_ret
    exact ⟨rfl, b05⟩
  go_wp2_with fail
  refine (stks_same (woOf ss s) A2 A3 c2 c3 _ s2 s3 hq).mono ?_
  rintro e w4 ⟨rfl, b4⟩
  have b04 := bel_trans b03 b4
  have sg := (sg.below b4).top
  have s2 := (s2.below b4).top
  have HBK := Lib.hid (wo_back hk)
  clear s3
  go_wp2_with fail
  refine (impl_OutlineBare ss (woOf ss s) A1 A2 c1 c2 _ sg s2 hok hnm hqm).mono ?_
  rintro e w5 ⟨rfl, b5⟩
  rw [HBK.out.1, HBK.out.2.1]
  have b05 := bel_trans b04 b5
  have sg := (sg.below b5).top
  have s2 := (s2.below b5).top
  go_wp2_with fail
  refine (impl_WordBare s _ hsm).mono ?_
  rintro e w6 ⟨rfl, b6⟩
  have b06 := bel_trans b05 b6
  have sg := (sg.below b6).top
  have s2 := (s2.below b6).top
  have hbl : (⟨(bareOf s).toArray⟩ : ByteArray).size = (woOf ss s).length := by rw [HBK.out.2.2]; exact size_mk _
  have hbe : bareOf s = [] → ByteArray.toList (⟨(bareOf s).toArray⟩ : ByteArray) = [] := fun e => by rw [ByteArray.toList_eq, e]
  have hbn : bareOf s ≠ [] → (ByteArray.toList (⟨(bareOf s).toArray⟩ : ByteArray) == []) = false := fun e => by rw [ByteArray.toList_eq, beq_eq_false_iff_ne]; simpa using e
  have HBL := Lib.hid hbl
  have HBE := Lib.hid hbe
  have HBN := Lib.hid hbn
  clear hbl hbe hbn
  generalize (⟨(bareOf s).toArray⟩ : ByteArray) = bs at *
  have hbi : ((bs.size : Int) != ((woOf ss s).length : Int)) = false := by rw [HBL.out]; simp
  have hbi2 : (((woOf ss s).length : Int) != (bs.size : Int)) = false := by rw [HBL.out]; simp
  by_cases hb0 : bareOf s = []
  · have z1 : ByteArray.toList bs = [] := HBE.out hb0
    have z2 : (ByteArray.toList bs == []) = true := by rw [z1]; rfl
    have HB0 := Lib.hid hb0
    clear hb0
    go_wp2
    go_ret
    exact ⟨rfl, b06⟩
  have z2 : (ByteArray.toList bs == []) = false := HBN.out hb0
  have HB0 := Lib.hid hb0
  have hsz : s.size ≤ 12 := by
    have hk2 := hk
    simp only [woOk, Bool.and_eq_true] at hk2
    exact (wordOk_size hk2.1.1.2).2
  clear hb0
  have hah : (ahead 97 s).size ≤ maxLen := by rw [ahead_size]; unfold maxLen; omega
  have hahd : (⟨#[97]⟩ : ByteArray) ++ s = ahead 97 s := rfl
  go_wp2_with fail
  refine (impl_WordOutline ss (ahead 97 s) A1 c1 _ sg hok hnm hah).mono ?_
  rintro e w7 ⟨v7, rfl, own7, b7⟩
  have b07 := bel_trans b06 b7
  have s2 := (s2.below b7).top
  obtain ⟨A7, c7, rfl, _, _, s7⟩ := own7.form
  have s7 := s7.mono (lo' := 0) (Nat.zero_le _) (Nat.le_refl _)
  clear own7 hahd
  by_cases h12 : s.size = 12
  · have z3 : ((s.size : Int) == 12) = true := by rw [beq_iff_eq]; omega
    have H12 := Lib.hid h12
    clear h12
    go_wp2
    go_ret
    exact ⟨rfl, b07⟩
  have z3 : ((s.size : Int) == 12) = false := beq_eq_false_iff_ne.2 (by omega)
  have HAH := Lib.hid (wo_ahead hk h12)
  have H12 := Lib.hid h12
  clear h12
  rw [HAH.out.1]
  rw [HAH.out.2]
  rw [HAH.out.2] at s7
  go_wp2_with fail
  refine (stks_same (woOf ss s) A7 A2 c7 c2 _ s7 s2 hq).mono ?_
  rintro e w8 ⟨rfl, b8⟩
  have b08 := bel_trans b07 b8
  go_wp2
  go_ret
  exact ⟨rfl, b08⟩
end Go.Proofs.Ytniemanapimjoaa
