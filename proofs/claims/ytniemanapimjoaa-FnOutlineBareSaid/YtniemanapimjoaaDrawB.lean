/-
  DrawOutlineBare: a system and an outline.
-/
import Derived.Test.YtniemanapimjoaaDrawA
import Derived.Test.YtniemanapimjoaaDrawW
import Derived.Test.YtniemanapimjoaaLaws22
namespace Go.Proofs.Ytniemanapimjoaa
open Go.RowKit Go.Sort
set_option linter.unusedSimpArgs false
set_option linter.unusedVariables false

def SomeSysOut (w : World) (e : Ending) (w' : World) : Prop := ∃ A c, ∃ ss : List Sgn, ∃ B d, ∃ os : List Stk, e = .returned (.tuple #[.slice A ss.length c, .slice B os.length d]) ∧ (Seg w' 0 w'.heap.size A (flat sgnC ss) ∧ Seg w' 0 w'.heap.size B (flat stkC os)) ∧ OkSgns ss ∧ ss.length ≤ 8 ∧ os.length ≤ 8 ∧ Below w.heap.size w w'
set_option maxRecDepth 100000 in
theorem spec_DrawOutlineBare (l : List UInt8) (A : Option Addr) (c : Nat) (w : World) (hw : Seg w 0 w.heap.size A (flat byteC l)) (hc : l.length ≤ c) (hm : c ≤ maxLen) :
    Calls Try.prog 58 #[.slice A l.length c] w (SomeSysOut w) := by
  go_enter Try.func58, Try.ntmps58
  go_wp2_with fail
  refine (spec_l6Open l A c _ hw hc hm).mono ?_
  rintro e w1 ⟨rfl, hr, hb, hsz⟩
  go_wp2_with fail
  refine (spec_l91System _ 0 _ ⟨0, Nat.le_refl _, hr⟩ (by decide)).mono ?_
  rintro e w2 ⟨A2, c2, ss, rfl, own2, hs, hn, hlc, hcm, d⟩
  have hb2 := d.bel hb (Nat.le_refl _)
  have hlo : w.heap.size < w1.heap.size := by omega
  have sg2 := Seg.of_own own2
  have hok : OkSgns ss := fun x hx => Nat.le_trans (hs x hx) (by decide)
  have HS := Lib.hid hok
  clear own2 hs hok
  go_wp2_with fail
  refine (spec_l91Word _ _ _ d.1 (by decide)).mono ?_
  rintro e w3 ⟨s, rfl, hs3, d3⟩
  have hb3 := d3.bel hb2 (Nat.le_refl _)
  have sg3 := d3.seg sg2 hlo
  clear sg2
  go_wp2_with fail
  refine (spec_WordOutline ss s A2 c2 _ (sg3.top.mono (lo' := 0) (Nat.zero_le _) (Nat.le_refl _)) HS.out (Nat.le_trans hn (by decide)) (Nat.le_trans hs3 (by decide))).mono ?_
  rintro e w4 ⟨v4, rfl, own4, b4⟩
  obtain ⟨A4, c4, rfl, _, _, s4⟩ := own4.form
  have hb4 := bel_trans hb3 b4
  have sg4 := sg3.below b4
  have r4 := d3.1.below b4
  have hg4 := r4.lt
  have h3lt := d3.1.lt
  have HL := Lib.hid (woOf_len ss s)
  clear own4 sg3 b4
  cases hk : woOk ss s
  · go_wp2_with fail
    refine (spec_l91Outline _ _ 3 w4 r4 (by decide) (by decide)).mono ?_
    rintro e w5 ⟨A5, c5, os, rfl, own5, ho5, _, _, d5⟩
    have hb5 := d5.bel hb4 (Nat.le_refl _)
    have SG := Lib.hid ((d5.seg sg4 hlo).top.mono (lo' := 0) (Nat.zero_le _) (Nat.le_refl _))
    have SO := Lib.hid ((Seg.of_own own5).mono (lo' := 0) (Nat.zero_le _) (Nat.le_refl _))
    clear own5 sg4 s4
    go_wp2
    go_ret2
    exact ⟨A2, c2, ss, A5, c5, os, rfl, ⟨SG.out, SO.out⟩, HS.out, hn, by omega, hb5⟩
  · go_wp2_with fail
    refine (pickB _ _ 4 w4 r4 (by decide) (by decide) (by decide)).mono ?_
    rintro e w5 ⟨x, rfl, hx0, hx1, d5⟩
    have hb5 := d5.bel hb4 (Nat.le_refl _)
    have sg5 := d5.seg sg4 hlo
    have s5 := d5.seg s4 h3lt
    clear sg4 s4
    by_cases hx : (0 : Int) < x
    · have SG := Lib.hid (sg5.top.mono (lo' := 0) (Nat.zero_le _) (Nat.le_refl _))
      have SO := Lib.hid (s5.top.mono (lo' := 0) (Nat.zero_le _) (Nat.le_refl _))
      clear sg5 s5
      go_wp2
      go_ret2
      exact ⟨A2, c2, ss, A4, c4, woOf ss s, rfl, ⟨SG.out, SO.out⟩, HS.out, hn, HL.out, hb5⟩
    · go_wp2_with fail
      refine (spec_l91Outline _ _ 3 w5 d5.1 (by decide) (by decide)).mono ?_
      rintro e w6 ⟨A6, c6, os, rfl, own6, ho6, _, _, d6⟩
      have hb6 := d6.bel hb5 (Nat.le_refl _)
      have SG := Lib.hid ((d6.seg sg5 hlo).top.mono (lo' := 0) (Nat.zero_le _) (Nat.le_refl _))
      have SO := Lib.hid ((Seg.of_own own6).mono (lo' := 0) (Nat.zero_le _) (Nat.le_refl _))
      clear own6 sg5 s5
      go_wp2
      go_ret2
      exact ⟨A2, c2, ss, A6, c6, os, rfl, ⟨SG.out, SO.out⟩, HS.out, hn, by omega, hb6⟩
end Go.Proofs.Ytniemanapimjoaa
