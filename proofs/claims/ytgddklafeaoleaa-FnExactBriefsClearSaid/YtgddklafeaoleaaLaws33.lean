/-
  Walk of the law FnExactBriefsClear.
-/
import Derived.Test.YtgddklafeaoleaaBrfC
namespace Go.Proofs.Ytgddklafeaoleaa
open Go.RowKit Go.Sort
set_option linter.unusedSimpArgs false
set_option linter.unusedVariables false

theorem own_segB {w : World} {base n c : Nat} {e : TypeId} {size : Nat} {A : Option Addr} {xs : List Value} (h : w.ownsRow base e size (.slice A n c) n xs) : Seg w 0 w.heap.size A xs := (Seg.of_own h).mono (Nat.zero_le _) (Nat.le_refl _)
theorem spec_BriefsClearN (xs : List Brf) (f : List PB) (hf : pbsOf xs = f) (n : Nat) (hx : xs.length = n) (A : Option Addr) (c : Nat) (w : World) (hw : Seg w 0 w.heap.size A (flat brfC xs)) (ho : BrfsAt w xs) (hn : n ≤ maxLen) (hc : n ≤ c) (hcm : c ≤ maxLen) :
    Calls Try.prog 19 #[.slice A n c] w fun e w' => e = .returned (.bool (clOk f)) ∧ Below w.heap.size w w' := by
  subst hx hf; exact spec_BriefsClear xs A c w hw ho hn
theorem impl_BriefsClearN (xs : List Brf) (f : List PB) (hf : pbsOf xs = f) (n : Nat) (hx : xs.length = n) (A : Option Addr) (c : Nat) (w : World) (hw : Seg w 0 w.heap.size A (flat brfC xs)) (ho : BrfsAt w xs) (hn : n ≤ maxLen) (hc : n ≤ c) (hcm : c ≤ maxLen) :
    Calls Try.prog 20 #[.slice A n c] w fun e w' => e = .returned (.bool (clOk f)) ∧ Below w.heap.size w w' := by
  subst hx hf; exact impl_BriefsClear xs A c w hw ho hn hc hcm

set_option maxRecDepth 100000 in
theorem walk_FnExactBriefsClear (r0 : Row Brf) (w : World) (h0 : RowOk w brfC (BrfOk w) r0) : Calls Try.prog 4 #[rowV r0] w fun e w' => e = .returned (.bool true) ∧ Below w.heap.size w w' := by
  obtain ⟨A0, c0, x0, e0, L0, W0, k0, m0⟩ := row_brfs h0
  rw [e0]
  have n0 : x0.length ≤ maxLen := Nat.le_trans k0 m0
  clear e0 h0
  go_enter Try.func4, Try.ntmps4
  go_wp2_with fail
  refine (brfs_sz x0 A0 c0 _ _ L0 W0 n0 (by decide) (by decide)).mono ?_
  rintro e w1 ⟨⟨z, rfl, hz⟩, b1⟩
  have L0 := (L0.below b1).top
  have W0 := W0.below b1
  rcases hz with rfl | ⟨za, zb, zc, zs⟩
  · go_wp2
    go_ret
    exact ⟨rfl, b1⟩
  have q0 : x0.length ≤ 1048576 := by omega
  go_wp2_with fail
  refine (brfs_toO x0 A0 c0 _ L0 W0 q0 zs.out).mono ?_
  rintro e w2 ⟨U, yU, rfl, OU, hU, b2⟩
  have L0 := (L0.below b2).top
  have W0 := W0.below b2
  have HU := Lib.hid hU
  clear hU
  go_wp2_with fail
  refine (spec_BriefsClearN yU _ HU.out.2 _ (shortB_of HU.out.2 zs.out).1 U _ _ (own_segB OU) (HU.out.1.at_ (strsOkB_of HU.out.2 W0)) n0 (Nat.le_refl _) n0).mono ?_
  rintro e w3 ⟨rfl, b3⟩
  have L0 := (L0.below b3).top
  have W0 := W0.below b3
  clear OU HU
  go_wp2_with fail
  refine (brfs_toO x0 A0 c0 _ L0 W0 q0 zs.out).mono ?_
  rintro e w4 ⟨V, yV, rfl, OV, hV, b4⟩
  have L0 := (L0.below b4).top
  have W0 := W0.below b4
  have HV := Lib.hid hV
  clear hV
  go_wp2_with fail
  refine (impl_BriefsClearN yV _ HV.out.2 _ (shortB_of HV.out.2 zs.out).1 V _ _ (own_segB OV) (HV.out.1.at_ (strsOkB_of HV.out.2 W0)) n0 (Nat.le_refl _) n0).mono ?_
  rintro e w5 ⟨rfl, b5⟩
  have WV := Lib.hid ((HV.out.1.at_ (strsOkB_of HV.out.2 W0)).below b5)
  have L0 := (L0.below b5).top
  have W0 := W0.below b5
  have OV := own_below OV b5
  go_wp2_with fail
  refine (brfs_toO x0 A0 c0 _ L0 W0 q0 zs.out).mono ?_
  rintro e w6 ⟨T, yT, rfl, OT, hT, b6⟩
  have OV := own_below OV b6
  have WV := Lib.hid (WV.out.below b6)
  have W0 := W0.below b6
  have HT := Lib.hid hT
  clear hT
  go_wp2_with fail
  refine (brfs_eq yV yT (HV.out.2.trans HT.out.2.symm) V T _ _ _ (shortB_of HV.out.2 zs.out).1 _ (own_segB OV) (own_segB OT) WV.out (HT.out.1.at_ (strsOkB_of HT.out.2 W0)) q0 (shortB_of HV.out.2 zs.out).2).mono ?_
  rintro e w7 ⟨rfl, b7⟩
  have ball := bel_trans b1 (bel_trans b2 (bel_trans b3 (bel_trans b4 (bel_trans b5 (bel_trans b6 b7)))))
  go_wp2
  go_ret
  exact ⟨rfl, ball⟩
end Go.Proofs.Ytgddklafeaoleaa
