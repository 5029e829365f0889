/-
  Walk of the law FnExactCopyCost.
-/
import Derived.Test.YtgddklafeaoleaaCopyS
import Derived.Test.YtgddklafeaoleaaMrkT
namespace Go.Proofs.Ytgddklafeaoleaa
open Go.RowKit Go.Sort
set_option linter.unusedSimpArgs false
set_option linter.unusedVariables false

theorem own_segB {w : World} {base n c : Nat} {e : TypeId} {size : Nat} {A : Option Addr} {xs : List Value} (h : w.ownsRow base e size (.slice A n c) n xs) : Seg w 0 w.heap.size A xs := (Seg.of_own h).mono (Nat.zero_le _) (Nat.le_refl _)
theorem spec_CopyCostN (xs : List Brf) (f : List PB) (hf : pbsOf xs = f) (n : Nat) (hx : xs.length = n) (ws : List Str) (A B : Option Addr) (c d : Nat) (w : World) (hw : Seg w 0 w.heap.size A (flat brfC xs)) (ho : BrfsAt w xs) (hn : n ≤ maxLen) (hc : n ≤ c) (hcm : c ≤ maxLen) (hv : Seg w 0 w.heap.size B (strs ws)) (hp : StrsOk ws) (hm : ws.length ≤ d) (hdm : d ≤ maxLen) (hl : letters ws ≤ 1048576) :
    Calls Try.prog 32 #[.slice A n c, .slice B ws.length d] w fun e w' => e = .returned (.int .i64 (costOf f ws)) ∧ Below w.heap.size w w' := by
  subst hx hf; exact spec_CopyCost xs ws A B c d w hw ho hv hp hn (Nat.le_trans hm hdm) hl
theorem impl_CopyCostN (xs : List Brf) (f : List PB) (hf : pbsOf xs = f) (n : Nat) (hx : xs.length = n) (ws : List Str) (A B : Option Addr) (c d : Nat) (w : World) (hw : Seg w 0 w.heap.size A (flat brfC xs)) (ho : BrfsAt w xs) (hn : n ≤ maxLen) (hc : n ≤ c) (hcm : c ≤ maxLen) (hv : Seg w 0 w.heap.size B (strs ws)) (hp : StrsOk ws) (hm : ws.length ≤ d) (hdm : d ≤ maxLen) (hl : letters ws ≤ 1048576) :
    Calls Try.prog 33 #[.slice A n c, .slice B ws.length d] w fun e w' => e = .returned (.int .i64 (costOf f ws)) ∧ Below w.heap.size w w' := by
  subst hx hf; exact impl_CopyCost xs ws A B c d w hw ho hv hp hn hc hcm (Nat.le_trans hm hdm) hl

set_option maxRecDepth 100000 in
set_option maxHeartbeats 1000000 in
theorem walk_FnExactCopyCost (r0 : Row Brf) (r1 : Row Str) (w : World) (h0 : RowOk w brfC (BrfOk w) r0) (h1 : RowOk w strC StrOk r1) : Calls Try.prog 8 #[rowV r0, rowV r1] w fun e w' => e = .returned (.bool true) ∧ Below w.heap.size w w' := by
  obtain ⟨A0, c0, x0, e0, L0, W0, k0, m0⟩ := row_brfs h0
  obtain ⟨A1, c1, x1, e1, L1, W1, k1, m1⟩ := row_strs h1
  rw [e0, e1]
  have n0 : x0.length ≤ maxLen := Nat.le_trans k0 m0
  have n1 : x1.length ≤ maxLen := Nat.le_trans k1 m1
  clear e0 h0 e1 h1
  go_enter Try.func8, Try.ntmps8
  go_wp2_with fail
  refine (brfs_sz x0 A0 c0 _ _ L0 W0 n0 (by decide) (by decide)).mono ?_
  rintro e w1 ⟨⟨z, rfl, hz⟩, b1⟩
  have L0 := (L0.below b1).top
  have W0 := W0.below b1
  have L1 := (L1.below b1).top
  rcases hz with rfl | ⟨za, zb, zc, zs⟩
  · go_wp2
    go_ret
    exact ⟨rfl, b1⟩
  have q0 : x0.length ≤ 1048576 := by omega
  go_wp2_with fail
  refine (laws_szStringS x1 A1 c1 z _ L1 W1 n1 za (by omega)).mono ?_
  rintro e w' ⟨⟨y, rfl, hy⟩, rfl⟩
  have HSM : Hid (0 ≤ letters x1) := by
    have h5 : sumTo (szStr x1) 0 ≤ sumTo (szStr x1) x1.length := sumTo_mono (fun i => by simp [szStr]) (Nat.zero_le _)
    exact h5
  rcases hy with rfl | ⟨ya, yb⟩
  · go_wp2
    go_ret
    exact ⟨rfl, b1⟩
  have q1 : x1.length ≤ 1048576 := by have h6 := HSM.out; unfold letters at h6; omega
  have HLT : Hid (letters x1 ≤ 1048576) := by unfold letters; rw [Hid]; omega
  have YB := Lib.hid yb
  clear yb
  go_wp2_with fail
  refine (brfs_toO x0 A0 c0 _ L0 W0 q0 zs.out).mono ?_
  rintro e w2 ⟨U, yU, rfl, OU, hU, b2⟩
  have L0 := (L0.below b2).top
  have W0 := W0.below b2
  have L1 := (L1.below b2).top
  have HU := Lib.hid hU
  clear hU
  go_wp2_with fail
  refine (strs_toO x1 A1 c1 _ L1 W1 q1).mono ?_
  rintro e w3 ⟨U1, rfl, OU1, b3⟩
  have OU := own_below OU b3
  have WU := Lib.hid ((HU.out.1.at_ (strsOkB_of HU.out.2 W0)).below b3)
  have L0 := (L0.below b3).top
  have W0 := W0.below b3
  have L1 := (L1.below b3).top
  go_wp2_with fail
  refine (spec_CopyCostN yU _ HU.out.2 _ (shortB_of HU.out.2 zs.out).1 x1 U U1 _ _ _ (own_segB OU) WU.out n0 (Nat.le_refl _) n0 (own_segB OU1) W1 (Nat.le_refl _) n1 HLT.out).mono ?_
  rintro e w4 ⟨rfl, b4⟩
  have L0 := (L0.below b4).top
  have W0 := W0.below b4
  have L1 := (L1.below b4).top
  clear OU HU OU1 WU
  go_wp2_with fail
  refine (brfs_toO x0 A0 c0 _ L0 W0 q0 zs.out).mono ?_
  rintro e w5 ⟨V, yV, rfl, OV, hV, b5⟩
  have L0 := (L0.below b5).top
  have W0 := W0.below b5
  have L1 := (L1.below b5).top
  have HV := Lib.hid hV
  clear hV
  go_wp2_with fail
  refine (strs_toO x1 A1 c1 _ L1 W1 q1).mono ?_
  rintro e w6 ⟨V1, rfl, OV1, b6⟩
  have OV := own_below OV b6
  have WV := Lib.hid ((HV.out.1.at_ (strsOkB_of HV.out.2 W0)).below b6)
  have L0 := (L0.below b6).top
  have W0 := W0.below b6
  have L1 := (L1.below b6).top
  go_wp2_with fail
  refine (impl_CopyCostN yV _ HV.out.2 _ (shortB_of HV.out.2 zs.out).1 x1 V V1 _ _ _ (own_segB OV) WV.out n0 (Nat.le_refl _) n0 (own_segB OV1) W1 (Nat.le_refl _) n1 HLT.out).mono ?_
  rintro e w7 ⟨rfl, b7⟩
  have L0 := (L0.below b7).top
  have W0 := W0.below b7
  have L1 := (L1.below b7).top
  have OV := own_below OV b7
  have OV1 := own_below OV1 b7
  have WV := Lib.hid (WV.out.below b7)
  go_wp2_with fail
  refine (brfs_toO x0 A0 c0 _ L0 W0 q0 zs.out).mono ?_
  rintro e w8 ⟨T, yT, rfl, OT, hT, b8⟩
  have OV := own_below OV b8
  have OV1 := own_below OV1 b8
  have WV := Lib.hid (WV.out.below b8)
  have W0 := W0.below b8
  have L1 := (L1.below b8).top
  have HT := Lib.hid hT
  clear hT
  go_wp2_with fail
  refine (brfs_eq yV yT (HV.out.2.trans HT.out.2.symm) V T _ _ _ (shortB_of HV.out.2 zs.out).1 _ (own_segB OV) (own_segB OT) WV.out (HT.out.1.at_ (strsOkB_of HT.out.2 W0)) q0 (shortB_of HV.out.2 zs.out).2).mono ?_
  rintro e w9 ⟨rfl, b9⟩
  have OV1 := own_below OV1 b9
  have L1 := (L1.below b9).top
  clear OV OT WV HT HV L0 W0
  go_wp2_with fail
  refine (strs_toO x1 A1 c1 _ L1 W1 q1).mono ?_
  rintro e w10 ⟨T1, rfl, OT1, b10⟩
  have OV1 := own_below OV1 b10
  go_wp2_with fail
  refine (strs_eq x1 V1 T1 _ _ _ (own_segB OV1) (own_segB OT1) q1).mono ?_
  rintro e w11 ⟨rfl, b11⟩
  have ball := bel_trans b1 (bel_trans b2 (bel_trans b3 (bel_trans b4 (bel_trans b5 (bel_trans b6 (bel_trans b7 (bel_trans b8 (bel_trans b9 (bel_trans b10 b11)))))))))
  go_wp2
  go_ret
  exact ⟨rfl, ball⟩
end Go.Proofs.Ytgddklafeaoleaa
