/-
  Walk of the law FnExactLineValid.
-/
import Derived.Test.YtnoffpicjhcpfaaLines
namespace Go.Proofs.Ytnoffpicjhcpfaa
open Go.RowKit Go.Sort
set_option linter.unusedSimpArgs false
set_option linter.unusedVariables false

theorem spec_LineValidN (xs : List Wrt) (f : List (List Stk × Int)) (hf : formsOf xs = f) (n : Nat) (hx : xs.length = n) (A : Option Addr) (c : Nat) (w : World) (hw : Seg w 0 w.heap.size A (flat wrtC xs)) (ho : WrtsAt w xs) (hn : n ≤ maxLen) :
    Calls Try.prog 49 #[.slice A n c] w fun e w' => e = .returned (.bool (lineOk f)) ∧ Below w.heap.size w w' := by
  subst hx hf; exact spec_LineValid xs A c w hw ho hn
theorem impl_LineValidN (xs : List Wrt) (f : List (List Stk × Int)) (hf : formsOf xs = f) (n : Nat) (hx : xs.length = n) (A : Option Addr) (c : Nat) (w : World) (hw : Seg w 0 w.heap.size A (flat wrtC xs)) (ho : WrtsAt w xs) (hn : n ≤ maxLen) :
    Calls Try.prog 51 #[.slice A n c] w fun e w' => e = .returned (.bool (lineOk f)) ∧ Below w.heap.size w w' := by
  subst hx hf; exact impl_LineValid xs A c w hw ho hn
theorem forms_short {ys xs : List Wrt} (hf : formsOf ys = formsOf xs) (hq : ShortWrts xs xs.length) : ys.length = xs.length ∧ ∀ y ∈ ys, y.1.2.2.length ≤ 1048576 := by
  have hl : ys.length = xs.length := by rw [← formsOf_len, hf, formsOf_len]
  refine ⟨hl, fun y hy => ?_⟩
  obtain ⟨k, hk⟩ := List.getElem?_of_mem hy
  have hkl := (List.getElem?_eq_some_iff.1 hk).1
  obtain ⟨x, hx⟩ := get_lt (l := xs) (k := k) (by omega)
  have h1 := formsOf_at hk
  rw [hf, formsOf_at hx] at h1
  injection h1 with h1
  injection h1 with h1 _
  rw [← h1]
  exact hq k x (by omega) hx
theorem own_seg {w : World} {base n c : Nat} {e : TypeId} {size : Nat} {A : Option Addr} {xs : List Value} (h : w.ownsRow base e size (.slice A n c) n xs) : Seg w 0 w.heap.size A xs := (Seg.of_own h).mono (Nat.zero_le _) (Nat.le_refl _)

theorem walk_FnExactLineValid (r0 : Row Wrt) (w : World) (h0 : RowOk w wrtC (WrtOk w) r0) : Calls Try.prog 13 #[rowV r0] w fun e w' => e = .returned (.bool true) ∧ Below w.heap.size w w' := by
  obtain ⟨A0, c0, x0, e0, L0, W0, k0, m0⟩ := row_wrts h0
  rw [e0]
  have n0 : x0.length ≤ maxLen := Nat.le_trans k0 m0
  clear e0 h0
  go_enter Try.func13, Try.ntmps13
  go_wp2_with fail
  refine (wrts_szB x0 A0 c0 _ _ L0 W0 n0 (by decide) (by decide)).mono ?_
  rintro e w1 ⟨⟨z, rfl, hz⟩, b1⟩
  have L0 := (L0.below b1).top
  have W0 := W0.below b1
  rcases hz with rfl | ⟨za, zb, zc, zs⟩
  · go_wp2
    go_ret
    exact ⟨rfl, b1⟩
  have q0 : x0.length ≤ 1048576 := by omega
  go_wp2_with fail
  refine (wrts_toO x0 A0 c0 _ L0 W0 q0 zs.out).mono ?_
  rintro e w2 ⟨U, yU, rfl, OU, hU, b2⟩
  have L0 := (L0.below b2).top
  have W0 := W0.below b2
  have HU := Lib.hid hU
  clear hU
  go_wp2_with fail
  refine (spec_LineValidN yU _ HU.out.2 _ (forms_short HU.out.2 zs.out).1 U _ _ (own_seg OU) HU.out.1.at_ n0).mono ?_
  rintro e w3 ⟨rfl, b3⟩
  have L0 := (L0.below b3).top
  have W0 := W0.below b3
  clear OU HU
  go_wp2_with fail
  refine (wrts_toO x0 A0 c0 _ L0 W0 q0 zs.out).mono ?_
  rintro e w4 ⟨V, yV, rfl, OV, hV, b4⟩
  have L0 := (L0.below b4).top
  have W0 := W0.below b4
  have HV := Lib.hid hV
  clear hV
  go_wp2_with fail
  refine (impl_LineValidN yV _ HV.out.2 _ (forms_short HV.out.2 zs.out).1 V _ _ (own_seg OV) HV.out.1.at_ n0).mono ?_
  rintro e w5 ⟨rfl, b5⟩
  have L0 := (L0.below b5).top
  have W0 := W0.below b5
  have OV := own_below OV b5
  have WV := Lib.hid (HV.out.1.at_.below b5)
  go_wp2_with fail
  refine (wrts_toO x0 A0 c0 _ L0 W0 q0 zs.out).mono ?_
  rintro e w6 ⟨T, yT, rfl, OT, hT, b6⟩
  have OV := own_below OV b6
  have WV := Lib.hid (WV.out.below b6)
  have HT := Lib.hid hT
  clear hT
  go_wp2_with fail
  refine (wrts_eq yV yT (HV.out.2.trans HT.out.2.symm) V T _ _ _ (forms_short HV.out.2 zs.out).1 _ (own_seg OV) (own_seg OT) WV.out HT.out.1.at_ q0 (forms_short HV.out.2 zs.out).2).mono ?_
  rintro e w7 ⟨rfl, b7⟩
  have ball := bel_trans b1 (bel_trans b2 (bel_trans b3 (bel_trans b4 (bel_trans b5 (bel_trans b6 b7)))))
  go_wp2
  go_ret
  exact ⟨rfl, ball⟩
end Go.Proofs.Ytnoffpicjhcpfaa
