/-
  Walk of the law FnExactLineFrom.
-/
import Derived.Test.YtlpagnbfjechhaaDoorLfromI
namespace Go.Proofs.YtlpagnbfjechhaaDoor
open Go.RowKit Go.Sort
set_option linter.unusedSimpArgs false
set_option linter.unusedVariables false

theorem own_belowN {w w' : World} {B base n : Nat} {e : TypeId} {size : Nat} {v : Value} {xs : List Value} (h : w.ownsRow base e size v n xs) (hb : Below B w w') (hl : ∀ k, v.ownBlock = some k → k < B) : w'.ownsRow base e size v n xs := by
  refine ⟨h.1, ?_⟩
  rcases h.2 with h2 | ⟨g, cap, cur, hv, hg, hh, r⟩
  · exact .inl h2
  · exact .inr ⟨g, cap, cur, hv, hg, (hb.block g (hl g (by rw [hv]; rfl))).trans hh, r⟩
theorem OwnLine.belowB {w w' : World} {B base : Nat} {v : Value} {ys : List Wrt} (h : OwnLine w base v ys) (hb : Below B w w') (h1 : ∀ k, v.ownBlock = some k → k < B) (h2 : ∀ y ∈ ys, ∀ k, (rowV y.1).ownBlock = some k → k < B) : OwnLine w' base v ys :=
  ⟨own_belowN h.row hb h1, fun y hy => own_belowN (h.outs y hy) hb (h2 y hy), h.apart⟩
theorem wrtsN_markB (ys : List Wrt) (base : Nat) (A : Option Addr) (c : Nat) (k0 : Int) (n : Nat) (hy : ys.length = n) (w : World) (hl : OwnLine w base (.slice A n c) ys) (hB : base ≤ w.heap.size) (hn : n ≤ 1000) (hq : ∀ y ∈ ys, y.1.2.2.length ≤ 1048576) (hk0 : 1 ≤ k0) (hk1 : k0 ≤ 1000000) :
    Calls Tryd.prog 7 #[.slice A n c, .int .i64 k0] w fun e w' => e = .returned (.int .i64 (offW k0 ys)) ∧ (w'.ownsRow base 32 2 (.slice A n c) n (flat wrtC (mkW k0 ys)) ∧ OutsW w' base (mkW k0 ys)) ∧ Below base w w' := by
  subst hy; exact wrts_markB ys base A c k0 w hl hB hn hq hk0 hk1
theorem wrtsN_heldB (ys : List Wrt) (A : Option Addr) (c : Nat) (k0 : Int) (n : Nat) (hy : ys.length = n) (w : World) (hw : Seg w 0 w.heap.size A (flat wrtC (mkW k0 ys))) (ha : WrtsAt w (mkW k0 ys)) (hn : n ≤ 1000) (hq : ∀ y ∈ ys, y.1.2.2.length ≤ 1048576) (hk0 : 1 ≤ k0) (hk1 : k0 ≤ 1000000) :
    Calls Tryd.prog 8 #[.slice A n c, .int .i64 k0] w fun e w' => e = .returned (.int .i64 (offW k0 ys)) ∧ Below w.heap.size w w' := by
  subst hy; exact wrts_heldB ys A c k0 w hw ha hn hq hk0 hk1
set_option maxRecDepth 100000 in
set_option maxHeartbeats 2000000 in
theorem walk_FnExactLineFrom (s0 : ByteArray) (w : World) (h0 : s0.size ≤ maxLen) : Calls Tryd.prog 3 #[.string s0] w fun e w' => e = .returned (.bool true) ∧ Below w.heap.size w w' := by
  have hm0 : s0.size ≤ 9223372036854775807 := h0
  by_cases hb0 : (1048576 : Int) < s0.size
  · go_enter Tryd.func3, Tryd.ntmps3
    go_wp2
    go_ret
    exact ⟨rfl, Below.refl _ _⟩
  obtain ⟨N, HN⟩ : ∃ N : Nat, Hid ((lfOf s0).length = N) := ⟨_, rfl⟩
  have hN20 : N ≤ 1000 := by rw [← HN.out]; exact Nat.le_trans (lfOf_len s0) (by decide)
  go_enter Tryd.func3, Tryd.ntmps3
  go_wp2_with fail
  refine (spec_LineFrom s0 _ (by omega)).mono ?_
  rintro e w4 ⟨vR, yR, rfl, OR, FR, b4⟩
  have nR : Hid (yR.length = N) := by rw [Hid, ← formsOf_len, FR]; exact HN.out
  obtain ⟨AR, cR, eR, _, _⟩ := own_form OR.row
  rw [nR.out] at eR
  subst eR
  have qR := lf_short FR
  have uR := fun k hk => (OR.row.lt k hk).2
  have pR := fun (y : Wrt) (hy : y ∈ yR) (k : Nat) hk => ((OR.outs y hy).lt k hk).2
  have zb4 := b4.size
  have ac3 : Below w.heap.size w _ := b4
  go_wp2_with fail
  refine (impl_LineFrom s0 _ (by omega)).mono ?_
  rintro e w7 ⟨vG, yG, rfl, OG, FG, b7⟩
  have nG : Hid (yG.length = N) := by rw [Hid, ← formsOf_len, FG]; exact HN.out
  obtain ⟨AG, cG, eG, _, _⟩ := own_form OG.row
  rw [nG.out] at eG
  subst eG
  have qG := lf_short FG
  have uG := fun k hk => (OG.row.lt k hk).2
  have pG := fun (y : Wrt) (hy : y ∈ yG) (k : Nat) hk => ((OG.outs y hy).lt k hk).2
  have OR := OR.below b7
  have zb7 := b7.size
  have ac6 := bel_trans ac3 b7
  go_wp2_with fail
  refine (wrts_eq yG yR (FG.trans FR.symm) AG AR N _ _ nG.out _ (by have h5 := OG.row; rw [nG.out] at h5; exact ((Seg.of_own h5).mono (Nat.zero_le _) (Nat.le_refl _))) (by have h5 := OR.row; rw [nR.out] at h5; exact ((Seg.of_own h5).mono (Nat.zero_le _) (Nat.le_refl _))) OG.outs.at_ OR.outs.at_ (by omega) qG).mono ?_
  rintro e w8 ⟨rfl, b8⟩
  have OR := OR.below b8
  have OG := OG.below b8
  have zb8 := b8.size
  have ac7 := bel_trans ac6 b8
  go_wp2_with fail
  refine (wrtsN_markB yG _ AG _ 1 N nG.out _ OG (by omega) hN20 qG (by decide) (by decide)).mono ?_
  rintro e w16 ⟨rfl, ⟨MG, MO⟩, b16⟩
  have OR := OR.belowB b16 (fun k hk => by have := uR k hk; omega) (fun y hy k hk => by have := pR y hy k hk; omega)
  have zb16 := b16.size
  have ac15 := ac7.trans (b16.mono (by omega))
  have zG : 1 ≤ offW 1 yG := (offW_bound yG 1 qG).1
  clear OG
  go_wp2_with fail
  refine (wrtsN_heldB yG AG _ 1 N nG.out _ ((Seg.of_own MG).mono (Nat.zero_le _) (Nat.le_refl _)) MO.at_ hN20 qG (by decide) (by decide)).mono ?_
  rintro e w17 ⟨rfl, b17⟩
  have OR := OR.below b17
  have MO := MO.below b17
  have MG := own_below MG b17
  have zb17 := b17.size
  have ac16 := bel_trans ac15 b17
  go_wp2_with fail
  refine (impl_LineFrom s0 _ (by omega)).mono ?_
  rintro e w20 ⟨vH, yH, rfl, OH, FH, b20⟩
  have nH : Hid (yH.length = N) := by rw [Hid, ← formsOf_len, FH]; exact HN.out
  obtain ⟨AH, cH, eH, _, _⟩ := own_form OH.row
  rw [nH.out] at eH
  subst eH
  have qH := lf_short FH
  have OR := OR.below b20
  have MO := MO.below b20
  have MG := own_below MG b20
  have zb20 := b20.size
  have ac19 := bel_trans ac16 b20
  go_wp2_with fail
  refine (wrts_eq yH yR (FH.trans FR.symm) AH AR N _ _ nH.out _ (by have h5 := OH.row; rw [nH.out] at h5; exact ((Seg.of_own h5).mono (Nat.zero_le _) (Nat.le_refl _))) (by have h5 := OR.row; rw [nR.out] at h5; exact ((Seg.of_own h5).mono (Nat.zero_le _) (Nat.le_refl _))) OH.outs.at_ OR.outs.at_ (by omega) qH).mono ?_
  rintro e w21 ⟨rfl, b21⟩
  have MO := MO.below b21
  have MG := own_below MG b21
  have zb21 := b21.size
  have ac20 := bel_trans ac19 b21
  go_wp2_with fail
  refine (wrtsN_heldB yG AG _ 1 N nG.out _ ((Seg.of_own MG).mono (Nat.zero_le _) (Nat.le_refl _)) MO.at_ hN20 qG (by decide) (by decide)).mono ?_
  rintro e w22 ⟨rfl, b22⟩
  have ac21 := bel_trans ac20 b22
  go_wp2
  go_ret
  exact ⟨rfl, ac21⟩
end Go.Proofs.YtlpagnbfjechhaaDoor
