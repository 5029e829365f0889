/-
  Walk of the law FnExactWrittenValid.
-/
import Derived.Test.YtnoffpicjhcpfaaLine
import Derived.Deep.RegionHeld3
namespace Go.Proofs.Ytnoffpicjhcpfaa
open Go.RowKit Go.Sort
set_option linter.unusedSimpArgs false
set_option linter.unusedVariables false

theorem walk_FnExactWrittenValid (x : Wrt) (w : World) (h : WrtOk w x) : Calls Try.prog 8 #[.agg #[rowV x.1, .int .i64 x.2]] w fun e w' => e = .returned (.bool true) ∧ Below w.heap.size w w' := by
  obtain ⟨⟨A, c, xs⟩, p⟩ := x
  obtain ⟨⟨L0, _, k0, m0⟩, _⟩ := h
  simp only [rowV] at L0 k0 m0 ⊢
  have n0 : xs.length ≤ maxLen := Nat.le_trans k0 m0
  have b0 := bel_alloc (Below.refl w.heap.size w) (.cells #[.slice A xs.length c, .int .i64 p] 43)
  have LX := Seg.lit w #[.slice A xs.length c, .int .i64 p] 43
  have L0 := L0.below b0
  go_enter Try.func8, Try.ntmps8
  go_wp2_with fail
  refine (laws_szWritten xs p A c _ _ n0 (by decide) (by decide)).mono ?_
  rintro e w1 ⟨⟨z, rfl, hz⟩, b1⟩
  have L0 := L0.below b1
  have LX := LX.below b1
  have ac1 := bel_trans b0 b1
  rcases hz with rfl | ⟨za, zb, zc⟩
  · go_wp2
    go_ret
    exact ⟨rfl, ac1⟩
  have q0 : xs.length ≤ 1048576 := by omega
  obtain ⟨kx0, kx1, kx2⟩ := LX.box2
  go_wp2_with fail
  refine (wrt_toO xs p A c _ L0.top q0).mono ?_
  rintro e w2 ⟨U, rfl, OU, b2⟩
  have L0 := L0.below b2
  have LX := LX.below b2
  have ac2 := bel_trans ac1 b2
  clear kx0 kx1 kx2
  go_wp2_with fail
  refine (spec_WrittenValid xs p U _ _ ((Seg.of_own OU).mono (Nat.zero_le _) (Nat.le_refl _)) n0).mono ?_
  rintro e w3 ⟨rfl, b3⟩
  have L0 := L0.below b3
  have LX := LX.below b3
  have ac3 := bel_trans ac2 b3
  clear OU
  obtain ⟨kx0, kx1, kx2⟩ := LX.box2
  go_wp2_with fail
  refine (wrt_toO xs p A c _ L0.top q0).mono ?_
  rintro e w4 ⟨V, rfl, OV, b4⟩
  have L0 := L0.below b4
  have LX := LX.below b4
  have ac4 := bel_trans ac3 b4
  clear kx0 kx1 kx2
  have bV := bel_alloc (Below.refl w4.heap.size w4) (.cells #[.slice V xs.length xs.length, .int .i64 p] 47)
  have LV := Seg.lit w4 #[.slice V xs.length xs.length, .int .i64 p] 47
  have L0 := L0.below bV
  have LX := LX.below bV
  have SV := ((Seg.of_own OV).mono (lo' := 0) (Nat.zero_le _) (Nat.le_refl _)).below bV
  have ac5 := bel_trans ac4 bV
  clear OV
  go_wp2_with fail
  refine (impl_WrittenValid xs p V _ _ SV.top n0).mono ?_
  rintro e w5 ⟨rfl, b5⟩
  have bD := (Below.refl w5.heap.size w5).drew
  have L0 := (L0.below b5).below bD
  have LX := (LX.below b5).below bD
  have LV := (LV.below b5).below bD
  have SV := (SV.below b5).below bD
  have ac6 := bel_trans (bel_trans ac5 b5) bD
  obtain ⟨kx0, kx1, kx2⟩ := LX.box2
  obtain ⟨kv0, kv1, kv2⟩ := LV.box2
  clear bD bV b0
  go_wp2
  go_region_held3 (fun w' => w'.cell? ⟨w.heap.size, 0, none⟩ = some (.slice A xs.length c) ∧ w'.cell? ⟨w.heap.size, 1, none⟩ = some (.int .i64 p) ∧ w'.cell? ⟨w4.heap.size, 0, none⟩ = some (.slice V xs.length xs.length) ∧ w'.cell? ⟨w4.heap.size, 1, none⟩ = some (.int .i64 p)) (first | exact ⟨kx0, kx1, kv0, kv1⟩ | exact ⟨jx0, jx1, jv0, jv1⟩ | exact ⟨mx0, mx1, mv0, mv1⟩ | go_keep)
    (first
      | (go_at_call 35; refine (wrt_toO xs p A c _ L0.top q0).mono ?_; rintro e w6 ⟨T, rfl, OT, b6⟩; have SV := SV.below b6; have LX := LX.below b6; have LV := LV.below b6; have ac7 := bel_trans ac6 b6; obtain ⟨jx0, jx1, jx2⟩ := LX.box2; obtain ⟨jv0, jv1, jv2⟩ := LV.box2)
      | (go_at_call 37; refine (wrt_eq xs p V T _ _ _ SV.top ((Seg.of_own OT).mono (Nat.zero_le _) (Nat.le_refl _)) q0).mono ?_; rintro e w7 ⟨rfl, b7⟩; have LX := LX.below b7; have LV := LV.below b7; have ac8 := bel_trans ac7 b7; obtain ⟨mx0, mx1, mx2⟩ := LX.box2; obtain ⟨mv0, mv1, mv2⟩ := LV.box2))
  go_wp2
  go_ret
  exact ⟨rfl, ac8⟩
end Go.Proofs.Ytnoffpicjhcpfaa
