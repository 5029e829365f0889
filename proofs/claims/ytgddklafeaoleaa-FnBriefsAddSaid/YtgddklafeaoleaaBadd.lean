/-
  Contract of BriefsAdd (the reference's).
-/
import Derived.Test.YtgddklafeaoleaaBrfV
import Derived.Test.YtgddklafeaoleaaCopy
import Derived.Deep.RegionHeld3
namespace Go.Proofs.Ytgddklafeaoleaa
open Go.RowKit Go.Sort
set_option linter.unusedSimpArgs false
set_option linter.unusedVariables false

def baOk (bs : List PB) (b : PB) : Bool := bvOk (bs ++ [b])
def baOf (bs : List PB) (b : PB) : List PB := if baOk bs b then bs ++ [b] else []
theorem brfs_one (xs : List Brf) : ∀ u ∈ flat brfC xs, u.oneCell' = true := by
  intro u hu
  obtain ⟨x, _, hx⟩ := List.mem_flatMap.1 hu
  simp [brfC, rowV] at hx
  rcases hx with rfl | rfl <;> rfl
/-- a list of briefs of the call's own -/
structure OwnB (w : World) (base : Nat) (v : Value) (ys : List Brf) : Prop where
  row : w.ownsRow base 35 2 v ys.length (flat brfC ys)
  outs : OutsB w base ys
theorem OwnB.below {w w' : World} {base : Nat} {v : Value} {ys : List Brf} (h : OwnB w base v ys) (hb : Below w.heap.size w w') : OwnB w' base v ys := ⟨own_below h.row hb, h.outs.below hb⟩
theorem OwnB.mono {w : World} {base base' : Nat} {v : Value} {ys : List Brf} (h : OwnB w base v ys) (hb : base' ≤ base) : OwnB w base' v ys := ⟨own_mono h.row hb, fun y hy => own_mono (h.outs y hy) hb⟩
theorem ownB_made (w : World) (base H : Nat) (hH : w.heap.size = H) (hb : base ≤ H) : OwnB (w.alloc (.cells #[] 35)) base (.slice (some ⟨H, 0, none⟩) 0 0) [] := by
  subst hH; exact ⟨World.ownsRow_made w #[] 0 hb (by simp [maxLen]) (by simp), fun y hy => by simp at hy⟩
/-- a further brief behind those of the call's own -/
theorem outsB_snoc {w w' : World} {base n : Nat} {v : Value} {xs : List Value} {ys : List Brf} {m : Str} {r : Row Str} (hb : w.ownsRow base 35 2 v n xs) (ho : OutsB w base ys) (hr : OwnStrs w base r) (hg : w.grownBy w' v.ownBlock) : OutsB w' base (ys ++ [(m, r)]) := by
  intro y hy
  rcases List.mem_append.1 hy with h | h
  · exact own_grew (ho y h) hg (own_ne (ho y h) hb (by decide))
  · simp at h; subst h
    exact own_grew hr hg (own_ne hr hb (by decide))
def GaveBrfs (r : List PB) (ok : Bool) (w : World) (e : Ending) (w' : World) : Prop := ∃ v ys, e = .returned (.tuple #[v, .bool ok]) ∧ OwnB w' w.heap.size v ys ∧ pbsOf ys = r ∧ Below w.heap.size w w'

/-- a brief made of a mark and a copy of words, appended: what stands behind it -/
theorem badd_step {wr w4 w5 : World} {base : Nat} {v6 v2 : Value} {ys : List Brf} {m : Str} {xl : List Str} {A1 : Option Addr} {c1 : Nat} (hO : OwnB wr base v6 ys) (hB : base ≤ wr.heap.size) (b1 : Below wr.heap.size wr w4) (own1 : w4.ownsRow wr.heap.size 9 1 (.slice A1 xl.length c1) xl.length (strs xl))
    (g2 : (w4.alloc (.cells #[.string m, .slice A1 xl.length c1] 35)).grownBy w5 v6.ownBlock) (own2 : w5.ownsRow base 35 2 v2 (ys.length + 1) (flat brfC ys ++ [.string m, .slice A1 xl.length c1])) :
    OwnB w5 base v2 (ys ++ [(m, (A1, c1, xl))]) := by
  have bA := bel_alloc (Below.refl w4.heap.size w4) (.cells #[.string m, .slice A1 xl.length c1] 35)
  refine ⟨?_, outsB_snoc (own_below (own_below hO.row b1) bA) ((hO.outs.below b1).below bA) (own_below (own_mono own1 hB) bA) g2⟩
  rw [List.length_append, flat_snoc]; exact own2

set_option maxRecDepth 100000 in
set_option maxHeartbeats 4000000 in
theorem spec_BriefsAdd (xs : List Brf) (A : Option Addr) (c : Nat) (bm : Str) (bA : Option Addr) (bc : Nat) (bl : List Str) (w : World) (hw : Seg w 0 w.heap.size A (flat brfC xs)) (ho : BrfsAt w xs) (hn : xs.length ≤ 1048576) (hq : ∀ y ∈ xs, y.2.2.2.length ≤ 1048576) (hbm : bm.size ≤ maxLen) (hbw : Seg w 0 w.heap.size bA (strs bl)) (hbo : StrsOk bl) (hbn : bl.length ≤ 1048576) :
    Calls Try.prog 39 #[.slice A xs.length c, .agg #[.string bm, .slice bA bl.length bc]] w (GaveBrfs (baOf (pbsOf xs) (bm, bl)) (baOk (pbsOf xs) (bm, bl)) w) := by
  have bBox := bel_alloc (Below.refl w.heap.size w) (.cells #[.string bm, .slice bA bl.length bc] 35)
  have x0 : (w.alloc (.cells #[.string bm, .slice bA bl.length bc] 35)).cell? ⟨w.heap.size, 0, none⟩ = some (.string bm) := box_cell _ _ _ 0
  have x1 : (w.alloc (.cells #[.string bm, .slice bA bl.length bc] 35)).cell? ⟨w.heap.size, 1, none⟩ = some (.slice bA bl.length bc) := box_cell _ _ _ 1
  have hs1 : (w.alloc (.cells #[.string bm, .slice bA bl.length bc] 35)).heap.size = w.heap.size + 1 := by simp
  have OB : Hid (OwnB ((w.alloc (.cells #[.string bm, .slice bA bl.length bc] 35)).alloc (.cells #[] 35)) (w.heap.size + 1) (.slice (some ⟨w.heap.size + 1, 0, none⟩) 0 0) []) := ownB_made (w.alloc (.cells #[.string bm, .slice bA bl.length bc] 35)) (w.heap.size + 1) (w.heap.size + 1) hs1 (Nat.le_refl _)
  have bW1 : Below (w.heap.size + 1) (w.alloc (.cells #[.string bm, .slice bA bl.length bc] 35)) ((w.alloc (.cells #[.string bm, .slice bA bl.length bc] 35)).alloc (.cells #[] 35)) := by rw [← hs1]; exact bel_alloc (Below.refl _ _) _
  have X0 := Lib.hid x0
  have X1 := Lib.hid x1
  have BW1 := Lib.hid bW1
  clear x0 x1 bW1
  go_enter Try.func39, Try.ntmps39
  go_wp2
  go_loopw [6, 7] (fun v i wr => ∃ k : Nat, ∃ ys : List Brf, k ≤ xs.length ∧ i = .int .i64 k ∧ Hid (pbsOf ys = pbsOf (xs.take k) ∧ ys.length = k) ∧ Hid (OwnB wr (w.heap.size + 1) v ys) ∧ Hid (Below (w.heap.size + 1) (w.alloc (.cells #[.string bm, .slice bA bl.length bc] 35)) wr)) (fun _ i _ => xs.length - (intOf i).toNat)
  case atStart => exact ⟨0, [], Nat.zero_le _, rfl, ⟨rfl, rfl⟩, OB, BW1⟩
  case round =>
    obtain ⟨k, ys, hk, rfl, hys, hO, hbX⟩ := hrel
    have hbw0 : Below w.heap.size w wr := bBox.trans (hbX.out.mono (Nat.le_succ _))
    have hB : w.heap.size + 1 ≤ wr.heap.size := by have := hbX.out.size; omega
    have k0 := (hbX.out.cell (p := ⟨w.heap.size, 0, none⟩) (Nat.lt_succ_self _)).trans X0.out
    have k1 := (hbX.out.cell (p := ⟨w.heap.size, 1, none⟩) (Nat.lt_succ_self _)).trans X1.out
    have o1 : (wr.alloc (.cells #[] 9)).drew.ownsRow wr.heap.size 9 1 (.slice (some ⟨wr.heap.size, 0, none⟩) 0 0) 0 [] := (World.ownsRow_made wr #[] 0 (Nat.le_refl _) (by simp [maxLen]) (by simp)).drew
    have bx1 : Below wr.heap.size wr (wr.alloc (.cells #[] 9)).drew := (bel_alloc (Below.refl _ _) _).drew
    obtain ⟨A6, c6, hv6, _, _⟩ := own_form hO.out.row
    subst hv6
    by_cases hlt : k < xs.length
    · obtain ⟨⟨xm, xA, xc, xl⟩, hs⟩ := get_lt hlt
      obtain ⟨g, o, rfl, hg, _, hgw, hc1, hc2⟩ := (hw.below hbw0).brf hs
      simp only [rowV] at hc1 hc2
      have hxl := hq _ (List.mem_of_getElem? hs)
      simp only at hxl
      have hxw := ((ho _ (List.mem_of_getElem? hs)).below hbw0).2.1
      simp only at hxw
      have HS := Lib.hid (take_snoc' hs)
      have hS : ∀ w1, Below wr.heap.size wr w1 → w1.cell? ⟨g, o + k * 2, none⟩ = some (.string xm) ∧ w1.cell? ⟨g, o + k * 2 + 1, none⟩ = some (.slice xA xl.length xc) := fun w1 h => ⟨(h.cell (p := ⟨g, o + k * 2, none⟩) hg).trans hc1, (h.cell (p := ⟨g, o + k * 2 + 1, none⟩) hg).trans hc2⟩
      have hSZ : ∀ w1, Below (w.heap.size + 1) (w.alloc (.cells #[.string bm, .slice bA bl.length bc] 35)) w1 → w1.cell? ⟨g, o + k * 2, none⟩ = some (.string xm) ∧ w1.cell? ⟨g, o + k * 2 + 1, none⟩ = some (.slice xA xl.length xc) := fun w1 h => ⟨(h.cell (p := ⟨g, o + k * 2, none⟩) (Nat.lt_succ_of_lt hgw)).trans ((hbX.out.cell (p := ⟨g, o + k * 2, none⟩) (Nat.lt_succ_of_lt hgw)).symm.trans hc1), (h.cell (p := ⟨g, o + k * 2 + 1, none⟩) (Nat.lt_succ_of_lt hgw)).trans ((hbX.out.cell (p := ⟨g, o + k * 2 + 1, none⟩) (Nat.lt_succ_of_lt hgw)).symm.trans hc2)⟩
      have hS1 := hS _ (Below.refl _ _)
      have s1 := (hxw.below bx1).top
      have fl1 : Hid ((strs xl).length = xl.length * 1) := by simp [Hid, strs]
      have H1A := Lib.hid (strs_one1 xl)
      have hki : (k : Int) < (xs.length : Int) := by omega
      have hyl := Lib.hid hys.out.2
      have hyl2 : ys.length ≤ 1048576 := by have := hys.out.2; omega
      clear hs
      go_wp2
      go_region_held3 (fun w' => w'.cell? ⟨g, o + k * 2, none⟩ = some (.string xm) ∧ w'.cell? ⟨g, o + k * 2 + 1, none⟩ = some (.slice xA xl.length xc)) (first | exact hS1 | exact hS _ (Below.refl _ _) | exact hS _ (bel_alloc (Below.refl _ _) _) | exact hS _ (Below.refl _ _).drew | exact hS _ bx1 | exact hS _ (bel_alloc (Below.refl _ _) _).drew | exact hS _ (bel_alloc b1x _) | go_keep)
        (first
          | (refine step_append_seg _ (by rfl) (.tmp 21) (.tmp 26) 30 (by rfl) (wr.heap.size) 9 _ 1 16 Try.underlying30 info_str rfl (by decide) (by decide) (_) _ _ (by rfl) o1 xA xl.length xc (strs xl) _ _ (by rfl) s1 fl1.out H1A.out (by omega) bx1.size ?_; intro v1 w4 own1 g1; rw [Nat.zero_add, List.nil_append] at own1; have b1x := own_grown_below bx1 o1 g1 bx1.size; have hS1 := hS w4 b1x; obtain ⟨A1, c1, hv1, _, _⟩ := own_form own1; subst hv1)
          | (have oB := (own_below hO.out.row b1x).alloc (.cells #[.string xm, .slice A1 xl.length c1] 35); have sB := Seg.lit w4 #[.string xm, .slice A1 xl.length c1] 35; have zB := Nat.le_trans hB (bel_alloc b1x (.cells #[.string xm, .slice A1 xl.length c1] 35)).size; have uB : ∀ u ∈ ([.string xm, .slice A1 xl.length c1] : List Value), u.oneCell' = true := (by simp [Value.oneCell']); have nB : ys.length + 1 ≤ 8388608 := (by omega); refine step_append_seg _ (by rfl) (.tmp 15) (.tmp 29) 25 (by rfl) ((w.heap.size + 1)) 35 _ 2 40 Try.underlying25 info_brf rfl (by decide) (by decide) (_) _ _ (by rfl) oB (some ⟨w4.heap.size, 0, none⟩) 1 1 [.string xm, .slice A1 xl.length c1] _ _ (by rfl) sB rfl uB nB zB ?_; intro v2 w5 own2 g2; have R1 := Lib.hid (badd_step (m := xm) hO.out hB b1x own1 g2 own2); have R2 := Lib.hid (own_grown_below (hbX.out.trans ((bel_alloc b1x (.cells #[.string xm, .slice A1 xl.length c1] 35)).mono hB)) ((own_below hO.out.row b1x).alloc _) g2 (Nat.le_trans hB (bel_alloc b1x _).size)); have hS1 := hSZ w5 R2.out))
      all_goals
        have R3 : Hid (pbsOf (ys ++ [(xm, (A1, c1, xl))]) = pbsOf (xs.take (k + 1)) ∧ (ys ++ [(xm, (A1, c1, xl))]).length = k + 1) := ⟨by rw [pbsOf_snoc, hys.out.1, HS.out, pbsOf_snoc], by rw [List.length_append, hyl.out]; rfl⟩
        clear own1 own2 g1 g2 b1x hS hS1 hSZ bx1 o1 s1 hc1 hc2 k0 k1
        go_wp2
        go_roundw
        case rel => exact ⟨k + 1, _, by omega, by go_num, R3, R1, R2⟩
        case measure => simp [intOf]; omega
    · have HPB : Hid (pbsOf ys = pbsOf xs) := by
        have := hys.out.1
        rwa [List.take_of_length_le (by omega)] at this
      have hyl2 : ys.length ≤ 1048576 := by have := hys.out.2; omega
      have hS : ∀ w1, Below wr.heap.size wr w1 → w1.cell? ⟨w.heap.size, 0, none⟩ = some (.string bm) ∧ w1.cell? ⟨w.heap.size, 1, none⟩ = some (.slice bA bl.length bc) := fun w1 h => ⟨(h.cell (p := ⟨w.heap.size, 0, none⟩) (by show w.heap.size < _; omega)).trans k0, (h.cell (p := ⟨w.heap.size, 1, none⟩) (by show w.heap.size < _; omega)).trans k1⟩
      have hSZ : ∀ w1, Below (w.heap.size + 1) (w.alloc (.cells #[.string bm, .slice bA bl.length bc] 35)) w1 → w1.cell? ⟨w.heap.size, 0, none⟩ = some (.string bm) ∧ w1.cell? ⟨w.heap.size, 1, none⟩ = some (.slice bA bl.length bc) := fun w1 h => ⟨(h.cell (p := ⟨w.heap.size, 0, none⟩) (Nat.lt_succ_self _)).trans X0.out, (h.cell (p := ⟨w.heap.size, 1, none⟩) (Nat.lt_succ_self _)).trans X1.out⟩
      have hS1 := hS _ (Below.refl _ _)
      have s1 := ((hbw.below hbw0).below bx1).top
      have fl1 : Hid ((strs bl).length = bl.length * 1) := by simp [Hid, strs]
      have H1A := Lib.hid (strs_one1 bl)
      go_wp2
      go_region_held3 (fun w' => w'.cell? ⟨w.heap.size, 0, none⟩ = some (.string bm) ∧ w'.cell? ⟨w.heap.size, 1, none⟩ = some (.slice bA bl.length bc)) (first | exact hS1 | exact hS _ (Below.refl _ _) | exact hS _ (bel_alloc (Below.refl _ _) _) | exact hS _ (Below.refl _ _).drew | exact hS _ bx1 | exact hS _ (bel_alloc (Below.refl _ _) _).drew | exact hS _ (bel_alloc b1x _) | go_keep)
        (first
          | (refine step_append_seg _ (by rfl) (.tmp 34) (.tmp 36) 30 (by rfl) (wr.heap.size) 9 _ 1 16 Try.underlying30 info_str rfl (by decide) (by decide) (_) _ _ (by rfl) o1 bA bl.length bc (strs bl) _ _ (by rfl) s1 fl1.out H1A.out (by omega) bx1.size ?_; intro v1 w4 own1 g1; rw [Nat.zero_add, List.nil_append] at own1; have b1x := own_grown_below bx1 o1 g1 bx1.size; have hS1 := hS w4 b1x; obtain ⟨A1, c1, hv1, _, _⟩ := own_form own1; subst hv1)
          | (have oB := (own_below hO.out.row b1x).alloc (.cells #[.string bm, .slice A1 bl.length c1] 35); have sB := Seg.lit w4 #[.string bm, .slice A1 bl.length c1] 35; have zB := Nat.le_trans hB (bel_alloc b1x (.cells #[.string bm, .slice A1 bl.length c1] 35)).size; have uB : ∀ u ∈ ([.string bm, .slice A1 bl.length c1] : List Value), u.oneCell' = true := (by simp [Value.oneCell']); have nB : ys.length + 1 ≤ 8388608 := (by omega); refine step_append_seg _ (by rfl) (.tmp 31) (.tmp 39) 25 (by rfl) ((w.heap.size + 1)) 35 _ 2 40 Try.underlying25 info_brf rfl (by decide) (by decide) (_) _ _ (by rfl) oB (some ⟨w4.heap.size, 0, none⟩) 1 1 [.string bm, .slice A1 bl.length c1] _ _ (by rfl) sB rfl uB nB zB ?_; intro v2 w5 own2 g2; have R1 := badd_step (m := bm) hO.out hB b1x own1 g2 own2; have R2 := own_grown_below (hbX.out.trans ((bel_alloc b1x (.cells #[.string bm, .slice A1 bl.length c1] 35)).mono hB)) ((own_below hO.out.row b1x).alloc _) g2 (Nat.le_trans hB (bel_alloc b1x _).size); have hS1 := hSZ w5 R2))
      all_goals
        have R3 : Hid (pbsOf (ys ++ [(bm, (A1, c1, bl))]) = pbsOf xs ++ [(bm, bl)]) := by rw [Hid, pbsOf_snoc, HPB.out]
        have hok : StrsOkB (ys ++ [(bm, (A1, c1, bl))]) := by
          intro y hy
          rcases List.mem_append.1 hy with h | h
          · exact strsOkB_of HPB.out ho y h
          · simp at h; subst h; exact ⟨hbm, hbo⟩
        have hat := R1.outs.at_ hok
        have bal : Below w.heap.size w w5 := bBox.trans (R2.mono (Nat.le_succ _))
        have R1w := R1.mono (Nat.le_succ w.heap.size)
        have hyl3 : (ys ++ [(bm, (A1, c1, bl))]).length = ys.length + 1 := List.length_append
        obtain ⟨A5, c5, hv5, _, _⟩ := own_form R1.row
        subst hv5
        have sg5 := (Seg.of_own R1.row).mono (lo' := 0) (Nat.zero_le _) (Nat.le_refl _)
        have hvd := spec_BriefsValid (ys ++ [(bm, (A1, c1, bl))]) A5 c5 w5 sg5 hat (by rw [hyl3]; unfold maxLen; omega)
        rw [R3.out, hyl3] at hvd
        have HVD := Lib.hid hvd
        have HR1 := Lib.hid R1w
        have HL3 := Lib.hid hyl3
        clear own1 own2 g1 g2 b1x hS hS1 hSZ bx1 o1 s1 k0 k1 hvd R1 R1w sg5 hyl3
        go_wp2_with fail
        refine HVD.out.mono ?_
        rintro e w6 ⟨rfl, b6⟩
        have bal6 := bel_trans bal b6
        cases hv : bvOk (pbsOf xs ++ [(bm, bl)])
        · have HO : Hid (baOk (pbsOf xs) (bm, bl) = false ∧ baOf (pbsOf xs) (bm, bl) = []) := by
            have : baOk (pbsOf xs) (bm, bl) = false := hv
            exact ⟨this, by rw [baOf, this]; rfl⟩
          have OM := Lib.hid (ownB_made w6 w.heap.size _ rfl bal6.size)
          have bM := bel_alloc bal6 (.cells #[] 35)
          go_wp2_with fail
          go_ret2
          exact ⟨_, [], by rw [HO.out.1]; rfl, OM.out, by rw [HO.out.2]; rfl, bM⟩
        · have HO : Hid (baOk (pbsOf xs) (bm, bl) = true ∧ baOf (pbsOf xs) (bm, bl) = pbsOf xs ++ [(bm, bl)]) := by
            have : baOk (pbsOf xs) (bm, bl) = true := hv
            exact ⟨this, by rw [baOf, this]; rfl⟩
          have OM := Lib.hid (HR1.out.below b6)
          rw [HL3.out] at OM
          go_wp2_with fail
          go_ret2
          exact ⟨_, _, by rw [HO.out.1]; rfl, OM.out, by rw [HO.out.2]; exact R3.out, bal6⟩
end Go.Proofs.Ytgddklafeaoleaa
