/-
  Contract of BriefsAdd (the implementation's), and of slices.Clone.
-/
import Derived.Test.YtgddklafeaoleaaBadd
import Derived.Lib.SliceRun
import Derived.IntWalk
namespace Go.Proofs.Ytgddklafeaoleaa
open Go.RowKit Go.Sort
set_option linter.unusedSimpArgs false
set_option linter.unusedVariables false

theorem make_0n {P : Program} (t e : TypeId) (z : Value) (size bytes : Nat) (ht : P.underlying t = some (.slice e)) (hi : (P.info? e).map (fun i => (i.zero, i.size, i.bytes)) = some (some z, size, bytes))
    (hby : bytes ≤ 64) (n : Nat) (hn : n ≤ 8388608) (w : World) :
    (Instr.makeSlice t (.int .i64 0) (.int .i64 (n : Int))).run P w = .ok (.slice (some ⟨w.heap.size, 0, none⟩) 0 n) (w.alloc (.cells (madeCells z.cells (n * size)) e)) := by
  obtain ⟨i, hi, hz0, hz1, hz2⟩ := info_parts hi
  have h1 : bytes * n ≤ 64 * 8388608 := Nat.mul_le_mul hby hn
  have h2 : ((bytes * n : Nat) : Int) = (bytes : Int) * n := Int.natCast_mul _ _
  have := run_make (P := P) w t e i z ht hi hz0 .i64 .i64 (0 : Int) n (by omega) (by omega) (by rw [hz2]; omega) (by omega)
  simpa [hz1] using this
set_option maxRecDepth 100000 in
theorem slices_CloneS (ws : List Str) (A : Option Addr) (c : Nat) (w : World) (hw : Seg w 0 w.heap.size A (strs ws)) (hn : ws.length ≤ 1048576) :
    Calls Try.prog 75 #[.slice A ws.length c] w fun e w' => ∃ A' c', e = .returned (.slice A' ws.length c') ∧ OwnStrs w' w.heap.size (A', c', ws) ∧ Below w.heap.size w w' := by
  have q22 : ∀ (w : World) (a : Option Addr) (n c n' c' : Nat), (binOp .eql 30 (.slice a n c) (.slice none n' c')).run Try.prog w = .ok (.bool a.isNone) w := fun w a n c n' c' => Lib.run_eql_slice_nil w _ _ a n c n' c' Try.underlying30
  cases A with
  | none =>
    have hnil : ws = [] := by
      rcases hw with h | ⟨g, o, h, _⟩
      · cases ws with
        | nil => rfl
        | cons a b => simp [strs] at h
      · cases h
    subst hnil
    go_enter Try.func75, Try.ntmps75
    go_wp2
    go_ret
    exact ⟨none, 0, rfl, ⟨rfl, .inl ⟨rfl, rfl⟩⟩, Below.refl _ _⟩
  | some a =>
    have own0 := World.ownsRow_made (size := 1) (e := 9) w #[] 0 (Nat.le_refl _) (by simp [maxLen]) (by simp)
    have b0 := bel_alloc (Below.refl w.heap.size w) (.cells #[] 9)
    have s1 := (hw.below b0).top
    have hB := b0.size
    have fl1 : Hid ((strs ws).length = ws.length * 1) := by simp [Hid, strs]
    have H1A := Lib.hid (strs_one1 ws)
    go_enter Try.func75, Try.ntmps75
    go_wp2_with (at_builtin; refine append_seg _ (by rfl) (.tmp 5) (.tmp 6) 30 (by rfl) (w.heap.size) 9 _ 1 16 Try.underlying30 info_str rfl (by decide) (by decide) (_) _ _ (by rfl) own0 (some a) ws.length c (strs ws) _ _ (by rfl) s1 fl1.out H1A.out (by omega) hB ?_; intro v' w1 own1 g1)
    have b1 := own_grown_below b0 own0 g1 hB
    rw [Nat.zero_add, List.nil_append] at own1
    obtain ⟨A1, c1, rfl, _, _⟩ := own_form own1
    have O := Lib.hid own1
    clear own1 g1 own0
    go_wp2
    go_ret
    exact ⟨A1, c1, rfl, O.out, b1⟩

set_option maxRecDepth 100000 in
set_option maxHeartbeats 4000000 in
theorem impl_BriefsAdd (xs : List Brf) (A : Option Addr) (c : Nat) (bm : Str) (bA : Option Addr) (bc : Nat) (bl : List Str) (w : World) (hw : Seg w 0 w.heap.size A (flat brfC xs)) (ho : BrfsAt w xs) (hn : xs.length ≤ 1048576) (hc : xs.length ≤ c) (hcm : c ≤ maxLen) (hq : ∀ y ∈ xs, y.2.2.2.length ≤ 1048576) (hbm : bm.size ≤ maxLen) (hbw : Seg w 0 w.heap.size bA (strs bl)) (hbo : StrsOk bl) (hbn : bl.length ≤ 1048576) :
    Calls Try.prog 38 #[.slice A xs.length c, .agg #[.string bm, .slice bA bl.length bc]] w (GaveBrfs (baOf (pbsOf xs) (bm, bl)) (baOk (pbsOf xs) (bm, bl)) w) := by
  have bBox := bel_alloc (Below.refl w.heap.size w) (.cells #[.string bm, .slice bA bl.length bc] 35)
  have x0 : (w.alloc (.cells #[.string bm, .slice bA bl.length bc] 35)).cell? ⟨w.heap.size, 0, none⟩ = some (.string bm) := box_cell _ _ _ 0
  have x1 : (w.alloc (.cells #[.string bm, .slice bA bl.length bc] 35)).cell? ⟨w.heap.size, 1, none⟩ = some (.slice bA bl.length bc) := box_cell _ _ _ 1
  have hs1 : (w.alloc (.cells #[.string bm, .slice bA bl.length bc] 35)).heap.size = w.heap.size + 1 := by simp
  generalize hX : w.alloc (.cells #[.string bm, .slice bA bl.length bc] 35) = wx at *
  have HX := Lib.hid hX
  have X0 := Lib.hid x0
  have X1 := Lib.hid x1
  have KW := hw
  have KO := Lib.hid ho
  have hwx := (hw.below bBox).top
  have hox := ho.below bBox
  go_enter Try.func38, Try.ntmps38
  go_wp2_with fail
  refine (impl_BriefsValid xs A c _ hwx hox (Nat.le_trans hc hcm) hc hcm).mono ?_
  rintro e w1 ⟨rfl, b1⟩
  have B1 := bel_trans bBox b1
  cases hbv : bvOk (pbsOf xs)
  · have HO : Hid (baOk (pbsOf xs) (bm, bl) = false ∧ baOf (pbsOf xs) (bm, bl) = []) := by
      have : baOk (pbsOf xs) (bm, bl) = false := by
        cases h : baOk (pbsOf xs) (bm, bl) with
        | false => rfl
        | true => rw [bv_old h] at hbv; cases hbv
      exact ⟨this, by rw [baOf, this]; rfl⟩
    go_wp2
    go_ret2
    exact ⟨_, [], by rw [HO.out.1]; rfl, ⟨⟨rfl, .inl ⟨rfl, rfl⟩⟩, fun y hy => by simp at hy⟩, by rw [HO.out.2]; rfl, B1⟩
  have hmk := make_0n (P := Try.prog) 25 35 (.agg #[.string ByteArray.empty, .slice none 0 0]) 2 40 Try.underlying25 info_brf (by decide) (xs.length + 1) (by omega) w1
  rw [show ((xs.length + 1 : Nat) : Int) = (xs.length : Int) + 1 from by omega] at hmk
  have OB : OwnB (w1.alloc (.cells (madeCells (Value.agg #[.string ByteArray.empty, .slice none 0 0]).cells ((xs.length + 1) * 2)) 35)) w1.heap.size (.slice (some ⟨w1.heap.size, 0, none⟩) 0 (xs.length + 1)) [] :=
    ⟨World.ownsRow_made w1 _ _ (Nat.le_refl _) (by unfold maxLen; omega) (by simp [madeCells]), fun y hy => by simp at hy⟩
  have bM := bel_alloc (Below.refl w1.heap.size w1) (.cells (madeCells (Value.agg #[.string ByteArray.empty, .slice none 0 0]).cells ((xs.length + 1) * 2)) 35)
  generalize hW2 : w1.alloc (.cells (madeCells (Value.agg #[.string ByteArray.empty, .slice none 0 0]).cells ((xs.length + 1) * 2)) 35) = w2 at *
  have HW2 := Lib.hid hW2
  have OB' := Lib.hid OB
  have BM := Lib.hid bM
  have hw1 := (hwx.below b1).top
  have HO1 := Lib.hid (hox.below b1)
  have X0' := Lib.hid ((b1.cell (p := ⟨w.heap.size, 0, none⟩) (by show w.heap.size < _; omega)).trans x0)
  have X1' := Lib.hid ((b1.cell (p := ⟨w.heap.size, 1, none⟩) (by show w.heap.size < _; omega)).trans x1)
  have HL1 : Hid (w.heap.size + 1 ≤ w1.heap.size) := by have := b1.size; rw [hs1] at this; exact this
  clear hW2 x0 x1 OB bM hwx hox bBox hX b1
  go_wp2
  go_loopw [6, 8, 18] (fun v _ i wr => ∃ k : Nat, ∃ ys : List Brf, k ≤ xs.length ∧ i = .int .i64 k ∧ Hid (pbsOf ys = pbsOf (xs.take k) ∧ ys.length = k) ∧ Hid (OwnB wr w1.heap.size v ys) ∧ Hid (Below w1.heap.size w1 wr)) (fun _ _ i _ => xs.length - (intOf i).toNat)
  case atStart => exact ⟨0, [], Nat.zero_le _, rfl, ⟨rfl, rfl⟩, OB', BM⟩
  case round =>
    obtain ⟨k, ys, hk, rfl, hys, hO, hbX⟩ := hrel
    have hbr : Below w.heap.size w wr := bel_trans B1 hbX.out
    have hB := hbX.out.size
    obtain ⟨A6, c6, hv6, _, _⟩ := own_form hO.out.row
    subst hv6
    by_cases hlt : k < xs.length
    · obtain ⟨⟨xm, xA, xc, xl⟩, hs⟩ := get_lt hlt
      obtain ⟨g, o, rfl, hg, _, hgw, hc1, hc2⟩ := (hw1.below hbX.out).brf hs
      simp only [rowV] at hc1 hc2
      have hxl := hq _ (List.mem_of_getElem? hs)
      simp only at hxl
      have hxw := ((HO1.out _ (List.mem_of_getElem? hs)).below hbX.out).2.1
      simp only at hxw
      have HS := Lib.hid (take_snoc' hs)
      have hki : (k : Int) < (xs.length : Int) := by omega
      have hyl := Lib.hid hys.out.2
      have hyl2 : ys.length ≤ 1048576 := by have := hys.out.2; omega
      clear hs
      go_wp2
      have bb := bel_alloc (Below.refl wr.heap.size wr) (.cells #[.string xm, .slice xA xl.length xc] 35)
      generalize hwb : wr.alloc (.cells #[.string xm, .slice xA xl.length xc] 35) = wb at *
      have y0 : wb.cell? ⟨wr.heap.size, 0, none⟩ = some (.string xm) := by rw [← hwb]; exact box_cell _ _ _ 0
      have y1 : wb.cell? ⟨wr.heap.size, 1, none⟩ = some (.slice xA xl.length xc) := by rw [← hwb]; exact box_cell _ _ _ 1
      have hsz : wb.heap.size = wr.heap.size + 1 := by rw [← hwb]; simp
      have HWB := Lib.hid hwb
      clear hwb hc1 hc2
      have hS : ∀ w', Below wb.heap.size wb w' → w'.cell? ⟨wr.heap.size, 0, none⟩ = some (.string xm) ∧ w'.cell? ⟨wr.heap.size, 1, none⟩ = some (.slice xA xl.length xc) := fun w' h => ⟨(h.cell (p := ⟨wr.heap.size, 0, none⟩) (by show wr.heap.size < _; omega)).trans y0, (h.cell (p := ⟨wr.heap.size, 1, none⟩) (by show wr.heap.size < _; omega)).trans y1⟩
      have hSG : ∀ w' w5, Below wb.heap.size wb w' → w'.grownBy w5 (Value.slice A6 ys.length c6).ownBlock → w5.cell? ⟨wr.heap.size, 0, none⟩ = some (.string xm) ∧ w5.cell? ⟨wr.heap.size, 1, none⟩ = some (.slice xA xl.length xc) := fun w' w5 h hg => by
        have hne : some wr.heap.size ≠ (Value.slice A6 ys.length c6).ownBlock := fun e => by have := (World.ownsRow.lt hO.out.row wr.heap.size e.symm).2; omega
        obtain ⟨h1, h2⟩ := hS w' h
        exact ⟨hg.cell h1 hne, hg.cell h2 hne⟩
      have hS1 := hS _ (Below.refl _ _)
      have HCL : Hid (Calls Try.prog 75 #[.slice xA xl.length xc] wb.drew fun e w' => ∃ A' c', e = .returned (.slice A' xl.length c') ∧ OwnStrs w' wr.heap.size (A', c', xl) ∧ Below wb.heap.size wb w') := by
        refine (slices_CloneS xl xA xc wb.drew ((hxw.below bb).below (Below.refl _ _).drew).top hxl).mono ?_
        rintro e w' ⟨A', c', h1, h2, h3⟩
        exact ⟨A', c', h1, own_mono h2 bb.size, (Below.refl _ _).drew.trans h3⟩
      go_region_held3 (fun w' => w'.cell? ⟨wr.heap.size, 0, none⟩ = some (.string xm) ∧ w'.cell? ⟨wr.heap.size, 1, none⟩ = some (.slice xA xl.length xc)) (first | exact hS1 | exact hS _ (Below.refl _ _) | exact hS _ (Below.refl _ _).drew | exact hS _ (bel_alloc b4 _) | go_keep)
        (first
          | (go_at_call 75; with_reducible refine Calls.mono HCL.out ?_; rintro e w4 ⟨A1, c1, rfl, ow, b4⟩; have b1x := bel_trans bb b4; have hS1 := hS w4 b4)
          | (have oB := (own_below hO.out.row b1x).alloc (.cells #[.string xm, .slice A1 xl.length c1] 35); have sB := Seg.lit w4 #[.string xm, .slice A1 xl.length c1] 35; have zB := Nat.le_trans hB (bel_alloc b1x (.cells #[.string xm, .slice A1 xl.length c1] 35)).size; have uB : ∀ u ∈ ([.string xm, .slice A1 xl.length c1] : List Value), u.oneCell' = true := (by simp [Value.oneCell']); have nB : ys.length + 1 ≤ 8388608 := (by omega); refine step_append_seg _ (by rfl) (.tmp 22) (.tmp 29) 25 (by rfl) (w1.heap.size) 35 _ 2 40 Try.underlying25 info_brf rfl (by decide) (by decide) (_) _ _ (by rfl) oB (some ⟨w4.heap.size, 0, none⟩) 1 1 [.string xm, .slice A1 xl.length c1] _ _ (by rfl) sB rfl uB nB zB ?_; intro v2 w5 own2 g2; have R1 := Lib.hid (badd_step (m := xm) hO.out hB b1x ow g2 own2); have R2 := Lib.hid (own_grown_below (hbX.out.trans ((bel_alloc b1x (.cells #[.string xm, .slice A1 xl.length c1] 35)).mono hB)) ((own_below hO.out.row b1x).alloc _) g2 (Nat.le_trans hB (bel_alloc b1x _).size)); have hS1 := hSG _ _ (bel_alloc b4 _) g2))
      all_goals
        have R3 : Hid (pbsOf (ys ++ [(xm, (A1, c1, xl))]) = pbsOf (xs.take (k + 1)) ∧ (ys ++ [(xm, (A1, c1, xl))]).length = k + 1) := ⟨by rw [pbsOf_snoc, hys.out.1, HS.out, pbsOf_snoc], by rw [List.length_append, hyl.out]; rfl⟩
        clear ow own2 g2 b1x b4 hS hS1 hSG bb y0 y1
        go_wp2
        go_roundw
        case rel => exact ⟨k + 1, _, by omega, by go_num, R3, R1, R2⟩
        case measure => simp [intOf]; omega
    · have HPB : Hid (pbsOf ys = pbsOf xs) := by
        have := hys.out.1
        rwa [List.take_of_length_le (by omega)] at this
      have hyl2 : ys.length ≤ 1048576 := by have := hys.out.2; omega
      have hSZ : ∀ w', Below w1.heap.size w1 w' → w'.cell? ⟨w.heap.size, 0, none⟩ = some (.string bm) ∧ w'.cell? ⟨w.heap.size, 1, none⟩ = some (.slice bA bl.length bc) := fun w' h => ⟨(h.cell (p := ⟨w.heap.size, 0, none⟩) (by have := HL1.out; show w.heap.size < _; omega)).trans X0'.out, (h.cell (p := ⟨w.heap.size, 1, none⟩) (by have := HL1.out; show w.heap.size < _; omega)).trans X1'.out⟩
      have hS : ∀ w', Below wr.heap.size wr w' → w'.cell? ⟨w.heap.size, 0, none⟩ = some (.string bm) ∧ w'.cell? ⟨w.heap.size, 1, none⟩ = some (.slice bA bl.length bc) := fun w' h => hSZ w' (bel_trans hbX.out h)
      have hS1 := hS _ (Below.refl _ _)
      have hS1l := hS1.1
      have hS1r := hS1.2
      have HCL : Hid (Calls Try.prog 75 #[.slice bA bl.length bc] wr.drew fun e w' => ∃ A' c', e = .returned (.slice A' bl.length c') ∧ OwnStrs w' wr.heap.size (A', c', bl) ∧ Below wr.heap.size wr w') := by
        refine (slices_CloneS bl bA bc wr.drew ((hbw.below hbr).below (Below.refl _ _).drew).top hbn).mono ?_
        rintro e w' ⟨A', c', h1, h2, h3⟩
        exact ⟨A', c', h1, h2, (Below.refl _ _).drew.trans h3⟩
      go_wp2
      go_region_held3 (fun w' => w'.cell? ⟨w.heap.size, 0, none⟩ = some (.string bm) ∧ w'.cell? ⟨w.heap.size, 1, none⟩ = some (.slice bA bl.length bc)) (first | exact hS1 | exact hS _ (Below.refl _ _) | exact hS _ (Below.refl _ _).drew | exact hS _ (bel_alloc b1x _) | go_keep)
        (first
          | (go_at_call 75; with_reducible refine Calls.mono HCL.out ?_; rintro e w4 ⟨A1, c1, rfl, ow, b1x⟩; have hS1 := hS w4 b1x)
          | (have oB := (own_below hO.out.row b1x).alloc (.cells #[.string bm, .slice A1 bl.length c1] 35); have sB := Seg.lit w4 #[.string bm, .slice A1 bl.length c1] 35; have zB := Nat.le_trans hB (bel_alloc b1x (.cells #[.string bm, .slice A1 bl.length c1] 35)).size; have uB : ∀ u ∈ ([.string bm, .slice A1 bl.length c1] : List Value), u.oneCell' = true := (by simp [Value.oneCell']); have nB : ys.length + 1 ≤ 8388608 := (by omega); refine step_append_seg _ (by rfl) (.tmp 32) (.tmp 39) 25 (by rfl) (w1.heap.size) 35 _ 2 40 Try.underlying25 info_brf rfl (by decide) (by decide) (_) _ _ (by rfl) oB (some ⟨w4.heap.size, 0, none⟩) 1 1 [.string bm, .slice A1 bl.length c1] _ _ (by rfl) sB rfl uB nB zB ?_; intro v2 w5 own2 g2; have R1 := badd_step (m := bm) hO.out hB b1x ow g2 own2; have R2 := own_grown_below (hbX.out.trans ((bel_alloc b1x (.cells #[.string bm, .slice A1 bl.length c1] 35)).mono hB)) ((own_below hO.out.row b1x).alloc _) g2 (Nat.le_trans hB (bel_alloc b1x _).size); have hS1 := hSZ w5 R2))
      all_goals
        have R3 : Hid (pbsOf (ys ++ [(bm, (A1, c1, bl))]) = pbsOf xs ++ [(bm, bl)]) := by rw [Hid, pbsOf_snoc, HPB.out]
        have hok : StrsOkB (ys ++ [(bm, (A1, c1, bl))]) := by
          intro y hy
          rcases List.mem_append.1 hy with h | h
          · exact strsOkB_of HPB.out KO.out y h
          · simp at h; subst h; exact ⟨hbm, hbo⟩
        have hat := R1.outs.at_ hok
        have bal : Below w.heap.size w w5 := bel_trans B1 R2
        have R1w := R1.mono (show w.heap.size ≤ w1.heap.size from B1.size)
        have hyl3 : (ys ++ [(bm, (A1, c1, bl))]).length = ys.length + 1 := List.length_append
        obtain ⟨A5, c5, hv5, h5a, h5b⟩ := own_form R1.row
        subst hv5
        have sg5 := (Seg.of_own R1.row).mono (lo' := 0) (Nat.zero_le _) (Nat.le_refl _)
        have hvd := impl_BriefsValid (ys ++ [(bm, (A1, c1, bl))]) A5 c5 w5 sg5 hat (by rw [hyl3]; unfold maxLen; omega) h5a h5b
        rw [R3.out, hyl3] at hvd
        have HVD := Lib.hid hvd
        have HR1 := Lib.hid R1w
        have HL3 := Lib.hid hyl3
        clear ow own2 g2 b1x hS hS1 hS1l hS1r hSZ hvd R1 R1w sg5 hyl3
        go_wp2_with fail
        refine HVD.out.mono ?_
        rintro e w6 ⟨rfl, b6⟩
        have bal6 := bel_trans bal b6
        cases hv : bvOk (pbsOf xs ++ [(bm, bl)])
        · have HO : Hid (baOk (pbsOf xs) (bm, bl) = false ∧ baOf (pbsOf xs) (bm, bl) = []) := by
            have : baOk (pbsOf xs) (bm, bl) = false := hv
            exact ⟨this, by rw [baOf, this]; rfl⟩
          go_wp2_with fail
          go_ret2
          exact ⟨_, [], by rw [HO.out.1]; rfl, ⟨⟨rfl, .inl ⟨rfl, rfl⟩⟩, fun y hy => by simp at hy⟩, by rw [HO.out.2]; rfl, bal6⟩
        · have HO : Hid (baOk (pbsOf xs) (bm, bl) = true ∧ baOf (pbsOf xs) (bm, bl) = pbsOf xs ++ [(bm, bl)]) := by
            have : baOk (pbsOf xs) (bm, bl) = true := hv
            exact ⟨this, by rw [baOf, this]; rfl⟩
          have OM := Lib.hid (HR1.out.below b6)
          rw [HL3.out] at OM
          go_wp2_with fail
          go_ret2
          exact ⟨_, _, by rw [HO.out.1]; rfl, OM.out, by rw [HO.out.2]; exact R3.out, bal6⟩
end Go.Proofs.Ytgddklafeaoleaa
