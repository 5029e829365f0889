/-
  Contract of l91Stroke: a stroke of whatever ints.
-/
import Derived.Test.YtbcbpcidfcjibaaDrawS
import Derived.Test.YtbcbpcidfcjibaaInv
import Derived.Test.YtbcbpcidfcjibaaJoin
import Derived.IntWalk
import Derived.Deep.DrawnRows
namespace Go.Proofs.Ytbcbpcidfcjibaa
open Go.RowKit Go.Sort
set_option linter.unusedSimpArgs false
set_option linter.unusedVariables false
attribute [local go_sem ↓] Go.wp_at_zero Go.wp_at_succ

def IntI (v : Value) : Prop := ∃ z : Int, v = .int .i64 z
def IdxI (v : Value) : Prop := ∃ k : Nat, v = .int .i64 (k : Int) ∧ k < 3
def CellI (w0 w : World) (v : Value) : Prop := ∃ b o : Nat, ∃ z : Int, v = .pointer (some ⟨b, o, none⟩) ∧ w0.heap.size < b ∧ b < w.heap.size ∧ w.cell? ⟨b, o, none⟩ = some (.int .i64 z)
def RowI (w0 w : World) (v : Value) : Prop := ∃ b : Nat, v = .slice (some ⟨b, 0, none⟩) 3 3 ∧ w0.heap.size < b ∧ b < w.heap.size ∧ ∀ k : Nat, k < 3 → ∃ z : Int, w.cell? ⟨b, k, none⟩ = some (.int .i64 z)
theorem CellI.keep {w0 w w' : World} {g : Nat} {v : Value} (h : CellI w0 w v) (hg : w.grownBy w' (some g)) (hlt : g < w0.heap.size) : CellI w0 w' v := by
  obtain ⟨b, o, z, h1, h2, h3, h4⟩ := h
  exact ⟨b, o, z, h1, h2, Nat.lt_of_lt_of_le h3 hg.size, (World.cell?_of_block (a := ⟨b, o, none⟩) (hg.block b h3 (by intro e; injection e; omega))).trans h4⟩
theorem RowI.keep {w0 w w' : World} {g : Nat} {v : Value} (h : RowI w0 w v) (hg : w.grownBy w' (some g)) (hlt : g < w0.heap.size) : RowI w0 w' v := by
  obtain ⟨b, h1, h2, h3, h4⟩ := h
  refine ⟨b, h1, h2, Nat.lt_of_lt_of_le h3 hg.size, fun k hk => ?_⟩
  obtain ⟨z, hz⟩ := h4 k hk
  exact ⟨z, (World.cell?_of_block (a := ⟨b, k, none⟩) (hg.block b h3 (by intro e; injection e; omega))).trans hz⟩
structure StrF (g P : Nat) (w0 : World) (L : Nat → Bool) (t6 t7 t8 t9 t10 t11 t12 t13 t14 t15 t16 : Value) (w : World) : Prop where
  dr : Drew g (P + 1 + (L 2).toNat + (L 7).toNat) w0 w
  box : ∃ c0 c1 : Int, w.ownsRow w0.heap.size 51 2 (.slice (some ⟨w0.heap.size, 0, none⟩) 1 1) 1 [.int .i64 c0, .int .i64 c1]
  sz : w0.heap.size < w.heap.size
  fin : L 11 = true → ∀ j, j < 11 → L j = true
  a0 : L 0 = true → L 11 = false → RowI w0 w t6
  a1 : L 1 = true → t7 = .pointer (some ⟨g, 0, none⟩)
  a2 : L 2 = true → IdxI t8
  a3 : L 3 = true → L 11 = false → CellI w0 w t9
  a4 : L 4 = true → IntI t10
  a5 : L 5 = true → L 11 = false → RowI w0 w t11
  a6 : L 6 = true → t12 = .pointer (some ⟨g, 0, none⟩)
  a7 : L 7 = true → IdxI t13
  a8 : L 8 = true → L 11 = false → CellI w0 w t14
  a9 : L 9 = true → IntI t15
  a10 : L 10 = true → ∃ d s : Int, t16 = .agg #[.int .i64 d, .int .i64 s]
def StrI (g P : Nat) (w0 : World) (n : Int) (L : Nat → Bool) (a : Act) (w : World) : Prop :=
  ∃ t6 t7 t8 t9 t10 t11 t12 t13 t14 t15 t16 : Value, a = { tmps := #[.pointer (some ⟨g, 0, none⟩), undef, .pointer (some ⟨w0.heap.size, 0, none⟩), .pointer (some ⟨g, 0, none⟩), .int .i64 n, .bool true, t6, t7, t8, t9, t10, t11, t12, t13, t14, t15, t16, undef, undef, undef, undef, undef, undef], defers := [] } ∧
    StrF g P w0 L t6 t7 t8 t9 t10 t11 t12 t13 t14 t15 t16 w

set_option maxRecDepth 100000 in
theorem spec_l91Stroke (g P : Nat) (w : World) (h : RdB w g P) (hp : P ≤ 900000) :
    Calls Try.prog 34 #[.pointer (some ⟨g, 0, none⟩)] w fun e w' => ∃ d s : Int, e = .returned (.agg #[.int .i64 d, .int .i64 s]) ∧ Drew g (P + 3) w w' := by
  have hgw := h.lt
  have bW := bel_alloc (Below.refl w.heap.size w) (.cells #[.int .i64 0, .int .i64 0] 51)
  go_enter Try.func34, Try.ntmps34
  go_wp2_with fail
  refine (pickB g P _ _ (h.below bW) (by omega) (by decide) (by decide)).mono ?_
  rintro e w1 ⟨n, rfl, hn0, hn1, d1⟩
  have dr1 := (h.drew.then_ bW).trans d1
  have own0 := d1.kept (World.ownsRow_lit (size := 2) (e := 51) (base := w.heap.size) w #[.int .i64 0, .int .i64 0] 1 (Nat.le_refl _) (by simp [maxLen]) (by simp)) hgw
  cases hz : (n == 0)
  · go_wp2_with fail
    refine (pickB g (P + 1) _ _ dr1.1 (by omega) (by decide) (by decide)).mono ?_
    rintro e w2 ⟨x, rfl, hx0, hx1, d2⟩
    have dr2 := dr1.trans d2
    have own2 := d2.kept own0 hgw
    go_wp2_with fail
    refine (pickB g (P + 1 + 1) _ _ dr2.1 (by omega) (by decide) (by decide)).mono ?_
    rintro e w3 ⟨y, rfl, hy0, hy1, d3⟩
    have dr3 := dr2.trans d3
    have own3 := d3.kept own2 hgw
    have f0 := own3.cellAt 0 (by decide)
    have f1 := own3.cellAt 1 (by decide)
    have g0 := own3.frozenAt 0
    have g1 := own3.frozenAt 1
    have dr4 := (dr3.setOwn (o := 0) (Nat.le_refl _) hgw (.int .i64 x)).setOwn (o := 1) (Nat.le_refl _) hgw (.int .i64 (1 + y))
    clear own0 own2 own3 bW d1 d2 d3 dr1 dr2 dr3 h
    go_wp2
    exact bodyPost_ret (v := .agg #[.int .i64 x, .int .i64 (1 + y)]) (by simp [results, Try.results34, go_sem, f0, f1, g0, g1]) rfl ⟨x, 1 + y, rfl, dr4⟩
  · go_wp2_with fail
    refine wp_region_inv (by rfl) (StrI g P w n) (by kernel_rfl) ?_ ?_ ?_
    · exact ⟨undef, undef, undef, undef, undef, undef, undef, undef, undef, undef, undef, rfl, ⟨dr1.then_ (Below.refl _ _).drew, ⟨0, 0, own0.drew⟩, Nat.lt_of_lt_of_le (by simp) d1.size, fun h => by simp at h, fun h => by simp at h, fun h => by simp at h, fun h => by simp at h, fun h => by simp at h, fun h => by simp at h, fun h => by simp at h, fun h => by simp at h, fun h => by simp at h, fun h => by simp at h, fun h => by simp at h, fun h => by simp at h⟩⟩
    · rintro L a w' hall ⟨t6, t7, t8, t9, t10, t11, t12, t13, t14, t15, t16, rfl, F⟩
      obtain ⟨c0, c1, hb⟩ := F.box
      have f0 := hb.cellAt 0 (by decide)
      have f1 := hb.cellAt 1 (by decide)
      have g0 := hb.frozenAt 0
      have g1 := hb.frozenAt 1
      have dr := F.dr.mono (P' := P + 3) (by have := Bool.toNat_le (L 2); have := Bool.toNat_le (L 7); omega)
      clear own0 bW d1 dr1 h hb F
      go_wp2
      exact bodyPost_ret (v := .agg #[.int .i64 c0, .int .i64 c1]) (by simp [results, Try.results34, go_sem, f0, f1, g0, g1]) rfl ⟨c0, c1, rfl, dr⟩
    · intro L a w' i hi hL hN hI
      simp only [List.size_toArray, List.length_cons, List.length_nil] at hi
      have hc : i = 0 ∨ i = 1 ∨ i = 2 ∨ i = 3 ∨ i = 4 ∨ i = 5 ∨ i = 6 ∨ i = 7 ∨ i = 8 ∨ i = 9 ∨ i = 10 ∨ i = 11 := by omega
      obtain ⟨t6, t7, t8, t9, t10, t11, t12, t13, t14, t15, t16, rfl, F⟩ := hI
      clear own0 bW d1 dr1 h hi
      rcases hc with rfl | rfl | rfl | rfl | rfl | rfl | rfl | rfl | rfl | rfl | rfl | rfl <;> simp [needB, Region.binds] at hN <;> refine wpOp_of_list (by rfl) ?_
      · have h11 : L 11 = false := by cases h : L 11 with | false => rfl | true => rw [F.fin h 0 (by decide)] at hL; cases hL
        have bA := bel_alloc (Below.refl w'.heap.size w') (.cells #[.int .i64 (-1), .int .i64 (8), .int .i64 (0)] 3)
        have G := grown_below (g := g) bA
        obtain ⟨c0, c1, hb⟩ := F.box
        have hb2 := hb.alloc (.cells #[.int .i64 (-1), .int .i64 (8), .int .i64 (0)] 3)
        have R : RowI w (w'.alloc (.cells #[.int .i64 (-1), .int .i64 (8), .int .i64 (0)] 3)) (.slice (some ⟨w'.heap.size, 0, none⟩) 3 3) := ⟨w'.heap.size, rfl, F.sz, by simp, fun k hk => by
          have hk3 : k = 0 ∨ k = 1 ∨ k = 2 := by omega
          rcases hk3 with rfl | rfl | rfl
          · exact ⟨_, box_cell _ _ _ 0⟩
          · exact ⟨_, box_cell _ _ _ 1⟩
          · exact ⟨_, box_cell _ _ _ 2⟩⟩
        have dr2 := F.dr.then_ bA
        have sz2 := Nat.lt_of_lt_of_le F.sz bA.size
        clear hb bA
        go_wp2
        exact ⟨_, _, _, _, _, _, _, _, _, _, _, rfl, { dr := dr2, box := ⟨c0, c1, hb2⟩, sz := sz2, fin := fun h => absurd (show L 11 = true from h) (by rw [h11]; decide), a0 := fun _ _ => R, a1 := fun h => F.a1 h, a2 := fun h => F.a2 h, a3 := fun h h' => (F.a3 h h').keep G hgw, a4 := fun h => F.a4 h, a5 := fun h h' => (F.a5 h h').keep G hgw, a6 := fun h => F.a6 h, a7 := fun h => F.a7 h, a8 := fun h h' => (F.a8 h h').keep G hgw, a9 := fun h => F.a9 h, a10 := fun h => F.a10 h }⟩
      · have h11 : L 11 = false := by cases h : L 11 with | false => rfl | true => rw [F.fin h 1 (by decide)] at hL; cases hL
        go_wp2
        exact ⟨_, _, _, _, _, _, _, _, _, _, _, rfl, { dr := F.dr, box := F.box, sz := F.sz, fin := fun h => absurd (show L 11 = true from h) (by rw [h11]; decide), a0 := fun h h' => F.a0 h h', a1 := fun _ => rfl, a2 := fun h => F.a2 h, a3 := fun h h' => F.a3 h h', a4 := fun h => F.a4 h, a5 := fun h h' => F.a5 h h', a6 := fun h => F.a6 h, a7 := fun h => F.a7 h, a8 := fun h h' => F.a8 h h', a9 := fun h => F.a9 h, a10 := fun h => F.a10 h }⟩
      · have h11 : L 11 = false := by cases h : L 11 with | false => rfl | true => rw [F.fin h 2 (by decide)] at hL; cases hL
        have e1 := F.a1 hN
        subst e1
        have hR : RdB w' g (P + 1 + (L 7).toNat) := by have h5 := F.dr.1; rw [hL] at h5; simpa using h5
        have hPP : P + 1 + (L 7).toNat ≤ 1000000 := by have := Bool.toNat_le (L 2); have := Bool.toNat_le (L 7); omega
        obtain ⟨c0, c1, hb⟩ := F.box
        go_wp2_with fail
        refine (pickB g (P + 1 + (L 7).toNat) 3 w' hR hPP (by decide) (by decide)).mono ?_
        rintro e w2 ⟨x, rfl, hx0, hx1, d2⟩
        have hb2 := d2.kept hb hgw
        have dr2 := F.dr.trans d2
        have G := d2.2
        have sz2 := Nat.lt_of_lt_of_le F.sz d2.size
        have hx : IdxI (.int .i64 x) := ⟨x.toNat, by rw [Int.toNat_of_nonneg hx0], by omega⟩
        clear hb d2 hR
        go_wp2
        exact ⟨_, _, _, _, _, _, _, _, _, _, _, rfl, { dr := dr2.mono (by simp [updB] <;> omega), box := ⟨c0, c1, hb2⟩, sz := sz2, fin := fun h => absurd (show L 11 = true from h) (by rw [h11]; decide), a0 := fun h h' => (F.a0 h h').keep G hgw, a1 := fun h => F.a1 h, a2 := fun _ => hx, a3 := fun h h' => (F.a3 h h').keep G hgw, a4 := fun h => F.a4 h, a5 := fun h h' => (F.a5 h h').keep G hgw, a6 := fun h => F.a6 h, a7 := fun h => F.a7 h, a8 := fun h h' => (F.a8 h h').keep G hgw, a9 := fun h => F.a9 h, a10 := fun h => F.a10 h }⟩
      · have h11 : L 11 = false := by cases h : L 11 with | false => rfl | true => rw [F.fin h 3 (by decide)] at hL; cases hL
        obtain ⟨b, rfl, h1, h2, h3⟩ := F.a0 hN.1 h11
        obtain ⟨k, rfl, hk⟩ := F.a2 hN.2
        have hk' : (k : Int) < 3 := by omega
        go_wp2
        exact ⟨_, _, _, _, _, _, _, _, _, _, _, rfl, { dr := F.dr, box := F.box, sz := F.sz, fin := fun h => absurd (show L 11 = true from h) (by rw [h11]; decide), a0 := fun h h' => F.a0 h h', a1 := fun h => F.a1 h, a2 := fun h => F.a2 h, a3 := fun _ _ => by obtain ⟨z, hz⟩ := h3 k hk; exact ⟨b, k, z, rfl, h1, h2, hz⟩, a4 := fun h => F.a4 h, a5 := fun h h' => F.a5 h h', a6 := fun h => F.a6 h, a7 := fun h => F.a7 h, a8 := fun h h' => F.a8 h h', a9 := fun h => F.a9 h, a10 := fun h => F.a10 h }⟩
      · have h11 : L 11 = false := by cases h : L 11 with | false => rfl | true => rw [F.fin h 4 (by decide)] at hL; cases hL
        obtain ⟨b, o, z, rfl, h1, h2, h3⟩ := F.a3 hN h11
        go_wp2
        exact ⟨_, _, _, _, _, _, _, _, _, _, _, rfl, { dr := F.dr, box := F.box, sz := F.sz, fin := fun h => absurd (show L 11 = true from h) (by rw [h11]; decide), a0 := fun h h' => F.a0 h h', a1 := fun h => F.a1 h, a2 := fun h => F.a2 h, a3 := fun h h' => F.a3 h h', a4 := fun _ => ⟨z, rfl⟩, a5 := fun h h' => F.a5 h h', a6 := fun h => F.a6 h, a7 := fun h => F.a7 h, a8 := fun h h' => F.a8 h h', a9 := fun h => F.a9 h, a10 := fun h => F.a10 h }⟩
      · have h11 : L 11 = false := by cases h : L 11 with | false => rfl | true => rw [F.fin h 5 (by decide)] at hL; cases hL
        have bA := bel_alloc (Below.refl w'.heap.size w') (.cells #[.int .i64 (0), .int .i64 (4), .int .i64 (1)] 3)
        have G := grown_below (g := g) bA
        obtain ⟨c0, c1, hb⟩ := F.box
        have hb2 := hb.alloc (.cells #[.int .i64 (0), .int .i64 (4), .int .i64 (1)] 3)
        have R : RowI w (w'.alloc (.cells #[.int .i64 (0), .int .i64 (4), .int .i64 (1)] 3)) (.slice (some ⟨w'.heap.size, 0, none⟩) 3 3) := ⟨w'.heap.size, rfl, F.sz, by simp, fun k hk => by
          have hk3 : k = 0 ∨ k = 1 ∨ k = 2 := by omega
          rcases hk3 with rfl | rfl | rfl
          · exact ⟨_, box_cell _ _ _ 0⟩
          · exact ⟨_, box_cell _ _ _ 1⟩
          · exact ⟨_, box_cell _ _ _ 2⟩⟩
        have dr2 := F.dr.then_ bA
        have sz2 := Nat.lt_of_lt_of_le F.sz bA.size
        clear hb bA
        go_wp2
        exact ⟨_, _, _, _, _, _, _, _, _, _, _, rfl, { dr := dr2, box := ⟨c0, c1, hb2⟩, sz := sz2, fin := fun h => absurd (show L 11 = true from h) (by rw [h11]; decide), a0 := fun h h' => (F.a0 h h').keep G hgw, a1 := fun h => F.a1 h, a2 := fun h => F.a2 h, a3 := fun h h' => (F.a3 h h').keep G hgw, a4 := fun h => F.a4 h, a5 := fun _ _ => R, a6 := fun h => F.a6 h, a7 := fun h => F.a7 h, a8 := fun h h' => (F.a8 h h').keep G hgw, a9 := fun h => F.a9 h, a10 := fun h => F.a10 h }⟩
      · have h11 : L 11 = false := by cases h : L 11 with | false => rfl | true => rw [F.fin h 6 (by decide)] at hL; cases hL
        go_wp2
        exact ⟨_, _, _, _, _, _, _, _, _, _, _, rfl, { dr := F.dr, box := F.box, sz := F.sz, fin := fun h => absurd (show L 11 = true from h) (by rw [h11]; decide), a0 := fun h h' => F.a0 h h', a1 := fun h => F.a1 h, a2 := fun h => F.a2 h, a3 := fun h h' => F.a3 h h', a4 := fun h => F.a4 h, a5 := fun h h' => F.a5 h h', a6 := fun _ => rfl, a7 := fun h => F.a7 h, a8 := fun h h' => F.a8 h h', a9 := fun h => F.a9 h, a10 := fun h => F.a10 h }⟩
      · have h11 : L 11 = false := by cases h : L 11 with | false => rfl | true => rw [F.fin h 7 (by decide)] at hL; cases hL
        have e1 := F.a6 hN.1
        subst e1
        have hR : RdB w' g (P + 1 + (L 2).toNat) := by have h5 := F.dr.1; rw [hL] at h5; simpa using h5
        have hPP : P + 1 + (L 2).toNat ≤ 1000000 := by have := Bool.toNat_le (L 2); have := Bool.toNat_le (L 7); omega
        obtain ⟨c0, c1, hb⟩ := F.box
        go_wp2_with fail
        refine (pickB g (P + 1 + (L 2).toNat) 3 w' hR hPP (by decide) (by decide)).mono ?_
        rintro e w2 ⟨x, rfl, hx0, hx1, d2⟩
        have hb2 := d2.kept hb hgw
        have dr2 := F.dr.trans d2
        have G := d2.2
        have sz2 := Nat.lt_of_lt_of_le F.sz d2.size
        have hx : IdxI (.int .i64 x) := ⟨x.toNat, by rw [Int.toNat_of_nonneg hx0], by omega⟩
        clear hb d2 hR
        go_wp2
        exact ⟨_, _, _, _, _, _, _, _, _, _, _, rfl, { dr := dr2.mono (by simp [updB] <;> omega), box := ⟨c0, c1, hb2⟩, sz := sz2, fin := fun h => absurd (show L 11 = true from h) (by rw [h11]; decide), a0 := fun h h' => (F.a0 h h').keep G hgw, a1 := fun h => F.a1 h, a2 := fun h => F.a2 h, a3 := fun h h' => (F.a3 h h').keep G hgw, a4 := fun h => F.a4 h, a5 := fun h h' => (F.a5 h h').keep G hgw, a6 := fun h => F.a6 h, a7 := fun _ => hx, a8 := fun h h' => (F.a8 h h').keep G hgw, a9 := fun h => F.a9 h, a10 := fun h => F.a10 h }⟩
      · have h11 : L 11 = false := by cases h : L 11 with | false => rfl | true => rw [F.fin h 8 (by decide)] at hL; cases hL
        obtain ⟨b, rfl, h1, h2, h3⟩ := F.a5 hN.1 h11
        obtain ⟨k, rfl, hk⟩ := F.a7 hN.2
        have hk' : (k : Int) < 3 := by omega
        go_wp2
        exact ⟨_, _, _, _, _, _, _, _, _, _, _, rfl, { dr := F.dr, box := F.box, sz := F.sz, fin := fun h => absurd (show L 11 = true from h) (by rw [h11]; decide), a0 := fun h h' => F.a0 h h', a1 := fun h => F.a1 h, a2 := fun h => F.a2 h, a3 := fun h h' => F.a3 h h', a4 := fun h => F.a4 h, a5 := fun h h' => F.a5 h h', a6 := fun h => F.a6 h, a7 := fun h => F.a7 h, a8 := fun _ _ => by obtain ⟨z, hz⟩ := h3 k hk; exact ⟨b, k, z, rfl, h1, h2, hz⟩, a9 := fun h => F.a9 h, a10 := fun h => F.a10 h }⟩
      · have h11 : L 11 = false := by cases h : L 11 with | false => rfl | true => rw [F.fin h 9 (by decide)] at hL; cases hL
        obtain ⟨b, o, z, rfl, h1, h2, h3⟩ := F.a8 hN h11
        go_wp2
        exact ⟨_, _, _, _, _, _, _, _, _, _, _, rfl, { dr := F.dr, box := F.box, sz := F.sz, fin := fun h => absurd (show L 11 = true from h) (by rw [h11]; decide), a0 := fun h h' => F.a0 h h', a1 := fun h => F.a1 h, a2 := fun h => F.a2 h, a3 := fun h h' => F.a3 h h', a4 := fun h => F.a4 h, a5 := fun h h' => F.a5 h h', a6 := fun h => F.a6 h, a7 := fun h => F.a7 h, a8 := fun h h' => F.a8 h h', a9 := fun _ => ⟨z, rfl⟩, a10 := fun h => F.a10 h }⟩
      · have h11 : L 11 = false := by cases h : L 11 with | false => rfl | true => rw [F.fin h 10 (by decide)] at hL; cases hL
        obtain ⟨z, rfl⟩ := F.a4 hN.1
        obtain ⟨y, rfl⟩ := F.a9 hN.2
        go_wp2
        exact ⟨_, _, _, _, _, _, _, _, _, _, _, rfl, { dr := F.dr, box := F.box, sz := F.sz, fin := fun h => absurd (show L 11 = true from h) (by rw [h11]; decide), a0 := fun h h' => F.a0 h h', a1 := fun h => F.a1 h, a2 := fun h => F.a2 h, a3 := fun h h' => F.a3 h h', a4 := fun h => F.a4 h, a5 := fun h h' => F.a5 h h', a6 := fun h => F.a6 h, a7 := fun h => F.a7 h, a8 := fun h h' => F.a8 h h', a9 := fun h => F.a9 h, a10 := fun _ => ⟨z, y, rfl⟩ }⟩
      · have h10 : L 10 = true := by simp [hN]
        obtain ⟨d, s, rfl⟩ := F.a10 h10
        obtain ⟨c0, c1, hb⟩ := F.box
        have f0 := hb.cellAt 0 (by decide)
        have f1 := hb.cellAt 1 (by decide)
        have g0 := hb.frozenAt 0
        have g1 := hb.frozenAt 1
        have hb2 := ((hb.stored 0 (.int .i64 d)).1.stored 1 (.int .i64 s)).1
        have dr2 := (F.dr.setOwn (o := 0) (Nat.le_refl _) hgw (.int .i64 d)).setOwn (o := 1) (Nat.le_refl _) hgw (.int .i64 s)
        have FIN : updB L 11 11 = true → ∀ j, j < 11 → updB L 11 j = true := by
          intro _ j hj
          have hj2 : j = 0 ∨ j = 1 ∨ j = 2 ∨ j = 3 ∨ j = 4 ∨ j = 5 ∨ j = 6 ∨ j = 7 ∨ j = 8 ∨ j = 9 ∨ j = 10 := by omega
          rcases hj2 with rfl | rfl | rfl | rfl | rfl | rfl | rfl | rfl | rfl | rfl | rfl <;> simp [updB, hN]
        clear hb
        go_wp2
        exact ⟨_, _, _, _, _, _, _, _, _, _, _, rfl, { dr := dr2, box := ⟨d, s, hb2⟩, sz := by simpa [World.setCell] using F.sz, fin := FIN, a0 := fun _ h' => by simp [updB] at h', a1 := fun h => F.a1 h, a2 := fun h => F.a2 h, a3 := fun _ h' => by simp [updB] at h', a4 := fun h => F.a4 h, a5 := fun _ h' => by simp [updB] at h', a6 := fun h => F.a6 h, a7 := fun h => F.a7 h, a8 := fun _ h' => by simp [updB] at h', a9 := fun h => F.a9 h, a10 := fun h => F.a10 h }⟩
end Go.Proofs.Ytbcbpcidfcjibaa
