/-
  Contract of l91Outline: a short list of strokes.
-/
import Derived.Test.YtbcbpcidfcjibaaDrawK
namespace Go.Proofs.Ytbcbpcidfcjibaa
open Go.RowKit Go.Sort
set_option linter.unusedSimpArgs false
set_option linter.unusedVariables false

def DrewStks (g P n : Nat) (w : World) (e : Ending) (w' : World) : Prop :=
  ∃ A c, ∃ xs : List Stk, e = .returned (.slice A xs.length c) ∧ w'.ownsRow w.heap.size 51 2 (.slice A xs.length c) xs.length (flat stkC xs) ∧ xs.length ≤ n ∧ xs.length ≤ c ∧ c ≤ maxLen ∧ Drew g P w w'
theorem stk_cells : ∀ (n : Nat) (cs : List Value), cs.length = n * 2 → (∀ v ∈ cs, IntI v) → ∃ xs : List Stk, xs.length = n ∧ cs = flat stkC xs
  | 0, cs, hl, _ => ⟨[], rfl, List.eq_nil_of_length_eq_zero (by omega)⟩
  | n + 1, cs, hl, h => by
    match cs, hl, h with
    | u :: v :: cs, hl, h =>
      obtain ⟨xs, h1, h2⟩ := stk_cells n cs (by simp at hl; omega) (fun x hx => h x (by simp [hx]))
      obtain ⟨a, rfl⟩ := h u (by simp)
      obtain ⟨b, rfl⟩ := h v (by simp)
      exact ⟨(a, b) :: xs, by simp [h1], by rw [h2]; rfl⟩
    | [u], hl, h => simp at hl; omega
    | [], hl, h => simp at hl
theorem flat_ints (xs : List Stk) : ∀ v ∈ flat stkC xs, IntI v := by
  intro v hv
  obtain ⟨x, _, hx⟩ := List.mem_flatMap.1 hv
  simp [stkC] at hx
  rcases hx with rfl | rfl
  · exact ⟨_, rfl⟩
  · exact ⟨_, rfl⟩
theorem set_ints {cs : List Value} {i : Nat} {u : Value} (h : ∀ v ∈ cs, IntI v) (hu : IntI u) : ∀ v ∈ cs.set i u, IntI v := by
  intro v hv
  rcases List.mem_or_eq_of_mem_set hv with h1 | rfl
  · exact h v h1
  · exact hu
theorem drew_stks {g P n : Nat} {w w' : World} {A : Option Addr} {m c : Nat} {cs : List Value} (hown : w'.ownsRow w.heap.size 51 2 (.slice A m c) m cs) (hi : ∀ v ∈ cs, IntI v) (hm : m ≤ n) (hc : m ≤ c) (hc2 : c ≤ maxLen) (hd : Drew g P w w') : DrewStks g P n w (.returned (.slice A m c)) w' := by
  obtain ⟨xs, h1, h2⟩ := stk_cells m cs hown.1 hi
  subst h1
  rw [h2] at hown
  exact ⟨A, c, xs, rfl, hown, hm, hc, hc2, hd⟩

set_option maxRecDepth 100000 in
set_option maxHeartbeats 1000000 in
theorem spec_l91Outline (g P most : Nat) (w : World) (h : RdB w g P) (hp : P ≤ 800000) (hm : most ≤ 100) :
    Calls Try.prog 17 #[.pointer (some ⟨g, 0, none⟩), .int .i64 (most : Int)] w (DrewStks g (P + 6 + 2 * most) most w) := by
  have hgw := h.lt
  go_enter Try.func17, Try.ntmps17
  go_wp2_with fail
  refine (pickB g P _ _ (h.below (bel_alloc (Below.refl _ _) _)) (by omega) (by omega) (by omega)).mono ?_
  rintro e w1 ⟨x, rfl, hx0, hx1, d1⟩
  obtain ⟨m, rfl⟩ : ∃ m : Nat, x = (m : Int) := ⟨x.toNat, by omega⟩
  have hmm : m ≤ most := by omega
  have hown0 := d1.kept (World.ownsRow_made (size := 2) (e := 51) w #[] 0 (Nat.le_refl _) (by simp [maxLen]) (by simp)) hgw
  have d1' : Drew g (P + 1) w w1 := ((h.drew).then_ (bel_alloc (Below.refl _ _) _)).trans d1
  clear d1 hx0 hx1
  go_wp2_with fail
  refine (pickB g (P + 1) _ _ d1'.1 (by omega) (by decide) (by decide)).mono ?_
  rintro e w2 ⟨d, rfl, hd0, hd1, d2⟩
  have hown1 := d2.kept hown0 hgw
  have dr2 := d1'.trans d2
  clear d1' d2 hown0
  go_wp2
  go_loopw [5, 7, 8] (fun v dv i wr => ∃ k : Nat, k ≤ m ∧ i = .int .i64 k ∧ (∃ q : Int, dv = .int .i64 q ∧ 0 ≤ q ∧ q < 8) ∧ ∃ xs : List Stk, Hid (xs.length = k) ∧ wr.ownsRow w.heap.size 51 2 v k (flat stkC xs) ∧ Drew g (P + 2 + 2 * k) w wr) (fun _ _ i _ => m - (intOf i).toNat)
  case atStart => exact ⟨0, Nat.zero_le _, rfl, ⟨d, rfl, hd0, hd1⟩, [], rfl, hown1, dr2⟩
  case round =>
    obtain ⟨k, hk, rfl, ⟨q, rfl, hq0, hq1⟩, xs, hxl, hown, dr⟩ := hrel
    by_cases hlt : k < m
    · go_wp2_with fail
      refine (pickB g (P + 2 + 2 * k) _ _ dr.1 (by omega) (by decide) (by decide)).mono ?_
      rintro e w3 ⟨y, rfl, hy0, hy1, d3⟩
      have hown3 := d3.kept hown hgw
      have dr3 := dr.trans d3
      have hB := dr3.size
      clear hown d3 dr
      go_wp2_with (at_builtin; refine append_one w3 (by rfl) (.tmp 21) (.tmp 27) 25 (by rfl) (w.heap.size) 51 _ 2 16 Try.underlying25 info_stk rfl (by decide) (by decide) (u5) _ _ (by rfl) hown3 #[.int .i64 q, .int .i64 (1 + y)] (by rfl) rfl (by simp [Value.oneCell']) (by omega) hB ?_; intro v' w4 hown' hgrow)
      have dr4 := dr3.own hown3 hgrow hgw
      have R1 : w4.ownsRow w.heap.size 51 2 v' (k + 1) (flat stkC (xs ++ [(q, 1 + y)])) := by rw [flat_snoc]; exact hown'
      have R2 : Hid ((xs ++ [(q, 1 + y)]).length = k + 1) := by rw [Hid, List.length_append, hxl.out]; rfl
      have bA := bel_alloc (Below.refl w4.heap.size w4) (.cells #[.int .i64 1, .int .i64 2, .int .i64 3, .int .i64 5, .int .i64 6, .int .i64 7] 3)
      have SL := Seg.lit w4 #[.int .i64 1, .int .i64 2, .int .i64 3, .int .i64 5, .int .i64 6, .int .i64 7] 3
      have hg4 : g < w4.heap.size := by have := dr4.size; omega
      have R3 := own_below R1 bA
      have dr5 := dr4.then_ bA
      clear hown' hgrow hown3 dr3 R1
      go_wp2_with fail
      refine (pickB g (P + 2 + 2 * k + 1) _ _ dr5.1 (by omega) (by decide) (by decide)).mono ?_
      rintro e w6 ⟨z, rfl, hz0, hz1, d6⟩
      obtain ⟨j, rfl⟩ : ∃ j : Nat, z = (j : Int) := ⟨z.toNat, by omega⟩
      have S6 := d6.seg SL hg4
      have R6 := d6.kept R3 hgw
      have dr6 := dr5.trans d6
      have hc : ∃ u : Int, w6.cell? ⟨w4.heap.size, j, none⟩ = some (.int .i64 u) ∧ 1 ≤ u ∧ u ≤ 7 := by
        have hj : j = 0 ∨ j = 1 ∨ j = 2 ∨ j = 3 ∨ j = 4 ∨ j = 5 := by omega
        have hs : ∀ (i : Nat) (u : Value), ([.int .i64 1, .int .i64 2, .int .i64 3, .int .i64 5, .int .i64 6, .int .i64 7] : List Value)[i]? = some u → w6.cell? ⟨w4.heap.size, i, none⟩ = some u := by
          intro i u hu
          obtain ⟨g2, o2, e2, _, h3⟩ := S6.at_ hu
          injection e2 with e2
          injection e2 with e3 e4
          subst e3 e4
          have := h3 i u hu
          rwa [Nat.zero_add] at this
        rcases hj with rfl | rfl | rfl | rfl | rfl | rfl
        · exact ⟨1, hs 0 _ rfl, by decide, by decide⟩
        · exact ⟨2, hs 1 _ rfl, by decide, by decide⟩
        · exact ⟨3, hs 2 _ rfl, by decide, by decide⟩
        · exact ⟨5, hs 3 _ rfl, by decide, by decide⟩
        · exact ⟨6, hs 4 _ rfl, by decide, by decide⟩
        · exact ⟨7, hs 5 _ rfl, by decide, by decide⟩
      obtain ⟨u, hcu, hu1, hu7⟩ := hc
      have ht : Int.tmod (q + u) 8 = (q + u) % 8 := Int.tmod_eq_emod_of_nonneg (by omega)
      have hr0 : 0 ≤ (q + u) % 8 := by omega
      have hr1 : (q + u) % 8 < 8 := by omega
      clear SL S6 R3 dr4 dr5 d6 bA
      go_wp2
      go_roundw
      case rel => exact ⟨k + 1, by omega, by go_num, ⟨_, rfl, by omega, by omega⟩, _, R2, R6, dr6.mono (by omega)⟩
      case measure => simp [intOf]; omega
    · obtain rfl : k = m := by omega
      obtain ⟨A, c, rfl, hc1, hc2⟩ := own_form hown
      have HI := Lib.hid (flat_ints xs)
      generalize flat stkC xs = cs at *
      by_cases h0 : k = 0
      · subst h0
        go_wp2
        go_ret
        exact drew_stks hown HI.out hmm hc1 hc2 (dr.mono (by omega))
      · obtain ⟨b, c', hv, hbl, hbs, _, _⟩ := own_head hown (by omega)
        injection hv with hA _ hc'
        subst hA hc'
        have hpos : (0 : Int) < (k : Int) := by omega
        go_wp2_with fail
        refine (pickB g (P + 2 + 2 * k) _ _ dr.1 (by omega) (by decide) (by decide)).mono ?_
        rintro e w3 ⟨y, rfl, hy0, hy1, d3⟩
        have own3 := d3.kept hown hgw
        have dr3 := dr.trans d3
        clear hown d3 dr
        have hlen : cs.length = k * 2 := own3.1
        cases z0 : (y == 0)
        · cases z1 : (y == 1)
          · cases z2 : (y == 2)
            · go_wp2
              go_ret
              exact drew_stks own3 HI.out hmm hc1 hc2 (dr3.mono (by omega))
            · have e1 : (k : Int) - 1 = ((k - 1 : Nat) : Int) := by omega
              have f1 := (own3.cellAt ((k - 1) * 2 + 1) (by omega)).trans (List.getElem?_eq_getElem (by omega))
              have g1 := own3.frozenAt ((k - 1) * 2 + 1)
              have hst := (own3.stored ((k - 1) * 2 + 1) (.int .i64 4)).1
              have dS := dr3.setOwn (o := (k - 1) * 2 + 1) hbl hgw (.int .i64 4)
              have HI2 := Lib.hid (set_ints (i := (k - 1) * 2 + 1) HI.out ⟨4, rfl⟩)
              clear own3 dr3
              go_wp2
              go_ret
              exact drew_stks hst HI2.out hmm hc1 hc2 (dS.mono (by omega))
          · have e1 : (k : Int) - 1 = ((k - 1 : Nat) : Int) := by omega
            obtain ⟨v0, hv0⟩ : ∃ v, cs[0]? = some v := ⟨_, List.getElem?_eq_getElem (by omega)⟩
            obtain ⟨a, rfl⟩ := HI.out v0 (List.mem_of_getElem? hv0)
            have f0 := (own3.cellAt 0 (by omega)).trans hv0
            have f1 := (own3.cellAt ((k - 1) * 2) (by omega)).trans (List.getElem?_eq_getElem (by omega))
            have g1 := own3.frozenAt ((k - 1) * 2)
            have hst := (own3.stored ((k - 1) * 2) (.int .i64 a)).1
            have dS := dr3.setOwn (o := (k - 1) * 2) hbl hgw (.int .i64 a)
            have HI2 := Lib.hid (set_ints (i := (k - 1) * 2) HI.out ⟨a, rfl⟩)
            clear own3 dr3
            go_wp2
            go_ret
            exact drew_stks hst HI2.out hmm hc1 hc2 (dS.mono (by omega))
        · go_wp2_with fail
          refine (spec_l91Stroke g (P + 2 + 2 * k + 1) _ dr3.1 (by omega)).mono ?_
          rintro e w4 ⟨a, s, rfl, d4⟩
          have own4 := d4.kept own3 hgw
          have dr4 := dr3.trans d4
          have f0 := (own4.cellAt 0 (by omega)).trans (List.getElem?_eq_getElem (by omega))
          have f1 := (own4.cellAt 1 (by omega)).trans (List.getElem?_eq_getElem (by omega))
          have g0 := own4.frozenAt 0
          have g1 := own4.frozenAt 1
          have hst := ((own4.stored 0 (.int .i64 a)).1.stored 1 (.int .i64 s)).1
          have dS := (dr4.setOwn (o := 0) hbl hgw (.int .i64 a)).setOwn (o := 1) hbl hgw (.int .i64 s)
          have HI2 := Lib.hid (set_ints (i := 1) (set_ints (i := 0) HI.out ⟨a, rfl⟩) ⟨s, rfl⟩)
          clear own3 dr3 own4 dr4 d4
          go_wp2
          go_ret
          exact drew_stks hst HI2.out hmm hc1 hc2 (dS.mono (by omega))
end Go.Proofs.Ytbcbpcidfcjibaa
