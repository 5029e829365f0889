/-
  Walk of the law FnClashes.
-/
import Derived.Test.YtoidjdbhdkbfhaaClashL
import Derived.Test.YtoidjdbhdkbfhaaDrawD
import Derived.Test.YtoidjdbhdkbfhaaMem2
import Derived.Test.YtoidjdbhdkbfhaaOpen
import Derived.IntWalk
import Derived.Deep.RegionHeld3
namespace Go.Proofs.Ytoidjdbhdkbfhaa
open Go.RowKit Go.Sort
set_option linter.unusedSimpArgs false
set_option linter.unusedVariables false

theorem strs_oneC (xs : List Str) : ∀ u ∈ strs xs, u.oneCell' = true := by
  intro u hu
  simp only [strs, List.mem_map] at hu
  obtain ⟨x, _, rfl⟩ := hu
  rfl
set_option maxRecDepth 100000 in
set_option maxHeartbeats 4000000 in
theorem walk_FnClashes (r0 r1 : Row UInt8) (w : World) (h0 : RowOk w byteC (fun _ => True) r0) (h1 : RowOk w byteC (fun _ => True) r1) : Calls Try.prog 6 #[rowV r0, rowV r1] w fun e w' => e = .returned (.bool true) ∧ Below w.heap.size w w' := by
  obtain ⟨A, c, l⟩ := r0
  obtain ⟨hw, _, hc, hm⟩ := h0
  obtain ⟨A1, c1, l1⟩ := r1
  obtain ⟨_, _, hc1, hm1⟩ := h1
  simp only at hw hc hm hc1 hm1
  have hm' : c ≤ 9223372036854775807 := hm
  have hm1' : c1 ≤ 9223372036854775807 := hm1
  show Calls Try.prog 6 #[.slice A l.length c, .slice A1 l1.length c1] w _
  by_cases hl : (1048576 : Int) < l.length
  · go_enter Try.func6, Try.ntmps6
    go_wp2
    go_ret
    exact ⟨rfl, Below.refl _ _⟩
  by_cases hl1 : (1048576 : Int) < l1.length
  · go_enter Try.func6, Try.ntmps6
    go_wp2
    go_ret
    exact ⟨rfl, Below.refl _ _⟩
  go_enter Try.func6, Try.ntmps6
  go_wp2_with fail
  refine (spec_DrawDictionaryClashes l A c _ hw hc hm).mono ?_
  rintro e w1 ⟨A2, c2, A3, c3, ss, ws, rfl, sg, sw, hok, hwo, hn8, hn10, h3a, h3b, b1⟩
  have hnm : ss.length ≤ maxLen := Nat.le_trans hn8 (by decide)
  have hwm : ws.length ≤ maxLen := Nat.le_trans hn10 (by decide)
  have h3b' : c3 ≤ 9223372036854775807 := h3b
  go_wp2_with fail
  refine (impl_DictionaryClashes ss ws A2 A3 c2 c3 _ sg sw hok hwo hnm hwm h3a h3b).mono ?_
  rintro e w2 ⟨rfl, b2⟩
  have sg := (sg.below b2).top
  have sw := (sw.below b2).top
  have b02 := bel_trans b1 b2
  go_wp2_with fail
  refine (spec_DictionaryClashes ss ws A2 A3 c2 c3 _ sg sw hok hwo hnm hwm).mono ?_
  rintro e w3 ⟨rfl, b3⟩
  have sg := (sg.below b3).top
  have sw := (sw.below b3).top
  have b03 := bel_trans b02 b3
  cases hbb : bothOk ss ws
  · have hv : clashOf ss ws = -1 := by rw [clashOf, hbb]; rfl
    rw [hv]
    clear hv
    go_wp2
    go_ret
    exact ⟨rfl, b03⟩
  have hC : clashOf ss ws = clashTo ss ws ws.length := by rw [clashOf, if_pos hbb]
  have hCl := clashTo_le ss ws ws.length
  have hC0 : 0 ≤ clashOf ss ws := by rw [hC]; exact hCl.1
  have hC1 : clashOf ss ws ≤ 400 := by rw [hC]; have := hCl.2 (by omega); omega
  have HSUM : Hid (sumTo (sumAt ss ws ws.length) ws.length = 2 * clashOf ss ws) := by rw [Hid, hC]; exact sum_clash ss ws
  have HREST := Lib.hid (fun (k : Nat) (x : Str) (hx : ws[k]? = some x) => rest_le hx hbb)
  have HZ : Hid (ws.length = 0 → clashOf ss ws = 0) := fun h => by rw [hC, h]; rfl
  have HREAD := Lib.hid (fun (os : List Stk) (ho : outOk os = true) => (show readOf ss ws os = readTo ss ws os ws.length by rw [readOf, readOk, hbb, ho]; rfl))
  clear hC hCl
  generalize hCC : clashOf ss ws = C at *
  have HCC := Lib.hid hCC
  clear hCC
  go_wp2
  go_loopw [9, 10] (fun v i wr => ∃ k : Nat, ∃ z : Int, k ≤ ws.length ∧ i = .int .i64 k ∧ v = .int .i64 z ∧ -10 ≤ z ∧ z ≤ 400 ∧ Hid (z = sumTo (sumAt ss ws ws.length) k) ∧ Below w3.heap.size w3 wr) (fun _ i _ => ws.length - (intOf i).toNat)
  case atStart => exact ⟨0, 0, Nat.zero_le _, rfl, rfl, by decide, by decide, rfl, Below.refl _ _⟩
  case round =>
    obtain ⟨k, z, hk, rfl, rfl, hz0, hz1, hz, hb⟩ := hrel
    by_cases hlt : k < ws.length
    · obtain ⟨s, hs'⟩ := get_lt hlt
      have HS := Lib.hid (strAt_eq hs')
      have hsm := hwo.at_ hs'
      obtain ⟨g, o, rfl, hg, hcx⟩ := (sw.below hb).at_ (strs_at hs')
      have hcell := hcx k _ (strs_at hs')
      have hkd : decide ((k : Int) < (ws.length : Int)) = true := decide_eq_true (by omega)
      have hkdn : decide (k < ws.length) = true := decide_eq_true hlt
      have hbd := sum_bd ss ws ws.length (k + 1)
      have hst : sumTo (sumAt ss ws ws.length) (k + 1) = sumTo (sumAt ss ws ws.length) k + sumAt ss ws ws.length k := rfl
      have hmul : (ws.length : Int) * ((k + 1 : Nat) : Int) ≤ 10 * 10 := by
        have h1 : ws.length * (k + 1) ≤ 10 * 10 := Nat.mul_le_mul hn10 (by omega)
        have : (ws.length : Int) * ((k + 1 : Nat) : Int) = ((ws.length * (k + 1) : Nat) : Int) := (Int.natCast_mul _ _).symm
        omega
      clear hs' hcx
      go_wp2_with fail
      refine (impl_WordOutline ss s A2 c2 _ (sg.below hb).top hok hnm hsm).mono ?_
      rintro e w5 ⟨v5, rfl, own5, b5⟩
      have hb5 := bel_trans hb b5
      obtain ⟨A5, c5, rfl, _, _, s5⟩ := own5.form
      have s5 := s5.mono (lo' := 0) (Nat.zero_le _) (Nat.le_refl _)
      clear own5 hcell
      cases hx : woOk ss s
      · have HN : Hid (z = sumTo (sumAt ss ws ws.length) (k + 1)) := by
          have : sumAt ss ws ws.length k = 0 := by rw [sumAt, HS.out, hx]; rfl
          rw [Hid, hst, this, hz.out]; omega
        have hzb : -10 ≤ z ∧ z ≤ 400 := ⟨hz0, hz1⟩
        clear hst hbd hmul
        go_wp2
        go_roundw
        case rel => exact ⟨k + 1, z, by omega, by go_num, rfl, hz0, hz1, HN, hb5⟩
        case measure => simp [intOf]; omega
      · have hwl : (woOf ss s).length ≤ maxLen := Nat.le_trans (woOf_len ss s) (by decide)
        have hsa : sumAt ss ws ws.length k = ((readOf ss ws (woOf ss s)).length : Int) - 1 := by rw [sumAt, HS.out, hx, HREAD.out _ (woOf_out hx)]; rfl
        have HN : Hid (z + ((readOf ss ws (woOf ss s)).length : Int) - 1 = sumTo (sumAt ss ws ws.length) (k + 1)) := by rw [Hid, hst, hsa, hz.out]; omega
        have hrl := readOf_len ss ws (woOf ss s)
        have hzl := hz.out
        have hy0 : -10 ≤ z + ((readOf ss ws (woOf ss s)).length : Int) - 1 := by have := HN.out; omega
        have hy1 : z + ((readOf ss ws (woOf ss s)).length : Int) - 1 ≤ 400 := by have := HN.out; omega
        clear hst hbd hmul hsa hzl
        go_wp2_with fail
        refine (impl_DictionaryRead ss ws (woOf ss s) A2 _ A5 c2 c3 c5 _ (sg.below hb5).top (sw.below hb5).top s5 hok hwo hnm hwm hwl h3a h3b).mono ?_
        rintro e w6 ⟨v6, rfl, own6, b6⟩
        obtain ⟨A6, c6, rfl, _, _, _⟩ := own6.form
        have hb6 := bel_trans hb5 b6
        clear own6
        generalize (readOf ss ws (woOf ss s)).length = rl at *
        go_wp2
        go_roundw
        case rel => exact ⟨k + 1, z + (rl : Int) - 1, by omega, by go_num, rfl, hy0, hy1, HN, hb6⟩
        case measure => simp [intOf]; omega
    · have hke : k = ws.length := by omega
      have hz2 : z = 2 * C := by rw [hz.out, hke]; exact HSUM.out
      subst hz2
      have hkd : decide ((k : Int) < (ws.length : Int)) = false := decide_eq_false (by omega)
      have hkdn : decide (k < ws.length) = false := decide_eq_false hlt
      have b04 := bel_trans b03 hb
      have sg := (sg.below hb).top
      have sw := (sw.below hb).top
      clear hke
      by_cases hw0 : ws.length = 0
      · have hC00 : C = 0 := HZ.out hw0
        have t1 : ((ws.length : Int) == 0) = true := by rw [beq_iff_eq]; omega
        have t2 : (C == 0) = true := by rw [beq_iff_eq]; omega
        have H1 := Lib.hid hw0
        have H2 := Lib.hid hC00
        clear hw0 hC00
        go_wp2
        go_ret
        exact ⟨rfl, b04⟩
      have t1 : ((ws.length : Int) == 0) = false := beq_eq_false_iff_ne.2 (by omega)
      have hjl : l1.length % ws.length < ws.length := Nat.mod_lt _ (by omega)
      have q3 : ((l1.length : Int)).tmod ((ws.length : Int)) = ((l1.length % ws.length : Nat) : Int) := rfl
      have q4 : ((l1.length : Int)) % ((ws.length : Int)) = ((l1.length % ws.length : Nat) : Int) := by simp
      have hz1' : ¬ ((ws.length : Int) = 0) := by omega
      have hz2' : ¬ ws = [] := fun e => hw0 (by rw [e]; rfl)
      have hz3' : (1 : Int) ≤ (ws.length : Int) := by omega
      obtain ⟨x, hx⟩ := get_lt hjl
      have hrle := HREST.out _ x hx
      generalize l1.length % ws.length = j at *
      have HRLE := Lib.hid hrle
      clear hrle hx
      have hjc : (j : Int) ≤ (c3 : Int) := by omega
      have hjn : (j : Int) ≤ (ws.length : Int) := by omega
      have hj1 : (j : Int) + 1 ≤ (ws.length : Int) := by omega
      have e1 : IntKind.i64.wrap ((j : Int) + 1) = (j : Int) + 1 := IntWalk.i64_in _ (by omega)
      have e2 : (0 : Int) ≤ (j : Int) + 1 := by omega
      have e3 : ((j : Int) + 1).toNat = j + 1 := by omega
      have hjcn : j + 1 ≤ c3 := by omega
      have sT : ∀ w', Seg w' 0 wr.heap.size A3 (strs ws) → Seg w' 0 wr.heap.size A3 (strs (ws.take j)) := fun w' h => by
        have : strs (ws.take j) = (strs ws).take j := by simp [strs]
        rw [this]; exact h.take j
      have sD : ∀ w', Seg w' 0 wr.heap.size A3 (strs ws) → Seg w' 0 wr.heap.size (if c3 = j + 1 then A3 else Option.map (fun x => x.add (j + 1)) A3) (strs (ws.drop (j + 1))) := fun w' h => by
        by_cases hck : c3 = j + 1
        · have : ws.drop (j + 1) = [] := List.drop_eq_nil_of_le (by omega)
          rw [this]; exact Seg.nil
        · have : strs (ws.drop (j + 1)) = (strs ws).drop (j + 1) := by simp [strs]
          rw [this]; exact h.drop (j + 1) c3 (by omega)
      have bx1 : Below wr.heap.size wr (wr.alloc (.cells #[] 9)).drew := (bel_alloc (Below.refl _ _) _).drew
      have o1 : (wr.alloc (.cells #[] 9)).drew.ownsRow wr.heap.size 9 1 (.slice (some ⟨wr.heap.size, 0, none⟩) 0 0) 0 [] := (World.ownsRow_made wr #[] 0 (Nat.le_refl _) (by simp [maxLen]) (by simp)).drew
      have s1 := sT _ (sw.belowB bx1 (Nat.le_refl _))
      have lt1 : (ws.take j).length = j := by rw [List.length_take]; omega
      have lt2 : (ws.drop (j + 1)).length = ws.length - (j + 1) := by rw [List.length_drop]
      have fl1 : Hid ((strs (ws.take j)).length = j * 1) := by rw [Hid, strs, List.length_map, lt1]; omega
      have fl2 : Hid ((strs (ws.drop (j + 1))).length = (ws.length - (j + 1)) * 1) := by rw [Hid, strs, List.length_map, lt2]; omega
      have H1A := Lib.hid (strs_oneC (ws.take j))
      have H1B := Lib.hid (strs_oneC (ws.drop (j + 1)))
      have hLT : Hid ((ws.take j ++ ws.drop (j + 1)).length = j + (ws.length - (j + 1))) := by rw [Hid, List.length_append, lt1, lt2]
      have n1 : 0 + j ≤ 8388608 := by omega
      have n2 : j + (ws.length - (j + 1)) ≤ 8388608 := by omega
      clear lt1 lt2
      go_wp2
      go_region_held3 (fun w' => True) (trivial)
        (first
          | (refine step_append_seg _ (by rfl) (.tmp 78) (.tmp 81) 23 (by rfl) (wr.heap.size) 9 _ 1 16 Try.underlying23 info_str rfl (by decide) (by decide) (_) _ _ (by rfl) o1 A3 j c3 (strs (ws.take j)) _ _ (by rfl) s1 fl1.out H1A.out n1 bx1.size ?_; intro v1 w6 own1 g1; rw [Nat.zero_add, List.nil_append] at own1; have b1x := own_grown_below bx1 o1 g1 bx1.size; have s2 := sD _ (sw.belowB b1x (Nat.le_refl _)))
          | (refine step_append_seg _ (by rfl) (.tmp 82) (.tmp 86) 23 (by rfl) (wr.heap.size) 9 _ 1 16 Try.underlying23 info_str rfl (by decide) (by decide) (_) _ _ (by rfl) own1 (if c3 = j + 1 then A3 else Option.map (fun x => x.add (j + 1)) A3) (ws.length - (j + 1)) (c3 - (j + 1)) (strs (ws.drop (j + 1))) _ _ (by rfl) s2 fl2.out H1B.out n2 b1x.size ?_; intro v2 w7 own2 g2; have b2x := own_grown_below b1x own1 g2 b1x.size))
      all_goals
        have own3 : w7.ownsRow wr.heap.size 9 1 v2 (j + (ws.length - (j + 1))) (strs (ws.take j ++ ws.drop (j + 1))) := by rw [strs, List.map_append]; exact own2
        obtain ⟨A7, c7, rfl, h7a, h7b⟩ := own_form own3
        have s7 := (Seg.of_own own3).mono (lo' := 0) (Nat.zero_le _) (Nat.le_refl _)
        have sg7 := (sg.below b2x).top
        have hwo7 : StrsOk (ws.take j ++ ws.drop (j + 1)) := fun s h => by
          rcases List.mem_append.1 h with h | h
          · exact hwo s (List.mem_of_mem_take h)
          · exact hwo s (List.mem_of_mem_drop h)
        have b05 : Below w.heap.size w w7 := bel_trans b04 b2x
        have hq := impl_DictionaryClashes ss (ws.take j ++ ws.drop (j + 1)) A2 A7 c2 c7 w7 sg7 s7 hok hwo7 hnm (by rw [hLT.out]; unfold maxLen; omega) (by rw [hLT.out]; exact h7a) h7b
        rw [hLT.out] at hq
        have HQ := Lib.hid hq
        clear hq own1 own2 own3 g1 g2 b1x b2x s1 s2 o1 bx1 e1 sT sD s7 sg7
        have hfin := HRLE.out
        have hdl : decide (clashOf ss (ws.take j ++ ws.drop (j + 1)) ≤ C) = true := decide_eq_true hfin
        go_wp2_with fail
        all_goals
          refine HQ.out.mono ?_
          rintro e w8 ⟨rfl, b8⟩
          have b06 := bel_trans b05 b8
          go_wp2
          go_ret
          exact ⟨rfl, b06⟩
end Go.Proofs.Ytoidjdbhdkbfhaa
