/-
  Contracts of the program's BriefsValid.
-/
import Derived.Test.YtgddklafeaoleaaBrfV
namespace Go.Proofs.Ytgddklafeaoleaa
open Go.RowKit Go.Sort
set_option linter.unusedSimpArgs false
set_option linter.unusedVariables false

set_option maxRecDepth 100000 in
set_option maxHeartbeats 1000000 in
theorem impl_briefValid (m : Str) (ws : List Str) (A : Option Addr) (c : Nat) (w : World) (hm : m.size ≤ maxLen) (hw : Seg w 0 w.heap.size A (strs ws)) (ho : StrsOk ws) (hn : ws.length ≤ maxLen) :
    Calls Try.prog 54 #[.agg #[.string m, .slice A ws.length c]] w fun e w' => e = .returned (.bool (pbOk (m, ws))) ∧ Below w.heap.size w w' := by
  have hm' : m.size ≤ 9223372036854775807 := hm
  have hn' : ws.length ≤ 9223372036854775807 := hn
  have bA := bel_alloc (Below.refl w.heap.size w) (.cells #[.string m, .slice A ws.length c] 35)
  have hw1 := (hw.below bA).top
  by_cases h1 : (m.size : Int) < 1
  · have HO : Hid (pbOk (m, ws) = false) := by rw [Hid, pbOk, markOk, decide_eq_false (by omega : ¬ 1 ≤ m.size)]; simp
    have d1 : decide ((m.size : Int) < 1) = true := decide_eq_true h1
    go_enter Try.func54, Try.ntmps54
    go_wp2
    go_ret
    exact ⟨ret_bool HO.out.symm, bA⟩
  have d1 : decide ((m.size : Int) < 1) = false := decide_eq_false h1
  by_cases h2 : (3 : Int) < m.size
  · have HO : Hid (pbOk (m, ws) = false) := by rw [Hid, pbOk, markOk, decide_eq_false (by omega : ¬ m.size ≤ 3)]; simp
    have d2 : decide ((3 : Int) < (m.size : Int)) = true := decide_eq_true h2
    go_enter Try.func54, Try.ntmps54
    go_wp2
    go_ret
    exact ⟨ret_bool HO.out.symm, bA⟩
  have d2 : decide ((3 : Int) < (m.size : Int)) = false := decide_eq_false h2
  by_cases h3 : (ws.length : Int) < 1
  · have HO : Hid (pbOk (m, ws) = false) := by rw [Hid, pbOk, threeOk, decide_eq_false (by omega : ¬ 1 ≤ ws.length)]; simp
    have d3 : decide ((ws.length : Int) < 1) = true := decide_eq_true h3
    go_enter Try.func54, Try.ntmps54
    go_wp2
    go_ret
    exact ⟨ret_bool HO.out.symm, bA⟩
  have d3 : decide ((ws.length : Int) < 1) = false := decide_eq_false h3
  by_cases h4 : (3 : Int) < ws.length
  · have HO : Hid (pbOk (m, ws) = false) := by rw [Hid, pbOk, threeOk, decide_eq_false (by omega : ¬ ws.length ≤ 3)]; simp
    have d4 : decide ((3 : Int) < (ws.length : Int)) = true := decide_eq_true h4
    go_enter Try.func54, Try.ntmps54
    go_wp2
    go_ret
    exact ⟨ret_bool HO.out.symm, bA⟩
  have d4 : decide ((3 : Int) < (ws.length : Int)) = false := decide_eq_false h4
  have HSP := Lib.hid (three_speech h3 h4)
  have HSZ : Hid (markOk m = m.data.toList.all upOk) := by rw [Hid, markOk, decide_eq_true (by omega : 1 ≤ m.size), decide_eq_true (by omega : m.size ≤ 3)]; rfl
  go_enter Try.func54, Try.ntmps54
  go_wp2
  go_loop [29] (fun i => ∃ k : Nat, k ≤ m.size ∧ i = .int .i64 k ∧ Hid ((m.data.toList.take k).all upOk = true)) (fun i => m.size - (intOf i).toNat)
  case atStart => exact ⟨0, Nat.zero_le _, rfl, rfl⟩
  case round =>
    obtain ⟨k, hk, rfl, hl⟩ := hrel
    by_cases hlt : k < m.size
    · have HS := Lib.hid (ups_snoc m k hlt hl.out)
      have HN : Hid (upOk m[k] = false → pbOk (m, ws) = false) := fun h => by rw [pbOk, mark_not (ups_not m k hlt h), Bool.false_and]
      go_wp2
      · go_ret
        exact ⟨ret_bool (by rw [HN.out (by simp [upOk]; omega)]), bA⟩
      · go_round
        case rel => exact ⟨k + 1, by omega, by go_num, by rw [Hid, HS.out]; simp [upOk]; omega⟩
        case measure => simp [intOf]; omega
      · go_ret
        exact ⟨ret_bool (by rw [HN.out (by simp [upOk]; omega)]), bA⟩
    · have HO : Hid (pbOk (m, ws) = speechOk ws) := by
        have e : m.data.toList.take k = m.data.toList := List.take_of_length_le (by simp; omega)
        have := hl.out
        rw [e] at this
        rw [Hid, pbOk, HSZ.out, this, HSP.out]; rfl
      go_wp2_with fail
      refine (impl_SpeechValid ws A c _ hw1 ho hn).mono ?_
      rintro e w' ⟨rfl, rfl⟩
      go_wp2
      go_ret
      exact ⟨ret_bool HO.out.symm, bA⟩

/-- the closure of BriefsValid: whether two briefs meet -/
theorem impl_meet (m m2 : Str) (ws ws2 : List Str) (A B : Option Addr) (c d p : Nat) (w : World) (hw : Seg w 0 w.heap.size A (strs ws)) (hv : Seg w 0 w.heap.size B (strs ws2)) (hn : ws.length ≤ maxLen) (hn2 : ws2.length ≤ maxLen)
    (h1 : w.cell? ⟨p, 0, none⟩ = some (.string m2)) (h2 : w.cell? ⟨p, 1, none⟩ = some (.slice B ws2.length d)) :
    Calls Try.prog 52 #[.agg #[.string m, .slice A ws.length c], .pointer (some ⟨p, 0, none⟩)] w fun e w' => e = .returned (.bool (!apartB (m, ws) (m2, ws2))) ∧ Below w.heap.size w w' := by
  have hp : p < w.heap.size := (cell_spot h1).2
  have bA := bel_alloc (Below.refl w.heap.size w) (.cells #[.string m, .slice A ws.length c] 35)
  have k1 := (bA.cell (p := ⟨p, 0, none⟩) hp).trans h1
  have k2 := (bA.cell (p := ⟨p, 1, none⟩) hp).trans h2
  have hw1 := (hw.below bA).top
  have hv1 := (hv.below bA).top
  clear h1 h2
  by_cases hm : m = m2
  · have HO : Hid (apartB (m, ws) (m2, ws2) = false) := apart_mark hm
    subst hm
    have hbe : (ByteArray.toList m == ByteArray.toList m) = true := by simp
    go_enter Try.func52, Try.ntmps52
    go_wp2
    go_ret
    exact ⟨ret_bool (by rw [HO.out]; rfl), bA⟩
  · have hbe := str_ne hm
    have HO : Hid (apartB (m, ws) (m2, ws2) = !(decide (ws = ws2))) := by rw [Hid, apartB]; simp [hm]
    have HM := Lib.hid hm
    clear hm
    go_enter Try.func52, Try.ntmps52
    go_wp2_with fail
    refine (slices_EqualStr ws ws2 A B c d _ hw1 hv1 hn hn2).mono ?_
    rintro e w1 ⟨rfl, b1⟩
    have bal := bel_trans bA b1
    go_wp2
    go_ret
    exact ⟨ret_bool (by rw [HO.out]; simp), bal⟩

def MeetsTo (bs : List PB) (b : PB) (k : Nat) : Bool := allTo (fun j => apartB (pbAt bs j) b) k
theorem index_meet (xs : List Brf) (m2 : Str) (ws2 : List Str) (A B : Option Addr) (c d p : Nat) (w : World) (hw : Seg w 0 w.heap.size A (flat brfC xs)) (ho : BrfsAt w xs) (hn : xs.length ≤ maxLen) (hv : Seg w 0 w.heap.size B (strs ws2)) (hn2 : ws2.length ≤ maxLen)
    (h1 : w.cell? ⟨p, 0, none⟩ = some (.string m2)) (h2 : w.cell? ⟨p, 1, none⟩ = some (.slice B ws2.length d)) :
    Calls Try.prog 77 #[.slice A xs.length c, Value.func (Fn.func 52) #[] #[.pointer (some ⟨p, 0, none⟩)]] w fun e w' => (∃ i : Int, e = .returned (.int .i64 i) ∧ Hid (decide (0 ≤ i) = !MeetsTo (pbsOf xs) (m2, ws2) xs.length)) ∧ Below w.heap.size w w' := by
  have hn' : xs.length ≤ 9223372036854775807 := hn
  have hp : p < w.heap.size := (cell_spot h1).2
  go_enter Try.func77, Try.ntmps77
  go_wp2
  go_loopw [8] (fun i wr => ∃ j : Nat, j ≤ xs.length ∧ i = .int .i64 j ∧ Hid (MeetsTo (pbsOf xs) (m2, ws2) j = true) ∧ Below w.heap.size w wr) (fun i _ => xs.length - (intOf i).toNat)
  case atStart => exact ⟨0, Nat.zero_le _, rfl, rfl, Below.refl _ _⟩
  case round =>
    obtain ⟨j, hj, rfl, hno, hb⟩ := hrel
    have K1 := Lib.hid ((hb.cell (p := ⟨p, 0, none⟩) hp).trans h1)
    have K2 := Lib.hid ((hb.cell (p := ⟨p, 1, none⟩) hp).trans h2)
    by_cases hlt : j < xs.length
    · obtain ⟨⟨ym, yA, yc, yl⟩, hy⟩ := get_lt hlt
      obtain ⟨g, o, rfl, hg, _, _, e1, e2⟩ := (hw.below hb).brf hy
      simp only [rowV] at e1 e2
      obtain ⟨_, hyw, _, hyc, hyn⟩ := (ho _ (List.mem_of_getElem? hy)).below hb
      simp only at hyw hyc hyn
      have hyl : yl.length ≤ maxLen := Nat.le_trans hyc hyn
      have HP := Lib.hid (pbAt_of hy)
      have hvr := (hv.below hb).top
      clear hy
      cases hx : apartB (ym, yl) (m2, ws2)
      · have HF : Hid (MeetsTo (pbsOf xs) (m2, ws2) xs.length = false) := allTo_not (k := j) (by rw [HP.out]; exact hx) hlt
        go_wp2_with (go_at_call 52; refine (impl_meet ym m2 yl ws2 _ _ _ _ _ _ hyw hvr hyl hn2 K1.out K2.out).mono ?_; rintro e w1 ⟨rfl, b1⟩; rw [hx])
        go_ret
        exact ⟨⟨_, rfl, by rw [HF.out]; simp [Hid]⟩, hb.trans (b1.mono hb.size)⟩
      · have HN : Hid (MeetsTo (pbsOf xs) (m2, ws2) (j + 1) = true) := allTo_step hno.out (by rw [HP.out]; exact hx)
        go_wp2_with (go_at_call 52; refine (impl_meet ym m2 yl ws2 _ _ _ _ _ _ hyw hvr hyl hn2 K1.out K2.out).mono ?_; rintro e w1 ⟨rfl, b1⟩; rw [hx])
        have hb1 := hb.trans (b1.mono hb.size)
        clear b1
        go_roundw
        case rel => exact ⟨j + 1, by omega, by go_num, HN, hb1⟩
        case measure => simp [intOf]; omega
    · have HF : Hid (MeetsTo (pbsOf xs) (m2, ws2) xs.length = true) := by
        obtain rfl : j = xs.length := by omega
        exact hno
      go_wp2
      go_ret
      exact ⟨⟨_, rfl, by rw [HF.out]; simp [Hid]⟩, hb⟩
theorem contains_meet (xs : List Brf) (n : Nat) (hxn : xs.length = n) (m2 : Str) (ws2 : List Str) (A B : Option Addr) (c d p : Nat) (w : World) (hw : Seg w 0 w.heap.size A (flat brfC xs)) (ho : BrfsAt w xs) (hn : n ≤ maxLen) (hv : Seg w 0 w.heap.size B (strs ws2)) (hn2 : ws2.length ≤ maxLen)
    (h1 : w.cell? ⟨p, 0, none⟩ = some (.string m2)) (h2 : w.cell? ⟨p, 1, none⟩ = some (.slice B ws2.length d)) :
    Calls Try.prog 51 #[.slice A n c, Value.func (Fn.func 52) #[] #[.pointer (some ⟨p, 0, none⟩)]] w fun e w' => e = .returned (.bool (!MeetsTo (pbsOf xs) (m2, ws2) n)) ∧ Below w.heap.size w w' := by
  subst hxn
  go_enter Try.func51, Try.ntmps51
  go_wp2_with fail
  refine (index_meet xs m2 ws2 A B c d p _ hw ho hn hv hn2 h1 h2).mono ?_
  rintro e w1 ⟨⟨i, rfl, hi⟩, b1⟩
  go_wp2
  go_ret
  exact ⟨ret_bool hi.out, b1⟩

set_option maxRecDepth 100000 in
set_option maxHeartbeats 1000000 in
theorem impl_BriefsValid (xs : List Brf) (A : Option Addr) (c : Nat) (w : World) (hw : Seg w 0 w.heap.size A (flat brfC xs)) (ho : BrfsAt w xs) (hn : xs.length ≤ maxLen) (hc : xs.length ≤ c) (hcm : c ≤ maxLen) :
    Calls Try.prog 17 #[.slice A xs.length c] w fun e w' => e = .returned (.bool (bvOk (pbsOf xs))) ∧ Below w.heap.size w w' := by
  have hn' : xs.length ≤ 9223372036854775807 := hn
  have hcm' : c ≤ 9223372036854775807 := hcm
  by_cases h8 : (8 : Int) < xs.length
  · have HO : Hid (bvOk (pbsOf xs) = false) := by rw [Hid, bvOk, pbsOf_len, decide_eq_false (by omega), Bool.false_and]
    go_enter Try.func17, Try.ntmps17
    go_wp2
    go_ret
    exact ⟨ret_bool HO.out.symm, Below.refl _ _⟩
  go_enter Try.func17, Try.ntmps17
  go_wp2
  go_loopw [3, 4, 5, 11] (fun _ _ _ i wr => ∃ k : Nat, k ≤ xs.length ∧ i = .int .i64 k ∧ Hid (allTo (bvAt (pbsOf xs)) k = true) ∧ Below w.heap.size w wr) (fun _ _ _ i _ => xs.length - (intOf i).toNat)
  case atStart => exact ⟨0, Nat.zero_le _, rfl, rfl, Below.refl _ _⟩
  case round =>
    obtain ⟨k, hk, rfl, hl, hb⟩ := hrel
    by_cases hlt : k < xs.length
    · obtain ⟨⟨xm, xA, xc, xl⟩, hs⟩ := get_lt hlt
      have hwr := (hw.below hb).top
      have har := ho.below hb
      obtain ⟨g, o, rfl, hg, _, hgw, hc1, hc2⟩ := hwr.brf hs
      simp only [rowV] at hc1 hc2
      have hat := har _ (List.mem_of_getElem? hs)
      have HP := Lib.hid (pbAt_of hs)
      have hkp : k < (pbsOf xs).length := by rw [pbsOf_len]; exact hlt
      clear hs
      have bX := bel_alloc (Below.refl wr.heap.size wr) (.cells #[.string xm, .slice xA xl.length xc] 35)
      obtain ⟨hxm, hxw, hxo, hxc, hxn⟩ := hat.below bX
      simp only at hxm hxw hxo hxc hxn
      have hxl : xl.length ≤ maxLen := Nat.le_trans hxc hxn
      have hT0 := hwr.take (k * 2)
      rw [flat_take brfC_len] at hT0
      have hT := (hT0.below bX).top
      have hTl : (xs.take k).length = k := by rw [List.length_take]; omega
      have hMT : Hid (MeetsTo (pbsOf (xs.take k)) (xm, xl) k = allTo (fun j => apartB (pbAt (pbsOf xs) j) (pbAt (pbsOf xs) k)) k) := by
        rw [HP.out]
        refine allTo_congr fun j hj => ?_
        have : pbAt (pbsOf (xs.take k)) j = pbAt (pbsOf xs) j := by simp [pbsOf_take, pbAt, List.getD, List.getElem?_take, hj]
        rw [this]
      have bx1 : (wr.alloc (.cells #[.string xm, .slice xA xl.length xc] 35)).cell? ⟨wr.heap.size, 0, none⟩ = some (.string xm) := box_cell _ _ _ 0
      have bx2 : (wr.alloc (.cells #[.string xm, .slice xA xl.length xc] 35)).cell? ⟨wr.heap.size, 1, none⟩ = some (.slice xA xl.length xc) := box_cell _ _ _ 1
      have HCF := Lib.hid (contains_meet (xs.take k) k hTl xm xl _ _ c xc wr.heap.size _ hT ((har.take k).below bX) (by have := hlt; unfold maxLen; omega) hxw hxl bx1 bx2)
      clear bx1 bx2 hT hT0 hwr hTl
      go_wp2_with fail
      refine HCF.out.mono ?_
      rintro e w3 ⟨rfl, b3⟩
      have bal := hb.trans ((bX.trans (b3.mono bX.size)).mono hb.size)
      have kx1 : w3.cell? ⟨wr.heap.size, 0, none⟩ = some (.string xm) := box_later b3 0
      have kx2 : w3.cell? ⟨wr.heap.size, 1, none⟩ = some (.slice xA xl.length xc) := box_later b3 1
      have hxw3 := (hxw.below b3).top
      rw [hMT.out]
      clear HCF hc1 hc2 b3
      cases hmt : allTo (fun j => apartB (pbAt (pbsOf xs) j) (pbAt (pbsOf xs) k)) k
      · have HO : Hid (bvOk (pbsOf xs) = false) := by rw [Hid, bvOk, allTo_not (k := k) (by rw [bvAt, hmt, Bool.and_false]) hkp, Bool.and_false]
        clear kx1 kx2
        go_wp2
        go_ret
        exact ⟨ret_bool HO.out.symm, bal⟩
      · go_wp2_with fail
        refine (impl_briefValid xm xl xA xc _ hxm hxw3 hxo hxl).mono ?_
        rintro e w4 ⟨rfl, b4⟩
        have bal4 := bal.trans (b4.mono bal.size)
        cases hpb : pbOk (xm, xl)
        · have HO : Hid (bvOk (pbsOf xs) = false) := bv_no hkp (by rw [HP.out]; exact hpb)
          clear kx1 kx2
          go_wp2
          go_ret
          exact ⟨ret_bool HO.out.symm, bal4⟩
        · have HN := Lib.hid (allTo_step hl.out (show bvAt (pbsOf xs) k = true by rw [bvAt, hmt, HP.out, hpb]; rfl))
          clear kx1 kx2
          go_wp2
          go_roundw
          case rel => exact ⟨k + 1, by omega, by go_num, HN, bal4⟩
          case measure => simp [intOf]; omega
    · have HO : Hid (bvOk (pbsOf xs) = true) := by
        obtain rfl : k = xs.length := by omega
        rw [Hid, bvOk, pbsOf_len, hl.out, Bool.and_true, decide_eq_true (by omega)]
      go_wp2
      go_ret
      exact ⟨ret_bool HO.out.symm, hb⟩
end Go.Proofs.Ytgddklafeaoleaa
