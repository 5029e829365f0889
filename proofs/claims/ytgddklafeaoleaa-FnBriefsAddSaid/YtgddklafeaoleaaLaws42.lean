/-
  Walk of the law FnBriefsAdd.
-/
import Derived.Test.YtgddklafeaoleaaBaddL
import Derived.Test.YtgddklafeaoleaaCost4
import Derived.Test.YtgddklafeaoleaaVarL
import Derived.IntWalk
namespace Go.Proofs.Ytgddklafeaoleaa
open Go.RowKit Go.Sort
set_option linter.unusedSimpArgs false
set_option linter.unusedVariables false

theorem least_own (ys : List Brf) (f : List PB) (hf : pbsOf ys = f) (ws : List Str) (A B : Option Addr) (c d : Nat) (w : World) (hy : Seg w 0 w.heap.size A (flat brfC ys)) (ha : BrfsAt w ys) (hc : ys.length ≤ c) (hcm : c ≤ maxLen) (hw : Seg w 0 w.heap.size B (strs ws)) (ho : StrsOk ws) (hd : ws.length ≤ d) (hdm : d ≤ maxLen) (hok : cpOk f ws = true) :
    Calls Try.prog 29 #[.slice A ys.length c, .slice B ws.length d] w fun e w' => e = .returned (.int .i64 (least lsz f ws)) ∧ Below w.heap.size w w' := by
  subst hf
  have h := impl_CopyLeast ys ws A B c d w hy ha hw ho (Nat.le_trans hc hcm) hc hcm hd hdm
  have e : leastOf wtC (pbsOf ys) ws = least lsz (pbsOf ys) ws := by rw [leastOf, hok]; rfl
  rwa [e] at h
/-- what a further brief gives -/
theorem add_facts {bs : List PB} {m : Str} {ws : List Str} (h : baOk bs (m, ws) = true) :
    cpOk (bs ++ [(m, ws)]) ws = true ∧ cpOk bs ws = true ∧ least lsz (bs ++ [(m, ws)]) ws ≤ least lsz bs ws ∧ least lsz (bs ++ [(m, ws)]) ws ≤ m.size ∧ 1 ≤ least lsz (bs ++ [(m, ws)]) ws ∧ baOk (bs ++ [(m, ws)]) (m, ws) = false ∧ baOf (bs ++ [(m, ws)]) (m, ws) = [] := by
  have hb : bvOk (bs ++ [(m, ws)]) = true := h
  have hlt : bs.length < (bs ++ [(m, ws)]).length := by simp
  have w1 := bv_words hb hlt
  have p1 := (bv_at hb hlt).1
  rw [pbAt_new] at w1 p1
  simp only at w1 p1
  simp only [pbOk, threeOk, Bool.and_eq_true] at p1
  have word : ∀ s ∈ ws, wordOk s = true := by
    intro s hs
    obtain ⟨j, hj, he⟩ := List.getElem_of_mem hs
    have h1 := allTo_iff.1 p1.2.2 j hj
    rwa [strAt_eq (List.getElem?_eq_some_iff.2 ⟨hj, he⟩)] at h1
  have hsp : speechOk ws = true := speechOk_iff.2 ⟨by have := w1.2; omega, word⟩
  have hne : ws ≠ [] := by intro e; rw [e] at w1; simp at w1
  have hno : baOk (bs ++ [(m, ws)]) (m, ws) = false := bv_twice
  exact ⟨by rw [cpOk, hb, hsp]; rfl, by rw [cpOk, bv_old hb, hsp]; rfl, least_more hb _ ws (Nat.le_refl _), least_mark hb, least_pos hb hne fun s hs => wordOk_size (word s hs), hno, by rw [baOf, hno]; rfl⟩

theorem ba_talk {bs : List PB} {m : Str} {ws : List Str} (h : TalkB bs) (h1 : m.size ≤ 100) (h2 : ws.length ≤ 100) (h3 : ∀ s ∈ ws, s.size ≤ 100) (hl : bs.length ≤ 5) : TalkB (baOf bs (m, ws)) ∧ (baOf bs (m, ws)).length ≤ 6 := by
  unfold baOf
  split
  · exact ⟨talkB_snoc h h1 (by show ws.length ≤ 101; omega) h3, by simp; omega⟩
  · exact ⟨talkB_nil, by simp⟩
theorem own_segB {w : World} {base n c : Nat} {e : TypeId} {size : Nat} {A : Option Addr} {xs : List Value} (h : w.ownsRow base e size (.slice A n c) n xs) : Seg w 0 w.heap.size A xs := (Seg.of_own h).mono (Nat.zero_le _) (Nat.le_refl _)

set_option maxRecDepth 100000 in
set_option maxHeartbeats 2000000 in
theorem walk_FnBriefsAdd (r0 : Row UInt8) (w : World) (h0 : RowOk w byteC (fun _ => True) r0) : Calls Try.prog 11 #[rowV r0] w fun e w' => e = .returned (.bool true) ∧ Below w.heap.size w w' := by
  obtain ⟨A, c, l⟩ := r0
  obtain ⟨hw, _, hc, hm⟩ := h0
  simp only at hw hc hm
  have hm' : c ≤ 9223372036854775807 := hm
  show Calls Try.prog 11 #[.slice A l.length c] w _
  by_cases hl : (1048576 : Int) < l.length
  · go_enter Try.func11, Try.ntmps11
    go_wp2
    go_ret
    exact ⟨rfl, Below.refl _ _⟩
  go_enter Try.func11, Try.ntmps11
  go_wp2_with fail
  refine (spec_DrawBriefsAdd l A c _ hw hc hm).mono ?_
  rintro e w1 ⟨A1, c1, ys, m, B, d, ws, rfl, I1, hms, S1, b1⟩
  go_wp2_with fail
  have bA := bel_alloc b1 (.cells #[.string m, .slice B ws.length d] 35)
  have bB := bel_alloc (Below.refl w1.heap.size w1) (.cells #[.string m, .slice B ws.length d] 35)
  have y0 : (w1.alloc (.cells #[.string m, .slice B ws.length d] 35)).cell? ⟨w1.heap.size, 0, none⟩ = some (.string m) := box_cell _ _ _ 0
  have y1 : (w1.alloc (.cells #[.string m, .slice B ws.length d] 35)).cell? ⟨w1.heap.size, 1, none⟩ = some (.slice B ws.length d) := box_cell _ _ _ 1
  have hsz : (w1.alloc (.cells #[.string m, .slice B ws.length d] 35)).heap.size = w1.heap.size + 1 := by simp
  have I2 := I1.below bB
  have S2 := S1.below bB
  generalize w1.alloc (.cells #[.string m, .slice B ws.length d] 35) = wb at *
  have hm2 : m.size ≤ maxLen := Nat.le_trans hms (by decide)
  have hwl : ws.length ≤ 1048576 := Nat.le_trans S1.len (by decide)
  have hys5 := I1.len
  have HT := Lib.hid I1.talk
  have HSO := Lib.hid S1.strs
  have hbt := ba_talk (m := m) (ws := ws) I1.talk hms S1.len S1.ok (by rw [pbsOf_len]; exact I1.len)
  have HBT := Lib.hid hbt
  have hwl2 := S1.lc
  have hwl3 := S1.cm
  clear hbt
  have HSZ := Lib.hid hsz
  have hn1 : ys.length ≤ 1048576 := by omega
  clear hsz I1 S1 b1 bB
  refine (impl_BriefsAdd ys A1 c1 m B d ws wb I2.seg I2.ats hn1 I2.lc I2.cm (talkB_words HT.out) hm2 S2.seg HSO.out hwl).mono ?_
  rintro e w2 ⟨v2, y2, rfl, O2, p2, b2⟩
  have I3 := I2.below b2
  have S3 := S2.below b2
  have B2 := bel_trans bA b2
  have z0 := (b2.cell (p := ⟨w1.heap.size, 0, none⟩) (by have := HSZ.out; show w1.heap.size < _; omega)).trans y0
  have z1 := (b2.cell (p := ⟨w1.heap.size, 1, none⟩) (by have := HSZ.out; show w1.heap.size < _; omega)).trans y1
  obtain ⟨A2, c2, rfl, l2, m2⟩ := own_form O2.row
  clear I2 S2 y0 y1
  go_wp2_with fail
  refine (spec_BriefsAdd ys A1 c1 m B d ws w2 I3.seg I3.ats hn1 (talkB_words HT.out) hm2 S3.seg HSO.out hwl).mono ?_
  rintro e w3 ⟨v3, y3, rfl, O3, p3, b3⟩
  have I4 := I3.below b3
  have S4 := S3.below b3
  have B3 := bel_trans B2 b3
  have O2 := O2.below b3
  have hlt1 : w1.heap.size < w2.heap.size := by have := HSZ.out; have := b2.size; omega
  have z2 := (b3.cell (p := ⟨w1.heap.size, 0, none⟩) hlt1).trans z0
  have z3 := (b3.cell (p := ⟨w1.heap.size, 1, none⟩) hlt1).trans z1
  obtain ⟨A3, c3, rfl, l3, m3⟩ := own_form O3.row
  clear I3 S3 z0 z1
  have T2 := Lib.hid (show TalkB (pbsOf y2) by rw [p2]; exact HBT.out.1)
  have T3 := Lib.hid (show TalkB (pbsOf y3) by rw [p3]; exact HBT.out.1)
  have hy2 : y2.length ≤ 6 := by rw [← pbsOf_len, p2]; exact HBT.out.2
  have HSB : Hid (∀ w', Below w3.heap.size w3 w' → Calls Try.prog 40 #[.slice A2 y2.length c2, .slice A3 y3.length c3] w' fun e w'' => e = .returned (.bool true) ∧ Below w'.heap.size w' w'') := by
    intro w' hb
    have h2 := O2.below hb
    have h3 := O3.below hb
    exact same_briefs y2 y3 (p2.trans p3.symm) A2 A3 _ _ c2 c3 rfl rfl w' (own_segB h2.row) (own_segB h3.row) (h2.outs.at_ (talkB_strs T2.out)) (h3.outs.at_ (talkB_strs T3.out)) (by omega) (talkB_words T2.out)
  cases hok : baOk (pbsOf ys) (m, ws)
  · have HS1 := Lib.hid (HSB.out w3 (Below.refl _ _))
    clear O2 O3
    go_wp2_with fail
    refine HS1.out.mono ?_
    rintro e w4 ⟨rfl, b4⟩
    have HS2 := Lib.hid (HSB.out w4 b4)
    have B4 := bel_trans B3 b4
    clear b4 HS1
    go_wp2_with fail
    refine HS2.out.mono ?_
    rintro e w5 ⟨rfl, b5⟩
    have B5 := bel_trans B4 b5
    go_wp2
    go_ret
    exact ⟨rfl, B5⟩
  · have hP : baOf (pbsOf ys) (m, ws) = pbsOf ys ++ [(m, ws)] := by rw [baOf, hok]; rfl
    obtain ⟨f1, f2, f3, f4, f5, f6, f7⟩ := add_facts hok
    rw [hP] at p2 p3
    have HY2 : Hid (y2.length = ys.length + 1) := by have := congrArg List.length p2; show y2.length = ys.length + 1; simpa [pbsOf] using this
    have HS1 := Lib.hid (HSB.out w3 (Below.refl _ _))
    go_wp2_with fail
    refine HS1.out.mono ?_
    rintro e w4 ⟨rfl, b4⟩
    have B4 := bel_trans B3 b4
    have I5 := I4.below b4
    have S5 := S4.below b4
    have O4 := O2.below b4
    have z4 := (b4.cell (p := ⟨w1.heap.size, 0, none⟩) (by have := b3.size; show w1.heap.size < _; omega)).trans z2
    have z5 := (b4.cell (p := ⟨w1.heap.size, 1, none⟩) (by have := b3.size; show w1.heap.size < _; omega)).trans z3
    clear I4 S4 O2 O3 z2 z3 HS1 HSB
    have P2 := Lib.hid p2
    have HNO := Lib.hid (And.intro f6 f7)
    have CA := Lib.hid (impl_BriefsAdd y2 A2 c2 m B d ws w4 (own_segB O4.row) (O4.outs.at_ (talkB_strs T2.out)) (by omega) l2 m2 (talkB_words T2.out) hm2 S5.seg HSO.out hwl)
    rw [P2.out, HNO.out.1, HNO.out.2] at CA
    clear p2 p3 f6 f7
    go_wp2_with fail
    refine CA.out.mono ?_
    rintro e w5 ⟨v5, y5, rfl, O5, p5, b5⟩
    have B5 := bel_trans B4 b5
    have I6 := I5.below b5
    have S6 := S5.below b5
    have O6 := O4.below b5
    have z6 := (b5.cell (p := ⟨w1.heap.size, 0, none⟩) (by have := b3.size; have := b4.size; show w1.heap.size < _; omega)).trans z4
    have z7 := (b5.cell (p := ⟨w1.heap.size, 1, none⟩) (by have := b3.size; have := b4.size; show w1.heap.size < _; omega)).trans z5
    have CB := Lib.hid (least_own y2 _ P2.out ws A2 B c2 d w5 (own_segB O6.row) (O6.outs.at_ (talkB_strs T2.out)) l2 m2 S6.seg HSO.out hwl2 hwl3 f1)
    generalize hV : least lsz (pbsOf ys ++ [(m, ws)]) ws = V at *
    clear CA O5 p5 I5 S5 O4 z4 z5 hV
    go_wp2_with fail
    refine CB.out.mono ?_
    rintro e w6 ⟨rfl, b6⟩
    have B6 := bel_trans B5 b6
    have I7 := I6.below b6
    have S7 := S6.below b6
    have z8 := (b6.cell (p := ⟨w1.heap.size, 0, none⟩) (by have := b3.size; have := b4.size; have := b5.size; show w1.heap.size < _; omega)).trans z6
    have z9 := (b6.cell (p := ⟨w1.heap.size, 1, none⟩) (by have := b3.size; have := b4.size; have := b5.size; show w1.heap.size < _; omega)).trans z7
    have CC := Lib.hid (least_own ys _ rfl ws A1 B c1 d w6 I7.seg I7.ats I7.lc I7.cm S7.seg HSO.out hwl2 hwl3 f2)
    generalize hL : least lsz (pbsOf ys) ws = LL at *
    have t1 : (((y2.length : Nat) : Int) == (ys.length : Int) + 1) = true := by rw [beq_iff_eq]; have := HY2.out; omega
    have t2 : decide (V ≤ LL) = true := decide_eq_true f3
    have t3 : decide (V ≤ (m.size : Int)) = true := decide_eq_true f4
    have t4 : decide ((1 : Int) ≤ V) = true := decide_eq_true f5
    have t5 : ((y2.length : Nat) : Int) = (ys.length : Int) + 1 := by have := HY2.out; omega
    clear CB O6 I6 S6 z6 z7 I7 S7 hL
    go_wp2_with fail
    refine CC.out.mono ?_
    rintro e w7 ⟨rfl, b7⟩
    have B7 := bel_trans B6 b7
    have za := (b7.cell (p := ⟨w1.heap.size, 0, none⟩) (by have := b3.size; have := b4.size; have := b5.size; have := b6.size; show w1.heap.size < _; omega)).trans z8
    have hm3 : (m.size : Int) ≤ 100 := by omega
    clear CC
    go_wp2
    go_ret
    exact ⟨rfl, B7⟩
end Go.Proofs.Ytgddklafeaoleaa
