/-
  Contracts of l91Talked, DrawCopyMany, DrawCopyLeast, DrawBriefsClear: a short list of briefs, and words.
-/
import Derived.Test.YtgddklafeaoleaaDrawT
namespace Go.Proofs.Ytgddklafeaoleaa
open Go.RowKit Go.Sort
set_option linter.unusedSimpArgs false
set_option linter.unusedVariables false

/-- a list of briefs that a law reads -/
structure BrfsIn (w : World) (A : Option Addr) (c : Nat) (ys : List Brf) : Prop where
  seg : Seg w 0 w.heap.size A (flat brfC ys)
  ats : BrfsAt w ys
  talk : TalkB (pbsOf ys)
  len : ys.length ≤ 5
  lc : ys.length ≤ c
  cm : c ≤ maxLen
theorem BrfsIn.below {w w' : World} {A : Option Addr} {c : Nat} {ys : List Brf} (h : BrfsIn w A c ys) (hb : Below w.heap.size w w') : BrfsIn w' A c ys := ⟨(h.seg.below hb).top, h.ats.below hb, h.talk, h.len, h.lc, h.cm⟩
theorem BrfsIn.of_own {w : World} {base : Nat} {A : Option Addr} {c : Nat} {ys : List Brf} (h : OwnB w base (.slice A ys.length c) ys) (ht : TalkB (pbsOf ys)) (hn : ys.length ≤ 5) : BrfsIn w A c ys := by
  obtain ⟨A', c', hv, h1, h2⟩ := own_form h.row
  injection hv with e1 _ e3
  subst e1 e3
  exact ⟨(Seg.of_own h.row).mono (Nat.zero_le _) (Nat.le_refl _), h.outs.at_ (talkB_strs ht), ht, hn, h1, h2⟩
/-- words that a law reads -/
structure StrsIn (w : World) (A : Option Addr) (c : Nat) (ws : List Str) : Prop where
  seg : Seg w 0 w.heap.size A (strs ws)
  ok : ∀ s ∈ ws, s.size ≤ 100
  len : ws.length ≤ 100
  lc : ws.length ≤ c
  cm : c ≤ maxLen
theorem StrsIn.below {w w' : World} {A : Option Addr} {c : Nat} {ws : List Str} (h : StrsIn w A c ws) (hb : Below w.heap.size w w') : StrsIn w' A c ws := ⟨(h.seg.below hb).top, h.ok, h.len, h.lc, h.cm⟩
theorem StrsIn.strs {w : World} {A : Option Addr} {c : Nat} {ws : List Str} (h : StrsIn w A c ws) : StrsOk ws := fun s hs => Nat.le_trans (h.ok s hs) (by decide)
def GaveTalk (w : World) (e : Ending) (w' : World) : Prop := ∃ A c ys B d ws, e = .returned (.tuple #[.slice A (ys : List Brf).length c, .slice B (ws : List Str).length d]) ∧ BrfsIn w' A c ys ∧ StrsIn w' B d ws ∧ Below w.heap.size w w'

theorem spec_l91Talked (g P : Nat) (w : World) (h : RdB w g P) (hp : P ≤ 700000) :
    Calls Try.prog 58 #[.pointer (some ⟨g, 0, none⟩)] w fun e w' => ∃ A c ys B d ws, e = .returned (.tuple #[.slice A (ys : List Brf).length c, .slice B (ws : List Str).length d]) ∧ BrfsIn w' A c ys ∧ StrsIn w' B d ws ∧ Drew g (P + 700) w w' := by
  have hgw := h.lt
  go_enter Try.func58, Try.ntmps58
  go_wp2_with fail
  refine (spec_l91Briefs g P _ h (by omega)).mono ?_
  rintro e w1 ⟨A, c, ys, rfl, O1, hT, hl, d1⟩
  go_wp2_with fail
  refine (spec_l91Speech g _ 8 _ d1.1 (by omega) (by decide) (by decide)).mono ?_
  rintro e w2 ⟨B, d, ws, rfl, sg, hs, hn, hlc, hcm, d2⟩
  have O2 := BrfsIn.of_own (O1.kept d2 hgw) hT hl
  rw [flat_strC] at sg
  have SG : StrsIn w2 B d ws := ⟨sg.mono (Nat.zero_le _) (Nat.le_refl _), hs, hn, hlc, hcm⟩
  have D := d1.trans d2
  clear d1 d2 O1 sg hs hn
  go_wp2
  go_ret2
  exact ⟨A, c, ys, B, d, ws, rfl, O2, SG, D.mono (by omega)⟩
theorem spec_DrawCopyMany (l : List UInt8) (A : Option Addr) (c : Nat) (w : World) (hw : Seg w 0 w.heap.size A (flat byteC l)) (hc : l.length ≤ c) (hm : c ≤ maxLen) :
    Calls Try.prog 21 #[.slice A l.length c] w (GaveTalk w) := by
  go_enter Try.func21, Try.ntmps21
  go_wp2_with fail
  refine (spec_l6Open l A c _ hw hc hm).mono ?_
  rintro e w1 ⟨rfl, hr, hb, _⟩
  go_wp2_with fail
  refine (spec_l91Talked _ 0 _ ⟨0, Nat.le_refl _, hr⟩ (by decide)).mono ?_
  rintro e w2 ⟨A1, c1, ys, B, d, ws, rfl, h1, h2, h3⟩
  have hb2 := h3.bel hb (Nat.le_refl _)
  go_wp2
  go_ret2
  exact ⟨A1, c1, ys, B, d, ws, rfl, h1, h2, hb2⟩
theorem spec_DrawCopyLeast (l : List UInt8) (A : Option Addr) (c : Nat) (w : World) (hw : Seg w 0 w.heap.size A (flat byteC l)) (hc : l.length ≤ c) (hm : c ≤ maxLen) :
    Calls Try.prog 28 #[.slice A l.length c] w (GaveTalk w) := by
  go_enter Try.func28, Try.ntmps28
  go_wp2_with fail
  refine (spec_l6Open l A c _ hw hc hm).mono ?_
  rintro e w1 ⟨rfl, hr, hb, _⟩
  go_wp2_with fail
  refine (spec_l91Talked _ 0 _ ⟨0, Nat.le_refl _, hr⟩ (by decide)).mono ?_
  rintro e w2 ⟨A1, c1, ys, B, d, ws, rfl, h1, h2, h3⟩
  have hb2 := h3.bel hb (Nat.le_refl _)
  go_wp2
  go_ret2
  exact ⟨A1, c1, ys, B, d, ws, rfl, h1, h2, hb2⟩
theorem pbsOf_take_le {ys : List Brf} {k : Nat} (h : TalkB (pbsOf ys)) : TalkB (pbsOf (ys.take k)) := by
  intro b hb
  rw [pbsOf_take] at hb
  exact h b (List.mem_of_mem_take hb)
theorem flat_take_brf (ys : List Brf) (k : Nat) : flat brfC (ys.take k) = (flat brfC ys).take (k * 2) := by
  induction ys generalizing k with
  | nil => simp [flat]
  | cons y ys ih =>
    cases k with
    | zero => simp [flat]
    | succ k =>
      rw [List.take_succ_cons, flat_cons, ih, flat_cons, show (k + 1) * 2 = k * 2 + 2 from by omega]
      simp [brfC]
theorem BrfsIn.take {w : World} {A : Option Addr} {c : Nat} {ys : List Brf} (h : BrfsIn w A c ys) (k : Nat) : BrfsIn w A c (ys.take k) := by
  refine ⟨?_, h.ats.take k, pbsOf_take_le h.talk, ?_, ?_, h.cm⟩
  · rw [flat_take_brf]; exact h.seg.take _
  · have := h.len; rw [List.length_take]; omega
  · have := h.lc; rw [List.length_take]; omega
def GaveBs (w : World) (e : Ending) (w' : World) : Prop := ∃ A c ys, e = .returned (.slice A (ys : List Brf).length c) ∧ BrfsIn w' A c ys ∧ Below w.heap.size w w'
theorem spec_DrawBriefsClear (l : List UInt8) (A : Option Addr) (c : Nat) (w : World) (hw : Seg w 0 w.heap.size A (flat byteC l)) (hc : l.length ≤ c) (hm : c ≤ maxLen) :
    Calls Try.prog 34 #[.slice A l.length c] w (GaveBs w) := by
  go_enter Try.func34, Try.ntmps34
  go_wp2_with fail
  refine (spec_l6Open l A c _ hw hc hm).mono ?_
  rintro e w1 ⟨rfl, hr, hb, _⟩
  have hgw := hr.lt
  go_wp2_with fail
  refine (spec_l91Briefs _ 0 _ ⟨0, Nat.le_refl _, hr⟩ (by decide)).mono ?_
  rintro e w2 ⟨A1, c1, ys, rfl, O, hT, hl, d1⟩
  have I2 := BrfsIn.of_own O hT hl
  have hb2 := d1.bel hb (Nat.le_refl _)
  by_cases h1 : 1 < ys.length
  · have hgt : (1 : Int) < (ys.length : Int) := by omega
    have hgd : decide ((1 : Int) < (ys.length : Int)) = true := by simp; omega
    go_wp2_with fail
    refine (pickB _ _ _ _ d1.1 (by omega) (by decide) (by decide)).mono ?_
    rintro e w3 ⟨x, rfl, hx0, hx1, d2⟩
    have O3 := O.kept d2 hgw
    have I3 := BrfsIn.of_own O3 hT hl
    have hb3 := d2.bel hb2 (Nat.le_refl _)
    clear O I2 hb2
    cases z0 : (x == 0)
    · go_wp2
      go_ret
      exact ⟨A1, c1, ys, rfl, I3, hb3⟩
    · go_wp2_with fail
      refine (pickB _ _ _ _ d2.1 (by omega) (by decide) (by decide)).mono ?_
      rintro e w4 ⟨y, rfl, hy0, hy1, d3⟩
      have O4 := O3.kept d3 hgw
      have I4 := BrfsIn.of_own O4 hT hl
      have hb4 := d3.bel hb3 (Nat.le_refl _)
      have hcm := I4.cm
      have hlc := I4.lc
      have hyv : y = 0 ∨ y = 1 := by omega
      rcases hyv with rfl | rfl
      · have hlc1 : 1 ≤ c1 := by omega
        have hl1 : (ys.take 1).length = 1 := by rw [List.length_take]; omega
        have R := I4.take 1
        go_wp2
        go_ret
        exact ⟨A1, c1, ys.take 1, by rw [hl1]; rfl, R, hb4⟩
      · have hlc1 : 2 ≤ c1 := by omega
        have hl1 : (ys.take 2).length = 2 := by rw [List.length_take]; omega
        have R := I4.take 2
        go_wp2
        go_ret
        exact ⟨A1, c1, ys.take 2, by rw [hl1]; rfl, R, hb4⟩
  · have hgd : decide ((1 : Int) < (ys.length : Int)) = false := by simp; omega
    have hgt : ¬ (1 : Int) < (ys.length : Int) := by omega
    go_wp2
    go_ret
    exact ⟨A1, c1, ys, rfl, I2, hb2⟩
end Go.Proofs.Ytgddklafeaoleaa
