/-
  Contract of l91Briefs: a short list of briefs.
-/
import Derived.Test.YtgddklafeaoleaaBadd
import Derived.Test.YtgddklafeaoleaaDrawS
namespace Go.Proofs.Ytgddklafeaoleaa
open Go.RowKit Go.Sort
set_option linter.unusedSimpArgs false
set_option linter.unusedVariables false

/-- briefs with small marks and few, small words -/
def TalkB (bs : List PB) : Prop := ∀ b ∈ bs, b.1.size ≤ 100 ∧ b.2.length ≤ 101 ∧ ∀ s ∈ b.2, s.size ≤ 100
theorem talkB_nil : TalkB [] := fun b hb => by simp at hb
theorem talkB_snoc {bs : List PB} {b : PB} (h : TalkB bs) (h1 : b.1.size ≤ 100) (h2 : b.2.length ≤ 101) (h3 : ∀ s ∈ b.2, s.size ≤ 100) : TalkB (bs ++ [b]) := by
  intro x hx
  rcases List.mem_append.1 hx with h' | h'
  · exact h x h'
  · simp at h'; subst h'; exact ⟨h1, h2, h3⟩
theorem talkB_strs {ys : List Brf} (h : TalkB (pbsOf ys)) : StrsOkB ys := by
  intro y hy
  have := h _ (List.mem_map_of_mem hy)
  exact ⟨Nat.le_trans this.1 (by decide), fun s hs => Nat.le_trans (this.2.2 s hs) (by decide)⟩
theorem talkB_words {ys : List Brf} (h : TalkB (pbsOf ys)) : ∀ y ∈ ys, y.2.2.2.length ≤ 1048576 := fun y hy => Nat.le_trans (h _ (List.mem_map_of_mem hy)).2.1 (by decide)
theorem OwnB.kept {g P base : Nat} {w wr : World} {v : Value} {ys : List Brf} (h : OwnB w base v ys) (d : Drew g P w wr) (hg : g < base) : OwnB wr base v ys := ⟨d.kept h.row hg, fun y hy => d.kept (h.outs y hy) hg⟩
theorem grown_set (w : World) (b o : Nat) (u : Value) : w.grownBy (w.setCell ⟨b, o, none⟩ u) (some b) :=
  ⟨rfl, rfl, rfl, by simp [World.setCell], fun k hk hne => Below.heap_setCell w ⟨b, o, none⟩ u k (by simp; intro h; exact hne (by rw [h]))⟩
/-- the first brief's mark is written anew -/
theorem OwnB.mark {w : World} {base b n c : Nat} {m m' : Str} {r : Row Str} {ys : List Brf} (h : OwnB w base (.slice (some ⟨b, 0, none⟩) n c) ((m, r) :: ys)) : OwnB (w.setCell ⟨b, 0, none⟩ (.string m')) base (.slice (some ⟨b, 0, none⟩) n c) ((m', r) :: ys) := by
  obtain ⟨A', c', hv, _, _⟩ := own_form h.row
  injection hv with _ e _
  subst e
  have hg := grown_set w b 0 (.string m')
  refine ⟨(h.row.stored 0 (.string m')).1, fun y hy => ?_⟩
  have hy' : ∃ y' ∈ (m, r) :: ys, y'.2 = y.2 := by
    rcases List.mem_cons.1 hy with h' | h'
    · subst h'; exact ⟨_, List.mem_cons_self, rfl⟩
    · exact ⟨y, List.mem_cons_of_mem _ h', rfl⟩
  obtain ⟨y', h1, h2⟩ := hy'
  rw [← h2]
  exact own_grew (vm := .slice (some ⟨b, 0, none⟩) _ c) (h.outs y' h1) hg (own_ne (h.outs y' h1) h.row (by decide))
/-- the first brief's words are written anew -/
theorem OwnB.words {w : World} {base b n c : Nat} {m : Str} {r r' : Row Str} {ys : List Brf} (h : OwnB w base (.slice (some ⟨b, 0, none⟩) n c) ((m, r) :: ys)) (hr : OwnStrs w base r') : OwnB (w.setCell ⟨b, 1, none⟩ (rowV r')) base (.slice (some ⟨b, 0, none⟩) n c) ((m, r') :: ys) := by
  obtain ⟨A', c', hv, _, _⟩ := own_form h.row
  injection hv with _ e _
  subst e
  have hg := grown_set w b 1 (rowV r')
  refine ⟨(h.row.stored 1 (rowV r')).1, fun y hy => ?_⟩
  have hy' : OwnStrs w base y.2 := by
    rcases List.mem_cons.1 hy with h' | h'
    · subst h'; exact hr
    · exact h.outs y (List.mem_cons_of_mem _ h')
  exact own_grew (vm := .slice (some ⟨b, 0, none⟩) _ c) hy' hg (own_ne hy' h.row (by decide))
theorem strs_flat (ws : List Str) : flat strC ws = strs ws := flat_strC ws
theorem speech_end {w : World} {base : Nat} {v : Value} {ws : List Str} {s : Str} (h : w.ownsRow base 9 1 v (ws.length + 1) (flat strC ws ++ [.string s])) (hsz : ∀ s ∈ ws, s.size ≤ 100) (hs : s.size ≤ 100) (hl : ws.length ≤ 100) : ∃ A c, ∃ wl : List Str, v = .slice A wl.length c ∧ OwnStrs w base (A, c, wl) ∧ wl.length ≤ 101 ∧ ∀ s ∈ wl, s.size ≤ 100 := by
  obtain ⟨A, c, rfl, _, _⟩ := own_form h
  have hl2 : ws.length + 1 = (ws ++ [s]).length := by simp
  rw [strs_flat] at h
  have e : strs ws ++ [.string s] = strs (ws ++ [s]) := by simp [strs]
  rw [hl2, e] at h
  rw [hl2]
  refine ⟨A, c, ws ++ [s], rfl, h, by simp; omega, fun t ht => ?_⟩
  rcases List.mem_append.1 ht with h' | h'
  · exact hsz t h'
  · simp at h'; subst h'; exact hs
def DrewBrfs (g P n : Nat) (w : World) (e : Ending) (w' : World) : Prop :=
  ∃ A c, ∃ ys : List Brf, e = .returned (.slice A ys.length c) ∧ OwnB w' w.heap.size (.slice A ys.length c) ys ∧ TalkB (pbsOf ys) ∧ ys.length ≤ n ∧ Drew g P w w'
theorem drew_brfs {g P n : Nat} {w w' : World} {v : Value} {ys : List Brf} (h : OwnB w' w.heap.size v ys) (ht : TalkB (pbsOf ys)) (hn : ys.length ≤ n) (hd : Drew g P w w') : DrewBrfs g P n w (.returned v) w' := by
  obtain ⟨A, c, rfl, _, _⟩ := own_form h.row
  exact ⟨A, c, ys, rfl, h, ht, hn, hd⟩

set_option maxRecDepth 100000 in
set_option maxHeartbeats 1000000 in
theorem spec_l91Briefs (g P : Nat) (w : World) (h : RdB w g P) (hp : P ≤ 800000) :
    Calls Try.prog 70 #[.pointer (some ⟨g, 0, none⟩)] w (DrewBrfs g (P + 500) 5 w) := by
  have hgw := h.lt
  go_enter Try.func70, Try.ntmps70
  go_wp2_with fail
  refine (pickB g P _ _ (h.below (bel_alloc (Below.refl _ _) _)) (by omega) (by omega) (by omega)).mono ?_
  rintro e w1 ⟨x, rfl, hx0, hx1, d1⟩
  have O0 := (ownB_made w w.heap.size _ rfl (Nat.le_refl _)).kept d1 hgw
  have d1' : Drew g (P + 1) w w1 := ((h.drew).then_ (bel_alloc (Below.refl _ _) _)).trans d1
  clear d1
  go_wp2
  go_loopw [3, 5, 6, 7, 8] (fun v i _ _ _ wr => ∃ k : Nat, (k : Int) ≤ x ∧ i = .int .i64 k ∧ ∃ ys : List Brf, ys.length ≤ k ∧ OwnB wr w.heap.size v ys ∧ Hid (TalkB (pbsOf ys)) ∧ Drew g (P + 1 + 107 * k) w wr) (fun _ i _ _ _ _ => x.toNat - (intOf i).toNat)
  case atStart => exact ⟨0, by omega, rfl, [], Nat.le_refl _, O0, talkB_nil, d1'⟩
  case round =>
    obtain ⟨k, hk, rfl, ys, hyl, hO, hT, dr⟩ := hrel
    by_cases hlt : (k : Int) < x
    · have HT := hT
      have hgb : g < wr.heap.size := dr.1.lt
      have hB := dr.size
      go_wp2_with fail
      refine (spec_l91SpeechO g (P + 1 + 107 * k) 2 _ dr.1 (by omega) (by decide) (by decide)).mono ?_
      rintro e w2 ⟨A1, c1, ws, rfl, o1, hsz, hl, d2⟩
      go_wp2_with fail
      refine (ofB 13 _ 3 g _ w2 rfl rfl (by decide) (by decide) d2.1 (by omega)).mono ?_
      rintro e w3 ⟨s, rfl, hs, d3⟩
      have o3 := d3.kept o1 hgb
      have d03 := d2.trans d3
      have hB3 := d03.size
      clear o1 d2 d3
      go_wp2_with (at_builtin; refine append_one w3 (by rfl) (.tmp 18) (.tmp 22) 30 (by rfl) (wr.heap.size) 9 _ 1 16 Try.underlying30 info_str rfl (by decide) (by decide) (_) _ _ (by rfl) o3 #[.string s] (by rfl) rfl (by simp [Value.oneCell']) (by omega) hB3 ?_; intro v' w4 own4 g4)
      have dw4 := d03.own o3 g4 hgb
      obtain ⟨A2, c2, wl, rfl, ow4, hwl, hws⟩ := speech_end own4 hsz (by omega) hl
      have hO4 := hO.kept dw4 hgw
      have dr4 := dr.trans dw4
      clear o3 d03 own4 g4 hO dr
      go_wp2_with fail
      refine (ofB 13 _ 5 g _ w4 rfl rfl (by decide) (by decide) dw4.1 (by omega)).mono ?_
      rintro e w5 ⟨m, rfl, hm, d5⟩
      have hO5 := hO4.kept d5 hgw
      have ow5 : OwnStrs w5 wr.heap.size (A2, c2, wl) := d5.kept ow4 (by have := dw4.size; omega)
      have dr5 := dr4.trans d5
      have hBB := dr5.size
      obtain ⟨A3, c3, rfl, _, _⟩ := own_form hO5.row
      have hsy : StrsOk wl := fun t ht => Nat.le_trans (hws t ht) (by decide)
      have CA := Lib.hid (spec_BriefsAdd ys A3 c3 m A2 c2 wl w5 ((Seg.of_own hO5.row).mono (Nat.zero_le _) (Nat.le_refl _)) (hO5.outs.at_ (talkB_strs HT.out)) (by omega) (talkB_words HT.out) (Nat.le_trans hm (by decide)) ((Seg.of_own ow5).mono (Nat.zero_le _) (Nat.le_refl _)) hsy (by omega))
      clear hO4 ow4 d5 dr4 ow5
      go_wp2_with fail
      refine CA.out.mono ?_
      rintro e w6 ⟨v2, ys2, rfl, hO6, hp6, b6⟩
      have dr6 := dr5.then_ b6
      cases hok : baOk (pbsOf ys) (m, wl)
      · have hO7 := Lib.hid (hO5.below b6)
        clear hO5
        go_wp2
        go_roundw
        case rel => exact ⟨k + 1, by omega, by go_num, ys, by omega, hO7.out, HT, dr6.mono (by omega)⟩
        case measure => simp [intOf]; omega
      · have hp7 : Hid (pbsOf ys2 = pbsOf ys ++ [(m, wl)]) := by rw [Hid, hp6, baOf, hok]; rfl
        have hT2 : Hid (TalkB (pbsOf ys2)) := by rw [hp7.out]; exact talkB_snoc HT.out (by show m.size ≤ 100; omega) hwl hws
        have hl2 : Hid (ys2.length = ys.length + 1) := by show ys2.length = ys.length + 1; have := congrArg List.length hp7.out; simpa [pbsOf] using this
        have hO7 := Lib.hid (hO6.mono hBB)
        clear hO5 hO6 hp6
        go_wp2
        go_roundw
        case rel => exact ⟨k + 1, by omega, by go_num, ys2, by have := hl2.out; omega, hO7.out, hT2, dr6.mono (by omega)⟩
        case measure => simp [intOf]; omega
    · have hB := dr.size
      by_cases h0 : ys.length = 0
      · obtain rfl : ys = [] := List.eq_nil_of_length_eq_zero h0
        obtain ⟨A3, c3, rfl, _, _⟩ := own_form hO.row
        have R := Lib.hid (drew_brfs (n := 5) hO hT.out (by simp) (dr.mono (P' := P + 500) (by omega)))
        clear hO dr h0
        go_wp2
        go_ret
        exact R.out
      · obtain ⟨⟨m0, A0, c0, w0⟩, tl, rfl⟩ : ∃ y0 tl, ys = y0 :: tl := by
          cases ys with
          | nil => exact absurd rfl h0
          | cons a b => exact ⟨a, b, rfl⟩
        obtain ⟨b, c3, rfl, hbl, hbs, hlc, hcm⟩ := own_head hO.row (by simp)
        have hlen : Hid (tl.length + 1 ≤ 4) := by simp at hyl; show tl.length + 1 ≤ 4; omega
        simp only [List.length_cons] at hyl hlc h0
        have hpos : (0 : Int) < ((tl.length + 1 : Nat) : Int) := by omega
        simp only [List.length_cons]
        go_wp2_with fail
        refine (pickB g _ _ _ dr.1 (by omega) (by decide) (by decide)).mono ?_
        rintro e w2 ⟨y, rfl, hy0, hy1, d2⟩
        have hO2 := hO.kept d2 hgw
        have dr2 := dr.trans d2
        clear hO dr d2
        cases z0 : (y == 0)
        · cases z1 : (y == 1)
          · cases z2 : (y == 2)
            · go_wp2
              go_ret
              exact drew_brfs hO2 hT.out (by have := hlen.out; simp; omega) (dr2.mono (by omega))
            · have k0 : w2.cell? ⟨b, 0, none⟩ = some (.string m0) := (hO2.row.cellAt 0 (by simp only [List.length_cons]; omega)).trans rfl
              have k1 : w2.cell? ⟨b, 1, none⟩ = some (.slice A0 w0.length c0) := (hO2.row.cellAt 1 (by simp only [List.length_cons]; omega)).trans rfl
              have hBB := dr2.size
              have hrow := hO2.row
              simp only [List.length_cons] at hrow
              have HO := Lib.hid hO2
              clear hO2
              go_wp2_with (at_builtin; refine append_one w2 (by rfl) (.tmp 57) (.tmp 61) 25 (by rfl) (w.heap.size) 35 _ 2 40 Try.underlying25 info_brf rfl (by decide) (by decide) (_) _ _ (by rfl) hrow #[.string m0, .slice A0 w0.length c0] (by rfl) rfl (by simp [Value.oneCell']) (by have := hlen.out; omega) hBB ?_; intro v3 w3 own3 g3)
              have dr3 := dr2.own hrow g3 hgw
              have O3 : OwnB w3 w.heap.size v3 (((m0, A0, c0, w0) :: tl) ++ [(m0, A0, c0, w0)]) := by
                refine ⟨?_, outsB_snoc HO.out.row HO.out.outs (HO.out.outs _ List.mem_cons_self) g3⟩
                rw [flat_snoc, List.length_append]
                exact own3
              have hT2 : TalkB (pbsOf (((m0, A0, c0, w0) :: tl) ++ [(m0, A0, c0, w0)])) := by
                have hh := hT.out (m0, w0) (by simp [pbsOf])
                rw [pbsOf_snoc]
                exact talkB_snoc hT.out hh.1 hh.2.1 hh.2.2
              have R := Lib.hid (drew_brfs (n := 5) O3 hT2 (by have := hlen.out; simp; omega) (dr3.mono (P' := P + 500) (by omega)))
              clear O3 own3 g3 hrow k0 k1
              go_wp2
              go_ret
              exact R.out
          · have bA := bel_alloc (Below.refl w2.heap.size w2) (.cells #[] 9)
            have hO3 := hO2.below bA
            have k1 : (w2.alloc (.cells #[] 9)).cell? ⟨b, 1, none⟩ = some (.slice A0 w0.length c0) := (hO3.row.cellAt 1 (by simp only [List.length_cons]; omega)).trans rfl
            have f1 := hO3.row.frozenAt 1
            have dr3 := (dr2.then_ bA).setOwn (o := 1) hbl hgw (.slice (some ⟨w2.heap.size, 0, none⟩) 0 0)
            have hBB := dr2.size
            have O4 := hO3.words (r' := (some ⟨w2.heap.size, 0, none⟩, 0, [])) (World.ownsRow_made (size := 1) (e := 9) w2 #[] 0 hBB (by simp [maxLen]) (by simp))
            have hT2 : TalkB (pbsOf ((m0, some ⟨w2.heap.size, 0, none⟩, 0, []) :: tl)) := by
              intro z hz
              rcases List.mem_cons.1 hz with h' | h'
              · subst h'; exact ⟨(hT.out (m0, w0) (by simp [pbsOf])).1, by simp, by simp⟩
              · exact hT.out z (List.mem_cons_of_mem _ h')
            have R := Lib.hid (drew_brfs (n := 5) O4 hT2 (by have := hlen.out; simp; omega) (dr3.mono (P' := P + 500) (by omega)))
            clear O4 hO3 dr3 hO2 dr2
            go_wp2
            go_ret
            exact R.out
        · go_wp2_with fail
          refine (ofB 13 _ 3 g _ w2 rfl rfl (by decide) (by decide) dr2.1 (by omega)).mono ?_
          rintro e w3 ⟨m, rfl, hm, d3⟩
          have hO3 := hO2.kept d3 hgw
          have dr3 := dr2.trans d3
          have k1 : w3.cell? ⟨b, 0, none⟩ = some (.string m0) := (hO3.row.cellAt 0 (by simp only [List.length_cons]; omega)).trans rfl
          have f1 := hO3.row.frozenAt 0
          have dr4 := dr3.setOwn (o := 0) hbl hgw (.string m)
          have O4 := hO3.mark (m' := m)
          have hT2 : TalkB (pbsOf ((m, A0, c0, w0) :: tl)) := by
            intro z hz
            rcases List.mem_cons.1 hz with h' | h'
            · subst h'; have hh := hT.out (m0, w0) (by simp [pbsOf]); exact ⟨by show m.size ≤ 100; omega, hh.2⟩
            · exact hT.out z (List.mem_cons_of_mem _ h')
          have R := Lib.hid (drew_brfs (n := 5) O4 hT2 (by have := hlen.out; simp; omega) (dr4.mono (P' := P + 500) (by omega)))
          clear O4 hO3 dr3 dr4 d3 hO2 dr2
          go_wp2
          go_ret
          exact R.out
end Go.Proofs.Ytgddklafeaoleaa
