/-
  Contracts of l91Dictionary, l91Both: a short list of signs and a short list of texts.
-/
import Derived.Test.YtbcbpcidfcjibaaDrawSys
import Derived.Test.YtbcbpcidfcjibaaDrawW
import Derived.Test.YtbcbpcidfcjibaaStrs
namespace Go.Proofs.Ytbcbpcidfcjibaa
open Go.RowKit Go.Sort
set_option linter.unusedSimpArgs false
set_option linter.unusedVariables false

theorem spec_l3Is (ws : List Str) (x : Str) (A : Option Addr) (c : Nat) (w : World) (hw : Seg w 0 w.heap.size A (strs ws)) (hn : ws.length ≤ 100000) :
    Calls Try.prog 46 #[.slice A ws.length c, .string x] w fun e w' => e = .returned (.bool (!hasNo ws x ws.length)) ∧ w = w' := by
  go_enter Try.func46, Try.ntmps46
  go_wp2
  go_loop [5] (fun i => ∃ k : Nat, k ≤ ws.length ∧ i = .int .i64 k ∧ Hid (hasNo ws x k = true)) (fun i => ws.length - (intOf i).toNat)
  case atStart => exact ⟨0, Nat.zero_le _, rfl, rfl⟩
  case round =>
    obtain ⟨k, hk, rfl, hno⟩ := hrel
    by_cases hlt : k < ws.length
    · obtain ⟨s, hs⟩ := get_lt hlt
      have HS := Lib.hid (strAt_eq hs)
      obtain ⟨g, o, rfl, hg, hc⟩ := hw.at_ (strs_at hs)
      have hcell := hc k _ (strs_at hs)
      clear hs hc
      by_cases he : s = x
      · have HN : Hid (hasNo ws x ws.length = false) := allTo_not (k := k) (by rw [HS.out, he]; simp) hlt
        subst he
        have hbe : (ByteArray.toList s == ByteArray.toList s) = true := by simp
        go_wp2
        go_ret
        exact ⟨ret_bool (by rw [HN.out]; rfl), rfl⟩
      · have HN : Hid (hasNo ws x (k + 1) = true) := allTo_step hno.out (by rw [HS.out]; simp [he])
        have hxe := str_ne he
        have HE := Lib.hid he
        clear he
        go_wp2
        go_round
        case rel => exact ⟨k + 1, by omega, by go_num, HN⟩
        case measure => simp [intOf]; omega
    · have HN : Hid (hasNo ws x ws.length = true) := by
        obtain rfl : k = ws.length := by omega
        exact hno
      go_wp2
      go_ret
      exact ⟨ret_bool (by rw [HN.out]; rfl), rfl⟩

set_option maxRecDepth 100000 in
set_option maxHeartbeats 1000000 in
theorem spec_l91Dictionary (g P : Nat) (w : World) (h : RdB w g P) (hp : P ≤ 800000) :
    Calls Try.prog 29 #[.pointer (some ⟨g, 0, none⟩)] w (DrewStrs g (P + 100) 10 w) := by
  have hgw := h.lt
  go_enter Try.func29, Try.ntmps29
  go_wp2_with fail
  refine (pickB g P _ _ (h.below (bel_alloc (Below.refl _ _) _)) (by omega) (by omega) (by omega)).mono ?_
  rintro e w1 ⟨n, rfl, hn0, hn1, d1⟩
  have hown0 := d1.kept (World.ownsRow_made (size := 1) (e := 9) w #[] 0 (Nat.le_refl _) (by simp [maxLen]) (by simp)) hgw
  have d1' : Drew g (P + 1) w w1 := ((h.drew).then_ (bel_alloc (Below.refl _ _) _)).trans d1
  clear d1
  go_wp2
  go_loopw [3, 5] (fun v i wr => ∃ k : Nat, ∃ ws : List Str, (k : Int) ≤ n ∧ i = .int .i64 k ∧ ws.length ≤ k ∧ wr.ownsRow w.heap.size 9 1 v ws.length (flat strC ws) ∧ Hid (∀ s ∈ ws, s.size ≤ 100) ∧ Drew g (P + 1 + 9 * k) w wr) (fun _ i _ => n.toNat - (intOf i).toNat)
  case atStart => exact ⟨0, [], by omega, rfl, Nat.le_refl _, hown0, fun s hs => by simp at hs, d1'⟩
  case round =>
    obtain ⟨k, ws, hk, rfl, hwl, hown, hsm, dr⟩ := hrel
    by_cases hlt : (k : Int) < n
    · go_wp2_with fail
      refine (spec_l91Word g (P + 1 + 9 * k) _ dr.1 (by omega)).mono ?_
      rintro e w2 ⟨s, rfl, hs, d2⟩
      have hown2 := d2.kept hown hgw
      have d02 := dr.trans d2
      have hsml : s.size ≤ maxLen := Nat.le_trans hs (by decide)
      clear hown dr d2
      cases hv : wordOk s
      · go_wp2_with fail
        refine (spec_WordValid _ _ hsml).mono ?_
        rintro e w' ⟨rfl, rfl⟩
        rw [hv]
        go_wp2
        go_roundw
        case rel => exact ⟨k + 1, ws, by omega, by go_num, by omega, hown2, hsm, d02.mono (by omega)⟩
        case measure => simp [intOf]; omega
      go_wp2_with fail
      refine (spec_WordValid _ _ hsml).mono ?_
      rintro e w' ⟨rfl, rfl⟩
      rw [hv]
      obtain ⟨A2, c2, rfl, h2a, h2b⟩ := own_form hown2
      have sg2 := (Seg.of_own hown2).mono (lo' := 0) (Nat.zero_le _) (Nat.le_refl _)
      rw [flat_strC] at sg2
      go_wp2_with fail
      refine (spec_l3Is ws s A2 c2 _ sg2 (by omega)).mono ?_
      rintro e w' ⟨rfl, rfl⟩
      cases hno : hasNo ws s ws.length
      · clear sg2
        go_wp2
        go_roundw
        case rel => exact ⟨k + 1, ws, by omega, by go_num, by omega, hown2, hsm, d02.mono (by omega)⟩
        case measure => simp [intOf]; omega
      · have hB := d02.size
        clear sg2
        go_wp2_with (at_builtin; refine append_one w2 (by rfl) (.tmp 25) (.tmp 27) 24 (by rfl) (w.heap.size) 9 _ 1 16 Try.underlying24 info_str rfl (by decide) (by decide) (_) _ _ (by rfl) hown2 #[.string s] (by rfl) rfl (by simp [Value.oneCell']) (by omega) hB ?_; intro v' w3 hown' hgrow)
        have d03 := d02.own hown2 hgrow hgw
        have R1 : w3.ownsRow w.heap.size 9 1 v' (ws ++ [s]).length (flat strC (ws ++ [s])) := by rw [flat_snoc, List.length_append]; exact hown'
        have R2 : Hid (∀ t ∈ ws ++ [s], t.size ≤ 100) := fun t ht => by rcases List.mem_append.1 ht with h | h; exact hsm.out t h; simp at h; subst h; exact hs
        clear hown' hgrow hown2
        go_wp2
        go_roundw
        case rel => exact ⟨k + 1, ws ++ [s], by omega, by go_num, by simp; omega, R1, R2, d03.mono (by omega)⟩
        case measure => simp [intOf]; omega
    · have hk8 : k ≤ 8 := by omega
      obtain ⟨A2, c2, rfl, h2a, h2b⟩ := own_form hown
      by_cases hw0 : ws.length = 0
      · have hwe : ws = [] := List.eq_nil_of_length_eq_zero hw0
        subst hwe
        clear hw0
        go_wp2
        go_ret
        exact ⟨A2, c2, [], rfl, Seg.of_own hown, hsm.out, Nat.zero_le _, h2a, h2b, dr.mono (by omega)⟩
      have hpos : (0 : Int) < (ws.length : Int) := by omega
      have hposn : 0 < ws.length := by omega
      have HW0 := Lib.hid hw0
      clear hw0
      go_wp2_with fail
      refine (pickB g (P + 1 + 9 * k) 40 _ dr.1 (by omega) (by decide) (by decide)).mono ?_
      rintro e w2 ⟨y, rfl, hy0, hy1, d2⟩
      have hown2 := d2.kept hown hgw
      have d02 := dr.trans d2
      clear hown dr d2
      cases hz : (y == 0)
      · have OW := Lib.hid hown2
        clear hown2
        go_wp2
        go_ret
        exact ⟨A2, c2, ws, rfl, Seg.of_own OW.out, hsm.out, by omega, h2a, h2b, d02.mono (by omega)⟩
      · obtain ⟨t0, ht0⟩ := get_lt hposn
        have ht0m := List.mem_of_getElem? ht0
        have hsz0 := hsm.out t0 ht0m
        obtain ⟨g2, o2, e2, hg2, _, _, hc0⟩ := (Seg.of_own hown2).str ht0
        subst e2
        rw [Nat.add_zero] at hc0
        have hB := d02.size
        clear ht0
        go_wp2_with (at_builtin; refine append_one w2 (by rfl) (.tmp 37) (.tmp 41) 24 (by rfl) (w.heap.size) 9 _ 1 16 Try.underlying24 info_str rfl (by decide) (by decide) (_) _ _ (by rfl) hown2 #[.string t0] (by rfl) rfl (by simp [Value.oneCell']) (by omega) hB ?_; intro v' w3 hown' hgrow)
        have d03 := d02.own hown2 hgrow hgw
        have R1 : w3.ownsRow w.heap.size 9 1 v' (ws.length + 1) (flat strC (ws ++ [t0])) := by rw [flat_snoc]; exact hown'
        obtain ⟨A4, c4, rfl, h4a, h4b⟩ := own_form R1
        have HL : Hid ((ws ++ [t0]).length = ws.length + 1) := by rw [Hid, List.length_append]; rfl
        have OW := Lib.hid R1
        clear hown' hgrow hown2 R1
        go_wp2
        go_ret
        exact ⟨A4, c4, ws ++ [t0], by rw [HL.out]; rfl, Seg.of_own OW.out, fun t ht => by rcases List.mem_append.1 ht with h | h; exact hsm.out t h; simp at h; subst h; exact hsz0, by rw [HL.out]; omega, by rw [HL.out]; exact h4a, h4b, d03.mono (by omega)⟩

def SomeBoth (w : World) (e : Ending) (w' : World) : Prop := ∃ A c B d, ∃ ss : List Sgn, ∃ ws : List Str, e = .returned (.tuple #[.slice A ss.length c, .slice B ws.length d]) ∧ Seg w' 0 w'.heap.size A (flat sgnC ss) ∧ Seg w' 0 w'.heap.size B (strs ws) ∧ OkSgns ss ∧ StrsOk ws ∧ ss.length ≤ 8 ∧ ws.length ≤ 10 ∧ ws.length ≤ d ∧ d ≤ maxLen ∧ Below w.heap.size w w'
/-- what l91Both leaves: the reader has moved on besides -/
def DrewBoth (g P : Nat) (w : World) (e : Ending) (w' : World) : Prop := ∃ A c B d, ∃ ss : List Sgn, ∃ ws : List Str, e = .returned (.tuple #[.slice A ss.length c, .slice B ws.length d]) ∧ Seg w' (g + 1) w'.heap.size A (flat sgnC ss) ∧ Seg w' (g + 1) w'.heap.size B (strs ws) ∧ OkSgns ss ∧ StrsOk ws ∧ ss.length ≤ 8 ∧ ws.length ≤ 10 ∧ ws.length ≤ d ∧ d ≤ maxLen ∧ Drew g P w w'
theorem spec_l91Both (g P : Nat) (w : World) (h : RdB w g P) (hp : P ≤ 700000) :
    Calls Try.prog 13 #[.pointer (some ⟨g, 0, none⟩)] w (DrewBoth g (P + 116) w) := by
  have hgw := h.lt
  go_enter Try.func13, Try.ntmps13
  go_wp2_with fail
  refine (spec_l91System g P _ h (by omega)).mono ?_
  rintro e w2 ⟨A2, c2, ss, rfl, own2, hs, hn, hlc, hcm, d⟩
  have sg2 := (Seg.of_own own2).mono (lo' := g + 1) (by omega) (Nat.le_refl _)
  clear own2
  go_wp2_with fail
  refine (spec_l91Dictionary g _ _ d.1 (by omega)).mono ?_
  rintro e w3 ⟨A3, c3, ws, rfl, sg3, hs3, hn3, hlc3, hcm3, d3⟩
  have d03 := d.trans d3
  have SG := Lib.hid (d3.seg sg2 (by omega)).top
  have hl2 := d.size
  rw [flat_strC] at sg3
  have SG3 := Lib.hid (sg3.mono (lo' := g + 1) (by omega) (Nat.le_refl _))
  clear sg2 sg3
  go_wp2
  go_ret2
  exact ⟨A2, c2, A3, c3, ss, ws, rfl, SG.out, SG3.out, fun x hx => Nat.le_trans (hs x hx) (by decide), fun x hx => Nat.le_trans (hs3 x hx) (by decide), hn, hn3, hlc3, hcm3, d03.mono (by omega)⟩
theorem both_some {w w1 w' : World} {e : Ending} {P : Nat} (hb : Below w.heap.size w w1) (h : DrewBoth w.heap.size P w1 e w') : SomeBoth w e w' := by
  obtain ⟨A, c, B, d, ss, ws, he, s1, s2, h1, h2, h3, h4, h5, h6, dr⟩ := h
  exact ⟨A, c, B, d, ss, ws, he, s1.mono (Nat.zero_le _) (Nat.le_refl _), s2.mono (Nat.zero_le _) (Nat.le_refl _), h1, h2, h3, h4, h5, h6, dr.bel hb (Nat.le_refl _)⟩
end Go.Proofs.Ytbcbpcidfcjibaa
