/-
  Contracts of LineOf (both texts).
-/
import Derived.Test.YtniemanapimjoaaLineM
import Derived.Test.YtniemanapimjoaaWof
import Derived.Test.YtniemanapimjoaaDict
namespace Go.Proofs.Ytniemanapimjoaa
open Go.RowKit Go.Sort
set_option linter.unusedSimpArgs false
set_option linter.unusedVariables false

def loF (ss : List Sgn) (s : Str) : List Stk × Int := (woOf ss s, wofP ss s)
def loAll (ss : List Sgn) (ws : List Str) (n : Nat) : Bool := allTo (fun k => woOk ss (strAt ws k)) n
def loOk (ss : List Sgn) (ws : List Str) : Bool := sysOk ss && (decide (ws.length ≤ 20) && loAll ss ws ws.length)
def loOf (ss : List Sgn) (ws : List Str) : List (List Stk × Int) := if loOk ss ws then ws.map (loF ss) else []
theorem lo_no {ss : List Sgn} {ws : List Str} (h : loOk ss ws = false) : loOk ss ws = false ∧ loOf ss ws = [] := ⟨h, by rw [loOf, h]; rfl⟩
theorem lo_yes {ss : List Sgn} {ws : List Str} (h : loOk ss ws = true) : loOk ss ws = true ∧ loOf ss ws = ws.map (loF ss) := ⟨h, by rw [loOf, h]; rfl⟩
theorem lo_sys {ss : List Sgn} {ws : List Str} (h : sysOk ss = false) : loOk ss ws = false := by rw [loOk, h]; rfl
theorem lo_miss {ss : List Sgn} {ws : List Str} {k : Nat} {s : Str} (hk : k < ws.length) (hs : strAt ws k = s) (h : woOk ss s = false) : loOk ss ws = false := by
  rw [loOk, loAll, allTo_not (k := k) (by rw [hs]; exact h) hk]; simp
theorem lo_long {ss : List Sgn} {ws : List Str} (h : ¬ ws.length ≤ 20) : loOk ss ws = false := by rw [loOk, decide_eq_false h]; simp

/-- what a function that returns a list of written forms and whether there is one leaves -/
def GaveLine (fs : List (List Stk × Int)) (ok : Bool) (w : World) (e : Ending) (w' : World) : Prop := ∃ v ys, e = .returned (.tuple #[v, .bool ok]) ∧ OwnLine w' w.heap.size v ys ∧ formsOf ys = fs ∧ Below w.heap.size w w'
theorem own_madeW (w : World) (base H : Nat) (hH : w.heap.size = H) (hb : base ≤ w.heap.size) : OwnLine (w.alloc (.cells #[] 98)) base (.slice (some ⟨H, 0, none⟩) 0 0) [] := by
  subst hH
  exact ⟨own_mono (World.ownsRow_made w #[] 0 (Nat.le_refl _) (by simp [maxLen]) (by simp)) hb, fun y hy => by simp at hy, fun i j y z h => by simp at h⟩
theorem apart_snoc {ys : List Wrt} {y : Wrt} {B : Nat} (h : Apart ys) (h1 : ∀ x ∈ ys, ∀ k, (rowV x.1).ownBlock = some k → k < B) (h2 : ∀ k, (rowV y.1).ownBlock = some k → B ≤ k) : Apart (ys ++ [y]) := by
  intro i j a b ha hb hij k hka hkb
  have hl : ∀ (i : Nat) (a : Wrt), (ys ++ [y])[i]? = some a → (i < ys.length ∧ ys[i]? = some a) ∨ (i = ys.length ∧ a = y) := by
    intro i a h
    by_cases hi : i < ys.length
    · rw [List.getElem?_append_left hi] at h; exact .inl ⟨hi, h⟩
    · have h3 := (List.getElem?_eq_some_iff.1 h).1
      simp at h3
      have e : i = ys.length := by omega
      subst e
      simp at h
      exact .inr ⟨rfl, h.symm⟩
  rcases hl i a ha with ⟨_, h3⟩ | ⟨h3, rfl⟩ <;> rcases hl j b hb with ⟨_, h4⟩ | ⟨h4, rfl⟩
  · exact h i j a b h3 h4 hij k hka hkb
  · have := h1 a (List.mem_of_getElem? h3) k hka; have := h2 k hkb; omega
  · have := h1 b (List.mem_of_getElem? h4) k hkb; have := h2 k hka; omega
  · omega
def OutsL (w : World) (base : Nat) (ys : List Wrt) : Prop := OutsW w base ys ∧ Apart ys
theorem OutsL.below {w w' : World} {base : Nat} {ys : List Wrt} (h : OutsL w base ys) (hb : Below w.heap.size w w') : OutsL w' base ys := ⟨h.1.below hb, h.2⟩
theorem OutsL.grew {w w' : World} {base base' n size : Nat} {v : Value} {e : TypeId} {xs : List Value} {ys : List Wrt} (h : OutsL w base ys) (hm : w.ownsRow base' e size v n xs) (he : 52 ≠ e) (g : w.grownBy w' v.ownBlock) : OutsL w' base ys :=
  ⟨fun y hy => own_grew (h.1 y hy) g (own_ne (h.1 y hy) hm he), h.2⟩
/-- an outline made behind the others joins them -/
theorem OutsL.snoc {w0 w w' : World} {base B : Nat} {ys : List Wrt} {A : Option Addr} {c : Nat} {xs : List Stk} {p : Int} (h0 : OutsL w0 base ys) (h : OutsL w base ys) (hB : base ≤ w0.heap.size) (o : OwnStks w w0.heap.size (.slice A xs.length c) xs) : OutsL w base (ys ++ [(((A, c, xs), p) : Wrt)]) := by
  refine ⟨fun y hy => ?_, apart_snoc h.2 (B := w0.heap.size) (fun x hx k hk => ((h0.1 x hx).lt k hk).2) (fun k hk => (o.lt k hk).1)⟩
  rcases List.mem_append.1 hy with h1 | h1
  · exact h.1 y h1
  · simp at h1; subst h1; exact own_mono o hB
theorem forms_next {ss : List Sgn} {ws : List Str} {k : Nat} {s : Str} {ys : List Wrt} {A : Option Addr} {c : Nat} (hs : ws[k]? = some s) (h : formsOf ys = (ws.take k).map (loF ss)) :
    formsOf (ys ++ [(((A, c, woOf ss s), wofP ss s) : Wrt)]) = (ws.take (k + 1)).map (loF ss) := by
  rw [formsOf_snoc, h, take_snoc' hs, List.map_append]; rfl
theorem all_next {ss : List Sgn} {ws : List Str} {k : Nat} {s : Str} (h : loAll ss ws k = true) (hs : strAt ws k = s) (ho : woOk ss s = true) : loAll ss ws (k + 1) = true := allTo_step h (by rw [hs]; exact ho)

set_option maxRecDepth 100000 in
set_option maxHeartbeats 1000000 in
theorem spec_LineOf (ss : List Sgn) (ws : List Str) (A B : Option Addr) (c d : Nat) (w : World) (hw : Seg w 0 w.heap.size A (flat sgnC ss)) (hv : Seg w 0 w.heap.size B (strs ws)) (ho : OkSgns ss) (hp : StrsOk ws) (hn : ss.length ≤ maxLen) (hm : ws.length ≤ maxLen) :
    Calls Try.prog 32 #[.slice A ss.length c, .slice B ws.length d] w (GaveLine (loOf ss ws) (loOk ss ws) w) := by
  have hm2 : ws.length ≤ 9223372036854775807 := hm
  have own0 : Hid (OwnLine (w.alloc (.cells #[] 98)) w.heap.size (.slice (some ⟨w.heap.size, 0, none⟩) 0 0) []) := own_madeW w w.heap.size _ rfl (Nat.le_refl _)
  have b00 := bel_alloc (Below.refl w.heap.size w) (.cells #[] 98)
  go_enter Try.func32, Try.ntmps32
  go_wp2
  go_loopw [6, 7] (fun v i wr => ∃ k : Nat, ∃ ys : List Wrt, k ≤ ws.length ∧ i = .int .i64 k ∧ Hid (ys.length = k) ∧ wr.ownsRow w.heap.size 98 2 v k (flat wrtC ys) ∧ Hid (OutsL wr w.heap.size ys ∧ formsOf ys = (ws.take k).map (loF ss) ∧ loAll ss ws k = true ∧ (0 < k → ws.length ≤ 20)) ∧ Below w.heap.size w wr) (fun _ i _ => ws.length - (intOf i).toNat)
  case atStart => exact ⟨0, [], Nat.zero_le _, rfl, rfl, own0.out.row, ⟨⟨own0.out.outs, own0.out.apart⟩, rfl, rfl, fun h => absurd h (Nat.lt_irrefl 0)⟩, b00⟩
  case round =>
    obtain ⟨k, ys, hk, rfl, hyl, hown, hys, hb⟩ := hrel
    by_cases hlt : k < ws.length
    · obtain ⟨s, hs'⟩ := get_lt hlt
      have HS0 := Lib.hid hs'
      have HS := Lib.hid (strAt_eq hs')
      have hsm := hp.at_ hs'
      obtain ⟨g, o, rfl, hg, hc⟩ := (hv.below hb).at_ (strs_at hs')
      have hcell := hc k _ (strs_at hs')
      clear hs' hc
      go_wp2_with fail
      refine (spec_WrittenOf ss s A c _ (hw.below hb).top ho hn hsm).mono ?_
      rintro e w3 ⟨v2, rfl, own2, b3⟩
      obtain ⟨A2, c2, rfl, _, _, _⟩ := own2.form
      have hown3 := own_below hown b3
      have hes3 := Lib.hid (hys.out.1.below b3)
      have hb3 := bel_trans hb b3
      have HSN := Lib.hid (OutsL.snoc (w' := w3) (B := 0) (p := wofP ss s) hys.out.1 hes3.out hb.size own2)
      clear hown b3 own2 hcell
      have hb4 := bel_alloc hb3 (.cells #[.slice A2 (woOf ss s).length c2, .int .i64 (wofP ss s)] 98)
      have hB4 := hb4.size
      cases hx : woOk ss s
      · have HJ := Lib.hid (lo_no (lo_miss hlt HS.out hx))
        clear hown3
        go_wp2
        go_ret2
        exact ⟨_, [], by rw [HJ.out.1]; rfl, own_madeW _ _ _ (by simp) hB4, by rw [HJ.out.2]; rfl, bel_alloc hb4 _⟩
      · by_cases h20 : ws.length ≤ 20
        · have h20i : (ws.length : Int) ≤ 20 := by omega
          have HNF := Lib.hid (forms_next (A := A2) (c := c2) HS0.out hys.out.2.1)
          have HNA := Lib.hid (all_next hys.out.2.2.1 HS.out hx)
          have H20 := Lib.hid h20
          have hown4 := hown3.alloc (.cells #[.slice A2 (woOf ss s).length c2, .int .i64 (wofP ss s)] 98)
          have HSN4 := Lib.hid (HSN.out.below (bel_alloc (Below.refl w3.heap.size w3) (.cells #[.slice A2 (woOf ss s).length c2, .int .i64 (wofP ss s)] 98)))
          clear hown3 hx
          go_wp2_with (at_builtin; go_loud (refine append_oneH (w3.heap.size + 1) _ (by simp) (by rfl) (.tmp 34) (.tmp 36) 43 (by rfl) (w.heap.size) 98 _ 2 32 Try.underlying43 info_wrt rfl (by decide) (by decide) (u6) _ _ (by rfl) hown4 #[.slice A2 (woOf ss s).length c2, .int .i64 (wofP ss s)] (by rfl) rfl (by simp [Value.oneCell']) (by omega) hB4 ?_); intro v' w5 hown5 hgrow)
          have R1 : w5.ownsRow w.heap.size 98 2 v' (k + 1) (flat wrtC (ys ++ [(((A2, c2, woOf ss s), wofP ss s) : Wrt)])) := by rw [flat_snoc]; exact hown5
          have R2 := own_grown_below hb4 hown4 hgrow hB4
          have R3 : Hid (OutsL w5 w.heap.size (ys ++ [(((A2, c2, woOf ss s), wofP ss s) : Wrt)]) ∧ formsOf (ys ++ [(((A2, c2, woOf ss s), wofP ss s) : Wrt)]) = (ws.take (k + 1)).map (loF ss) ∧ loAll ss ws (k + 1) = true ∧ (0 < k + 1 → ws.length ≤ 20)) :=
            ⟨HSN4.out.grew hown4 (by decide) hgrow, HNF.out, HNA.out, fun _ => H20.out⟩
          have R4 : Hid ((ys ++ [(((A2, c2, woOf ss s), wofP ss s) : Wrt)]).length = k + 1) := by rw [Hid, List.length_append, hyl.out]; rfl
          clear hown5 hgrow hown4
          go_wp2
          go_roundw
          case rel => exact ⟨k + 1, _, by omega, by go_num, R4, R1, R3, R2⟩
          case measure => simp [intOf]; omega
        · have HJ := Lib.hid (lo_no (ss := ss) (lo_long h20))
          have h20i : ¬ (ws.length : Int) ≤ 20 := by omega
          clear hown3
          go_wp2
          go_ret2
          exact ⟨_, [], by rw [HJ.out.1]; rfl, own_madeW _ _ _ (by simp) hB4, by rw [HJ.out.2]; rfl, bel_alloc hb4 _⟩
    · have hke : k = ws.length := by omega
      have hle : ws.length ≤ 20 := by
        by_cases h : 0 < k
        · exact hys.out.2.2.2 h
        · omega
      have HO : Hid (OwnLine wr w.heap.size u6 ys) := ⟨by rw [hyl.out]; exact hown, hys.out.1.1, hys.out.1.2⟩
      have HF : Hid (formsOf ys = ws.map (loF ss) ∧ loAll ss ws ws.length = true) := by
        refine ⟨?_, by rw [← hke]; exact hys.out.2.2.1⟩
        have := hys.out.2.1
        rwa [List.take_of_length_le (by omega)] at this
      have H20 := Lib.hid hle
      clear hown hke
      go_wp2_with fail
      refine (spec_SystemValid ss A c _ (hw.below hb).top ho hn).mono ?_
      rintro e w3 ⟨rfl, b3⟩
      have hb3 := bel_trans hb b3
      have HO3 := Lib.hid (HO.out.below b3)
      clear b3
      cases hs : sysOk ss
      · have HJ := Lib.hid (lo_no (ws := ws) (lo_sys hs))
        go_wp2
        go_ret2
        exact ⟨_, [], by rw [HJ.out.1]; rfl, own_madeW _ _ _ rfl hb3.size, by rw [HJ.out.2]; rfl, bel_alloc hb3 _⟩
      · have HJ := Lib.hid (lo_yes (ss := ss) (ws := ws) (by rw [loOk, hs, decide_eq_true H20.out, HF.out.2]; rfl))
        go_wp2
        go_ret2
        exact ⟨_, ys, by rw [HJ.out.1]; rfl, HO3.out, by rw [HJ.out.2]; exact HF.out.1, hb3⟩

set_option maxRecDepth 100000 in
set_option maxHeartbeats 1000000 in
theorem impl_LineOf (ss : List Sgn) (ws : List Str) (A B : Option Addr) (c d : Nat) (w : World) (hw : Seg w 0 w.heap.size A (flat sgnC ss)) (hv : Seg w 0 w.heap.size B (strs ws)) (ho : OkSgns ss) (hp : StrsOk ws) (hn : ss.length ≤ maxLen) (hm : ws.length ≤ maxLen) :
    Calls Try.prog 33 #[.slice A ss.length c, .slice B ws.length d] w (GaveLine (loOf ss ws) (loOk ss ws) w) := by
  have hm2 : ws.length ≤ 9223372036854775807 := hm
  cases hs : sysOk ss
  · have HJ := Lib.hid (lo_no (ws := ws) (lo_sys hs))
    go_enter Try.func33, Try.ntmps33
    go_wp2_with fail
    refine (impl_SystemValid ss A c _ hw ho hn).mono ?_
    rintro e w1 ⟨rfl, b1⟩
    rw [hs]
    go_wp2
    go_ret2
    exact ⟨_, [], by rw [HJ.out.1]; rfl, OwnLine.nil, by rw [HJ.out.2]; rfl, b1⟩
  by_cases h20 : ws.length ≤ 20
  case neg =>
    have HJ := Lib.hid (lo_no (ss := ss) (lo_long h20))
    have h20i : ¬ (ws.length : Int) ≤ 20 := by omega
    go_enter Try.func33, Try.ntmps33
    go_wp2_with fail
    refine (impl_SystemValid ss A c _ hw ho hn).mono ?_
    rintro e w1 ⟨rfl, b1⟩
    rw [hs]
    go_wp2
    go_ret2
    exact ⟨_, [], by rw [HJ.out.1]; rfl, OwnLine.nil, by rw [HJ.out.2]; rfl, b1⟩
  have h20i : (ws.length : Int) ≤ 20 := by omega
  go_enter Try.func33, Try.ntmps33
  go_wp2_with fail
  refine (impl_SystemValid ss A c _ hw ho hn).mono ?_
  rintro e w1 ⟨rfl, b1⟩
  rw [hs]
  have own0 : Hid (OwnLine (w1.alloc (.cells #[] 98)) w.heap.size (.slice (some ⟨w1.heap.size, 0, none⟩) 0 0) []) := own_madeW w1 w.heap.size _ rfl b1.size
  have b00 := bel_alloc b1 (.cells #[] 98)
  go_wp2
  go_loopw [6, 22] (fun v i wr => ∃ k : Nat, ∃ ys : List Wrt, k ≤ ws.length ∧ i = .int .i64 k ∧ Hid (ys.length = k) ∧ wr.ownsRow w.heap.size 98 2 v k (flat wrtC ys) ∧ Hid (OutsL wr w.heap.size ys ∧ formsOf ys = (ws.take k).map (loF ss) ∧ loAll ss ws k = true) ∧ Below w.heap.size w wr) (fun _ i _ => ws.length - (intOf i).toNat)
  case atStart => exact ⟨0, [], Nat.zero_le _, rfl, rfl, own0.out.row, ⟨⟨own0.out.outs, own0.out.apart⟩, rfl, rfl⟩, b00⟩
  case round =>
    obtain ⟨k, ys, hk, rfl, hyl, hown, hys, hb⟩ := hrel
    by_cases hlt : k < ws.length
    · obtain ⟨s, hs'⟩ := get_lt hlt
      have HS0 := Lib.hid hs'
      have HS := Lib.hid (strAt_eq hs')
      have hsm := hp.at_ hs'
      obtain ⟨g, o, rfl, hg, hc⟩ := (hv.below hb).at_ (strs_at hs')
      have hcell := hc k _ (strs_at hs')
      clear hs' hc
      go_wp2_with fail
      refine (impl_WrittenOf ss s A c _ (hw.below hb).top ho hn hsm).mono ?_
      rintro e w3 ⟨v2, rfl, own2, b3⟩
      obtain ⟨A2, c2, rfl, _, _, _⟩ := own2.form
      have hown3 := own_below hown b3
      have hes3 := Lib.hid (hys.out.1.below b3)
      have hb3 := bel_trans hb b3
      have HSN := Lib.hid (OutsL.snoc (w' := w3) (B := 0) (p := wofP ss s) hys.out.1 hes3.out hb.size own2)
      clear hown b3 own2 hcell
      have hb4 := bel_alloc hb3 (.cells #[.slice A2 (woOf ss s).length c2, .int .i64 (wofP ss s)] 98)
      have hB4 := hb4.size
      cases hx : woOk ss s
      · have HJ := Lib.hid (lo_no (lo_miss hlt HS.out hx))
        clear hown3
        go_wp2
        go_ret2
        exact ⟨_, [], by rw [HJ.out.1]; rfl, OwnLine.nil, by rw [HJ.out.2]; rfl, hb4⟩
      · have HNF := Lib.hid (forms_next (A := A2) (c := c2) HS0.out hys.out.2.1)
        have HNA := Lib.hid (all_next hys.out.2.2 HS.out hx)
        have hown4 := hown3.alloc (.cells #[.slice A2 (woOf ss s).length c2, .int .i64 (wofP ss s)] 98)
        have HSN4 := Lib.hid (HSN.out.below (bel_alloc (Below.refl w3.heap.size w3) (.cells #[.slice A2 (woOf ss s).length c2, .int .i64 (wofP ss s)] 98)))
        clear hown3 hx
        go_wp2_with (at_builtin; go_loud (refine append_oneH (w3.heap.size + 1) _ (by simp) (by rfl) (.tmp 34) (.tmp 36) 43 (by rfl) (w.heap.size) 98 _ 2 32 Try.underlying43 info_wrt rfl (by decide) (by decide) (u6) _ _ (by rfl) hown4 #[.slice A2 (woOf ss s).length c2, .int .i64 (wofP ss s)] (by rfl) rfl (by simp [Value.oneCell']) (by omega) hB4 ?_); intro v' w5 hown5 hgrow)
        have R1 : w5.ownsRow w.heap.size 98 2 v' (k + 1) (flat wrtC (ys ++ [(((A2, c2, woOf ss s), wofP ss s) : Wrt)])) := by rw [flat_snoc]; exact hown5
        have R2 := own_grown_below hb4 hown4 hgrow hB4
        have R3 : Hid (OutsL w5 w.heap.size (ys ++ [(((A2, c2, woOf ss s), wofP ss s) : Wrt)]) ∧ formsOf (ys ++ [(((A2, c2, woOf ss s), wofP ss s) : Wrt)]) = (ws.take (k + 1)).map (loF ss) ∧ loAll ss ws (k + 1) = true) :=
          ⟨HSN4.out.grew hown4 (by decide) hgrow, HNF.out, HNA.out⟩
        have R4 : Hid ((ys ++ [(((A2, c2, woOf ss s), wofP ss s) : Wrt)]).length = k + 1) := by rw [Hid, List.length_append, hyl.out]; rfl
        clear hown5 hgrow hown4
        go_wp2
        go_roundw
        case rel => exact ⟨k + 1, _, by omega, by go_num, R4, R1, R3, R2⟩
        case measure => simp [intOf]; omega
    · have hke : k = ws.length := by omega
      have HO : Hid (OwnLine wr w.heap.size u6 ys) := ⟨by rw [hyl.out]; exact hown, hys.out.1.1, hys.out.1.2⟩
      have HF : Hid (formsOf ys = ws.map (loF ss) ∧ loAll ss ws ws.length = true) := by
        refine ⟨?_, by rw [← hke]; exact hys.out.2.2⟩
        have := hys.out.2.1
        rwa [List.take_of_length_le (by omega)] at this
      have HJ := Lib.hid (lo_yes (ss := ss) (ws := ws) (by rw [loOk, hs, decide_eq_true h20, HF.out.2]; rfl))
      clear hown hke
      go_wp2
      go_ret2
      exact ⟨_, ys, by rw [HJ.out.1]; rfl, HO.out, by rw [HJ.out.2]; exact HF.out.1, hb⟩
end Go.Proofs.Ytniemanapimjoaa
