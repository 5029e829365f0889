/-
  Contracts of writtenWords and DictionaryWritten (both texts), l2Both.
-/
import Derived.Test.YtbcbpcidfcjibaaWo
import Derived.Test.YtbcbpcidfcjibaaStrs
import Derived.Test.YtbcbpcidfcjibaaMrk
namespace Go.Proofs.Ytbcbpcidfcjibaa
open Go.RowKit Go.Sort
set_option linter.unusedSimpArgs false
set_option linter.unusedVariables false

theorem own_ne {w : World} {base base' n n' : Nat} {e e' : TypeId} {size size' : Nat} {v v' : Value} {xs xs' : List Value} (h : w.ownsRow base e size v n xs) (h' : w.ownsRow base' e' size' v' n' xs') (hne : e ≠ e') :
    ∀ k, v.ownBlock = some k → v'.ownBlock = some k → False := by
  intro k hk hk'
  rcases h.2 with ⟨rfl, _⟩ | ⟨g, cap, cur, rfl, _, hg, _⟩
  · simp [Value.ownBlock] at hk
  rcases h'.2 with ⟨rfl, _⟩ | ⟨g', cap', cur', rfl, _, hg', _⟩
  · simp [Value.ownBlock] at hk'
  simp [Value.ownBlock] at hk hk'
  subst hk hk'
  rw [hg] at hg'
  injection hg' with h1
  injection h1 with _ h2
  exact hne h2

abbrev OutE := Nat × Row Stk
def outlC (x : OutE) : List Value := [.int .i64 (x.1 : Int), rowV x.2]
theorem outlC_len (x : OutE) : (outlC x).length = 2 := rfl
theorem info_outl : (Try.prog.info? 49).map (fun i => (i.zero, i.size, i.bytes)) = some (some (.agg #[.int .i64 0, .slice none 0 0]), 2, 32) := by kernel_rfl
theorem info_int : (Try.prog.info? 3).map (fun i => (i.zero, i.size, i.bytes)) = some (some (.int .i64 0), 1, 8) := by kernel_rfl
def bothOk (ss : List Sgn) (ws : List Str) : Bool := sysOk ss && dictOk ws
def writAt (ss : List Sgn) (ws : List Str) (i : Nat) : Option (Nat × List Stk) := if woOk ss (strAt ws i) then some (i, woOf ss (strAt ws i)) else none
def writTo (ss : List Sgn) (ws : List Str) (k : Nat) : List (Nat × List Stk) := gather (writAt ss ws) k
def writOf (ss : List Sgn) (ws : List Str) : List (Nat × List Stk) := if bothOk ss ws then writTo ss ws ws.length else []
theorem writTo_len (ss : List Sgn) (ws : List Str) (k : Nat) : (writTo ss ws k).length ≤ k := gather_length _ _
theorem dict_len {ws : List Str} (h : dictOk ws = true) : ws.length ≤ 20 := by
  simp only [dictOk, Bool.and_eq_true, decide_eq_true_eq] at h
  exact h.1
theorem writOf_len (ss : List Sgn) (ws : List Str) : (writOf ss ws).length ≤ 20 := by
  unfold writOf
  split
  · rename_i h
    simp only [bothOk, Bool.and_eq_true] at h
    exact Nat.le_trans (writTo_len _ _ _) (dict_len h.2)
  · simp
theorem writTo_yes {ss : List Sgn} {ws : List Str} {k : Nat} {s : Str} (hs : strAt ws k = s) (h : woOk ss s = true) : writTo ss ws (k + 1) = writTo ss ws k ++ [(k, woOf ss s)] := gather_some (by simp [writAt, hs, h])
theorem writTo_no {ss : List Sgn} {ws : List Str} {k : Nat} {s : Str} (hs : strAt ws k = s) (h : woOk ss s = false) : writTo ss ws (k + 1) = writTo ss ws k := gather_none (by simp [writAt, hs, h])
/-- each outline of the list lies in a row of the call's own -/
def OutsOwn (w : World) (base : Nat) (es : List OutE) : Prop := ∀ e ∈ es, OwnStks w base (rowV e.2) e.2.2.2
def outsOf (es : List OutE) : List (Nat × List Stk) := es.map fun e => (e.1, e.2.2.2)
theorem OutsOwn.below {w w' : World} {base : Nat} {es : List OutE} (h : OutsOwn w base es) (hb : Below w.heap.size w w') : OutsOwn w' base es := fun e he => own_below (h e he) hb
theorem OutsOwn.grew {w w' : World} {base base' n size : Nat} {es : List OutE} {t : TypeId} {v : Value} {xs : List Value} (h : OutsOwn w base es) (hv : w.ownsRow base' t size v n xs) (hne : 51 ≠ t) (hg : w.grownBy w' v.ownBlock) : OutsOwn w' base es :=
  fun e he => own_grew (h e he) hg (own_ne (h e he) hv hne)
theorem outl_one (es : List OutE) : ∀ u ∈ flat outlC es, u.oneCell' = true := by
  intro u hu
  obtain ⟨x, _, h⟩ := List.mem_flatMap.1 hu
  simp [outlC, rowV] at h
  rcases h with rfl | rfl <;> rfl
theorem Seg.outl {w : World} {lo hi : Nat} {A : Option Addr} {es : List OutE} {k : Nat} {s : OutE} (h : Seg w lo hi A (flat outlC es)) (hk : es[k]? = some s) :
    ∃ g o, A = some ⟨g, o, none⟩ ∧ g < w.heap.size ∧ lo ≤ g ∧ g < hi ∧ w.cell? ⟨g, o + k * 2, none⟩ = some (.int .i64 (s.1 : Int)) ∧ w.cell? ⟨g, o + k * 2 + 1, none⟩ = some (rowV s.2) := by
  have h0 := flat_get outlC_len hk (j := 0) (by decide)
  have h1 := flat_get outlC_len hk (j := 1) (by decide)
  rcases h with h | ⟨g, o, rfl, a, b, c, d⟩
  · rw [h] at h0; simp [outlC] at h0
  · exact ⟨g, o, rfl, c, a, b, by simpa [outlC] using d _ _ h0, by simpa [outlC, Nat.add_assoc] using d _ _ h1⟩

/-- what writtenWords leaves -/
def WroteWords (ss : List Sgn) (ws : List Str) (w : World) (e : Ending) (w' : World) : Prop :=
  ∃ v es, e = .returned (.tuple #[v, .bool (bothOk ss ws)]) ∧ w'.ownsRow w.heap.size 49 2 v (es : List OutE).length (flat outlC es) ∧ OutsOwn w' w.heap.size es ∧ outsOf es = writOf ss ws ∧ Below w.heap.size w w'

theorem spec_l2Both (ss : List Sgn) (ws : List Str) (A B : Option Addr) (c d : Nat) (w : World) (hw : Seg w 0 w.heap.size A (flat sgnC ss)) (hv : Seg w 0 w.heap.size B (strs ws)) (ho : OkSgns ss) (hp : StrsOk ws) (hn : ss.length ≤ maxLen) (hm : ws.length ≤ maxLen) :
    Calls Try.prog 21 #[.slice A ss.length c, .slice B ws.length d] w fun e w' => e = .returned (.bool (bothOk ss ws)) ∧ Below w.heap.size w w' := by
  cases hs : sysOk ss
  · have HJ : Hid (bothOk ss ws = false) := by rw [Hid, bothOk, hs]; rfl
    go_enter Try.func21, Try.ntmps21
    go_wp2_with fail
    refine (spec_SystemValid ss A c _ hw ho hn).mono ?_
    rintro e w1 ⟨rfl, b1⟩
    rw [hs]
    go_wp2
    go_ret
    exact ⟨ret_bool HJ.out.symm, b1⟩
  · have HJ : Hid (bothOk ss ws = dictOk ws) := by rw [Hid, bothOk, hs]; rfl
    go_enter Try.func21, Try.ntmps21
    go_wp2_with fail
    refine (spec_SystemValid ss A c _ hw ho hn).mono ?_
    rintro e w1 ⟨rfl, b1⟩
    rw [hs]
    have hv1 := (hv.below b1).top
    go_wp2_with fail
    refine (callsB_drew (spec_DictionaryValid ws B d _ hv1 hp hm)).mono ?_
    rintro e w2 ⟨rfl, b2⟩
    have bal := bel_trans b1 b2
    go_wp2
    go_ret
    exact ⟨ret_bool HJ.out.symm, bal⟩

set_option maxRecDepth 100000 in
set_option maxHeartbeats 1000000 in
theorem impl_writtenWords (ss : List Sgn) (ws : List Str) (A B : Option Addr) (c d : Nat) (w : World) (hw : Seg w 0 w.heap.size A (flat sgnC ss)) (hv : Seg w 0 w.heap.size B (strs ws)) (ho : OkSgns ss) (hp : StrsOk ws) (hn : ss.length ≤ maxLen) (hm : ws.length ≤ maxLen) (hd : ws.length ≤ d) (hdm : d ≤ maxLen) :
    Calls Try.prog 18 #[.slice A ss.length c, .slice B ws.length d] w (WroteWords ss ws w) := by
  cases hs : sysOk ss
  · have HJ : Hid (bothOk ss ws = false ∧ writOf ss ws = []) := by
      have h : bothOk ss ws = false := by rw [bothOk, hs]; rfl
      exact ⟨h, by rw [writOf, h]; rfl⟩
    go_enter Try.func18, Try.ntmps18
    go_wp2_with fail
    refine (impl_signsOf ss A c _ hw ho hn).mono ?_
    rintro e w1 ⟨v, rfl, hmap, b1⟩
    rw [hs]
    clear hmap
    go_wp2
    go_ret2
    exact ⟨.slice none 0 0, [], by rw [HJ.out.1]; rfl, ⟨rfl, .inl ⟨rfl, rfl⟩⟩, fun e he => by simp at he, by rw [HJ.out.2]; rfl, b1⟩
  cases hd2 : dictOk ws
  · have HJ : Hid (bothOk ss ws = false ∧ writOf ss ws = []) := by
      have h : bothOk ss ws = false := by rw [bothOk, hs, hd2]; rfl
      exact ⟨h, by rw [writOf, h]; rfl⟩
    go_enter Try.func18, Try.ntmps18
    go_wp2_with fail
    refine (impl_signsOf ss A c _ hw ho hn).mono ?_
    rintro e w1 ⟨v, rfl, hmap, b1⟩
    rw [hs]
    clear hmap
    have hv1 := (hv.below b1).top
    go_wp2_with fail
    refine (callsB_same (impl_DictionaryValid ws B d _ hv1 hp hm hd hdm)).mono ?_
    rintro e w2 ⟨rfl, b2⟩
    rw [hd2]
    have bal := bel_trans b1 b2
    go_wp2
    go_ret2
    exact ⟨.slice none 0 0, [], by rw [HJ.out.1]; rfl, ⟨rfl, .inl ⟨rfl, rfl⟩⟩, fun e he => by simp at he, by rw [HJ.out.2]; rfl, bal⟩
  have HJ : Hid (bothOk ss ws = true ∧ writOf ss ws = writTo ss ws ws.length) := by
    have h : bothOk ss ws = true := by rw [bothOk, hs, hd2]; rfl
    exact ⟨h, by rw [writOf, h]; rfl⟩
  have h20 := dict_len hd2
  go_enter Try.func18, Try.ntmps18
  go_wp2_with fail
  refine (impl_signsOf ss A c _ hw ho hn).mono ?_
  rintro e w1 ⟨v, rfl, hmap, b1⟩
  obtain ⟨b, rfl, hbl, hmi⟩ := hmap hs
  have HMI := Lib.hid hmi
  rw [hs]
  clear hmap hmi
  have hv1 := (hv.below b1).top
  go_wp2_with fail
  refine (callsB_same (impl_DictionaryValid ws B d _ hv1 hp hm hd hdm)).mono ?_
  rintro e w2 ⟨rfl, b2⟩
  rw [hd2]
  have bal := bel_trans b1 b2
  have hm2 := HMI.out.below b2
  have HM := Lib.hid hm2
  have own0 : Hid ((w2.alloc (.cells #[] 49)).ownsRow w2.heap.size 49 2 (.slice (some ⟨w2.heap.size, 0, none⟩) 0 0) 0 []) := World.ownsRow_made w2 #[] 0 (Nat.le_refl _) (by simp [maxLen]) (by simp)
  have b22 := bel_alloc (Below.refl w2.heap.size w2) (.cells #[] 49)
  clear hm2
  go_wp2
  go_loopw [8, 28] (fun v i wr => ∃ k : Nat, ∃ es : List OutE, k ≤ ws.length ∧ i = .int .i64 k ∧ es.length ≤ k ∧ wr.ownsRow w2.heap.size 49 2 v es.length (flat outlC es) ∧ Hid (OutsOwn wr w.heap.size es ∧ outsOf es = writTo ss ws k) ∧ Below w2.heap.size w2 wr) (fun _ i _ => ws.length - (intOf i).toNat)
  case atStart => exact ⟨0, [], Nat.zero_le _, rfl, Nat.le_refl _, own0.out, ⟨fun e he => by simp at he, rfl⟩, b22⟩
  case round =>
    obtain ⟨k, es, hk, rfl, hesl, hown, hes, hb⟩ := hrel
    have hbw := bel_trans bal hb
    by_cases hlt : k < ws.length
    · obtain ⟨s, hs'⟩ := get_lt hlt
      have HS := Lib.hid (strAt_eq hs')
      have hsm := hp.at_ hs'
      obtain ⟨g, o, rfl, hg, hc⟩ := (hv.below hbw).at_ (strs_at hs')
      have hcell := hc k _ (strs_at hs')
      clear hs' hc
      go_wp2_with fail
      refine (impl_outline ss s b _ (HM.out.below hb) hs hsm).mono ?_
      rintro e w3 ⟨v2, rfl, own2, b3⟩
      obtain ⟨A2, c2, rfl, _, _, _⟩ := own2.form
      have hown3 := own_below hown b3
      have hes3 := Lib.hid (hes.out.1.below b3)
      have hb3 := bel_trans hb b3
      have hbw3 := bel_trans bal hb3
      have OW2 := Lib.hid own2
      clear hown b3 own2 hcell
      cases hx : woOk ss s
      · have HN : Hid (OutsOwn w3 w.heap.size es ∧ outsOf es = writTo ss ws (k + 1)) := ⟨hes3.out, by rw [writTo_no HS.out hx]; exact hes.out.2⟩
        go_wp2
        go_roundw
        case rel => exact ⟨k + 1, es, by omega, by go_num, by omega, hown3, HN, hb3⟩
        case measure => simp [intOf]; omega
      · have hB3 := hb3.size
        go_wp2_with (at_builtin; refine append_one w3 (by rfl) (.tmp 40) (.tmp 44) 44 (by rfl) (w2.heap.size) 49 _ 2 32 Try.underlying44 info_outl rfl (by decide) (by decide) (u8) _ _ (by rfl) hown3 #[.int .i64 (k : Int), .slice A2 (woOf ss s).length c2] (by rfl) rfl (by simp [Value.oneCell']) (by omega) hB3 ?_; intro v' w4 hown' hgrow)
        have R1 : w4.ownsRow w2.heap.size 49 2 v' (es ++ [((k, (A2, c2, woOf ss s)) : OutE)]).length (flat outlC (es ++ [((k, (A2, c2, woOf ss s)) : OutE)])) := by rw [flat_snoc, List.length_append]; exact hown'
        have R3 : Hid (OutsOwn w4 w.heap.size (es ++ [((k, (A2, c2, woOf ss s)) : OutE)]) ∧ outsOf (es ++ [((k, (A2, c2, woOf ss s)) : OutE)]) = writTo ss ws (k + 1)) := by
          refine ⟨fun e he => ?_, ?_⟩
          · rcases List.mem_append.1 he with h | h
            · exact hes3.out.grew hown3 (by decide) hgrow e h
            · simp at h; subst h
              have h2 : OwnStks w3 w.heap.size (rowV (A2, c2, woOf ss s)) (woOf ss s) := own_mono OW2.out hbw.size
              exact own_grew h2 hgrow (own_ne h2 hown3 (by decide))
          · rw [writTo_yes HS.out hx, outsOf, List.map_append]
            have := hes.out.2
            rw [outsOf] at this
            rw [this]; rfl
        have R4 : Below w2.heap.size w2 w4 := own_grown_below hb3 hown3 hgrow hB3
        clear hown' hgrow hown3
        go_wp2
        go_roundw
        case rel => exact ⟨k + 1, _, by omega, by go_num, by simp; omega, R1, R3, R4⟩
        case measure => simp [intOf]; omega
    · have hke : k = ws.length := by omega
      have HE : Hid (outsOf es = writTo ss ws ws.length) := by rw [Hid, ← hke]; exact hes.out.2
      clear hke
      go_wp2
      go_ret2
      exact ⟨_, es, by rw [HJ.out.1]; rfl, own_mono hown bal.size, hes.out.1, by rw [HJ.out.2]; exact HE.out, hbw⟩

/-- a list of numbers of the call's own -/
def OwnInts (w : World) (base : Nat) (v : Value) (xs : List Int) : Prop := w.ownsRow base 3 1 v xs.length (flat intC xs)
def GaveInts (xs : List Int) (w : World) (e : Ending) (w' : World) : Prop := ∃ v, e = .returned v ∧ OwnInts w' w.heap.size v xs ∧ Below w.heap.size w w'
theorem OwnInts.own {w : World} {base : Nat} {v : Value} {xs : List Int} (h : OwnInts w base v xs) : w.ownsRow base 3 1 v xs.length (flat intC xs) := h
theorem OwnInts.form {w : World} {base : Nat} {v : Value} {xs : List Int} (h : OwnInts w base v xs) : ∃ A c, v = .slice A xs.length c ∧ xs.length ≤ c ∧ c ≤ maxLen ∧ Seg w base w.heap.size A (flat intC xs) := by
  obtain ⟨A, c, rfl, h1, h2⟩ := own_form h
  exact ⟨A, c, rfl, h1, h2, Seg.of_own h⟩
def idxs (l : List (Nat × List Stk)) : List Int := l.map fun p => (p.1 : Int)
theorem idxs_len (l : List (Nat × List Stk)) : (idxs l).length = l.length := by simp [idxs]

set_option maxRecDepth 100000 in
theorem spec_DictionaryWritten (ss : List Sgn) (ws : List Str) (A B : Option Addr) (c d : Nat) (w : World) (hw : Seg w 0 w.heap.size A (flat sgnC ss)) (hv : Seg w 0 w.heap.size B (strs ws)) (ho : OkSgns ss) (hp : StrsOk ws) (hn : ss.length ≤ maxLen) (hm : ws.length ≤ maxLen) :
    Calls Try.prog 14 #[.slice A ss.length c, .slice B ws.length d] w (GaveInts (idxs (writOf ss ws)) w) := by
  have hm' : ws.length ≤ 9223372036854775807 := hm
  have own0 : Hid ((w.alloc (.cells #[] 3)).ownsRow w.heap.size 3 1 (.slice (some ⟨w.heap.size, 0, none⟩) 0 0) 0 []) := World.ownsRow_made w #[] 0 (Nat.le_refl _) (by simp [maxLen]) (by simp)
  have b0 := bel_alloc (Below.refl w.heap.size w) (.cells #[] 3)
  have HB0 : bothOk ss ws = true → ws.length ≤ 20 ∧ writOf ss ws = writTo ss ws ws.length := fun h => by
    refine ⟨?_, by rw [writOf, h]; rfl⟩
    simp only [bothOk, Bool.and_eq_true] at h
    exact dict_len h.2
  have HN0 : bothOk ss ws = false → writOf ss ws = [] := fun h => by rw [writOf, h]; rfl
  have HB := Lib.hid HB0
  have HN := Lib.hid HN0
  clear HB0 HN0
  go_enter Try.func14, Try.ntmps14
  go_wp2
  go_loopw [5, 6] (fun v i wr => ∃ k : Nat, k ≤ ws.length ∧ i = .int .i64 k ∧ Hid (k = 0 ∨ bothOk ss ws = true) ∧ (idxs (writTo ss ws k)).length ≤ k ∧ wr.ownsRow w.heap.size 3 1 v (idxs (writTo ss ws k)).length (flat intC (idxs (writTo ss ws k))) ∧ Below w.heap.size w wr) (fun _ i _ => ws.length - (intOf i).toNat)
  case atStart => exact ⟨0, Nat.zero_le _, rfl, .inl rfl, Nat.le_refl _, own0.out, b0⟩
  case round =>
    obtain ⟨k, hk, rfl, hbo, hln, hown, hb⟩ := hrel
    by_cases hlt : k < ws.length
    · obtain ⟨s, hs'⟩ := get_lt hlt
      have HS := Lib.hid (strAt_eq hs')
      have hsm := hp.at_ hs'
      have hkd : decide ((k : Int) < (ws.length : Int)) = true := by simp; omega
      have hkdn : decide (k < ws.length) = true := by simp; omega
      have HHS := Lib.hid hs'
      clear hs'
      go_wp2_with fail
      refine (spec_l2Both ss ws A B c d _ (hw.below hb).top (hv.below hb).top ho hp hn hm).mono ?_
      rintro e w1 ⟨rfl, b1⟩
      have hb1 := bel_trans hb b1
      have hown1 := own_below hown b1
      clear hown b1
      cases hbb : bothOk ss ws
      · have hk0 : k = 0 := by
          rcases hbo.out with h | h
          · exact h
          · rw [hbb] at h; cases h
        subst hk0
        have HE : Hid (OwnInts w1 w.heap.size u5 (idxs (writOf ss ws))) := by rw [HN.out hbb]; exact hown1
        clear hown1
        go_wp2
        go_ret
        exact ⟨_, rfl, HE.out, hb1⟩
      · have h20 := (HB.out hbb).1
        obtain ⟨g, o, rfl, hg, hc⟩ := (hv.below hb1).at_ (strs_at HHS.out)
        have hcell := hc k _ (strs_at HHS.out)
        clear hc
        go_wp2_with fail
        refine (spec_WordOutline ss s A c _ (hw.below hb1).top ho hn hsm).mono ?_
        rintro e w3 ⟨v2, rfl, own2, b3⟩
        have hown3 := own_below hown1 b3
        have hb3 := bel_trans hb1 b3
        have hB3 := hb3.size
        clear hown1 b3 own2 hcell
        cases hx : woOk ss s
        · have HW := Lib.hid (writTo_no HS.out hx)
          have R1 : w3.ownsRow w.heap.size 3 1 u5 (idxs (writTo ss ws (k + 1))).length (flat intC (idxs (writTo ss ws (k + 1)))) := by rw [HW.out]; exact hown3
          have R2 : (idxs (writTo ss ws (k + 1))).length ≤ k + 1 := by rw [HW.out]; omega
          clear hown3
          go_wp2
          go_roundw
          case rel => exact ⟨k + 1, by omega, by go_num, .inr hbb, R2, R1, hb3⟩
          case measure => simp [intOf]; omega
        · have HW := Lib.hid (writTo_yes HS.out hx)
          go_wp2_with (at_builtin; refine append_one w3 (by rfl) (.tmp 31) (.tmp 33) 28 (by rfl) (w.heap.size) 3 _ 1 8 Try.underlying28 info_int rfl (by decide) (by decide) (u5) _ _ (by rfl) hown3 #[.int .i64 (k : Int)] (by rfl) rfl (by simp [Value.oneCell']) (by omega) hB3 ?_; intro v' w4 hown' hgrow)
          have R1 : w4.ownsRow w.heap.size 3 1 v' (idxs (writTo ss ws (k + 1))).length (flat intC (idxs (writTo ss ws (k + 1)))) := by
            rw [HW.out, idxs, List.map_append, List.length_append, flat_append]; exact hown'
          have R2 : (idxs (writTo ss ws (k + 1))).length ≤ k + 1 := by rw [HW.out, idxs, List.map_append, List.length_append, ← idxs]; simp; omega
          have R4 := own_grown_below hb3 hown3 hgrow hB3
          clear hown' hgrow hown3
          go_wp2
          go_roundw
          case rel => exact ⟨k + 1, by omega, by go_num, .inr hbb, R2, R1, R4⟩
          case measure => simp [intOf]; omega
    · have hke : k = ws.length := by omega
      have HE : Hid (OwnInts wr w.heap.size u5 (idxs (writOf ss ws))) := by
        rcases hbo.out with h | h
        · have h0 : idxs (writTo ss ws k) = idxs (writOf ss ws) := by
            cases hbb : bothOk ss ws
            · rw [HN.out hbb, h]; rfl
            · rw [(HB.out hbb).2, hke]
          rw [Hid, OwnInts, ← h0]; exact hown
        · rw [Hid, OwnInts, (HB.out h).2, ← hke]; exact hown
      have hkd : decide ((k : Int) < (ws.length : Int)) = false := by simp; omega
      have hkdn : decide (k < ws.length) = false := by simp; omega
      clear hke hown
      go_wp2
      go_ret
      exact ⟨_, rfl, HE.out, hb⟩

end Go.Proofs.Ytbcbpcidfcjibaa
