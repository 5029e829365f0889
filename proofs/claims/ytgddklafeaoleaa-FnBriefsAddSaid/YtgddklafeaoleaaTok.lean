/-
  Contract of tokensAt: the tokens with which the words from a place on can begin.
-/
import Derived.Test.YtgddklafeaoleaaBrfW
namespace Go.Proofs.Ytgddklafeaoleaa
open Go.RowKit Go.Sort
set_option linter.unusedSimpArgs false
set_option linter.unusedVariables false

theorem info_tok : (Try.prog.info? 70).map (fun i => (i.zero, i.size, i.bytes)) = some (some (.agg #[.int .i64 0, .int .i64 0, .int .i64 0]), 3, 24) := by kernel_rfl
theorem pre_dec {a ws : List Str} : decide (a = ws.take a.length) = pre a ws := by
  rw [pre, Bool.eq_iff_iff, decide_eq_true_iff, decide_eq_true_iff]; exact eq_comm
theorem pre_long {a ws : List Str} (h : ws.length < a.length) : pre a ws = false := by
  cases hp : pre a ws
  · rfl
  · have := pre_len hp; omega
theorem strAt_drop {ws : List Str} {k : Nat} {s : Str} (h : ws[k]? = some s) : strAt (ws.drop k) 0 = s := by
  simp [strAt, List.getD, List.getElem?_drop, h]
theorem Seg.dropS {w : World} {lo hi g o c : Nat} {ws : List Str} (h : Seg w lo hi (some ⟨g, o, none⟩) (strs ws)) (k : Nat) : Seg w lo hi (some ⟨g, o + k, none⟩) (strs (ws.drop k)) := by
  have h1 := h.drop k (k + 1) (by omega)
  rw [if_neg (by omega), Option.map_some, addr_add] at h1
  simpa [strs, List.map_drop] using h1
theorem Seg.takeS {w : World} {lo hi : Nat} {A : Option Addr} {ws : List Str} (h : Seg w lo hi A (strs ws)) (k : Nat) : Seg w lo hi A (strs (ws.take k)) := by
  have h1 := h.take k
  simpa [strs, List.map_take] using h1
theorem equal_take (xl ts : List Str) (n : Nat) (hn : n = xl.length) (A B : Option Addr) (c d : Nat) (w : World) (hw : Seg w 0 w.heap.size A (strs xl)) (hv : Seg w 0 w.heap.size B (strs ts)) (hx : xl.length ≤ maxLen) (hl : n ≤ ts.length) (ht : ts.length ≤ maxLen) :
    Calls Try.prog 53 #[.slice A xl.length c, .slice B n d] w fun e w' => e = .returned (.bool (pre xl ts)) ∧ Below w.heap.size w w' := by
  subst hn
  have h := slices_EqualStr xl (ts.take xl.length) A B c d w hw (hv.takeS _) hx (by rw [List.length_take]; omega)
  rw [pre_dec, List.length_take, Nat.min_eq_left hl] at h
  exact h

/-- what tokensAt leaves -/
def GaveToks (l : List Tok) (w : World) (e : Ending) (w' : World) : Prop := ∃ v, e = .returned v ∧ w'.ownsRow w.heap.size 70 3 v l.length (flat tokC l) ∧ Below w.heap.size w w'

set_option maxRecDepth 100000 in
set_option maxHeartbeats 2000000 in
theorem impl_tokensAt (xs : List Brf) (ws : List Str) (k : Nat) (A B : Option Addr) (c d : Nat) (w : World) (hw : Seg w 0 w.heap.size A (flat brfC xs)) (ho : BrfsAt w xs) (hv : Seg w 0 w.heap.size B (strs ws)) (hp : StrsOk ws) (hx8 : xs.length ≤ 8) (hm : ws.length ≤ d) (hdm : d ≤ maxLen) (hk : k < ws.length) :
    Calls Try.prog 84 #[.agg #[.slice A xs.length c, .slice B ws.length d], .int .i64 (k : Int)] w (GaveToks (toks (pbsOf xs) (ws.drop k)) w) := by
  have hdm' : d ≤ 9223372036854775807 := hdm
  obtain ⟨s0, hs0⟩ := get_lt hk
  obtain ⟨gB, oB, rfl, hgB, hcB⟩ := hv.strk hs0
  have HS0 := Lib.hid (strAt_drop hs0)
  have hsz0 : s0.size ≤ 9223372036854775807 := hp.at_ hs0
  have HV := Lib.hid (fun k => hv.dropS (c := 0) k)
  have HLD : Hid ((ws.drop k).length = ws.length - k) := List.length_drop
  have bA := bel_alloc (Below.refl w.heap.size w) (.cells #[.slice A xs.length c, .slice (some ⟨gB, oB, none⟩) ws.length d] 64)
  have bB := bel_alloc bA (.cells #[] 70)
  have own0 : ((w.alloc (.cells #[.slice A xs.length c, .slice (some ⟨gB, oB, none⟩) ws.length d] 64)).alloc (.cells #[] 70)).ownsRow w.heap.size 70 3 (.slice (some ⟨w.heap.size + 1, 0, none⟩) 0 0) (bToks (pbsOf xs) (ws.drop k) 0).length (flat tokC (bToks (pbsOf xs) (ws.drop k) 0)) := by
    have := World.ownsRow_made (size := 3) (e := 70) (base := w.heap.size) (w.alloc (.cells #[.slice A xs.length c, .slice (some ⟨gB, oB, none⟩) ws.length d] 64)) #[] 0 (by simp) (by simp [maxLen]) (by simp)
    have e : (w.alloc (.cells #[.slice A xs.length c, .slice (some ⟨gB, oB, none⟩) ws.length d] 64)).heap.size = w.heap.size + 1 := by simp
    rw [e] at this
    exact this
  have hki : (k : Int) ≤ (ws.length : Int) := by omega
  have hcd : ¬ d = k := by omega
  clear hs0
  go_enter Try.func84, Try.ntmps84
  go_wp2
  go_loopw [5, 18] (fun v i wr => ∃ j : Nat, j ≤ xs.length ∧ i = .int .i64 j ∧ wr.ownsRow w.heap.size 70 3 v (bToks (pbsOf xs) (ws.drop k) j).length (flat tokC (bToks (pbsOf xs) (ws.drop k) j)) ∧ Below w.heap.size w wr) (fun _ i _ => xs.length - (intOf i).toNat)
  case atStart => exact ⟨0, Nat.zero_le _, rfl, own0, bB⟩
  case round =>
    obtain ⟨j, hj, rfl, hown, hb⟩ := hrel
    have hln := bToks_len (pbsOf xs) (ws.drop k) j
    by_cases hlt : j < xs.length
    · obtain ⟨⟨xm, xA, xc, xl⟩, hs⟩ := get_lt hlt
      obtain ⟨g, o, rfl, hg, _, hgw, hc1, hc2⟩ := (hw.below hb).brf hs
      simp only [rowV] at hc1 hc2
      have bX := bel_alloc hb (.cells #[.string xm, .slice xA xl.length xc] 35)
      obtain ⟨hxm, hxw, hxo, hxc, hxn⟩ := (ho _ (List.mem_of_getElem? hs)).below bX
      simp only at hxm hxw hxo hxc hxn
      have hxl : xl.length ≤ 9223372036854775807 := Nat.le_trans hxc hxn
      have hxm' : xm.size ≤ 9223372036854775807 := hxm
      have HP := Lib.hid (pbAt_of hs)
      have hvr := ((HV.out k).below bX).top
      have own1 := hown.alloc (.cells #[.string xm, .slice xA xl.length xc] 35)
      have bx0 : (wr.alloc (.cells #[.string xm, .slice xA xl.length xc] 35)).cell? ⟨wr.heap.size, 0, none⟩ = some (.string xm) := box_cell _ _ _ 0
      have bx1 : (wr.alloc (.cells #[.string xm, .slice xA xl.length xc] 35)).cell? ⟨wr.heap.size, 1, none⟩ = some (.slice xA xl.length xc) := box_cell _ _ _ 1
      clear hs hown
      by_cases hle : xl.length ≤ ws.length - k
      · have HEQ : Hid (∀ dq osq cc, Calls Try.prog 53 #[.slice xA xl.length xc, .slice (some ⟨gB, oB + k, none⟩) xl.length cc] (grow (redrawn (wr.alloc (.cells #[.string xm, .slice xA xl.length xc] 35)) dq) osq) fun e w'' => e = .returned (.bool (pre xl (ws.drop k))) ∧ ∃ p : Regrown, w'' = grow (redrawn (wr.alloc (.cells #[.string xm, .slice xA xl.length xc] 35)) p.d) p.os) :=
          fun dq osq cc => Calls.regrown_of (equal_take xl (ws.drop k) xl.length rfl xA _ xc cc _ (hxw.below (below_regrown _ dq osq)).top (hvr.below (below_regrown _ dq osq)).top hxl (by rw [HLD.out]; exact hle) (by rw [HLD.out]; unfold maxLen; omega))
        have h1 : (xl.length : Int) ≤ ((ws.length - k : Nat) : Int) := by omega
        have hd1 : decide ((xl.length : Int) ≤ ((ws.length - k : Nat) : Int)) = true := decide_eq_true h1
        have hd1n : decide (xl.length ≤ ws.length - k) = true := decide_eq_true hle
        have h2 : xl.length ≤ d - k := by omega
        have h2i : (xl.length : Int) ≤ ((d - k : Nat) : Int) := by omega
        have hszw : (wr.alloc (.cells #[.string xm, .slice xA xl.length xc] 35)).heap.size = wr.heap.size + 1 := by simp
        go_wp2
        generalize hX : wr.alloc (.cells #[.string xm, .slice xA xl.length xc] 35) = wx at *
        have q0 := cell_regrown bx0
        have q1 := cell_regrown bx1
        have HX := Lib.hid hX
        clear hX hc1 hc2
        (refine wp_region_quiet_below (by kernel_rfl) (by kernel_rfl) ?_; (repeat (go_big_quiet_step (((go_at_call 53; with_reducible exact HEQ.out _ _ _))))); refine wpQuiet_nil ?_; intro _ hw'; obtain ⟨⟨dq, osq⟩, hw''⟩ := hw'; subst hw'')
        have hq := below_regrown wx dq osq
        have c0 := q0 dq osq
        have c1 := q1 dq osq
        generalize grow (redrawn wx dq) osq = wq at *
        have own2 := own_below own1 hq
        have bQ := bX.trans (hq.mono bX.size)
        have hBQ := bQ.size
        clear q0 q1 own1 bx0 bx1 hxw hvr HEQ
        cases hpr : pre xl (ws.drop k)
        · have HT : Hid (bToks (pbsOf xs) (ws.drop k) (j + 1) = bToks (pbsOf xs) (ws.drop k) j) := bToks_no (by rw [HP.out]; exact hpr)
          have R1 : wq.ownsRow w.heap.size 70 3 u5 (bToks (pbsOf xs) (ws.drop k) (j + 1)).length (flat tokC (bToks (pbsOf xs) (ws.drop k) (j + 1))) := by rw [HT.out]; exact own2
          clear own2 hpr c0 c1
          go_wp2
          go_roundw
          case rel => exact ⟨j + 1, by omega, by go_num, R1, bQ⟩
          case measure => simp [intOf]; omega
        · have HT : Hid (bToks (pbsOf xs) (ws.drop k) (j + 1) = bToks (pbsOf xs) (ws.drop k) j ++ [((j : Int), xl.length, (xm.size : Int))]) := by
            rw [Hid, bToks_yes (by rw [HP.out]; exact hpr), bTok, HP.out]
          clear hpr
          go_wp2_with (at_builtin; refine append_one wq (by rfl) (.tmp 38) (.tmp 45) 74 (by rfl) (w.heap.size) 70 _ 3 24 Try.underlying74 info_tok rfl (by decide) (by decide) (_) _ _ (by rfl) own2 #[.int .i64 (j : Int), .int .i64 (xl.length : Int), .int .i64 (xm.size : Int)] (by rfl) rfl (by simp [Value.oneCell']) (by omega) hBQ ?_; intro v' w3 hown' hgrow)
          have R1 : w3.ownsRow w.heap.size 70 3 v' (bToks (pbsOf xs) (ws.drop k) (j + 1)).length (flat tokC (bToks (pbsOf xs) (ws.drop k) (j + 1))) := by rw [HT.out, List.length_append, flat_snoc]; exact hown'
          have R2 := own_grown_below bQ own2 hgrow hBQ
          clear hown' hgrow own2 c0 c1
          go_wp2
          go_roundw
          case rel => exact ⟨j + 1, by omega, by go_num, R1, R2⟩
          case measure => simp [intOf]; omega
      · have h1 : ¬ (xl.length : Int) ≤ ((ws.length - k : Nat) : Int) := by omega
        have hd1 : decide ((xl.length : Int) ≤ ((ws.length - k : Nat) : Int)) = false := decide_eq_false h1
        have hd1n : decide (xl.length ≤ ws.length - k) = false := decide_eq_false hle
        have HT : Hid (bToks (pbsOf xs) (ws.drop k) (j + 1) = bToks (pbsOf xs) (ws.drop k) j) := bToks_no (by rw [HP.out]; exact pre_long (by rw [HLD.out]; show ws.length - k < xl.length; omega))
        have R1 : (wr.alloc (.cells #[.string xm, .slice xA xl.length xc] 35)).ownsRow w.heap.size 70 3 u5 (bToks (pbsOf xs) (ws.drop k) (j + 1)).length (flat tokC (bToks (pbsOf xs) (ws.drop k) (j + 1))) := by rw [HT.out]; exact own1
        clear own1 hxw hvr
        go_wp2
        generalize hX : wr.alloc (.cells #[.string xm, .slice xA xl.length xc] 35) = wx at *
        have q0 := cell_regrown bx0
        have q1 := cell_regrown bx1
        have HX := Lib.hid hX
        clear hX hc1 hc2
        (refine wp_region_quiet_below (by kernel_rfl) (by kernel_rfl) ?_; (repeat (go_big_quiet_step ((fail)))); refine wpQuiet_nil ?_; intro _ hw'; obtain ⟨⟨dq, osq⟩, hw''⟩ := hw'; subst hw'')
        have hq := below_regrown wx dq osq
        generalize grow (redrawn wx dq) osq = wq at *
        have R2 := own_below R1 hq
        have bQ := bX.trans (hq.mono bX.size)
        clear q0 q1 bx0 bx1 R1
        go_wp2
        go_roundw
        case rel => exact ⟨j + 1, by omega, by go_num, R2, bQ⟩
        case measure => simp [intOf]; omega
    · have hje : j = (pbsOf xs).length := by rw [pbsOf_len]; omega
      have HT : Hid (toks (pbsOf xs) (ws.drop k) = bToks (pbsOf xs) (ws.drop k) j ++ [((-1 : Int), 1, (s0.size : Int))]) := by
        rw [Hid, toks, ← hje, wTok, HS0.out]
      have hcell := (hb.cell (p := ⟨gB, oB + k, none⟩) hgB).trans hcB
      have hpos : (0 : Int) < ((ws.length - k : Nat) : Int) := by omega
      have hposn : 0 < ws.length - k := by omega
      have hB := hb.size
      clear hje
      go_wp2_with (at_builtin; refine append_one wr (by rfl) (.tmp 48) (.tmp 54) 74 (by rfl) (w.heap.size) 70 _ 3 24 Try.underlying74 info_tok rfl (by decide) (by decide) (_) _ _ (by rfl) hown #[.int .i64 (-1), .int .i64 1, .int .i64 (s0.size : Int)] (by rfl) rfl (by simp [Value.oneCell']) (by omega) hB ?_; intro v' w3 hown' hgrow)
      have R1 : w3.ownsRow w.heap.size 70 3 v' (toks (pbsOf xs) (ws.drop k)).length (flat tokC (toks (pbsOf xs) (ws.drop k))) := by rw [HT.out, List.length_append, flat_snoc]; exact hown'
      have R2 := own_grown_below hb hown hgrow hB
      have RR : GaveToks (toks (pbsOf xs) (ws.drop k)) w (.returned v') w3 := ⟨v', rfl, R1, R2⟩
      have HRR := Lib.hid RR
      clear hown' hgrow hown R1 RR hcell
      go_wp2
      go_ret
      exact HRR.out
end Go.Proofs.Ytgddklafeaoleaa
