/-
  Contracts of l4Costs, CopyLeast and CopyShort (the reference's).
-/
import Derived.Test.YtgddklafeaoleaaCost3
import Derived.Test.YtgddklafeaoleaaManyS
namespace Go.Proofs.Ytgddklafeaoleaa
open Go.RowKit Go.Sort
set_option linter.unusedSimpArgs false
set_option linter.unusedVariables false

def cmW (wt : Wt) : Str → Int := fun s => wt s.size
def costM (wt : Wt) (bs : List PB) (ws : List Str) (k j : Nat) : Int := minTo (lw wt bs (ws.drop (k + 1)) + wt (strAt ws k).size) (leastAt (cmW wt) bs (ws.drop k)) j
/-- the reference's table: place k after j briefs -/
def costSt (wt : Wt) (bs : List PB) (ws : List Str) (k j : Nat) : Nat → Int := fun i => if i < k then 0 else if i = k then costM wt bs ws k j else lw wt bs (ws.drop i)
theorem costS_start {wt : Wt} {bs : List PB} {ws : List Str} {k : Nat} {v : Int} (hv : v = lw wt bs (ws.drop (k + 1)) + wt (strAt ws k).size) (i : Nat) : updF (costF wt bs ws (k + 1)) k v i = costSt wt bs ws k 0 i := by
  unfold costSt
  by_cases h2 : i = k
  · subst h2; rw [updF_same, if_neg (Nat.lt_irrefl i), if_pos rfl, hv]; rfl
  · rw [updF_other _ _ h2]
    unfold costF
    by_cases h1 : i < k
    · rw [if_pos (by omega), if_pos h1]
    · rw [if_neg (by omega), if_neg h1, if_neg h2]
theorem costS_end {wt : Wt} {bs : List PB} (hb : bvOk bs = true) {ws : List Str} {k : Nat} (hk : k < ws.length) (i : Nat) : costSt wt bs ws k bs.length i = costF wt bs ws k i := by
  unfold costF costSt
  by_cases h1 : i < k
  · rw [if_pos h1, if_pos h1]
  · by_cases h2 : i = k
    · subst h2
      obtain ⟨s, hs⟩ := get_lt hk
      have e : ws.drop i = s :: ws.drop (i + 1) := by
        obtain ⟨h3, h4⟩ := List.getElem?_eq_some_iff.1 hs
        rw [List.drop_eq_getElem_cons h3, h4]
      rw [if_neg h1, if_pos rfl, if_neg h1, costM, strAt_eq hs, e]
      exact (least_cons hb s (ws.drop (i + 1))).symm
    · rw [if_neg h1, if_neg h2, if_neg h1]
theorem costM_yes {wt : Wt} {bs : List PB} {ws : List Str} {k j : Nat} {b : PB} (hb : pbAt bs j = b) (hp : pre b.2 (ws.drop k) = true) : costM wt bs ws k (j + 1) = min (costM wt bs ws k j) (lw wt bs (ws.drop (k + b.2.length)) + wt b.1.size) := by
  have e : leastAt (cmW wt) bs (ws.drop k) j = some (lw wt bs (ws.drop (k + b.2.length)) + wt b.1.size) := by
    unfold leastAt; rw [hb, if_pos hp, List.drop_drop]; rfl
  unfold costM
  rw [minTo, e]
theorem costM_no {wt : Wt} {bs : List PB} {ws : List Str} {k j : Nat} {b : PB} (hb : pbAt bs j = b) (hp : pre b.2 (ws.drop k) = false) : costM wt bs ws k (j + 1) = costM wt bs ws k j := by
  have e : leastAt (cmW wt) bs (ws.drop k) j = none := by unfold leastAt; rw [hb, hp]; simp
  unfold costM
  rw [minTo, e]
theorem costS_at (wt : Wt) (bs : List PB) (ws : List Str) (k j : Nat) : costSt wt bs ws k j k = costM wt bs ws k j := by unfold costSt; rw [if_neg (Nat.lt_irrefl k), if_pos rfl]
theorem costS_far (wt : Wt) (bs : List PB) (ws : List Str) (k j : Nat) {n : Nat} (h : 1 ≤ n) : costSt wt bs ws k j (k + n) = lw wt bs (ws.drop (k + n)) := by unfold costSt; rw [if_neg (by omega), if_neg (by omega)]
theorem costS_put {wt : Wt} {bs : List PB} {ws : List Str} {k j : Nat} {v : Int} (h : costM wt bs ws k (j + 1) = v) (i : Nat) : updF (costSt wt bs ws k j) k v i = costSt wt bs ws k (j + 1) i := by
  by_cases h2 : i = k
  · subst h2; rw [updF_same, costS_at, h]
  · rw [updF_other _ _ h2]
    unfold costSt
    by_cases h3 : i < k
    · rw [if_pos h3, if_pos h3]
    · rw [if_neg h3, if_neg h2, if_neg h3, if_neg h2]
theorem costS_stay {wt : Wt} {bs : List PB} {ws : List Str} {k j : Nat} (h : costM wt bs ws k (j + 1) = costM wt bs ws k j) (i : Nat) : costSt wt bs ws k j i = costSt wt bs ws k (j + 1) i := by
  unfold costSt
  by_cases h3 : i < k
  · rw [if_pos h3, if_pos h3]
  · by_cases h2 : i = k
    · rw [if_neg h3, if_neg h3, if_pos h2, if_pos h2, h]
    · rw [if_neg h3, if_neg h2, if_neg h3, if_neg h2]
theorem costM_small {wt : Wt} (hwt : okWt wt) {bs : List PB} (hb : bvOk bs = true) {ws : List Str} (hz : ∀ s ∈ ws, s.size ≤ 12) (h20 : ws.length ≤ 20) {k : Nat} (hk : k < ws.length) (j : Nat) : -1000 ≤ costM wt bs ws k j ∧ costM wt bs ws k j ≤ 1000 := by
  have h1 := lw_small hwt hb (ws := ws.drop (k + 1)) (fun s hs => hz s (List.mem_of_mem_drop hs)) (by rw [List.length_drop]; omega)
  obtain ⟨s, hs⟩ := get_lt hk
  have h2 := hz s (List.mem_of_getElem? hs)
  have h3 := hwt s.size (by omega)
  have h4 := (minTo_le (z := lw wt bs (ws.drop (k + 1)) + wt (strAt ws k).size) (f := leastAt (cmW wt) bs (ws.drop k)) j).1
  unfold costM
  rw [strAt_eq hs] at h4 ⊢
  refine ⟨?_, by omega⟩
  rcases minTo_hit (z := lw wt bs (ws.drop (k + 1)) + wt s.size) (f := leastAt (cmW wt) bs (ws.drop k)) j with h5 | ⟨i, x, hi, hx, h5⟩
  · omega
  · rw [h5]
    unfold leastAt at hx
    split at hx
    · injection hx with hx
      have h6 := lw_small hwt hb (ws := (ws.drop k).drop (pbAt bs i).2.length) (fun s hs => hz s (List.mem_of_mem_drop (List.mem_of_mem_drop hs))) (by rw [List.length_drop, List.length_drop]; omega)
      have h7 := hwt (pbAt bs i).1.size (by omega)
      have h8 : x = lw wt bs ((ws.drop k).drop (pbAt bs i).2.length) + wt (pbAt bs i).1.size := hx.symm
      omega
    · cases hx

/-- what l4Costs leaves -/
def GaveRow (v : Int) (n : Nat) (w : World) (e : Ending) (w' : World) : Prop := ∃ q, e = .returned (.slice (some ⟨q, 0, none⟩) (n + 1) (n + 1)) ∧ w'.cell? ⟨q, 0, none⟩ = some (.int .i64 v) ∧ Below w.heap.size w w'

set_option maxRecDepth 100000 in
set_option maxHeartbeats 4000000 in
theorem costs_cost (xs : List Brf) (ws : List Str) (A B : Option Addr) (c d : Nat) (w : World) (hw : Seg w 0 w.heap.size A (flat brfC xs)) (ho : BrfsAt w xs) (hv : Seg w 0 w.heap.size B (strs ws)) (hp : StrsOk ws) (hok : cpOk (pbsOf xs) ws = true) (hm : ws.length ≤ d) (hdm : d ≤ maxLen) :
    Calls Try.prog 67 #[.slice A xs.length c, .slice B ws.length d, .int .i64 1, .int .i64 0] w (GaveRow (lw wtC (pbsOf xs) ws) ws.length w) := by
  simp only [cpOk, Bool.and_eq_true] at hok
  obtain ⟨hbv, hsp⟩ := hok
  have h20 := (speech_parts hsp).1
  have hz := speech_small hsp
  have hx8 : xs.length ≤ 8 := by have := bv_len hbv; rwa [pbsOf_len] at this
  have hmk := make_n (P := Try.prog) 67 3 (.int .i64 0) 1 8 Try.underlying67 info_int (by decide) (ws.length + 1) (by omega)
  have ec : ((ws.length + 1 : Nat) : Int) = (ws.length : Int) + 1 := by omega
  rw [ec] at hmk
  clear ec
  have T3 := (Tab.madeH w w.heap.size (ws.length + 1) w.heap.size rfl (Nat.le_refl _) (by omega)).congr (g := costF wtC (pbsOf xs) ws ws.length) fun i hi => costF_zero wtC (pbsOf xs) ws i hi
  have b3 := bel_alloc (Below.refl w.heap.size w) (.cells (madeCells #[Value.int .i64 0] (ws.length + 1)) 3)
  have HT4 := Lib.hid T3
  have HB4 := Lib.hid b3
  clear T3 b3
  go_enter Try.func67, Try.ntmps67
  go_wp2_with fail
  generalize hq : w.heap.size = q at *
  go_loopw [10, 11] (fun i _ wr => ∃ m : Nat, m ≤ ws.length ∧ i = .int .i64 ((m : Int) - 1) ∧ Hid (Tab wr q q (ws.length + 1) (costF wtC (pbsOf xs) ws m)) ∧ Below q w wr) (fun i _ _ => (intOf i + 1).toNat)
  case atStart => exact ⟨ws.length, Nat.le_refl _, rfl, HT4, HB4.out⟩
  case round =>
    obtain ⟨m, hml, rfl, hT, hb⟩ := hrel
    generalize wr = w5 at *
    have hbq : Below w.heap.size w w5 := by rw [hq]; exact hb
    cases m with
    | zero =>
      have c1 := hT.out.cell (i := 0) (by omega)
      have HF : Hid (costF wtC (pbsOf xs) ws 0 0 = lw wtC (pbsOf xs) ws) := by unfold costF; simp [Hid]
      rw [HF.out] at c1
      have C1 := Lib.hid c1
      have hneg : ¬ (0 : Int) ≤ (((0 : Nat) : Int) - 1) := by omega
      clear hmk c1
      go_wp2_with fail
      go_ret
      exact ⟨q, rfl, C1.out, hbq⟩
    | succ k =>
      have ek : ((k + 1 : Nat) : Int) - 1 = (k : Int) := by omega
      rw [ek]
      have hkl : k < ws.length := by omega
      have hnn : (0 : Int) ≤ (k : Int) := by omega
      obtain ⟨s0, hs0⟩ := get_lt hkl
      have hs12 := hz s0 (List.mem_of_getElem? hs0)
      have c1 := hT.out.cell (i := k + 1) (by omega)
      have hcu := hT.out.cell (i := k) (by omega)
      have f1 := hT.out.free k
      have HF : Hid (costF wtC (pbsOf xs) ws (k + 1) (k + 1) = lw wtC (pbsOf xs) (ws.drop (k + 1))) := by unfold costF; rw [Hid, if_neg (by omega)]
      rw [HF.out] at c1
      have l1 := lw_small okC hbv (ws := ws.drop (k + 1)) (fun s hs => hz s (List.mem_of_mem_drop hs)) (by rw [List.length_drop]; omega)
      have T2 : Hid (Tab (w5.drew.setCell ⟨q, k, none⟩ (.int .i64 (lw wtC (pbsOf xs) (ws.drop (k + 1)) + (s0.size : Int)))) q q (ws.length + 1) (costSt wtC (pbsOf xs) ws k 0)) :=
        ((hT.out.below (Below.refl _ _).drew).set k _).congr fun i _ => costS_start (by rw [strAt_eq hs0]; rfl) i
      have hqlo := hT.out.lt.1
      have b2 := hb.drew.setCell (p := ⟨q, k, none⟩) hqlo (.int .i64 (lw wtC (pbsOf xs) (ws.drop (k + 1)) + (s0.size : Int)))
      obtain ⟨gB, oB, rfl, hgB, hcB⟩ := (hv.below hbq).strk hs0
      have HEND := Lib.hid (fun i => costS_end (wt := wtC) hbv (ws := ws) (k := k) hkl i)
      have HLWS := Lib.hid (fun n => lw_small (wt := wtC) okC hbv (ws := ws.drop n) (fun s hs => hz s (List.mem_of_mem_drop hs)) (by rw [List.length_drop]; omega))
      have HSML := Lib.hid (fun j => costM_small (wt := wtC) okC hbv (ws := ws) hz h20 hkl j)
      generalize hlv : lw wtC (pbsOf xs) (ws.drop (k + 1)) = lv at *
      have HLV := Lib.hid hlv
      have e1 : IntKind.i64.wrap ((k : Int) + 1) = (k : Int) + 1 := IntWalk.i64_in _ (by omega)
      have e2 : ((k : Int) + 1).toNat = k + 1 := by omega
      have e3 : (0 : Int) ≤ (k : Int) + 1 := by omega
      have e4 : (k : Int) + 1 < (ws.length : Int) + 1 := by omega
      have e5 : (k : Int) < (ws.length : Int) + 1 := by omega
      have e6 : (k : Int) < (ws.length : Int) := by omega
      have w1 : IntKind.i64.wrap (s0.size : Int) = (s0.size : Int) := IntWalk.i64_in _ (by omega)
      have w2 : IntKind.i64.wrap (1 * (s0.size : Int)) = (s0.size : Int) := by rw [Int.one_mul]; exact w1
      have w3 : IntKind.i64.wrap (lv + (s0.size : Int)) = lv + (s0.size : Int) := IntWalk.i64_in _ (by omega)
      have w4 : IntKind.i64.wrap (lv + (s0.size : Int) + 0) = lv + (s0.size : Int) := by rw [Int.add_zero]; exact w3
      clear hmk hs0 hlv
      go_wp2_with fail
      go_still_tail 18, (by kernel_rfl)
      go_wp2_with fail
      clear c1 hcu f1 hcB e1 e2 e3 e4
      go_loopw [11] (fun i wr => ∃ j : Nat, j ≤ xs.length ∧ i = .int .i64 (j : Int) ∧ Hid (Tab wr q q (ws.length + 1) (costSt wtC (pbsOf xs) ws k j)) ∧ Below q w wr) (fun i _ => xs.length - (intOf i).toNat)
      case atStart => exact ⟨0, Nat.zero_le _, rfl, T2, b2⟩
      case round =>
        obtain ⟨j, hj, rfl, hT2, hb2⟩ := hrel
        have hb2q : Below w.heap.size w wr := by rw [hq]; exact hb2
        by_cases hjl : j < xs.length
        · obtain ⟨⟨xm, xA, xc, xl⟩, hs⟩ := get_lt hjl
          have hwq : Seg w 0 w.heap.size A (flat brfC xs) := by rw [hq]; exact hw
          obtain ⟨g, o, rfl, hg, _, hgw, hc1, hc2⟩ := (hwq.below hb2q).brf hs
          simp only [rowV] at hc1 hc2
          obtain ⟨hxm, hxw, hxo, hxc, hxn⟩ := (ho _ (List.mem_of_getElem? hs)).below hb2q
          simp only at hxm hxw hxo hxc hxn
          have HP := Lib.hid (pbAt_of hs)
          have hwl := bv_words hbv (k := j) (by rw [pbsOf_len]; exact hjl)
          have hml2 := bv_mark hbv (k := j) (by rw [pbsOf_len]; exact hjl)
          rw [HP.out] at hwl hml2
          simp only at hwl hml2
          obtain ⟨hwl1, hwl3⟩ := hwl
          obtain ⟨hml1, hml3⟩ := hml2
          have hvq : Seg w 0 w.heap.size (some ⟨gB, oB, none⟩) (strs ws) := by rw [hq]; exact hv
          have hvr := (hvq.below hb2q).top
          clear hs hwq hvq
          go_wp2_with fail
          refine (spec_l4At ws xl xm k gB oB xA xc d _ hvr hxw (by omega) hm hdm (by omega) hkl).mono ?_
          rintro e w7 ⟨rfl, b7⟩
          have hb7 : Below q w w7 := by have := bel_trans hb2q b7; rwa [hq] at this
          have T7 := hT2.out.below b7
          cases hpr : pre xl (ws.drop k)
          · have T8 : Hid (Tab w7 q q (ws.length + 1) (costSt wtC (pbsOf xs) ws k (j + 1))) := T7.congr fun i _ => costS_stay (costM_no HP.out hpr) i
            clear T7 hc1 hc2 hpr
            go_wp2_with fail
            go_roundw
            case rel => exact ⟨j + 1, by omega, by go_num, T8, hb7⟩
            case measure => simp [intOf]; omega
          · have hfit : k + xl.length ≤ ws.length := by have := pre_len hpr; rw [List.length_drop] at this; omega
            have d1 := T7.cell (i := k) (by omega)
            have d2 := T7.cell (i := k + xl.length) (by omega)
            have d3 := T7.free k
            have d4 := (b7.cell (p := ⟨g, o + j * 2 + 1, none⟩) hg).trans hc2
            have d5 := (b7.cell (p := ⟨g, o + j * 2, none⟩) hg).trans hc1
            rw [costS_at] at d1
            rw [costS_far _ _ _ _ _ hwl1] at d2
            have m1 := HSML.out j
            have m2 := HLWS.out (k + xl.length)
            have T8 : Hid (Tab (w7.drew.setCell ⟨q, k, none⟩ (.int .i64 (if lw wtC (pbsOf xs) (ws.drop (k + xl.length)) + (xm.size : Int) < costM wtC (pbsOf xs) ws k j then lw wtC (pbsOf xs) (ws.drop (k + xl.length)) + (xm.size : Int) else costM wtC (pbsOf xs) ws k j))) q q (ws.length + 1) (costSt wtC (pbsOf xs) ws k (j + 1))) :=
              ((T7.below (Below.refl _ _).drew).set k _).congr fun i _ => costS_put (by rw [costM_yes (b := (xm, xl)) HP.out hpr]; show min _ (lw wtC (pbsOf xs) (ws.drop (k + xl.length)) + (xm.size : Int)) = _; split <;> omega) i
            have b8 := hb7.drew.setCell (p := ⟨q, k, none⟩) hqlo (.int .i64 (if lw wtC (pbsOf xs) (ws.drop (k + xl.length)) + (xm.size : Int) < costM wtC (pbsOf xs) ws k j then lw wtC (pbsOf xs) (ws.drop (k + xl.length)) + (xm.size : Int) else costM wtC (pbsOf xs) ws k j))
            generalize costM wtC (pbsOf xs) ws k j = va at *
            generalize lw wtC (pbsOf xs) (ws.drop (k + xl.length)) = vb at *
            have e1 : IntKind.i64.wrap ((k : Int) + (xl.length : Int)) = (k : Int) + (xl.length : Int) := IntWalk.i64_in _ (by omega)
            have e2 : ((k : Int) + (xl.length : Int)).toNat = k + xl.length := by omega
            have e3 : (0 : Int) ≤ (k : Int) + (xl.length : Int) := by omega
            have e4 : (k : Int) + (xl.length : Int) < (ws.length : Int) + 1 := by omega
            have e7 : (j : Int) < (xs.length : Int) := by omega
            have w1 : IntKind.i64.wrap (xm.size : Int) = (xm.size : Int) := IntWalk.i64_in _ (by omega)
            have w2 : IntKind.i64.wrap (1 * (xm.size : Int)) = (xm.size : Int) := by rw [Int.one_mul]; exact w1
            have w3 : IntKind.i64.wrap (vb + (xm.size : Int)) = vb + (xm.size : Int) := IntWalk.i64_in _ (by omega)
            have w4 : IntKind.i64.wrap (vb + (xm.size : Int) + 0) = vb + (xm.size : Int) := by rw [Int.add_zero]; exact w3
            have HPR := Lib.hid hpr
            clear T7 hc1 hc2 hpr
            go_wp2_with fail
            go_still_tail 30, (by kernel_rfl)
            go_wp2_with fail
            go_roundw
            case rel => exact ⟨j + 1, by omega, by go_num, T8, b8⟩
            case measure => simp [intOf]; omega
        · have T8 : Hid (Tab wr q q (ws.length + 1) (costF wtC (pbsOf xs) ws k)) := by
            have hje : j = (pbsOf xs).length := by rw [pbsOf_len]; omega
            have := hT2.out
            rw [hje] at this
            exact this.congr fun i _ => HEND.out i
          go_wp2_with fail
          go_roundw
          case rel => exact ⟨k, by omega, by go_num, T8, hb2⟩
          case measure => simp [intOf] <;> omega
theorem spec_CopyLeast (xs : List Brf) (ws : List Str) (A B : Option Addr) (c d : Nat) (w : World) (hw : Seg w 0 w.heap.size A (flat brfC xs)) (ho : BrfsAt w xs) (hv : Seg w 0 w.heap.size B (strs ws)) (hp : StrsOk ws) (hn : xs.length ≤ maxLen) (hm : ws.length ≤ d) (hdm : d ≤ maxLen) :
    Calls Try.prog 30 #[.slice A xs.length c, .slice B ws.length d] w fun e w' => e = .returned (.int .i64 (leastOf wtC (pbsOf xs) ws)) ∧ Below w.heap.size w w' := by
  go_enter Try.func30, Try.ntmps30
  go_wp2_with fail
  refine (spec_l4Both xs ws A B c d _ hw ho hn hv hp (Nat.le_trans hm hdm)).mono ?_
  rintro e w1 ⟨rfl, b1⟩
  cases hok : cpOk (pbsOf xs) ws
  · have HO : Hid (leastOf wtC (pbsOf xs) ws = -1) := by rw [Hid, leastOf, hok]; rfl
    go_wp2_with fail
    go_ret
    exact ⟨ret_int HO.out.symm, b1⟩
  have HO : Hid (leastOf wtC (pbsOf xs) ws = lw wtC (pbsOf xs) ws) := by rw [Hid, leastOf, hok]; rfl
  have HOK := Lib.hid hok
  clear hok
  go_wp2_with fail
  refine (costs_cost xs ws A B c d _ (hw.below b1).top (ho.below b1) (hv.below b1).top hp HOK.out hm hdm).mono ?_
  rintro e w2 ⟨q, rfl, hcell, b2⟩
  have bal2 := bel_trans b1 b2
  have h0 : (0 : Int) < ((ws.length + 1 : Nat) : Int) := by omega
  go_wp2_with fail
  go_ret
  exact ⟨ret_int HO.out.symm, bal2⟩

set_option maxRecDepth 100000 in
set_option maxHeartbeats 4000000 in
theorem costs_one (xs : List Brf) (ws : List Str) (A B : Option Addr) (c d : Nat) (w : World) (hw : Seg w 0 w.heap.size A (flat brfC xs)) (ho : BrfsAt w xs) (hv : Seg w 0 w.heap.size B (strs ws)) (hp : StrsOk ws) (hok : cpOk (pbsOf xs) ws = true) (hm : ws.length ≤ d) (hdm : d ≤ maxLen) :
    Calls Try.prog 67 #[.slice A xs.length c, .slice B ws.length d, .int .i64 0, .int .i64 1] w (GaveRow (lw wtO (pbsOf xs) ws) ws.length w) := by
  simp only [cpOk, Bool.and_eq_true] at hok
  obtain ⟨hbv, hsp⟩ := hok
  have h20 := (speech_parts hsp).1
  have hz := speech_small hsp
  have hx8 : xs.length ≤ 8 := by have := bv_len hbv; rwa [pbsOf_len] at this
  have hmk := make_n (P := Try.prog) 67 3 (.int .i64 0) 1 8 Try.underlying67 info_int (by decide) (ws.length + 1) (by omega)
  have ec : ((ws.length + 1 : Nat) : Int) = (ws.length : Int) + 1 := by omega
  rw [ec] at hmk
  clear ec
  have T3 := (Tab.madeH w w.heap.size (ws.length + 1) w.heap.size rfl (Nat.le_refl _) (by omega)).congr (g := costF wtO (pbsOf xs) ws ws.length) fun i hi => costF_zero wtO (pbsOf xs) ws i hi
  have b3 := bel_alloc (Below.refl w.heap.size w) (.cells (madeCells #[Value.int .i64 0] (ws.length + 1)) 3)
  have HT4 := Lib.hid T3
  have HB4 := Lib.hid b3
  clear T3 b3
  go_enter Try.func67, Try.ntmps67
  go_wp2_with fail
  generalize hq : w.heap.size = q at *
  go_loopw [10, 11] (fun i _ wr => ∃ m : Nat, m ≤ ws.length ∧ i = .int .i64 ((m : Int) - 1) ∧ Hid (Tab wr q q (ws.length + 1) (costF wtO (pbsOf xs) ws m)) ∧ Below q w wr) (fun i _ _ => (intOf i + 1).toNat)
  case atStart => exact ⟨ws.length, Nat.le_refl _, rfl, HT4, HB4.out⟩
  case round =>
    obtain ⟨m, hml, rfl, hT, hb⟩ := hrel
    generalize wr = w5 at *
    have hbq : Below w.heap.size w w5 := by rw [hq]; exact hb
    cases m with
    | zero =>
      have c1 := hT.out.cell (i := 0) (by omega)
      have HF : Hid (costF wtO (pbsOf xs) ws 0 0 = lw wtO (pbsOf xs) ws) := by unfold costF; simp [Hid]
      rw [HF.out] at c1
      have C1 := Lib.hid c1
      have hneg : ¬ (0 : Int) ≤ (((0 : Nat) : Int) - 1) := by omega
      clear hmk c1
      go_wp2_with fail
      go_ret
      exact ⟨q, rfl, C1.out, hbq⟩
    | succ k =>
      have ek : ((k + 1 : Nat) : Int) - 1 = (k : Int) := by omega
      rw [ek]
      have hkl : k < ws.length := by omega
      have hnn : (0 : Int) ≤ (k : Int) := by omega
      obtain ⟨s0, hs0⟩ := get_lt hkl
      have hs12 := hz s0 (List.mem_of_getElem? hs0)
      have c1 := hT.out.cell (i := k + 1) (by omega)
      have hcu := hT.out.cell (i := k) (by omega)
      have f1 := hT.out.free k
      have HF : Hid (costF wtO (pbsOf xs) ws (k + 1) (k + 1) = lw wtO (pbsOf xs) (ws.drop (k + 1))) := by unfold costF; rw [Hid, if_neg (by omega)]
      rw [HF.out] at c1
      have l1 := lw_small okO hbv (ws := ws.drop (k + 1)) (fun s hs => hz s (List.mem_of_mem_drop hs)) (by rw [List.length_drop]; omega)
      have T2 : Hid (Tab (w5.drew.setCell ⟨q, k, none⟩ (.int .i64 (lw wtO (pbsOf xs) (ws.drop (k + 1)) + (1 : Int)))) q q (ws.length + 1) (costSt wtO (pbsOf xs) ws k 0)) :=
        ((hT.out.below (Below.refl _ _).drew).set k _).congr fun i _ => costS_start (by rw [strAt_eq hs0]; rfl) i
      have hqlo := hT.out.lt.1
      have b2 := hb.drew.setCell (p := ⟨q, k, none⟩) hqlo (.int .i64 (lw wtO (pbsOf xs) (ws.drop (k + 1)) + (1 : Int)))
      obtain ⟨gB, oB, rfl, hgB, hcB⟩ := (hv.below hbq).strk hs0
      have HEND := Lib.hid (fun i => costS_end (wt := wtO) hbv (ws := ws) (k := k) hkl i)
      have HLWS := Lib.hid (fun n => lw_small (wt := wtO) okO hbv (ws := ws.drop n) (fun s hs => hz s (List.mem_of_mem_drop hs)) (by rw [List.length_drop]; omega))
      have HSML := Lib.hid (fun j => costM_small (wt := wtO) okO hbv (ws := ws) hz h20 hkl j)
      generalize hlv : lw wtO (pbsOf xs) (ws.drop (k + 1)) = lv at *
      have HLV := Lib.hid hlv
      have e1 : IntKind.i64.wrap ((k : Int) + 1) = (k : Int) + 1 := IntWalk.i64_in _ (by omega)
      have e2 : ((k : Int) + 1).toNat = k + 1 := by omega
      have e3 : (0 : Int) ≤ (k : Int) + 1 := by omega
      have e4 : (k : Int) + 1 < (ws.length : Int) + 1 := by omega
      have e5 : (k : Int) < (ws.length : Int) + 1 := by omega
      have e6 : (k : Int) < (ws.length : Int) := by omega
      have w1 : IntKind.i64.wrap 0 = 0 := IntWalk.i64_in _ (by omega)
      have w2 : IntKind.i64.wrap (0 * (s0.size : Int)) = 0 := by rw [Int.zero_mul]; exact w1
      have w3 : IntKind.i64.wrap lv = lv := IntWalk.i64_in _ (by omega)
      have w4 : IntKind.i64.wrap (lv + 0) = lv := by rw [Int.add_zero]; exact w3
      have w5 : IntKind.i64.wrap (lv + 1) = lv + 1 := IntWalk.i64_in _ (by omega)
      clear hmk hs0 hlv
      go_wp2_with fail
      go_still_tail 18, (by kernel_rfl)
      go_wp2_with fail
      clear c1 hcu f1 hcB e1 e2 e3 e4
      go_loopw [11] (fun i wr => ∃ j : Nat, j ≤ xs.length ∧ i = .int .i64 (j : Int) ∧ Hid (Tab wr q q (ws.length + 1) (costSt wtO (pbsOf xs) ws k j)) ∧ Below q w wr) (fun i _ => xs.length - (intOf i).toNat)
      case atStart => exact ⟨0, Nat.zero_le _, rfl, T2, b2⟩
      case round =>
        obtain ⟨j, hj, rfl, hT2, hb2⟩ := hrel
        have hb2q : Below w.heap.size w wr := by rw [hq]; exact hb2
        by_cases hjl : j < xs.length
        · obtain ⟨⟨xm, xA, xc, xl⟩, hs⟩ := get_lt hjl
          have hwq : Seg w 0 w.heap.size A (flat brfC xs) := by rw [hq]; exact hw
          obtain ⟨g, o, rfl, hg, _, hgw, hc1, hc2⟩ := (hwq.below hb2q).brf hs
          simp only [rowV] at hc1 hc2
          obtain ⟨hxm, hxw, hxo, hxc, hxn⟩ := (ho _ (List.mem_of_getElem? hs)).below hb2q
          simp only at hxm hxw hxo hxc hxn
          have HP := Lib.hid (pbAt_of hs)
          have hwl := bv_words hbv (k := j) (by rw [pbsOf_len]; exact hjl)
          have hml2 := bv_mark hbv (k := j) (by rw [pbsOf_len]; exact hjl)
          rw [HP.out] at hwl hml2
          simp only at hwl hml2
          obtain ⟨hwl1, hwl3⟩ := hwl
          obtain ⟨hml1, hml3⟩ := hml2
          have hvq : Seg w 0 w.heap.size (some ⟨gB, oB, none⟩) (strs ws) := by rw [hq]; exact hv
          have hvr := (hvq.below hb2q).top
          clear hs hwq hvq
          go_wp2_with fail
          refine (spec_l4At ws xl xm k gB oB xA xc d _ hvr hxw (by omega) hm hdm (by omega) hkl).mono ?_
          rintro e w7 ⟨rfl, b7⟩
          have hb7 : Below q w w7 := by have := bel_trans hb2q b7; rwa [hq] at this
          have T7 := hT2.out.below b7
          cases hpr : pre xl (ws.drop k)
          · have T8 : Hid (Tab w7 q q (ws.length + 1) (costSt wtO (pbsOf xs) ws k (j + 1))) := T7.congr fun i _ => costS_stay (costM_no HP.out hpr) i
            clear T7 hc1 hc2 hpr
            go_wp2_with fail
            go_roundw
            case rel => exact ⟨j + 1, by omega, by go_num, T8, hb7⟩
            case measure => simp [intOf]; omega
          · have hfit : k + xl.length ≤ ws.length := by have := pre_len hpr; rw [List.length_drop] at this; omega
            have d1 := T7.cell (i := k) (by omega)
            have d2 := T7.cell (i := k + xl.length) (by omega)
            have d3 := T7.free k
            have d4 := (b7.cell (p := ⟨g, o + j * 2 + 1, none⟩) hg).trans hc2
            have d5 := (b7.cell (p := ⟨g, o + j * 2, none⟩) hg).trans hc1
            rw [costS_at] at d1
            rw [costS_far _ _ _ _ _ hwl1] at d2
            have m1 := HSML.out j
            have m2 := HLWS.out (k + xl.length)
            have T8 : Hid (Tab (w7.drew.setCell ⟨q, k, none⟩ (.int .i64 (if lw wtO (pbsOf xs) (ws.drop (k + xl.length)) + (1 : Int) < costM wtO (pbsOf xs) ws k j then lw wtO (pbsOf xs) (ws.drop (k + xl.length)) + (1 : Int) else costM wtO (pbsOf xs) ws k j))) q q (ws.length + 1) (costSt wtO (pbsOf xs) ws k (j + 1))) :=
              ((T7.below (Below.refl _ _).drew).set k _).congr fun i _ => costS_put (by rw [costM_yes (b := (xm, xl)) HP.out hpr]; show min _ (lw wtO (pbsOf xs) (ws.drop (k + xl.length)) + (1 : Int)) = _; split <;> omega) i
            have b8 := hb7.drew.setCell (p := ⟨q, k, none⟩) hqlo (.int .i64 (if lw wtO (pbsOf xs) (ws.drop (k + xl.length)) + (1 : Int) < costM wtO (pbsOf xs) ws k j then lw wtO (pbsOf xs) (ws.drop (k + xl.length)) + (1 : Int) else costM wtO (pbsOf xs) ws k j))
            generalize costM wtO (pbsOf xs) ws k j = va at *
            generalize lw wtO (pbsOf xs) (ws.drop (k + xl.length)) = vb at *
            have e1 : IntKind.i64.wrap ((k : Int) + (xl.length : Int)) = (k : Int) + (xl.length : Int) := IntWalk.i64_in _ (by omega)
            have e2 : ((k : Int) + (xl.length : Int)).toNat = k + xl.length := by omega
            have e3 : (0 : Int) ≤ (k : Int) + (xl.length : Int) := by omega
            have e4 : (k : Int) + (xl.length : Int) < (ws.length : Int) + 1 := by omega
            have e7 : (j : Int) < (xs.length : Int) := by omega
            have w1 : IntKind.i64.wrap 0 = 0 := IntWalk.i64_in _ (by omega)
            have w2 : IntKind.i64.wrap (0 * (xm.size : Int)) = 0 := by rw [Int.zero_mul]; exact w1
            have w3 : IntKind.i64.wrap vb = vb := IntWalk.i64_in _ (by omega)
            have w4 : IntKind.i64.wrap (vb + 0) = vb := by rw [Int.add_zero]; exact w3
            have w5 : IntKind.i64.wrap (vb + 1) = vb + 1 := IntWalk.i64_in _ (by omega)
            have HPR := Lib.hid hpr
            clear T7 hc1 hc2 hpr
            go_wp2_with fail
            go_still_tail 30, (by kernel_rfl)
            go_wp2_with fail
            go_roundw
            case rel => exact ⟨j + 1, by omega, by go_num, T8, b8⟩
            case measure => simp [intOf]; omega
        · have T8 : Hid (Tab wr q q (ws.length + 1) (costF wtO (pbsOf xs) ws k)) := by
            have hje : j = (pbsOf xs).length := by rw [pbsOf_len]; omega
            have := hT2.out
            rw [hje] at this
            exact this.congr fun i _ => HEND.out i
          go_wp2_with fail
          go_roundw
          case rel => exact ⟨k, by omega, by go_num, T8, hb2⟩
          case measure => simp [intOf] <;> omega
theorem spec_CopyShort (xs : List Brf) (ws : List Str) (A B : Option Addr) (c d : Nat) (w : World) (hw : Seg w 0 w.heap.size A (flat brfC xs)) (ho : BrfsAt w xs) (hv : Seg w 0 w.heap.size B (strs ws)) (hp : StrsOk ws) (hn : xs.length ≤ maxLen) (hm : ws.length ≤ d) (hdm : d ≤ maxLen) :
    Calls Try.prog 35 #[.slice A xs.length c, .slice B ws.length d] w fun e w' => e = .returned (.int .i64 (leastOf wtO (pbsOf xs) ws)) ∧ Below w.heap.size w w' := by
  go_enter Try.func35, Try.ntmps35
  go_wp2_with fail
  refine (spec_l4Both xs ws A B c d _ hw ho hn hv hp (Nat.le_trans hm hdm)).mono ?_
  rintro e w1 ⟨rfl, b1⟩
  cases hok : cpOk (pbsOf xs) ws
  · have HO : Hid (leastOf wtO (pbsOf xs) ws = -1) := by rw [Hid, leastOf, hok]; rfl
    go_wp2_with fail
    go_ret
    exact ⟨ret_int HO.out.symm, b1⟩
  have HO : Hid (leastOf wtO (pbsOf xs) ws = lw wtO (pbsOf xs) ws) := by rw [Hid, leastOf, hok]; rfl
  have HOK := Lib.hid hok
  clear hok
  go_wp2_with fail
  refine (costs_one xs ws A B c d _ (hw.below b1).top (ho.below b1) (hv.below b1).top hp HOK.out hm hdm).mono ?_
  rintro e w2 ⟨q, rfl, hcell, b2⟩
  have bal2 := bel_trans b1 b2
  have h0 : (0 : Int) < ((ws.length + 1 : Nat) : Int) := by omega
  go_wp2_with fail
  go_ret
  exact ⟨ret_int HO.out.symm, bal2⟩
end Go.Proofs.Ytgddklafeaoleaa
