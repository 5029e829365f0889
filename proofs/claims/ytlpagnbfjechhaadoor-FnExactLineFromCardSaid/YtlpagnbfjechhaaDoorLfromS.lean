/-
  Contracts of the reference's LineFrom and of what it calls.
-/
import Derived.Test.YtlpagnbfjechhaaDoorCut
import Derived.Test.YtlpagnbfjechhaaDoorStrs
import Derived.Test.YtlpagnbfjechhaaDoorLof
namespace Go.Proofs.YtlpagnbfjechhaaDoor
open Go.RowKit Go.Sort
set_option linter.unusedSimpArgs false
set_option linter.unusedVariables false

theorem strs_snoc (xs : List Str) (x : Str) : strs (xs ++ [x]) = strs xs ++ [.string x] := by simp [strs]
def GaveParts (s : Str) (w : World) (e : Ending) (w' : World) : Prop := ∃ v, e = .returned v ∧ w'.ownsRow w.heap.size 9 1 v (parts s).length (strs (parts s)) ∧ Below w.heap.size w w'
theorem len_snoc {α : Type} (xs : List α) (x : α) : (xs ++ [x]).length = xs.length + 1 := by simp
set_option maxRecDepth 100000 in
set_option maxHeartbeats 1000000 in
theorem spec_l3Cut (s : Str) (w : World) (hs : s.size ≤ 1048576) : Calls Tryd.prog 9 #[.string s, .int .u8 32] w (GaveParts s w) := by
  have own0 : Hid ((w.alloc (.cells #[] 9)).ownsRow w.heap.size 9 1 (.slice (some ⟨w.heap.size, 0, none⟩) 0 0) 0 []) := World.ownsRow_made w #[] 0 (Nat.le_refl _) (by simp [maxLen]) (by simp)
  have b0 := bel_alloc (Below.refl w.heap.size w) (.cells #[] 9)
  go_enter Tryd.func9, Tryd.ntmps9
  go_wp2
  go_loopw [5, 6, 7] (fun v f i wr => ∃ (k g : Nat) (out : List Str), k ≤ s.size ∧ g ≤ k ∧ i = .int .i64 k ∧ f = .int .i64 g ∧ out.length ≤ k ∧ wr.ownsRow w.heap.size 9 1 v out.length (strs out) ∧ Hid (CutAt s g k out) ∧ Below w.heap.size w wr) (fun _ _ i _ => s.size - (intOf i).toNat)
  case atStart => exact ⟨0, 0, [], Nat.zero_le _, Nat.le_refl _, rfl, rfl, Nat.le_refl _, own0.out, cut_start s, b0⟩
  case round =>
    obtain ⟨k, g, out, hk, hgk, rfl, rfl, hol, hown, hcut, hb⟩ := hrel
    have hBw := hb.size
    by_cases hlt : k < s.size
    · have hbk := byteAt_get s k hlt
      by_cases he : byteAt s k = 32
      · have hbeq : ((s[k].toNat : Int) == 32) = true := by rw [hbk, he]; rfl
        have HC := Lib.hid (cut_hit hcut.out hlt he)
        clear hbk he
        go_wp2_with (at_builtin; refine append_one wr (by rfl) (.tmp 20) (.tmp 25) 28 (by rfl) (w.heap.size) 9 _ 1 16 Tryd.underlying28 info_str rfl (by decide) (by decide) (_) _ _ (by rfl) hown #[.string (s.extract g k)] (by rfl) rfl (by simp [Value.oneCell']) (by omega) hBw ?_; intro v' w3 hown' hgrow)
        have hb3 := own_grown_below hb hown hgrow hBw
        have hown3 : w3.ownsRow w.heap.size 9 1 v' (out ++ [s.extract g k]).length (strs (out ++ [s.extract g k])) := by rw [len_snoc, strs_snoc]; exact hown'
        clear hown hown' hgrow
        go_wp2
        go_roundw
        case rel => exact ⟨k + 1, k + 1, _, by omega, Nat.le_refl _, by go_num, by go_num, by rw [len_snoc]; omega, hown3, HC, hb3⟩
        case measure => simp [intOf]; omega
      · have hbeq : ((s[k].toNat : Int) == 32) = false := by
          rw [hbk, beq_eq_false_iff_ne]
          intro e
          refine he (UInt8.toNat_inj.1 ?_)
          have : ((32 : UInt8).toNat : Int) = 32 := rfl
          omega
        have HC := Lib.hid (cut_miss hcut.out he)
        clear hbk he
        go_wp2
        go_roundw
        case rel => exact ⟨k + 1, g, out, by omega, by omega, by go_num, rfl, by omega, hown, HC, hb⟩
        case measure => simp [intOf]; omega
    · obtain rfl : k = s.size := by omega
      have HE := Lib.hid (cut_end hcut.out)
      go_wp2_with (at_builtin; refine append_one wr (by rfl) (.tmp 29) (.tmp 33) 28 (by rfl) (w.heap.size) 9 _ 1 16 Tryd.underlying28 info_str rfl (by decide) (by decide) (_) _ _ (by rfl) hown #[.string (s.extract g s.size)] (by rfl) rfl (by simp [Value.oneCell']) (by omega) hBw ?_; intro v' w3 hown' hgrow)
      have hb3 := own_grown_below hb hown hgrow hBw
      have hown3 : Hid (w3.ownsRow w.heap.size 9 1 v' (parts s).length (strs (parts s))) := by rw [HE.out, Hid, len_snoc, strs_snoc]; exact hown'
      clear hown hown' hgrow
      go_wp2
      go_ret
      exact ⟨_, rfl, hown3.out, hb3⟩

/-! ### a line gathered part by part -/
/-- what stands when k parts have been read -/
def Gone (w : World) (base : Nat) (ps : List Str) (k : Nat) (ys : List Wrt) : Prop := OutsL w base ys ∧ formsOf ys = (ps.take k).map lfF ∧ (ps.take k).all wfOk = true
theorem gone_start (w : World) (base : Nat) (ps : List Str) : Gone w base ps 0 [] := ⟨⟨fun y hy => by simp at hy, fun i j y z h => by simp at h⟩, rfl, rfl⟩
theorem take_next {ps : List Str} {k : Nat} {x : Str} (hx : ps[k]? = some x) : ps.take (k + 1) = ps.take k ++ [x] := by
  obtain ⟨h, e⟩ := List.getElem?_eq_some_iff.1 hx
  rw [List.take_succ_eq_append_getElem h, e]
theorem lf_forms {ps : List Str} {k : Nat} {x : Str} {ys : List Wrt} {A : Option Addr} {c : Nat} (hx : ps[k]? = some x) (h : formsOf ys = (ps.take k).map lfF) :
    formsOf (ys ++ [(((A, c, wfOf x), wfP x) : Wrt)]) = (ps.take (k + 1)).map lfF := by
  rw [formsOf_snoc, h, take_next hx, List.map_append]; rfl
theorem lf_all {ps : List Str} {k : Nat} {x : Str} (hx : ps[k]? = some x) (h : (ps.take k).all wfOk = true) (ho : wfOk x = true) : (ps.take (k + 1)).all wfOk = true := by
  rw [take_next hx, List.all_append, h]; simp [ho]
theorem good_at {ps : List Str} {k : Nat} {x : Str} (hx : ps[k]? = some x) (h : wfOk x = false) : lfGood ps = false := by
  have hm := List.mem_of_getElem? hx
  cases ha : ps.all wfOk with
  | false => rw [lfGood, ha, Bool.and_false]
  | true => rw [List.all_eq_true.1 ha x hm] at h; cases h
theorem good_all {ps : List Str} (h1 : ps.length ≤ 20) (h2 : ps.all wfOk = true) : lfGood ps = true := by rw [lfGood, decide_eq_true h1, h2]; rfl
theorem parts_len' (s : Str) : (parts s).length ≤ s.size + 1 := by
  have := parts_len s.data.toList
  rw [parts, List.length_map]; exact this
theorem parts_pos (s : Str) : 0 < (parts s).length := List.length_pos_iff.2 (parts_ne s)

set_option maxRecDepth 100000 in
set_option maxHeartbeats 1000000 in
theorem spec_LineFrom (s : Str) (w : World) (hs : s.size ≤ 1048576) : Calls Tryd.prog 4 #[.string s] w (GaveLine (lfOf s) (lfOk s) w) := by
  have own0 : Hid (OwnLine (w.alloc (.cells #[] 32)) w.heap.size (.slice (some ⟨w.heap.size, 0, none⟩) 0 0) []) := own_madeW w w.heap.size _ rfl (Nat.le_refl _)
  have b00 := bel_alloc (Below.refl w.heap.size w) (.cells #[] 32)
  by_cases h0 : s.size = 0
  · have HJ := Lib.hid (lf_empty h0)
    have hl0 : s.data.toList = [] := List.eq_nil_of_length_eq_zero (by simpa using h0)
    have z2 : ByteArray.toList s = [] := by rw [ByteArray.toList_eq]; exact hl0
    have z1 : (ByteArray.toList s == []) = true := by rw [z2]; rfl
    clear h0 hl0
    go_enter Tryd.func4, Tryd.ntmps4
    go_wp2
    go_ret2
    exact ⟨_, [], by rw [HJ.out.1]; rfl, own0.out, by rw [HJ.out.2]; rfl, b00⟩
  have hne : (ByteArray.toList s == []) = false := by
    rw [ByteArray.toList_eq, beq_eq_false_iff_ne]
    intro e
    have h5 : s.data.toList.length = s.size := rfl
    rw [e] at h5
    simp at h5
    omega
  have HYES := Lib.hid (fun h => lf_yes h0 h)
  have HNO := Lib.hid (fun h => lf_no h0 h)
  have hpl := parts_len' s
  have hpp := parts_pos s
  have HSZ := Lib.hid (fun x hx => Nat.le_trans (parts_size s.size s (Nat.le_refl _) x hx) hs)
  clear h0
  go_enter Tryd.func4, Tryd.ntmps4
  go_wp2_with fail
  refine (spec_l3Cut s _ hs).mono ?_
  rintro e w1 ⟨vp, rfl, ownp, b1⟩
  have own1 := Lib.hid (own0.out.below b1)
  have hb1 := bel_trans b00 b1
  have ownp := own_mono ownp b00.size
  generalize parts s = ps at *
  obtain ⟨N, hN⟩ : ∃ N, ps.length = N := ⟨_, rfl⟩
  have HN := Lib.hid hN
  rw [hN] at ownp hpl hpp
  obtain ⟨P, cp, rfl, _, _⟩ := own_form ownp
  clear hN b1 b00 own0
  go_wp2_with fail
  go_loopw [4, 6] (fun v i wr => ∃ k : Nat, ∃ ys : List Wrt, k ≤ N ∧ i = .int .i64 k ∧ Hid (ys.length = k) ∧ wr.ownsRow w.heap.size 32 2 v k (flat wrtC ys) ∧ wr.ownsRow w.heap.size 9 1 (.slice P N cp) N (strs ps) ∧ Hid (Gone wr w.heap.size ps k ys ∧ (0 < k → N ≤ 20)) ∧ Below w.heap.size w wr) (fun _ i _ => N - (intOf i).toNat)
  case atStart => exact ⟨0, [], Nat.zero_le _, rfl, rfl, own1.out.row, ownp, ⟨gone_start _ _ _, fun h => absurd h (Nat.lt_irrefl 0)⟩, hb1⟩
  case round =>
    obtain ⟨k, ys, hk, rfl, hyl, hown, hpo, hys, hb⟩ := hrel
    by_cases hlt : k < N
    · obtain ⟨x, hx⟩ := get_lt (l := ps) (k := k) (by rw [HN.out]; exact hlt)
      have HX := Lib.hid hx
      have hxs := HSZ.out x (List.mem_of_getElem? hx)
      obtain ⟨g, o, hP, hg, hc⟩ := (Seg.of_own hpo).at_ (strs_at hx)
      obtain rfl := hP
      have hcell := hc k _ (strs_at hx)
      clear hx hc
      go_wp2_with fail
      refine (spec_WrittenFrom x _ hxs).mono ?_
      rintro e w3 ⟨v2, rfl, own2, b3⟩
      obtain ⟨A2, c2, rfl, _, _, _⟩ := own2.form
      have hown3 := own_below hown b3
      have hpo3 := own_below hpo b3
      have hes3 := Lib.hid (hys.out.1.1.below b3)
      have hb3 := bel_trans hb b3
      have HSN := Lib.hid (OutsL.snoc (w' := w3) (B := 0) (p := wfP x) hys.out.1.1 hes3.out hb.size own2)
      clear hown hpo b3 own2 hcell
      have hb4 := bel_alloc hb3 (.cells #[.slice A2 (wfOf x).length c2, .int .i64 (wfP x)] 32)
      have hB4 := hb4.size
      cases hok : wfOk x
      · have HJ := Lib.hid (HNO.out (good_at HX.out hok))
        clear hown3 hpo3
        go_wp2
        go_ret2
        exact ⟨_, [], by rw [HJ.out.1]; rfl, own_madeW _ _ _ (by simp) hB4, by rw [HJ.out.2]; rfl, bel_alloc hb4 _⟩
      · by_cases h20 : N ≤ 20
        · have h20i : (N : Int) ≤ 20 := by omega
          have HNF := Lib.hid (lf_forms (A := A2) (c := c2) HX.out hys.out.1.2.1)
          have HNA := Lib.hid (lf_all HX.out hys.out.1.2.2 hok)
          have H20 := Lib.hid h20
          have hown4 := hown3.alloc (.cells #[.slice A2 (wfOf x).length c2, .int .i64 (wfP x)] 32)
          have hpo4 := hpo3.alloc (.cells #[.slice A2 (wfOf x).length c2, .int .i64 (wfP x)] 32)
          have HSN4 := Lib.hid (HSN.out.below (bel_alloc (Below.refl w3.heap.size w3) (.cells #[.slice A2 (wfOf x).length c2, .int .i64 (wfP x)] 32)))
          clear hown3 hpo3 hok
          go_wp2_with (at_builtin; go_loud (refine append_oneH (w3.heap.size + 1) _ (by simp) (by rfl) (.tmp 37) (.tmp 39) 22 (by rfl) (w.heap.size) 32 _ 2 32 Tryd.underlying22 info_wrt rfl (by decide) (by decide) (u4) _ _ (by rfl) hown4 #[.slice A2 (wfOf x).length c2, .int .i64 (wfP x)] (by rfl) rfl (by simp [Value.oneCell']) (by omega) hB4 ?_); intro v' w5 hown5 hgrow)
          have R1 : w5.ownsRow w.heap.size 32 2 v' (k + 1) (flat wrtC (ys ++ [(((A2, c2, wfOf x), wfP x) : Wrt)])) := by rw [flat_snoc]; exact hown5
          have R2 := own_grown_below hb4 hown4 hgrow hB4
          have R3 : Hid (Gone w5 w.heap.size ps (k + 1) (ys ++ [(((A2, c2, wfOf x), wfP x) : Wrt)]) ∧ (0 < k + 1 → N ≤ 20)) :=
            ⟨⟨HSN4.out.grew hown4 (by decide) hgrow, HNF.out, HNA.out⟩, fun _ => H20.out⟩
          have R4 : Hid ((ys ++ [(((A2, c2, wfOf x), wfP x) : Wrt)]).length = k + 1) := by rw [Hid, List.length_append, hyl.out]; rfl
          have R5 := own_grew hpo4 hgrow (own_ne hpo4 hown4 (by decide))
          clear hown5 hgrow hown4 hpo4
          go_wp2
          go_roundw
          case rel => exact ⟨k + 1, _, by omega, by go_num, R4, R1, R5, R3, R2⟩
          case measure => simp [intOf]; omega
        · have HJ := Lib.hid (HNO.out (good_long (by rw [HN.out]; exact h20)))
          have h20i : ¬ (N : Int) ≤ 20 := by omega
          clear hown3 hpo3
          go_wp2
          go_ret2
          exact ⟨_, [], by rw [HJ.out.1]; rfl, own_madeW _ _ _ (by simp) hB4, by rw [HJ.out.2]; rfl, bel_alloc hb4 _⟩
    · have hke : k = N := by omega
      have HO : Hid (OwnLine wr w.heap.size u4 ys) := ⟨by rw [hyl.out]; exact hown, hys.out.1.1.1, hys.out.1.1.2⟩
      have ht : ps.take k = ps := List.take_of_length_le (by rw [HN.out]; omega)
      have HF := hys.out.1.2.1
      have HA := hys.out.1.2.2
      rw [ht] at HF HA
      have HJ := Lib.hid (HYES.out (good_all (by rw [HN.out]; exact hys.out.2 (by omega)) HA))
      have HF := Lib.hid HF
      clear hown hpo hke ht HA
      go_wp2
      go_ret2
      exact ⟨_, ys, by rw [HJ.out.1]; rfl, HO.out, by rw [HJ.out.2]; exact HF.out, hb⟩
end Go.Proofs.YtlpagnbfjechhaaDoor
