/-
  Lists of briefs: copied and compared by the laws' helpers.
-/
import Derived.Test.YtgddklafeaoleaaBrf
namespace Go.Proofs.Ytgddklafeaoleaa
open Go.RowKit Go.Sort
set_option linter.unusedSimpArgs false
set_option linter.unusedVariables false

/-- the words of a brief lie in a row of the call's own -/
def OwnStrs (w : World) (base : Nat) (r : Row Str) : Prop := w.ownsRow base 9 1 (rowV r) r.2.2.length (strs r.2.2)
def OutsB (w : World) (base : Nat) (ys : List Brf) : Prop := ∀ y ∈ ys, OwnStrs w base y.2
def StrsOkB (ys : List Brf) : Prop := ∀ y ∈ ys, y.1.size ≤ maxLen ∧ StrsOk y.2.2.2
theorem OutsB.below {w w' : World} {base : Nat} {es : List Brf} (h : OutsB w base es) (hb : Below w.heap.size w w') : OutsB w' base es := fun e he => own_below (h e he) hb
theorem OwnStrs.row {w : World} {base : Nat} {r : Row Str} (h : OwnStrs w base r) (ho : StrsOk r.2.2) : RowS w r := by
  refine ⟨?_, ho, ?_⟩
  · have := (Seg.of_own (A := r.1) (n := r.2.2.length) (c := r.2.1) h).mono (lo' := 0) (Nat.zero_le _) (Nat.le_refl _)
    exact this
  · obtain ⟨A, c, h2, h3, h4⟩ := own_form h
    simp only [rowV] at h2
    injection h2 with _ _ h2
    subst h2
    exact ⟨h3, h4⟩
theorem OutsB.at_ {w : World} {base : Nat} {ys : List Brf} (h : OutsB w base ys) (ho : StrsOkB ys) : BrfsAt w ys := fun y hy => ⟨(ho y hy).1, (h y hy).row (ho y hy).2⟩
theorem strsOkB_of {xs ys : List Brf} (h : pbsOf ys = pbsOf xs) {w : World} (ho : BrfsAt w xs) : StrsOkB ys := by
  intro y hy
  have h1 : (y.1, y.2.2.2) ∈ pbsOf ys := List.mem_map.2 ⟨y, hy, rfl⟩
  rw [h] at h1
  obtain ⟨x, hx, he⟩ := List.mem_map.1 h1
  injection he with e1 e2
  rw [← e1, ← e2]
  exact ⟨(ho x hx).1, (ho x hx).2.2.1⟩
theorem shortB_of {xs ys : List Brf} (h : pbsOf ys = pbsOf xs) (hq : ShortBrfs xs xs.length) : ys.length = xs.length ∧ ∀ y ∈ ys, ShortB y := by
  refine ⟨by rw [← pbsOf_len, h, pbsOf_len], fun y hy => ?_⟩
  have h1 : (y.1, y.2.2.2) ∈ pbsOf ys := List.mem_map.2 ⟨y, hy, rfl⟩
  rw [h] at h1
  obtain ⟨x, hx, he⟩ := List.mem_map.1 h1
  injection he with e1 e2
  obtain ⟨k, hk⟩ := List.getElem?_of_mem hx
  have := hq k x (List.getElem?_eq_some_iff.1 hk).1 hk
  unfold ShortB at *
  rw [← e1, ← e2]; exact this

theorem brf_toO (m : Str) (ws : List Str) (A : Option Addr) (c : Nat) (w : World) (hw : Seg w 0 w.heap.size A (strs ws)) (hn : ws.length ≤ 1048576) :
    Calls Try.prog 50 #[.agg #[.string m, .slice A ws.length c]] w fun e w' => ∃ A', e = .returned (.agg #[.string m, .slice A' ws.length ws.length]) ∧ w'.ownsRow w.heap.size 9 1 (.slice A' ws.length ws.length) ws.length (strs ws) ∧ Below w.heap.size w w' := by
  have bA := bel_alloc (bel_alloc (bel_alloc (Below.refl w.heap.size w) (.cells #[.string m, .slice A ws.length c] 52)) (.cells #[.string ⟨#[]⟩, .slice none 0 0] 35)) (.cells #[.string m, .slice none 0 0] 35)
  have hw1 := (hw.below bA).top
  go_enter Try.func50, Try.ntmps50
  go_wp2_with fail
  refine (laws_toStringS_own ws A c _ hw1 hn).mono ?_
  rintro e w1 ⟨A', rfl, own, b1⟩
  have hbb := bel_trans bA b1
  obtain ⟨hcc, hff⟩ := bcell b1
  have hz : w.heap.size + 1 + 1 < w1.heap.size := by have := b1.size; simp at this; omega
  have hlo : w.heap.size + 2 < (((w.alloc (.cells #[.string m, .slice A ws.length c] 52)).alloc (.cells #[.string ⟨#[]⟩, .slice none 0 0] 35)).alloc (.cells #[.string m, .slice none 0 0] 35)).heap.size := by simp
  have OWN : Hid (∀ u1 u2 u3, (((w1.setCell ⟨w.heap.size + 1 + 1, 1, none⟩ u1).setCell ⟨w.heap.size + 1, 0, none⟩ u2).setCell ⟨w.heap.size + 1, 1, none⟩ u3).ownsRow w.heap.size 9 1 (.slice A' ws.length ws.length) ws.length (strs ws)) :=
    fun u1 u2 u3 => own_mono (own_set1 (own_set1 (own_set1 own hlo u1) (by omega) u2) (by omega) u3) (by omega)
  clear b1 bA hw1 own hlo
  go_wp2
  exact bodyPost_ret (v := .agg #[.string m, .slice A' ws.length ws.length]) (by simp [results, Try.results50, go_sem, hcc]) rfl
    ⟨A', rfl, OWN.out _ _ _, ((hbb.setCell (by simp; omega) _).setCell (by simp) _).setCell (by simp) _⟩

set_option maxRecDepth 100000 in
set_option maxHeartbeats 1000000 in
theorem brfs_toO (xs : List Brf) (A : Option Addr) (c : Nat) (w : World) (hw : Seg w 0 w.heap.size A (flat brfC xs)) (ho : BrfsAt w xs) (hn : xs.length ≤ 1048576) (hq : ShortBrfs xs xs.length) :
    Calls Try.prog 16 #[.slice A xs.length c] w fun e w' => ∃ A' ys, e = .returned (.slice A' xs.length xs.length) ∧ w'.ownsRow w.heap.size 35 2 (.slice A' xs.length xs.length) xs.length (flat brfC (ys : List Brf)) ∧ (OutsB w' w.heap.size ys ∧ pbsOf ys = pbsOf xs) ∧ Below w.heap.size w w' := by
  have hmk := make_n (P := Try.prog) 25 35 (.agg #[.string ByteArray.empty, .slice none 0 0]) 2 40 Try.underlying25 info_brf (by decide) xs.length (by omega)
  go_enter Try.func16, Try.ntmps16
  go_wp2
  clear hmk
  go_loopw [4] (fun i wr => ∃ k : Nat, ∃ ys : List Brf, k ≤ xs.length ∧ i = .int .i64 k ∧ Below w.heap.size w wr ∧ Hid (ys.length = k ∧ pbsOf ys = pbsOf (xs.take k) ∧ OutsB wr w.heap.size ys) ∧ ∃ z, Hid (z.length = (xs.length - k) * 2) ∧ wr.ownsRow w.heap.size 35 2 (.slice (some ⟨w.heap.size, 0, none⟩) xs.length xs.length) xs.length (flat brfC ys ++ z))
    (fun i _ => xs.length - (intOf i).toNat)
  case atStart => exact ⟨0, [], Nat.zero_le _, rfl, (Below.refl _ _).alloc (Nat.le_refl _) _, ⟨rfl, rfl, fun y hy => by simp at hy⟩, _, by simp [Hid, madeCells], World.ownsRow_lit w _ _ (Nat.le_refl _) (by simp [maxLen]; omega) (by simp [madeCells])⟩
  case round =>
    obtain ⟨k, ys, hk, rfl, hbel, hys, z, hz, hown⟩ := hrel
    by_cases hlt : k < xs.length
    · obtain ⟨⟨xm, xA, xc, xs'⟩, hs⟩ := get_lt hlt
      obtain ⟨g, o, rfl, hg, _, _, hc1, hc2⟩ := (hw.below hbel).brf hs
      simp only [rowV] at hc1 hc2
      have hox := (ho _ (List.mem_of_getElem? hs)).2.1
      have hqx := (hq k _ hlt hs).2
      simp only at hox hqx
      have HS := Lib.hid hs
      clear hs
      go_wp2_with fail
      refine (brf_toO xm xs' xA xc _ (hox.below hbel).top hqx).mono ?_
      rintro e w1 ⟨A', rfl, ownx, hb1⟩
      have hown1 := own_below hown hb1
      have hbel1 := hbel.trans (hb1.mono hbel.size)
      have hz2 : 2 ≤ z.length := by have := hz.out; omega
      obtain ⟨⟨u, hcA⟩, hfA⟩ := own_roomS brfC_len hown1 hys.out.1 hz2 0 (by decide)
      rw [Nat.add_zero] at hcA hfA
      obtain ⟨⟨u', hcB⟩, hfB⟩ := own_roomS brfC_len hown1 hys.out.1 hz2 1 (by decide)
      have hput := Lib.hid (own_putS (x := ((xm, (A', xs'.length, xs')) : Brf)) brfC_len hown1 hys.out.1 hz2)
      have hbx := bel_setAll (Nat.le_refl w.heap.size) (brfC ((xm, (A', xs'.length, xs')) : Brf)) w1 (k * 2) hbel1
      have ownx2 : OwnStrs w1 w.heap.size (A', xs'.length, xs') := own_mono ownx hbel.size
      have HO : Hid ((ys ++ [((xm, (A', xs'.length, xs')) : Brf)]).length = k + 1 ∧ pbsOf (ys ++ [((xm, (A', xs'.length, xs')) : Brf)]) = pbsOf (xs.take (k + 1)) ∧ OutsB (setAll w1 w.heap.size (k * 2) (brfC ((xm, (A', xs'.length, xs')) : Brf))) w.heap.size (ys ++ [((xm, (A', xs'.length, xs')) : Brf)])) := by
        refine ⟨by rw [List.length_append, hys.out.1]; rfl, by rw [pbsOf_snoc, hys.out.2.1, take_snoc' HS.out, pbsOf_snoc], fun y hy => ?_⟩
        have hy1 : OwnStrs w1 w.heap.size y.2 := by
          rcases List.mem_append.1 hy with h | h
          · exact own_below (hys.out.2.2 y h) hb1
          · simp at h; subst h; exact ownx2
        have g1 := grow_set w1 w.heap.size (k * 2) xs.length xs.length (.string xm)
        have hy2 := own_grew hy1 g1 (own_ne hy1 hown1 (by decide))
        have hown2 := (hown1.stored (k * 2) (.string xm)).1
        have g2 := grow_set (w1.setCell ⟨w.heap.size, k * 2, none⟩ (.string xm)) w.heap.size (k * 2 + 1) xs.length xs.length (rowV (A', xs'.length, xs'))
        exact own_grew hy2 g2 (own_ne hy2 hown2 (by decide))
      have HZ : Hid ((z.drop 2).length = (xs.length - (k + 1)) * 2) := by have := hz.out; rw [Hid, List.length_drop]; omega
      clear hown hc1 hc2 hown1 ownx ownx2 hox
      go_wp2
      go_roundw
      case rel => exact ⟨k + 1, _, by omega, by go_num, hbx, HO, z.drop 2, HZ, hput.out⟩
      case measure => simp [intOf]; omega
    · have hke : k = xs.length := by omega
      have hz0 : z = [] := List.eq_nil_of_length_eq_zero (by have := hz.out; omega)
      rw [hz0, List.append_nil] at hown
      have HF : Hid (OutsB wr w.heap.size ys ∧ pbsOf ys = pbsOf xs) := by
        refine ⟨hys.out.2.2, ?_⟩
        have := hys.out.2.1
        rwa [List.take_of_length_le (by omega)] at this
      clear hke hz0
      go_wp2
      go_ret
      exact ⟨_, ys, rfl, hown, HF.out, hbel⟩

theorem brf_eq (m : Str) (ws : List Str) (A B : Option Addr) (c d : Nat) (w : World) (hw : Seg w 0 w.heap.size A (strs ws)) (hv : Seg w 0 w.heap.size B (strs ws)) (hn : ws.length ≤ 1048576) :
    Calls Try.prog 55 #[.agg #[.string m, .slice A ws.length c], .agg #[.string m, .slice B ws.length d]] w fun e w' => e = .returned (.bool true) ∧ Below w.heap.size w w' := by
  have bA := bel_alloc (bel_alloc (Below.refl w.heap.size w) (.cells #[.string m, .slice A ws.length c] 35)) (.cells #[.string m, .slice B ws.length d] 35)
  have hw1 := (hw.below bA).top
  have hv1 := (hv.below bA).top
  have hmn : (ByteArray.toList m != ByteArray.toList m) = false := by simp
  go_enter Try.func55, Try.ntmps55
  go_wp2_with fail
  refine (strs_eq ws A B c d _ hw1 hv1 hn).mono ?_
  rintro e w1 ⟨rfl, b1⟩
  have bal := bel_trans bA b1
  clear b1 bA hw1 hv1
  go_wp2
  go_ret
  exact ⟨rfl, bal⟩

theorem brfs_eq (ys zs : List Brf) (hf : pbsOf ys = pbsOf zs) (A B : Option Addr) (n c d : Nat) (hny : ys.length = n) (w : World) (hw : Seg w 0 w.heap.size A (flat brfC ys)) (hv : Seg w 0 w.heap.size B (flat brfC zs)) (ha : BrfsAt w ys) (hb : BrfsAt w zs) (hn : n ≤ 1048576) (hq : ∀ y ∈ ys, ShortB y) :
    Calls Try.prog 18 #[.slice A n c, .slice B n d] w fun e w' => e = .returned (.bool true) ∧ Below w.heap.size w w' := by
  have HF := Lib.hid hf
  have HN := Lib.hid hny
  clear hf hny
  go_enter Try.func18, Try.ntmps18
  go_wp2
  go_loopw [5] (fun i wr => ∃ k : Nat, k ≤ n ∧ i = .int .i64 k ∧ Below w.heap.size w wr) (fun i _ => n - (intOf i).toNat)
  case atStart => exact ⟨0, Nat.zero_le _, rfl, Below.refl _ _⟩
  case round =>
    obtain ⟨k, hk, rfl, hbl⟩ := hrel
    by_cases hlt : k < n
    · obtain ⟨⟨ym, yA, yc, yl⟩, hy⟩ := get_lt (l := ys) (k := k) (by rw [HN.out]; exact hlt)
      have hzl : k < zs.length := by
        have h1 := pbsOf_len ys
        have h2 := pbsOf_len zs
        rw [HF.out] at h1
        have := HN.out
        omega
      obtain ⟨⟨zm, zA, zc, zl⟩, hz⟩ := get_lt hzl
      have he : (ym, yl) = (zm, zl) := by
        have h1 := pbsOf_at hy
        rw [HF.out, pbsOf_at hz] at h1
        injection h1 with h1
        exact h1.symm
      injection he with he1 he2
      subst he1 he2
      obtain ⟨g, o, rfl, hg, _, _, hc1, hc2⟩ := (hw.below hbl).brf hy
      obtain ⟨g', o', rfl, hg', _, _, hd1, hd2⟩ := (hv.below hbl).brf hz
      simp only [rowV] at hc1 hc2 hd1 hd2
      have sy := ((ha _ (List.mem_of_getElem? hy)).below hbl).2.1
      have sz := ((hb _ (List.mem_of_getElem? hz)).below hbl).2.1
      have hql := (hq _ (List.mem_of_getElem? hy)).2
      simp only at sy sz hql
      have q1 := cell_regrown hc1
      have q2 := cell_regrown hc2
      have q5 := cell_regrown hd1
      have q6 := cell_regrown hd2
      have HC := Lib.hid (fun dq osq => brf_eq ym yl yA zA yc zc (grow (redrawn wr dq) osq) (sy.below (below_regrown wr dq osq)).top (sz.below (below_regrown wr dq osq)).top hql)
      clear hy hz hc1 hc2 hd1 hd2 sy sz
      go_wp2
      (refine wp_region_quiet_below (by kernel_rfl) (by kernel_rfl) ?_; (repeat (go_big_quiet_step (((go_at_call 55; exact Calls.regrown_of (HC.out _ _)))))); refine wpQuiet_nil ?_; intro _ hw'; obtain ⟨⟨dq, osq⟩, hw''⟩ := hw'; subst hw'')
      have hq := below_regrown wr dq osq
      generalize grow (redrawn wr dq) osq = wq at *
      clear q1 q2 q5 q6
      go_wp2
      go_roundw
      case rel => exact ⟨k + 1, by omega, by go_num, hbl.trans (hq.mono hbl.size)⟩
      case measure => simp [intOf]; omega
    · go_wp2
      go_ret
      exact ⟨rfl, hbl⟩
end Go.Proofs.Ytgddklafeaoleaa
