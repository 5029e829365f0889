/-
  What the law FnBriefsAdd calls: its comparison, its draw.
-/
import Derived.Test.YtgddklafeaoleaaBaddI
import Derived.Test.YtgddklafeaoleaaDrawC
import Derived.Test.YtgddklafeaoleaaStrD
namespace Go.Proofs.Ytgddklafeaoleaa
open Go.RowKit Go.Sort
set_option linter.unusedSimpArgs false
set_option linter.unusedVariables false

theorem same_briefs (ys zs : List Brf) (hf : pbsOf ys = pbsOf zs) (A B : Option Addr) (n m c d : Nat) (hny : ys.length = n) (hmz : zs.length = m) (w : World) (hw : Seg w 0 w.heap.size A (flat brfC ys)) (hv : Seg w 0 w.heap.size B (flat brfC zs)) (ha : BrfsAt w ys) (hb : BrfsAt w zs) (hn : n ≤ 1048576) (hq : ∀ y ∈ ys, y.2.2.2.length ≤ 1048576) :
    Calls Try.prog 40 #[.slice A n c, .slice B m d] w fun e w' => e = .returned (.bool true) ∧ Below w.heap.size w w' := by
  have hnm : n = m := by
    have := congrArg List.length hf
    rw [pbsOf_len, pbsOf_len] at this
    omega
  subst hnm
  have HF := Lib.hid hf
  have HN := Lib.hid hny
  clear hf hny hmz
  have hnb : (((n : Nat) : Int) != ((n : Nat) : Int)) = false := by simp
  go_enter Try.func40, Try.ntmps40
  go_wp2
  go_loopw [5] (fun i wr => ∃ k : Nat, k ≤ n ∧ i = .int .i64 k ∧ Below w.heap.size w wr) (fun i _ => n - (intOf i).toNat)
  case atStart => exact ⟨0, Nat.zero_le _, rfl, Below.refl _ _⟩
  case round =>
    obtain ⟨k, hk, rfl, hbl⟩ := hrel
    by_cases hlt : k < n
    · obtain ⟨⟨ym, yA, yc, yl⟩, hy⟩ := get_lt (l := ys) (k := k) (by rw [HN.out]; exact hlt)
      have hzl : k < zs.length := by
        have h1 := pbsOf_len ys
        have h2 := pbsOf_len zs
        rw [HF.out] at h1
        have := HN.out
        omega
      obtain ⟨⟨zm, zA, zc, zl⟩, hz⟩ := get_lt hzl
      have he : (ym, yl) = (zm, zl) := by
        have h1 := pbsOf_at hy
        rw [HF.out, pbsOf_at hz] at h1
        injection h1 with h1
        exact h1.symm
      injection he with he1 he2
      subst he1 he2
      obtain ⟨g, o, rfl, hg, _, _, hc1, hc2⟩ := (hw.below hbl).brf hy
      obtain ⟨g', o', rfl, hg', _, _, hd1, hd2⟩ := (hv.below hbl).brf hz
      simp only [rowV] at hc1 hc2 hd1 hd2
      have sy := ((ha _ (List.mem_of_getElem? hy)).below hbl).2.1
      have sz := ((hb _ (List.mem_of_getElem? hz)).below hbl).2.1
      have hql := hq _ (List.mem_of_getElem? hy)
      simp only at sy sz hql
      have q1 := cell_regrown hc1
      have q2 := cell_regrown hc2
      have q5 := cell_regrown hd1
      have q6 := cell_regrown hd2
      have hki : (k : Int) < (n : Int) := by omega
      have HC : Hid (∀ dq osq, Calls Try.prog 24 #[.slice yA yl.length yc, .slice zA yl.length zc] (grow (redrawn wr dq) osq) fun e w'' => e = .returned (.bool true) ∧ ∃ p : Regrown, w'' = grow (redrawn wr p.d) p.os) := by
        intro dq osq
        have := laws_sameTexts yl yl yA zA yc zc (grow (redrawn wr dq) osq) (sy.below (below_regrown wr dq osq)).top (sz.below (below_regrown wr dq osq)).top (by unfold maxLen; omega) (by unfold maxLen; omega)
        rw [decide_eq_true rfl] at this
        exact Calls.regrown_of this
      have hbe : (ByteArray.toList ym != ByteArray.toList ym) = false := by simp
      clear hy hz hc1 hc2 hd1 hd2 sy sz
      go_wp2
      (refine wp_region_quiet_below (by kernel_rfl) (by kernel_rfl) ?_; (repeat (go_big_quiet_step (((go_at_call 24; with_reducible exact HC.out _ _))))); refine wpQuiet_nil ?_; intro _ hw'; obtain ⟨⟨dq, osq⟩, hw''⟩ := hw'; subst hw'')
      have hq := below_regrown wr dq osq
      generalize grow (redrawn wr dq) osq = wq at *
      clear q1 q2 q5 q6
      go_wp2
      go_roundw
      case rel => exact ⟨k + 1, by omega, by go_num, hbl.trans (hq.mono hbl.size)⟩
      case measure => simp [intOf]; omega
    · go_wp2
      go_ret
      exact ⟨rfl, hbl⟩

theorem OwnB.other {w : World} {base b o : Nat} {v u : Value} {ys : List Brf} (h : OwnB w base v ys) (hb : b < base) : OwnB (w.setCell ⟨b, o, none⟩ u) base v ys := by
  have hg := grown_set w b o u
  exact ⟨h.row.kept hg (.inr fun e => by have := (World.ownsRow.lt h.row b e).1; omega), fun y hy => (h.outs y hy).kept hg (.inr fun e => by have := (World.ownsRow.lt (h.outs y hy) b e).1; omega)⟩

set_option maxRecDepth 100000 in
set_option maxHeartbeats 1000000 in
theorem spec_DrawBriefsAdd (l : List UInt8) (A : Option Addr) (c : Nat) (w : World) (hw : Seg w 0 w.heap.size A (flat byteC l)) (hc : l.length ≤ c) (hm : c ≤ maxLen) :
    Calls Try.prog 37 #[.slice A l.length c] w fun e w' => ∃ A c ys m B d ws, e = .returned (.tuple #[.slice A (ys : List Brf).length c, .agg #[.string m, .slice B (ws : List Str).length d]]) ∧ BrfsIn w' A c ys ∧ m.size ≤ 100 ∧ StrsIn w' B d ws ∧ Below w.heap.size w w' := by
  have bA := bel_alloc (Below.refl w.heap.size w) (.cells #[.string ⟨#[]⟩, .slice none 0 0] 35)
  have own0 := World.ownsRow_lit (size := 2) (e := 35) (base := w.heap.size) w #[.string ⟨#[]⟩, .slice none 0 0] 1 (Nat.le_refl _) (by simp [maxLen]) (by simp)
  have hsz : (w.alloc (.cells #[.string ⟨#[]⟩, .slice none 0 0] 35)).heap.size = w.heap.size + 1 := by simp
  have hwA := (hw.below bA).top
  go_enter Try.func37, Try.ntmps37
  go_wp2_with fail
  generalize w.alloc (.cells #[.string ⟨#[]⟩, .slice none 0 0] 35) = wa at *
  have HSZ := Lib.hid hsz
  clear hsz
  refine (spec_l6Open l A c _ hwA hc hm).mono ?_
  rintro e w1 ⟨rfl, hr, hb, h1⟩
  have own1 := own_below own0 hb
  have B1 := bel_trans bA hb
  have hg1 : wa.heap.size < w1.heap.size := hr.lt
  go_wp2_with fail
  refine (spec_l91Briefs _ 0 _ ⟨0, Nat.le_refl _, hr⟩ (by decide)).mono ?_
  rintro e w2 ⟨A1, c1, ys, rfl, O1, hT, hl, d1⟩
  have ne0 : ∀ {wx : World}, wx.ownsRow w.heap.size 35 2 (.slice (some ⟨w.heap.size, 0, none⟩) 1 1) 1 [.string ⟨#[]⟩, .slice none 0 0] → ∀ {wy : World} {P : Nat}, Drew wa.heap.size P wx wy → wy.ownsRow w.heap.size 35 2 (.slice (some ⟨w.heap.size, 0, none⟩) 1 1) 1 [.string ⟨#[]⟩, .slice none 0 0] := by
    intro wx h wy P d
    exact h.kept d.2 (.inr fun e => by have := HSZ.out; simp [Value.ownBlock] at e; omega)
  have own2 := ne0 own1 d1
  go_wp2_with fail
  refine (ofB 13 _ 4 _ _ w2 rfl rfl (by decide) (by decide) d1.1 (by omega)).mono ?_
  rintro e w3 ⟨m, rfl, hms, d2⟩
  have own3 := ne0 own2 d2
  have O2 := O1.kept d2 hg1
  have d02 := d1.trans d2
  go_wp2_with fail
  refine (spec_l91SpeechO _ _ 4 _ d2.1 (by omega) (by decide) (by decide)).mono ?_
  rintro e w4 ⟨B, d, ws, rfl, o4, hs4, hn4, d3⟩
  have own4 := ne0 own3 d3
  have O3 := O2.kept d3 hg1
  have d03 := d02.trans d3
  have z3 := d02.size
  have zs := HSZ.out
  have k0 := (own4.cellAt 0 (by decide)).trans rfl
  have k1 := (own4.cellAt 1 (by decide)).trans rfl
  have f0 := own4.frozenAt 0
  have f1 := own4.frozenAt 1
  have B4 := d03.bel B1 (by have := HSZ.out; omega)
  have O5 := (O3.other (b := w.heap.size) (o := 0) (u := .string m) (by omega)).other (b := w.heap.size) (o := 1) (u := .slice B ws.length d) (by omega)
  have g1 := grown_set w4 w.heap.size 0 (.string m)
  have g2 := grown_set (w4.setCell ⟨w.heap.size, 0, none⟩ (.string m)) w.heap.size 1 (.slice B ws.length d)
  have o5 := (o4.kept g1 (.inr fun e => by have := (World.ownsRow.lt o4 _ e).1; omega))
  have o6 := (o5.kept g2 (.inr fun e => by have := (World.ownsRow.lt o5 _ e).1; omega))
  have own5 := ((own4.stored 0 (.string m)).1.stored 1 (.slice B ws.length d)).1
  have r0 := (own5.cellAt 0 (by decide)).trans rfl
  have r1 := (own5.cellAt 1 (by decide)).trans rfl
  have B5 : Below w.heap.size w ((w4.setCell ⟨w.heap.size, 0, none⟩ (.string m)).setCell ⟨w.heap.size, 1, none⟩ (.slice B ws.length d)) := (B4.setCell (p := ⟨w.heap.size, 0, none⟩) (Nat.le_refl _) _).setCell (p := ⟨w.heap.size, 1, none⟩) (Nat.le_refl _) _
  have HFA := Lib.hid (BrfsIn.of_own O5 hT hl)
  have HFB : Hid (StrsIn ((w4.setCell ⟨w.heap.size, 0, none⟩ (.string m)).setCell ⟨w.heap.size, 1, none⟩ (.slice B ws.length d)) B d ws) := by
    obtain ⟨A', c', hv, h1, h2⟩ := own_form o6
    injection hv with e1 _ e3
    subst e1 e3
    have sg := (Seg.of_own o6).mono (lo' := 0) (Nat.zero_le _) (Nat.le_refl _)
    rw [flat_strC] at sg
    exact ⟨sg, hs4, hn4, h1, h2⟩
  have HBB := Lib.hid B5
  clear zs O5 o6 B5
  go_wp2
  exact bodyPost_ret (v := .tuple #[.slice A1 ys.length c1, .agg #[.string m, .slice B ws.length d]]) (by simp [results, Try.results37, go_sem, k0, k1, f0, f1]) rfl ⟨A1, c1, ys, m, B, d, ws, rfl, HFA.out, by omega, HFB.out, HBB.out⟩
end Go.Proofs.Ytgddklafeaoleaa
