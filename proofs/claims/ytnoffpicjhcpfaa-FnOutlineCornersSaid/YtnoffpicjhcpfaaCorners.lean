/-
  Contracts of OutlineCorners (both texts).
-/
import Derived.Test.YtnoffpicjhcpfaaChain
import Derived.Deep.LoopGhost
namespace Go.Proofs.Ytnoffpicjhcpfaa
open Go.RowKit Go.Sort
set_option linter.unusedSimpArgs false
set_option linter.unusedVariables false

/-- the eighths between two strokes -/
def cornD (a b : Stk) : Int := min ((b.1 - a.1 + 8) % 8) (8 - (b.1 - a.1 + 8) % 8)
def cornAt (os : List Stk) (k : Nat) : Int := if k = 0 then 0 else cornD (stkAt os (k - 1)) (stkAt os k)
def cornSum (os : List Stk) (k : Nat) : Int := sumTo (cornAt os) k
def cornOf (os : List Stk) : Int := if outOk os then cornSum os os.length else -1
theorem cornD_le (a b : Stk) : 0 ≤ cornD a b ∧ cornD a b ≤ 4 := by unfold cornD; omega
theorem cornAt_le (os : List Stk) (k : Nat) : 0 ≤ cornAt os k ∧ cornAt os k ≤ 4 := by
  unfold cornAt; split
  · omega
  · exact cornD_le _ _
theorem cornSum_le (os : List Stk) (k : Nat) : 0 ≤ cornSum os k ∧ cornSum os k ≤ 4 * k := by
  induction k with
  | zero => simp [cornSum, sumTo]
  | succ k ih => have := cornAt_le os k; simp only [cornSum, sumTo] at *; omega
theorem cornSum_one (os : List Stk) : cornSum os 1 = 0 := by simp [cornSum, sumTo, cornAt]
theorem cornSum_step (os : List Stk) (k : Nat) : cornSum os (k + 1) = cornSum os k + cornAt os k := rfl
theorem corn_pens {a b : Stk} (ha : stOk a = true) (hb : stOk b = true) : cornerZ (penOf a) (penOf b) = cornD a b := by
  unfold cornerZ cornD
  rw [(penOf_dir ha).1, (penOf_dir hb).1]
theorem out_st {os : List Stk} (h : outOk os = true) {k : Nat} {s : Stk} (hs : os[k]? = some s) : stOk s = true := by
  simp only [outOk, Bool.and_eq_true] at h
  have := allTo_iff.1 h.2 k (List.getElem?_eq_some_iff.1 hs).1
  simp only [outAt, Bool.and_eq_true, stkAt_eq hs] at this
  exact this.1
theorem out_len {os : List Stk} (h : outOk os = true) : os.length ≤ 8 := by
  simp only [outOk, Bool.and_eq_true, decide_eq_true_eq] at h
  exact h.1

theorem spec_OutlineCorners (os : List Stk) (A : Option Addr) (c : Nat) (w : World) (hw : Seg w 0 w.heap.size A (flat stkC os)) (hn : os.length ≤ maxLen) :
    Calls Try.prog 23 #[.slice A os.length c] w fun e w' => e = .returned (.int .i64 (cornOf os)) ∧ Below w.heap.size w w' := by
  cases ho : outOk os
  · have HC : Hid (cornOf os = -1) := by simp [Hid, cornOf, ho]
    go_enter Try.func23, Try.ntmps23
    go_wp2_with fail
    refine (spec_OutlineValid os A c _ hw hn).mono ?_
    rintro e w1 ⟨rfl, b1⟩
    rw [ho]
    go_wp2
    go_ret
    exact ⟨ret_int HC.out.symm, b1⟩
  have HC : Hid (cornOf os = cornSum os os.length) := by simp [Hid, cornOf, ho]
  have hl8 := out_len ho
  go_enter Try.func23, Try.ntmps23
  go_wp2_with fail
  refine (spec_OutlineValid os A c _ hw hn).mono ?_
  rintro e w1 ⟨rfl, b1⟩
  rw [ho]
  have hw1 := (hw.below b1).top
  go_wp2
  go_loopw [3, 4, 5] (fun v i _ wr => ∃ k : Nat, 1 ≤ k ∧ k ≤ max 1 os.length ∧ i = .int .i64 k ∧ v = .int .i64 (cornSum os k) ∧ Hid (∃ n, wr = w1.drewN n)) (fun _ i _ _ => 10 - (intOf i).toNat)
  case atStart => exact ⟨1, by decide, by omega, rfl, by rw [cornSum_one], 0, rfl⟩
  case round =>
    obtain ⟨k, hk1, hk, rfl, rfl, hd⟩ := hrel
    have hcs := cornSum_le os k
    by_cases hlt : k < os.length
    · obtain ⟨s, hs⟩ := get_lt hlt
      obtain ⟨s', hs'⟩ := get_lt (l := os) (k := k - 1) (by omega)
      have r1 := stOk_iff.1 (out_st ho hs)
      have r2 := stOk_iff.1 (out_st ho hs')
      have hwr : Seg wr 0 w1.heap.size A (flat stkC os) := by obtain ⟨n, rfl⟩ := hd.out; exact hw1
      obtain ⟨g, o, rfl, _, _, hgl, hc1, _⟩ := hwr.stk hs
      obtain ⟨g', o', e', _, _, _, hd1, _⟩ := hwr.stk hs'
      injection e' with e'
      injection e' with e1 e2
      subst e1 e2
      have HS : Hid (cornSum os (k + 1) = cornSum os k + cornD s' s) := by
        rw [Hid, cornSum_step, cornAt, if_neg (by omega), stkAt_eq hs, stkAt_eq hs']
      have hcd : Hid (cornD s' s = min ((s.1 - s'.1 + 8) % 8) (8 - (s.1 - s'.1 + 8) % 8)) := rfl
      clear hs hs' hwr
      have e1 : IntKind.i64.wrap ((k : Int) - 1) = (k : Int) - 1 := IntWalk.i64_in _ (by omega)
      have e2 : (1 : Int) ≤ (k : Int) := by omega
      have e3 : ((k : Int) - 1).toNat = k - 1 := by omega
      have e4 : (k : Int) - 1 < (os.length : Int) := by omega
      have e5 : IntKind.i64.wrap (s.1 - s'.1) = s.1 - s'.1 := IntWalk.i64_in _ (by omega)
      have e6 : IntKind.i64.wrap (s.1 - s'.1 + 8) = s.1 - s'.1 + 8 := IntWalk.i64_in _ (by omega)
      have e7 : (s.1 - s'.1 + 8).tmod 8 = (s.1 - s'.1 + 8) % 8 := Int.tmod_eq_emod_of_nonneg (by omega)
      go_wp2
      go_quiet (fail)
      clear e1 e5 e6 e7 e3
      have x0 : 0 ≤ (s.1 - s'.1) % 8 := by omega
      have x1 : (s.1 - s'.1) % 8 ≤ 7 := by omega
      go_wp2
      all_goals
        go_roundw
        case rel => exact ⟨k + 1, by omega, by omega, by go_num, by rw [HS.out, hcd.out]; congr 1; omega, by obtain ⟨m, hm⟩ := hd.out; exact ⟨m + nq, by rw [hm, World.drewN_drewN]⟩⟩
        case measure => simp [intOf]; omega
    · have HE : Hid (cornSum os k = cornSum os os.length) := by
        by_cases h0 : os.length = 0
        · obtain rfl : k = 1 := by omega
          rw [Hid, h0, cornSum_one]; rfl
        · obtain rfl : k = os.length := by omega
          rfl
      go_wp2
      go_ret
      exact ⟨ret_int (by rw [HC.out, HE.out]), by obtain ⟨m, hm⟩ := hd.out; rw [hm]; exact Below_drewN b1 m⟩

theorem pens_drop {os : List Stk} {k : Nat} {s : Stk} (hs : os[k]? = some s) : (os.drop k).map penOf = penOf s :: (os.drop (k + 1)).map penOf := by
  obtain ⟨h', rfl⟩ := List.getElem?_eq_some_iff.1 hs
  rw [List.drop_eq_getElem_cons h', List.map_cons]

theorem impl_OutlineCorners (os : List Stk) (A : Option Addr) (c : Nat) (w : World) (hw : Seg w 0 w.heap.size A (flat stkC os)) (hn : os.length ≤ maxLen) :
    Calls Try.prog 25 #[.slice A os.length c] w fun e w' => e = .returned (.int .i64 (cornOf os)) ∧ Below w.heap.size w w' := by
  cases ho : outOk os
  · have HC : Hid (cornOf os = -1) := by simp [Hid, cornOf, ho]
    go_enter Try.func25, Try.ntmps25
    go_wp2_with fail
    refine (impl_chainOf os A c _ hw hn).mono ?_
    rintro e w1 ⟨v, rfl, _, b1⟩
    rw [ho]
    go_wp2
    go_ret
    exact ⟨ret_int HC.out.symm, b1⟩
  have HC : Hid (cornOf os = cornSum os os.length) := by simp [Hid, cornOf, ho]
  have hl8 := out_len ho
  go_enter Try.func25, Try.ntmps25
  go_wp2_with fail
  refine (impl_chainOf os A c _ hw hn).mono ?_
  rintro e w1 ⟨v, rfl, hch, b1⟩
  rw [ho] at hch ⊢
  have HCH := Lib.hid hch
  clear hch
  go_wp2
  go_loopg [5, 6] 9 (fun q sm c wr => ∃ k : Nat, k ≤ os.length ∧ q = 9 - k ∧ sm = .int .i64 (cornSum os (k + 1)) ∧ Hid (Chain wr w.heap.size c ((os.drop k).map penOf)) ∧ (k < os.length ∨ os.length = 0) ∧ Below w.heap.size w wr)
  case atStart => exact ⟨0, Nat.zero_le _, rfl, by rw [cornSum_one], HCH.out, by omega, b1⟩
  case round =>
    obtain ⟨k, hk, rfl, rfl, hch, hor, hb⟩ := hrel
    have hcs := cornSum_le os (k + 1)
    by_cases h0 : os.length = 0
    · have hu : u6 = .pointer none := by
        have := hch.out
        rw [List.drop_eq_nil_of_le (by omega)] at this
        exact this
      subst hu
      have HE : Hid (cornSum os (k + 1) = cornSum os os.length) := by
        obtain rfl : k = 0 := by omega
        rw [Hid, h0, cornSum_one]; rfl
      clear h0 hor
      go_wp2
      go_ret
      exact ⟨ret_int (by rw [HC.out, HE.out]), hb⟩
    · have hkl : k < os.length := by omega
      obtain ⟨s, hs⟩ := get_lt hkl
      have hch' := hch.out
      rw [pens_drop hs] at hch'
      obtain ⟨g, q, rfl, hgl, hgs, hc0, hc1, hrest⟩ := hch'
      by_cases hlast : k + 1 < os.length
      · obtain ⟨s2, hs2⟩ := get_lt hlast
        have HR := Lib.hid hrest
        rw [pens_drop hs2] at hrest
        obtain ⟨g2, q2, rfl, hgl2, hgs2, hd0, hd1, _⟩ := hrest
        have r1 := penOf_dir (out_st ho hs)
        have r2 := penOf_dir (out_st ho hs2)
        obtain ⟨_, _, p1, p2⟩ := r1
        obtain ⟨_, _, p3, p4⟩ := r2
        have HS : Hid (cornSum os (k + 1 + 1) = cornSum os (k + 1) + cornerZ (penOf s) (penOf s2)) := by
          rw [Hid, cornSum_step, cornAt, if_neg (by omega), corn_pens (out_st ho hs) (out_st ho hs2), stkAt_eq hs2, Nat.add_sub_cancel, stkAt_eq hs]
        have hcz : 0 ≤ cornerZ (penOf s) (penOf s2) ∧ cornerZ (penOf s) (penOf s2) ≤ 4 := by rw [corn_pens (out_st ho hs) (out_st ho hs2)]; exact cornD_le _ _
        obtain ⟨z0, z1⟩ := hcz
        clear hs hs2 h0 hor
        generalize penOf s = ps at *
        generalize penOf s2 = ps2 at *
        have e1 : IntKind.i64.wrap (cornSum os (k + 1) + cornerZ ps ps2) = cornSum os (k + 1) + cornerZ ps ps2 := IntWalk.i64_in _ (by omega)
        go_wp2
        go_quiet ((go_at_call 65; exact quietly (impl_pen_corner _ _ _ p1 p2 p3 p4)))
        have hq := Below_drewN (Below.refl wr.heap.size wr) nq
        clear e1
        go_wp2
        go_roundg (9 - (k + 1))
        case measure => omega
        case rel => exact ⟨k + 1, by omega, rfl, by rw [HS.out], HR.out.below hq, .inl hlast, hb.trans (hq.mono hb.size)⟩
      · have hq : q = .pointer none := by
          rw [List.drop_eq_nil_of_le (by omega)] at hrest
          exact hrest
        subst hq
        have HE : Hid (cornSum os (k + 1) = cornSum os os.length) := by
          obtain e : k + 1 = os.length := by omega
          rw [Hid, e]
        clear h0 hor hs
        go_wp2
        go_ret
        exact ⟨ret_int (by rw [HC.out, HE.out]), hb⟩
end Go.Proofs.Ytnoffpicjhcpfaa
