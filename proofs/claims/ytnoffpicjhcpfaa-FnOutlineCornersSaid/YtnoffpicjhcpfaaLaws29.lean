/-
  Walk of the law FnOutlineCorners.
-/
import Derived.Test.YtnoffpicjhcpfaaDrawO
import Derived.Test.YtnoffpicjhcpfaaCorL
import Derived.Test.YtnoffpicjhcpfaaOpen
import Derived.Outline
namespace Go.Proofs.Ytnoffpicjhcpfaa
open Go.RowKit Go.Sort
set_option linter.unusedSimpArgs false
set_option linter.unusedVariables false

def SomeOut (w : World) (e : Ending) (w' : World) : Prop := ∃ A c, ∃ os : List Stk, e = .returned (.slice A os.length c) ∧ Seg w' 0 w'.heap.size A (flat stkC os) ∧ os.length ≤ 8 ∧ os.length ≤ c ∧ c ≤ maxLen ∧ Below w.heap.size w w'
theorem spec_DrawOutlineCorners (l : List UInt8) (A : Option Addr) (c : Nat) (w : World) (hw : Seg w 0 w.heap.size A (flat byteC l)) (hc : l.length ≤ c) (hm : c ≤ maxLen) :
    Calls Try.prog 32 #[.slice A l.length c] w (SomeOut w) := by
  go_enter Try.func32, Try.ntmps32
  go_wp2_with fail
  refine (spec_l6Open l A c _ hw hc hm).mono ?_
  rintro e w1 ⟨rfl, hr, hb, hsz⟩
  go_wp2_with fail
  refine (spec_l91Outline _ 0 8 _ ⟨0, Nat.le_refl _, hr⟩ (by decide) (by decide)).mono ?_
  rintro e w2 ⟨A2, c2, os, rfl, own2, hn, hlc, hcm, d⟩
  have hb2 := d.bel hb (Nat.le_refl _)
  have SO := Lib.hid ((Seg.of_own own2).mono (lo' := 0) (Nat.zero_le _) (Nat.le_refl _))
  clear own2
  go_wp2
  go_ret
  exact ⟨A2, c2, os, rfl, SO.out, hn, hlc, hcm, hb2⟩

theorem impl_CornersK (os : List Stk) (n : Nat) (hn : os.length = n) (A : Option Addr) (c : Nat) (w : World) (hw : Seg w 0 w.heap.size A (flat stkC os)) (h8 : n ≤ 8) :
    Calls Try.prog 25 #[.slice A n c] w fun e w' => e = .returned (.int .i64 (cornOf os)) ∧ Below w.heap.size w w' := by
  subst hn; exact impl_OutlineCorners os A c w hw (Nat.le_trans h8 (by decide))

set_option maxRecDepth 100000 in
set_option maxHeartbeats 2000000 in
theorem walk_FnOutlineCorners (r q : Row UInt8) (w : World) (h : RowOk w byteC (fun _ => True) r) (h' : RowOk w byteC (fun _ => True) q) : Calls Try.prog 7 #[rowV r, rowV q] w fun e w' => e = .returned (.bool true) ∧ Below w.heap.size w w' := by
  obtain ⟨A, c, l⟩ := r
  obtain ⟨B, d, m⟩ := q
  obtain ⟨hw, _, hc, hm⟩ := h
  obtain ⟨_, _, hd, hk⟩ := h'
  simp only at hw hc hm hd hk
  have hm' : c ≤ 9223372036854775807 := hm
  have hk' : d ≤ 9223372036854775807 := hk
  show Calls Try.prog 7 #[.slice A l.length c, .slice B m.length d] w _
  by_cases hl : (1048576 : Int) < l.length
  · go_enter Try.func7, Try.ntmps7
    go_wp2
    go_ret
    exact ⟨rfl, Below.refl _ _⟩
  by_cases hl2 : (1048576 : Int) < m.length
  · go_enter Try.func7, Try.ntmps7
    go_wp2
    go_ret
    exact ⟨rfl, Below.refl _ _⟩
  go_enter Try.func7, Try.ntmps7
  go_wp2_with fail
  refine (spec_DrawOutlineCorners l A c _ hw hc hm).mono ?_
  rintro e w1 ⟨A1, c1, os, rfl, so, ho8, hlc, hcm, b1⟩
  have hom : os.length ≤ maxLen := Nat.le_trans ho8 (by decide)
  have hcm' : c1 ≤ 9223372036854775807 := hcm
  go_wp2_with fail
  refine (impl_OutlineCorners os A1 c1 _ so hom).mono ?_
  rintro e w2 ⟨rfl, b2⟩
  have so := (so.below b2).top
  have b02 := bel_trans b1 b2
  go_wp2_with fail
  refine (spec_OutlineCorners os A1 c1 _ so hom).mono ?_
  rintro e w3 ⟨rfl, b3⟩
  have so := (so.below b3).top
  have b03 := bel_trans b02 b3
  clear b1 b2 b02 b3
  cases hu : outOk os
  · have hz : cornOf os = -1 := by rw [cornOf, hu]; rfl
    rw [hz]
    go_wp2
    go_ret
    exact ⟨rfl, b03⟩
  obtain ⟨⟨hz1, hz2⟩, hz3, hz4⟩ := corn_bound hu os.length (Nat.le_refl _)
  rw [← corn_of hu] at hz1 hz2 hz3 hz4
  have HSP : Hid (∀ k, 0 < k → k < os.length → cornOf os = cornOf (os.take k) + cornOf (os.drop k) + cornOf ((os.drop (k - 1)).take 2)) := fun k h0 h1 => corn_split hu h0 h1
  have HEN := Lib.hid (corn_ends os)
  have HSM : Hid (∀ k, (-1 ≤ cornOf (os.take k) ∧ cornOf (os.take k) ≤ 40) ∧ (-1 ≤ cornOf (os.drop k) ∧ cornOf (os.drop k) ≤ 40)) := by
    intro k
    have hh : ∀ xs : List Stk, outOk xs = true → -1 ≤ cornOf xs ∧ cornOf xs ≤ 40 := fun xs hx => by
      obtain ⟨⟨a1, a2⟩, a3, a4⟩ := corn_bound hx xs.length (Nat.le_refl _)
      have h8 := (out_at hx).1
      rw [corn_of hx]
      by_cases h0 : xs.length = 0
      · have := a3 h0; omega
      · have := a4 (by omega); omega
    exact ⟨hh _ (out_take hu k), hh _ (out_drop hu k)⟩
  have HTK : Hid (∀ k, Seg w3 0 w3.heap.size A1 (flat stkC (os.take k))) := fun k => by have := so.take (k * 2); rwa [flat_take stkC_len] at this
  generalize hZ : cornOf os = z at *
  have HZ := Lib.hid hZ
  clear hZ hu
  have hq : (m.length : Int).tmod ((os.length : Int) + 1) = ((m.length % (os.length + 1) : Nat) : Int) := rfl
  have hkl : m.length % (os.length + 1) ≤ os.length := by have := Nat.mod_lt m.length (show 0 < os.length + 1 by omega); omega
  generalize m.length % (os.length + 1) = k at *
  have HD : Hid (∀ dq osq, Seg (grow (redrawn w3 dq) osq) 0 (grow (redrawn w3 dq) osq).heap.size A1 (flat stkC os)) := fun dq osq => (so.below (below_regrown w3 dq osq)).top
  have HT0 : Hid (∀ dq osq, Seg (grow (redrawn w3 dq) osq) 0 (grow (redrawn w3 dq) osq).heap.size A1 (flat stkC (os.take k))) := fun dq osq => ((HTK.out k).below (below_regrown w3 dq osq)).top
  by_cases k0 : k = 0
  · subst k0
    have HC1 : Hid (∀ dq osq, Calls Try.prog 25 #[.slice A1 0 c1] (grow (redrawn w3 dq) osq) fun e w'' => e = .returned (.int .i64 0) ∧ ∃ p : Regrown, w'' = grow (redrawn w3 p.d) p.os) :=
      fun dq osq => by rw [← HEN.out.1]; exact Calls.regrown_of (impl_CornersK (os.take 0) 0 (by simp) _ _ _ (HT0.out dq osq) (by omega))
    have HC2 : Hid (∀ dq osq, Calls Try.prog 25 #[.slice A1 os.length c1] (grow (redrawn w3 dq) osq) fun e w'' => e = .returned (.int .i64 z) ∧ ∃ p : Regrown, w'' = grow (redrawn w3 p.d) p.os) :=
      fun dq osq => by rw [← HZ.out]; exact Calls.regrown_of (impl_CornersK os _ rfl _ _ _ (HD.out dq osq) ho8)
    go_wp2
    all_goals
      (refine wp_region_quiet_below (by kernel_rfl) (by kernel_rfl) ?_; (repeat (go_big_quiet_step (((go_at_call 25; first | (with_reducible exact HC1.out _ _) | (with_reducible exact HC2.out _ _)))))); refine wpQuiet_nil ?_; intro _ hw'; obtain ⟨⟨dq, osq⟩, hw''⟩ := hw'; subst hw'')
      have b4 := bel_trans b03 (below_regrown w3 dq osq)
      go_wp2
      go_ret
      exact ⟨ret_bool (by simp), b4⟩
  have kb0 : ((k : Int) == 0) = false := by rw [beq_eq_false_iff_ne]; omega
  by_cases k1 : k = os.length
  · subst k1
    have kb1 : ((os.length : Int) == (os.length : Int)) = true := by simp
    have HC1 : Hid (∀ dq osq, Calls Try.prog 25 #[.slice A1 os.length c1] (grow (redrawn w3 dq) osq) fun e w'' => e = .returned (.int .i64 z) ∧ ∃ p : Regrown, w'' = grow (redrawn w3 p.d) p.os) :=
      fun dq osq => by rw [← HZ.out]; exact Calls.regrown_of (impl_CornersK os _ rfl _ _ _ (HD.out dq osq) ho8)
    have HC2 : Hid (∀ A' c' dq osq, Calls Try.prog 25 #[.slice A' 0 c'] (grow (redrawn w3 dq) osq) fun e w'' => e = .returned (.int .i64 0) ∧ ∃ p : Regrown, w'' = grow (redrawn w3 p.d) p.os) :=
      fun A' c' dq osq => by rw [← HEN.out.2]; exact Calls.regrown_of (impl_CornersK (os.drop os.length) 0 (by simp) _ _ _ (by rw [List.drop_length]; exact Seg.nil) (by omega))
    go_wp2
    all_goals
      (refine wp_region_quiet_below (by kernel_rfl) (by kernel_rfl) ?_; (repeat (go_big_quiet_step (((go_at_call 25; first | (with_reducible exact HC1.out _ _) | (with_reducible exact HC2.out _ _ _ _) | (trace_state; fail)))))); refine wpQuiet_nil ?_; intro _ hw'; obtain ⟨⟨dq, osq⟩, hw''⟩ := hw'; subst hw'')
      have b4 := bel_trans b03 (below_regrown w3 dq osq)
      go_wp2
      all_goals
        go_ret
        exact ⟨ret_bool (by simp), b4⟩
  have kb1 : ((k : Int) == (os.length : Int)) = false := by rw [beq_eq_false_iff_ne]; omega
  have hsp := HSP.out k (by omega) (by omega)
  obtain ⟨s1, s2⟩ := HSM.out k
  have s3 := (HSM.out k).1
  have HTL : (os.take k).length = k := by rw [List.length_take]; omega
  have HDL : (os.drop k).length = os.length - k := List.length_drop
  have HML : ((os.drop (k - 1)).take 2).length = k + 1 - (k - 1) := by rw [List.length_take, List.length_drop]; omega
  have hdr : ∀ j, j < c1 → Seg w3 0 w3.heap.size (if c1 * 2 = j * 2 then A1 else A1.map (·.add (j * 2))) (flat stkC (os.drop j)) := fun j hj => by
    have := so.drop (j * 2) (c1 * 2) (by omega)
    rwa [flat_drop stkC_len] at this
  have hd1 := hdr k (by omega)
  have hd2 := hdr (k - 1) (by omega)
  rw [if_neg (by omega)] at hd1 hd2
  have hd3 := hd2.take (2 * 2)
  rw [flat_take stkC_len] at hd3
  obtain ⟨g, o, rfl⟩ : ∃ g o, A1 = some ⟨g, o, none⟩ := by
    obtain ⟨x, hx⟩ := get_lt (show 0 < os.length by omega)
    obtain ⟨g, o, e, _⟩ := so.stk hx
    exact ⟨g, o, e⟩
  rw [Option.map_some, addr_add] at hd1 hd3
  have HC1 : Hid (∀ dq osq, Calls Try.prog 25 #[.slice (some ⟨g, o, none⟩) k c1] (grow (redrawn w3 dq) osq) fun e w'' => e = .returned (.int .i64 (cornOf (os.take k))) ∧ ∃ p : Regrown, w'' = grow (redrawn w3 p.d) p.os) :=
    fun dq osq => Calls.regrown_of (impl_CornersK (os.take k) _ HTL _ _ _ (HT0.out dq osq) (by omega))
  have HC2 : Hid (∀ dq osq, Calls Try.prog 25 #[.slice (some ⟨g, o + k * 2, none⟩) (os.length - k) (c1 - k)] (grow (redrawn w3 dq) osq) fun e w'' => e = .returned (.int .i64 (cornOf (os.drop k))) ∧ ∃ p : Regrown, w'' = grow (redrawn w3 p.d) p.os) :=
    fun dq osq => Calls.regrown_of (impl_CornersK (os.drop k) _ HDL _ _ _ ((hd1.below (below_regrown w3 dq osq)).top) (by omega))
  have HC3 : Hid (∀ dq osq, Calls Try.prog 25 #[.slice (some ⟨g, o + (k - 1) * 2, none⟩) (k + 1 - (k - 1)) (c1 - (k - 1))] (grow (redrawn w3 dq) osq) fun e w'' => e = .returned (.int .i64 (cornOf ((os.drop (k - 1)).take 2))) ∧ ∃ p : Regrown, w'' = grow (redrawn w3 p.d) p.os) :=
    fun dq osq => Calls.regrown_of (impl_CornersK ((os.drop (k - 1)).take 2) _ HML _ _ _ ((hd3.below (below_regrown w3 dq osq)).top) (by omega))
  clear hd1 hd2 hd3 hdr HTL HDL HML
  generalize cornOf (os.take k) = ca at *
  generalize cornOf (os.drop k) = cb at *
  generalize cornOf ((os.drop (k - 1)).take 2) = cc at *
  have e1 : IntKind.i64.wrap ((k : Int) - 1) = (k : Int) - 1 := IntWalk.i64_in _ (by omega)
  have e2 : (1 : Int) ≤ (k : Int) := by omega
  have e3 : ((k : Int) - 1).toNat = k - 1 := by omega
  have e4 : IntKind.i64.wrap ((k : Int) + 1) = (k : Int) + 1 := IntWalk.i64_in _ (by omega)
  have e5 : ((k : Int) + 1).toNat = k + 1 := by omega
  have e6 : IntKind.i64.wrap (ca + cb) = ca + cb := IntWalk.i64_in _ (by omega)
  have e7 : IntKind.i64.wrap (ca + cb + cc) = z := by rw [hsp]; exact IntWalk.i64_in _ (by omega)
  have hsp' := Lib.hid hsp
  clear hsp
  go_wp2
  all_goals
    (refine wp_region_quiet_below (by kernel_rfl) (by kernel_rfl) ?_; (repeat (go_big_quiet_step (((go_at_call 25; first | (with_reducible exact HC1.out _ _) | (with_reducible exact HC2.out _ _) | (with_reducible exact HC3.out _ _) | (trace_state; fail)))))); refine wpQuiet_nil ?_; intro _ hw'; obtain ⟨⟨dq, osq⟩, hw''⟩ := hw'; subst hw'')
    have b4 := bel_trans b03 (below_regrown w3 dq osq)
    go_wp2
    go_ret
    exact ⟨ret_bool (by simp), b4⟩
end Go.Proofs.Ytnoffpicjhcpfaa
