/-
  Contracts of the functions over strokes and lists of strokes.
-/
import Derived.Test.YtlpagnbfjechhaaDoorMem
import Derived.Test.YtlpagnbfjechhaaDoorData
import Derived.Test.YtlpagnbfjechhaaDoorWords1
import Derived.Deep.RegionHeld3
import Derived.BigQuiet
import Derived.Lib.QuietBelow
import Derived.Outline
namespace Go.Proofs.YtlpagnbfjechhaaDoor
open Go.RowKit Go.Sort
set_option linter.unusedSimpArgs false
set_option linter.unusedVariables false

def stOk (s : Stk) : Bool := decide (0 ≤ s.1) && decide (s.1 ≤ 7) && (decide (1 ≤ s.2) && decide (s.2 ≤ 3))
def stkV (s : Stk) : Value := .agg #[.int .i64 s.1, .int .i64 s.2]
/-- the block into which a stroke is boxed -/
def stkB (s : Stk) : Obj := .cells #[.int .i64 s.1, .int .i64 s.2] 46

theorem impl_StrokeValid (s : Stk) (w : World) :
    Calls Tryd.prog 38 #[.agg #[.int .i64 s.1, .int .i64 s.2]] w fun e w' => e = .returned (.bool (stOk s)) ∧ w.alloc (stkB s) = w' := by
  obtain ⟨d, s⟩ := s
  simp only
  go_enter Tryd.func38, Tryd.ntmps38
  go_wp2
  all_goals
    go_ret
    exact ⟨ret_bool (by rw [Bool.eq_iff_iff]; simp [stOk]; omega), rfl⟩

theorem spec_StrokeValid (s : Stk) (w : World) :
    Calls Tryd.prog 29 #[.agg #[.int .i64 s.1, .int .i64 s.2]] w fun e w' => e = .returned (.bool (stOk s)) ∧ w.alloc (stkB s) = w' := by
  obtain ⟨d, s⟩ := s
  simp only
  by_cases h : (decide (0 ≤ d) && decide (d ≤ 7)) = true
  · go_enter Tryd.func29, Tryd.ntmps29
    go_wp2_with fail
    refine (spec_l6In _ _ _ _).mono ?_
    rintro e w' ⟨rfl, rfl⟩
    rw [h]
    go_wp2_with fail
    refine (spec_l6In _ _ _ _).mono ?_
    rintro e w' ⟨rfl, rfl⟩
    go_wp2
    go_ret
    exact ⟨ret_bool (by simp only [stOk, h, Bool.true_and]), rfl⟩
  · rw [Bool.not_eq_true] at h
    go_enter Tryd.func29, Tryd.ntmps29
    go_wp2_with fail
    refine (spec_l6In _ _ _ _).mono ?_
    rintro e w' ⟨rfl, rfl⟩
    rw [h]
    go_wp2
    go_ret
    exact ⟨ret_bool (by simp only [stOk, h, Bool.false_and]), rfl⟩

/-! ### a stroke of a row -/
theorem Seg.stk {w : World} {lo hi : Nat} {A : Option Addr} {os : List Stk} {k : Nat} {s : Stk} (h : Seg w lo hi A (flat stkC os)) (hk : os[k]? = some s) :
    ∃ g o, A = some ⟨g, o, none⟩ ∧ g < w.heap.size ∧ lo ≤ g ∧ g < hi ∧ w.cell? ⟨g, o + k * 2, none⟩ = some (.int .i64 s.1) ∧ w.cell? ⟨g, o + k * 2 + 1, none⟩ = some (.int .i64 s.2) := by
  have h0 := flat_get stkC_len hk (j := 0) (by decide)
  have h1 := flat_get stkC_len hk (j := 1) (by decide)
  rcases h with h | ⟨g, o, rfl, a, b, c, d⟩
  · rw [h] at h0; simp [stkC] at h0
  · exact ⟨g, o, rfl, c, a, b, by simpa [stkC] using d _ _ h0, by simpa [stkC, Nat.add_assoc] using d _ _ h1⟩

theorem laws_eqStroke (s t : Stk) (w : World) :
    Calls Tryd.prog 28 #[.agg #[.int .i64 s.1, .int .i64 s.2], .agg #[.int .i64 t.1, .int .i64 t.2]] w fun e w' => e = .returned (.bool (decide (s = t))) ∧ (w.alloc (stkB s)).alloc (stkB t) = w' := by
  obtain ⟨d, s⟩ := s
  obtain ⟨d', s'⟩ := t
  simp only
  by_cases h1 : d = d'
  · subst h1
    by_cases h2 : s = s'
    · subst h2
      go_enter Tryd.func28, Tryd.ntmps28
      go_wp2
      go_ret
      exact ⟨ret_bool (by simp), rfl⟩
    · have hb : (s != s') = true := by simp [h2]
      go_enter Tryd.func28, Tryd.ntmps28
      go_wp2
      go_ret
      exact ⟨ret_bool (by simp [h2]), rfl⟩
  · have hb : (d != d') = true := by simp [h1]
    go_enter Tryd.func28, Tryd.ntmps28
    go_wp2
    go_ret
    exact ⟨ret_bool (by simp [h1]), rfl⟩

theorem laws_eqStrokeS (os : List Stk) (A B : Option Addr) (c d : Nat) (w : World) (hw : Seg w 0 w.heap.size A (flat stkC os)) (hv : Seg w 0 w.heap.size B (flat stkC os)) (hn : os.length ≤ 1048576) :
    Calls Tryd.prog 20 #[.slice A os.length c, .slice B os.length d] w fun e w' => e = .returned (.bool true) ∧ Below w.heap.size w w' := by
  go_enter Tryd.func20, Tryd.ntmps20
  go_wp2
  go_loopw [5] (fun i wr => ∃ k : Nat, k ≤ os.length ∧ i = .int .i64 k ∧ Below w.heap.size w wr) (fun i _ => os.length - (intOf i).toNat)
  case atStart => exact ⟨0, Nat.zero_le _, rfl, Below.refl _ _⟩
  case round =>
    obtain ⟨k, hk, rfl, hb⟩ := hrel
    by_cases hlt : k < os.length
    · obtain ⟨s, hs⟩ := get_lt hlt
      obtain ⟨g, o, rfl, hg, _, _, hc1, hc2⟩ := (hw.below hb).stk hs
      obtain ⟨g', o', rfl, hg', _, _, hd1, hd2⟩ := (hv.below hb).stk hs
      clear hs
      go_wp2
      go_region_held3 (fun w' => w'.cell? ⟨g, o + k * 2, none⟩ = some (.int .i64 s.1) ∧ w'.cell? ⟨g, o + k * 2 + 1, none⟩ = some (.int .i64 s.2) ∧ w'.cell? ⟨g', o' + k * 2, none⟩ = some (.int .i64 s.1) ∧ w'.cell? ⟨g', o' + k * 2 + 1, none⟩ = some (.int .i64 s.2)) (go_keep)
        (first | (go_at_call 28; refine (laws_eqStroke _ _ _).mono ?_; rintro e w' ⟨rfl, rfl⟩))
      go_wp2
      go_roundw
      case rel =>
        exact ⟨k + 1, by omega, by go_num, (bel_alloc (bel_alloc hb _) _).drew⟩
      case measure => simp [intOf]; omega
    · go_wp2
      go_ret
      exact ⟨rfl, hb⟩

theorem info_stk : (Tryd.prog.info? 46).map (fun i => (i.zero, i.size, i.bytes)) = some (some (.agg #[.int .i64 0, .int .i64 0]), 2, 16) := by kernel_rfl

/-! ### outlines -/
def stkAt (os : List Stk) (k : Nat) : Stk := os.getD k (0, 0)
theorem stkAt_eq {os : List Stk} {k : Nat} {s : Stk} (h : os[k]? = some s) : stkAt os k = s := by simp [stkAt, List.getD, h]
/-- two strokes that follow each other have neither one direction nor opposite ones -/
def turns (a b : Stk) : Bool := !decide ((b.1 - a.1) % 4 = 0)
def outAt (os : List Stk) (k : Nat) : Bool := stOk (stkAt os k) && (k == 0 || turns (stkAt os (k - 1)) (stkAt os k))
def outOk (os : List Stk) : Bool := decide (os.length ≤ 8) && allTo (outAt os) os.length
theorem stOk_iff {s : Stk} : stOk s = true ↔ 0 ≤ s.1 ∧ s.1 ≤ 7 ∧ 1 ≤ s.2 ∧ s.2 ≤ 3 := by simp [stOk, and_assoc]
theorem tmod4 {a b : Int} (ha : 0 ≤ a ∧ a ≤ 7) (hb : 0 ≤ b ∧ b ≤ 7) : ((b - a).tmod 4 == 0) = decide ((b - a) % 4 = 0) := by
  rw [Bool.eq_iff_iff]
  simp only [beq_iff_eq, decide_eq_true_eq]
  rw [← Int.dvd_iff_tmod_eq_zero, Int.dvd_iff_emod_eq_zero]

theorem impl_StrokeValid_of (s : Stk) (b : Bool) (h : stOk s = b) (w : World) :
    Calls Tryd.prog 38 #[.agg #[.int .i64 s.1, .int .i64 s.2]] w fun e w' => e = .returned (.bool b) ∧ Below w.heap.size w w' :=
  (impl_StrokeValid s w).mono fun _ _ ⟨h1, h2⟩ => ⟨h ▸ h1, h2 ▸ bel_alloc (Below.refl _ _) _⟩
theorem spec_StrokeValid_of (s : Stk) (b : Bool) (h : stOk s = b) (w : World) :
    Calls Tryd.prog 29 #[.agg #[.int .i64 s.1, .int .i64 s.2]] w fun e w' => e = .returned (.bool b) ∧ Below w.heap.size w w' :=
  (spec_StrokeValid s w).mono fun _ _ ⟨h1, h2⟩ => ⟨h ▸ h1, h2 ▸ bel_alloc (Below.refl _ _) _⟩

theorem spec_OutlineValid (os : List Stk) (A : Option Addr) (c : Nat) (w : World) (hw : Seg w 0 w.heap.size A (flat stkC os)) (hn : os.length ≤ maxLen) :
    Calls Tryd.prog 22 #[.slice A os.length c] w fun e w' => e = .returned (.bool (outOk os)) ∧ Below w.heap.size w w' := by
  have hn' : os.length ≤ 9223372036854775807 := hn
  go_enter Tryd.func22, Tryd.ntmps22
  go_wp2
  go_loopw [3] (fun i wr => ∃ k : Nat, k ≤ os.length ∧ i = .int .i64 k ∧ Hid (allTo (outAt os) k = true) ∧ Below w.heap.size w wr) (fun i _ => os.length - (intOf i).toNat)
  case atStart => exact ⟨0, Nat.zero_le _, rfl, rfl, Below.refl _ _⟩
  case round =>
    obtain ⟨k, hk, rfl, hl, hb⟩ := hrel
    by_cases hlt : k < os.length
    · obtain ⟨s, hs⟩ := get_lt hlt
      have HS := Lib.hid (stkAt_eq hs)
      obtain ⟨g, o, rfl, hg, _, _, hc1, hc2⟩ := (hw.below hb).stk hs
      have hw0 := Lib.hid hw
      cases hv : stOk s
      · have HN : Hid (allTo (outAt os) os.length = false) := allTo_not (k := k) (by rw [outAt, HS.out, hv]; rfl) hlt
        clear hs
        go_wp2
        have q1 := cell_regrown hc1
        have q2 := cell_regrown hc2
        (refine wp_region_quiet_below (by kernel_rfl) (by kernel_rfl) ?_; (repeat (go_big_quiet_step (((go_at_call 29; exact Calls.regrown_of (spec_StrokeValid_of s false hv _)))))); refine wpQuiet_nil ?_; intro _ hw'; obtain ⟨⟨dq, osq⟩, hw''⟩ := hw'; subst hw'')
        have hq := below_regrown wr dq osq
        generalize grow (redrawn wr dq) osq = wq at *
        clear q1 q2
        go_wp2
        go_ret
        exact ⟨ret_bool (by rw [outOk, HN.out, Bool.and_false]), hb.trans (hq.mono hb.size)⟩
      · have q1 := cell_regrown hc1
        have q2 := cell_regrown hc2
        by_cases hk0 : k = 0
        · have HK : Hid (outAt os k = true) := by rw [Hid, outAt, HS.out, hv]; simp [hk0]
          have HN := Lib.hid (allTo_step hl.out HK.out)
          have hd : decide ((0 : Int) < (k : Int)) = false := by simp [hk0]
          have hdn : decide (0 < k) = false := by simp [hk0]
          have H0 := Lib.hid hk0
          clear hs hk0
          go_wp2
          (refine wp_region_quiet_below (by kernel_rfl) (by kernel_rfl) ?_; (repeat (go_big_quiet_step (((go_at_call 29; exact Calls.regrown_of (spec_StrokeValid_of s true hv _)))))); refine wpQuiet_nil ?_; intro _ hw'; obtain ⟨⟨dq, osq⟩, hw''⟩ := hw'; subst hw'')
          have hq := below_regrown wr dq osq
          generalize grow (redrawn wr dq) osq = wq at *
          clear q1 q2
          go_wp2
          go_roundw
          case rel => exact ⟨k + 1, by omega, by go_num, HN, hb.trans (hq.mono hb.size)⟩
          case measure => simp [intOf]; omega
        · obtain ⟨s', hs'⟩ := get_lt (l := os) (k := k - 1) (by omega)
          obtain ⟨g', o', e', _, _, _, hd1, _⟩ := (hw.below hb).stk hs'
          injection e' with e'
          injection e' with e1 e2
          subst e1 e2
          have q3 := cell_regrown hd1
          have HS' := Lib.hid (stkAt_eq hs')
          have hv' : stOk s' = true := by
            have := allTo_iff.1 hl.out (k - 1) (by omega)
            rw [outAt, HS'.out] at this
            simp at this
            exact this.1
          have r1 := stOk_iff.1 hv
          have r2 := stOk_iff.1 hv'
          have T := Lib.hid (tmod4 (a := s'.1) (b := s.1) ⟨r2.1, r2.2.1⟩ ⟨r1.1, r1.2.1⟩)
          have hk0' : 0 < k := by omega
          have hki : (0 : Int) < (k : Int) := by omega
          have hkt : decide ((0 : Int) < (k : Int)) = true := by simpa using hki
          have e1 : IntKind.i64.wrap ((k : Int) - 1) = (k : Int) - 1 := IntWalk.i64_in _ (by omega)
          have e2 : (1 : Int) ≤ (k : Int) := by omega
          have e3 : ((k : Int) - 1).toNat = k - 1 := by omega
          have e4 : (k : Int) - 1 < (os.length : Int) := by omega
          have e5 : IntKind.i64.wrap (s.1 - s'.1) = s.1 - s'.1 := IntWalk.i64_in _ (by omega)
          cases ht : turns s' s
          · have HN : Hid (allTo (outAt os) os.length = false) := allTo_not (k := k) (by rw [outAt, HS.out, HS'.out, ht]; simp [hk0]) hlt
            have ht2 : ((s.1 - s'.1).tmod 4 == 0) = true := by rw [T.out]; simpa [turns] using ht
            have H0 := Lib.hid hk0
            clear hs hs' hk0 ht hd1
            go_wp2
            (refine wp_region_quiet_below (by kernel_rfl) (by kernel_rfl) ?_; (repeat (go_big_quiet_step (((go_at_call 29; exact Calls.regrown_of (spec_StrokeValid_of s true hv _)))))); refine wpQuiet_nil ?_; intro _ hw'; obtain ⟨⟨dq, osq⟩, hw''⟩ := hw'; subst hw'')
            have hq := below_regrown wr dq osq
            generalize grow (redrawn wr dq) osq = wq at *
            clear q1 q2 q3 e1 e5
            go_wp2
            go_ret
            exact ⟨ret_bool (by rw [outOk, HN.out, Bool.and_false]), hb.trans (hq.mono hb.size)⟩
          · have HK : Hid (outAt os k = true) := by simp [Hid, outAt, HS.out, hv, HS'.out, ht]
            have HN := Lib.hid (allTo_step hl.out HK.out)
            have ht2 : ((s.1 - s'.1).tmod 4 == 0) = false := by rw [T.out]; simpa [turns] using ht
            have H0 := Lib.hid hk0
            clear hs hs' hk0 ht hd1
            go_wp2
            (refine wp_region_quiet_below (by kernel_rfl) (by kernel_rfl) ?_; (repeat (go_big_quiet_step (((go_at_call 29; exact Calls.regrown_of (spec_StrokeValid_of s true hv _)))))); refine wpQuiet_nil ?_; intro _ hw'; obtain ⟨⟨dq, osq⟩, hw''⟩ := hw'; subst hw'')
            have hq := below_regrown wr dq osq
            generalize grow (redrawn wr dq) osq = wq at *
            clear q1 q2 q3 e1 e5
            go_wp2
            go_roundw
            case rel => exact ⟨k + 1, by omega, by go_num, HN, hb.trans (hq.mono hb.size)⟩
            case measure => simp [intOf]; omega
    · go_wp2
      go_ret
      obtain rfl : k = os.length := by omega
      exact ⟨ret_bool (by rw [outOk, hl.out, Bool.and_true, Bool.eq_iff_iff]; simp; omega), hb⟩
end Go.Proofs.YtlpagnbfjechhaaDoor
