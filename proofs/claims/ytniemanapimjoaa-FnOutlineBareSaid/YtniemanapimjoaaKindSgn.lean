/-
  Contracts of the laws' helpers over signs: szSignS, toSignS, eqSignS.
-/
import Derived.Test.YtniemanapimjoaaSys
import Derived.Test.YtniemanapimjoaaKinds1
import Derived.Deep.RegionHeld3
namespace Go.Proofs.Ytniemanapimjoaa
open Go.RowKit Go.Sort
set_option linter.unusedSimpArgs false
set_option linter.unusedVariables false

theorem bcell {W w1 : World} (hb : Below W.heap.size W w1) : (∀ b o, b < W.heap.size → w1.cell? ⟨b, o, none⟩ = W.cell? ⟨b, o, none⟩) ∧ (∀ b o, b < W.heap.size → w1.frozen? ⟨b, o, none⟩ = W.frozen? ⟨b, o, none⟩) :=
  ⟨fun b o h => hb.cell (p := ⟨b, o, none⟩) h, fun b o h => hb.frozen (p := ⟨b, o, none⟩) h⟩
abbrev LaySgns (w : World) (lo hi : Nat) (A : Option Addr) (xs : List Sgn) : Prop := Seg w lo hi A (flat sgnC xs)
theorem row_sgns {w : World} {r : Row Sgn} (h : RowOk w sgnC SgnOk r) : ∃ A c xs, rowV r = .slice A (xs : List Sgn).length c ∧ LaySgns w 0 w.heap.size A xs ∧ OkSgns xs ∧ xs.length ≤ c ∧ c ≤ maxLen := by
  obtain ⟨A, c, xs⟩ := r
  exact ⟨A, c, xs, rfl, h.1, fun x hx => (h.2.1 x hx).1, h.2.2.1, h.2.2.2⟩

theorem laws_szSign (x : Sgn) (left : Int) (w : World) (ho : x.1.size ≤ maxLen) (h0 : 0 ≤ left) (h1 : left ≤ 1048576) :
    Calls Try.prog 46 #[.agg #[.string x.1, .int .i64 x.2.1, .int .i64 x.2.2], .int .i64 left] w fun e w' => (∃ z, e = .returned (.int .i64 z) ∧ (z = -1 ∨ (0 ≤ z ∧ z ≤ left))) ∧ Below w.heap.size w w' := by
  have ho' : x.1.size ≤ 9223372036854775807 := ho
  by_cases hl : left - x.1.size < 0
  · go_enter Try.func46, Try.ntmps46
    go_wp2
    go_ret
    exact ⟨⟨_, rfl, .inl rfl⟩, bel_alloc (Below.refl _ _) _⟩
  · go_enter Try.func46, Try.ntmps46
    go_wp2
    go_ret
    exact ⟨⟨_, rfl, .inr ⟨by omega, by omega⟩⟩, bel_alloc (Below.refl _ _) _⟩

theorem sgns_szB (xs : List Sgn) (A : Option Addr) (c : Nat) (left : Int) (w : World) (hw : LaySgns w 0 w.heap.size A xs) (ho : OkSgns xs) (hn : xs.length ≤ maxLen) (h0 : 0 ≤ left) (h1 : left ≤ 1048576) :
    Calls Try.prog 15 #[.slice A xs.length c, .int .i64 left] w fun e w' => (∃ z, e = .returned (.int .i64 z) ∧ LeftB left xs.length z) ∧ Below w.heap.size w w' := by
  have hn' : xs.length ≤ 9223372036854775807 := hn
  by_cases hl : left - xs.length < 0
  · go_enter Try.func15, Try.ntmps15
    go_wp2
    go_ret
    exact ⟨⟨_, rfl, .inl rfl⟩, Below.refl _ _⟩
  · go_enter Try.func15, Try.ntmps15
    go_wp2
    go_loopw [1, 5] (fun v i wr => ∃ k : Nat, k ≤ xs.length ∧ i = .int .i64 k ∧ (∃ z : Int, v = .int .i64 z ∧ 0 ≤ z ∧ z ≤ left) ∧ Below w.heap.size w wr) (fun _ i _ => xs.length - (intOf i).toNat)
    case atStart => exact ⟨0, Nat.zero_le _, rfl, ⟨_, rfl, by omega, by omega⟩, Below.refl _ _⟩
    case round =>
      obtain ⟨k, hk, rfl, ⟨z, rfl, hz0, hz1⟩, hb⟩ := hrel
      by_cases hlt : k < xs.length
      · obtain ⟨x, hs⟩ := get_lt hlt
        obtain ⟨g, o, rfl, hg, _, hgw, hc1, hc2, hc3⟩ := (hw.below hb).sgn hs
        have hox := ho.at_ hs
        clear hs
        go_wp2_with fail
        refine (laws_szSign x z _ hox hz0 (by omega)).mono ?_
        rintro e w1 ⟨⟨y, rfl, hy⟩, b1⟩
        have bal := hb.trans (b1.mono hb.size)
        clear hc1 hc2 hc3
        rcases hy with rfl | ⟨hy0, hy1⟩
        · go_wp2
          go_ret
          exact ⟨⟨_, rfl, .inl rfl⟩, bal⟩
        · go_wp2
          go_roundw
          case rel => exact ⟨k + 1, by omega, by go_num, ⟨y, rfl, hy0, by omega⟩, bal⟩
          case measure => simp [intOf]; omega
      · go_wp2
        go_ret
        exact ⟨⟨_, rfl, .inr ⟨hz0, hz1, by omega⟩⟩, hb⟩

theorem laws_toSign (x : Sgn) (w : World) :
    Calls Try.prog 47 #[.agg #[.string x.1, .int .i64 x.2.1, .int .i64 x.2.2]] w fun e w' => e = .returned (.agg #[.string x.1, .int .i64 x.2.1, .int .i64 x.2.2]) ∧ Below w.heap.size w w' := by
  go_enter Try.func47, Try.ntmps47
  go_wp2_with fail
  refine (laws_toStroke x.2 _).mono ?_
  rintro e w1 ⟨rfl, b1⟩
  have hbb : Below w.heap.size w w1 := (bel_alloc (bel_alloc (bel_alloc (Below.refl w.heap.size w) _) _) _).trans (b1.mono (by simp; omega))
  obtain ⟨hc, hf⟩ := bcell b1
  have hz : w.heap.size + 1 + 1 < w1.heap.size := by have := b1.size; simp at this; omega
  clear b1
  go_wp2
  exact bodyPost_ret (v := .agg #[.string x.1, .int .i64 x.2.1, .int .i64 x.2.2]) (by simp [results, Try.results47, go_sem, hc]) rfl
    ⟨rfl, ((((hbb.setCell (by simp; omega) _).setCell (by simp; omega) _).setCell (by simp) _).setCell (by simp) _).setCell (by simp) _⟩

theorem info_sgn : (Try.prog.info? 59).map (fun i => (i.zero, i.size, i.bytes)) = some (some (.agg #[.string ByteArray.empty, .int .i64 0, .int .i64 0]), 3, 32) := by kernel_rfl

theorem sgns_toO (xs : List Sgn) (A : Option Addr) (c : Nat) (w : World) (hw : LaySgns w 0 w.heap.size A xs) (ho : OkSgns xs) (hn : xs.length ≤ 1048576) :
    Calls Try.prog 19 #[.slice A xs.length c] w fun e w' => ∃ A', e = .returned (.slice A' xs.length xs.length) ∧ w'.ownsRow w.heap.size 59 3 (.slice A' xs.length xs.length) xs.length (flat sgnC xs) ∧ Below w.heap.size w w' := by
  have hmk := make_n (P := Try.prog) 30 59 (.agg #[.string ByteArray.empty, .int .i64 0, .int .i64 0]) 3 32 Try.underlying30 info_sgn (by decide) xs.length (by omega)
  go_enter Try.func19, Try.ntmps19
  go_wp2
  clear hmk
  go_loopw [4] (fun i wr => ∃ k : Nat, k ≤ xs.length ∧ i = .int .i64 k ∧ Below w.heap.size w wr ∧ ∃ z, z.length = (xs.length - k) * 3 ∧ wr.ownsRow w.heap.size 59 3 (.slice (some ⟨w.heap.size, 0, none⟩) xs.length xs.length) xs.length (flat sgnC (xs.take k) ++ z))
    (fun i _ => xs.length - (intOf i).toNat)
  case atStart => exact ⟨0, Nat.zero_le _, rfl, (Below.refl _ _).alloc (Nat.le_refl _) _, _, by simp [madeCells], World.ownsRow_lit w _ _ (Nat.le_refl _) (by simp [maxLen]; omega) (by simp [madeCells])⟩
  case round =>
    obtain ⟨k, hk, rfl, hbel, z, hz, hown⟩ := hrel
    by_cases hlt : k < xs.length
    · obtain ⟨s, hs⟩ := get_lt hlt
      obtain ⟨g, o, rfl, hg, _, _, hc1, hc2, hc3⟩ := (hw.below hbel).sgn hs
      go_wp2_with fail
      refine (laws_toSign s _).mono ?_
      rintro e w1 ⟨rfl, hb1⟩
      have hown1 := own_below hown hb1
      obtain ⟨⟨u, hcA⟩, hfA⟩ := own_room sgnC_len hown1 hlt hz 0 (by decide)
      rw [Nat.add_zero] at hcA hfA
      obtain ⟨⟨u', hcB⟩, hfB⟩ := own_room sgnC_len hown1 hlt hz 1 (by decide)
      obtain ⟨⟨u2, hcC⟩, hfC⟩ := own_room sgnC_len hown1 hlt hz 2 (by decide)
      have hput := Lib.hid (own_put sgnC_len hown1 hs hz)
      have hbx := bel_setAll (Nat.le_refl w.heap.size) (sgnC s) w1 (k * 3) (hbel.trans (hb1.mono hbel.size))
      clear hs hz hown hc1 hc2 hc3
      go_wp2
      go_roundw
      case rel => exact ⟨k + 1, by omega, by go_num, hbx, z.drop 3, hput.out.2, hput.out.1⟩
      case measure => simp [intOf]; omega
    · obtain rfl : k = xs.length := by omega
      obtain rfl : z = [] := List.eq_nil_of_length_eq_zero (by omega)
      rw [List.append_nil, List.take_of_length_le (Nat.le_refl _)] at hown
      go_wp2
      go_ret
      exact ⟨_, rfl, hown, hbel⟩
theorem sgns_to (xs : List Sgn) (A : Option Addr) (c : Nat) (w : World) (hw : LaySgns w 0 w.heap.size A xs) (ho : OkSgns xs) (hn : xs.length ≤ 1048576) :
    Calls Try.prog 19 #[.slice A xs.length c] w fun e w' => ∃ A', e = .returned (.slice A' xs.length xs.length) ∧ LaySgns w' w.heap.size w'.heap.size A' xs ∧ Below w.heap.size w w' :=
  (sgns_toO xs A c w hw ho hn).mono fun _ _ ⟨A', h1, h2, h3⟩ => ⟨A', h1, Seg.of_own h2, h3⟩

theorem laws_eqSign (x : Sgn) (w : World) :
    Calls Try.prog 71 #[.agg #[.string x.1, .int .i64 x.2.1, .int .i64 x.2.2], .agg #[.string x.1, .int .i64 x.2.1, .int .i64 x.2.2]] w fun e w' => e = .returned (.bool true) ∧ Below w.heap.size w w' := by
  go_enter Try.func71, Try.ntmps71
  go_wp2_with fail
  refine (laws_eqStroke x.2 x.2 _).mono ?_
  rintro e w1 ⟨rfl, rfl⟩
  rw [decide_eq_true rfl]
  go_wp2
  go_ret
  exact ⟨rfl, bel_alloc (bel_alloc (bel_alloc (bel_alloc (Below.refl _ _) _) _) _) _⟩

theorem sgns_eq (xs : List Sgn) (A B : Option Addr) (c d : Nat) (w : World) (hw : LaySgns w 0 w.heap.size A xs) (hv : LaySgns w 0 w.heap.size B xs) (hn : xs.length ≤ 1048576) :
    Calls Try.prog 24 #[.slice A xs.length c, .slice B xs.length d] w fun e w' => e = .returned (.bool true) ∧ Below w.heap.size w w' := by
  go_enter Try.func24, Try.ntmps24
  go_wp2
  go_loopw [5] (fun i wr => ∃ k : Nat, k ≤ xs.length ∧ i = .int .i64 k ∧ Below w.heap.size w wr) (fun i _ => xs.length - (intOf i).toNat)
  case atStart => exact ⟨0, Nat.zero_le _, rfl, Below.refl _ _⟩
  case round =>
    obtain ⟨k, hk, rfl, hb⟩ := hrel
    by_cases hlt : k < xs.length
    · obtain ⟨s, hs⟩ := get_lt hlt
      obtain ⟨g, o, rfl, hg, _, _, hc1, hc2, hc3⟩ := (hw.below hb).sgn hs
      obtain ⟨g', o', rfl, hg', _, _, hd1, hd2, hd3⟩ := (hv.below hb).sgn hs
      have q1 := cell_regrown hc1
      have q2 := cell_regrown hc2
      have q3 := cell_regrown hc3
      have q4 := cell_regrown hd1
      have q5 := cell_regrown hd2
      have q6 := cell_regrown hd3
      clear hs hc1 hc2 hc3 hd1 hd2 hd3
      go_wp2
      (refine wp_region_quiet_below (by kernel_rfl) (by kernel_rfl) ?_; (repeat (go_big_quiet_step (((go_at_call 71; exact Calls.regrown_of (laws_eqSign s _)))))); refine wpQuiet_nil ?_; intro _ hw'; obtain ⟨⟨dq, osq⟩, hw''⟩ := hw'; subst hw'')
      have hq := below_regrown wr dq osq
      generalize grow (redrawn wr dq) osq = wq at *
      clear q1 q2 q3 q4 q5 q6
      go_wp2
      go_roundw
      case rel => exact ⟨k + 1, by omega, by go_num, hb.trans (hq.mono hb.size)⟩
      case measure => simp [intOf]; omega
    · go_wp2
      go_ret
      exact ⟨rfl, hb⟩
end Go.Proofs.Ytniemanapimjoaa
