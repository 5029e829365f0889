/-
  Contracts of the reference's OutlineText; texts of outlines tell them apart; slices.Equal over strokes.
-/
import Derived.Test.YtbcbpcidfcjibaaWo
import Derived.Test.YtbcbpcidfcjibaaMrk
namespace Go.Proofs.Ytbcbpcidfcjibaa
open Go.RowKit Go.Sort
set_option linter.unusedSimpArgs false
set_option linter.unusedVariables false

def sizeLetter (n : Int) : UInt8 := if n = 1 then 115 else if n = 2 then 109 else 108
def stkTxt (s : Stk) : List UInt8 := [(48 + s.1.toNat).toUInt8, sizeLetter s.2]
def outTxt (os : List Stk) : List UInt8 := os.flatMap stkTxt
def outText (os : List Stk) : Str := if outOk os then ⟨(outTxt os).toArray⟩ else ByteArray.empty
theorem outTxt_snoc (os : List Stk) (s : Stk) : outTxt (os ++ [s]) = outTxt os ++ stkTxt s := by simp [outTxt]
theorem outTxt_len (os : List Stk) : (outTxt os).length = 2 * os.length := by
  induction os with
  | nil => rfl
  | cons x l ih => simp only [outTxt, List.flatMap_cons, List.length_append] at *; rw [ih]; simp [stkTxt]; omega
theorem stkTxt_inj {a b : Stk} (ha : stOk a = true) (hb : stOk b = true) (h : stkTxt a = stkTxt b) : a = b := by
  obtain ⟨d, s⟩ := a
  obtain ⟨d', s'⟩ := b
  have h1 := stOk_iff.1 ha
  have h2 := stOk_iff.1 hb
  simp only at h1 h2
  simp only [stkTxt, List.cons.injEq, and_true] at h
  obtain ⟨e1, e2⟩ := h
  have e3 : 48 + d.toNat = 48 + d'.toNat := by
    have := congrArg UInt8.toNat e1
    simp [Nat.toUInt8] at this
    omega
  have e4 : s = s' := by
    unfold sizeLetter at e2
    have a1 : s = 1 ∨ s = 2 ∨ s = 3 := by omega
    have a2 : s' = 1 ∨ s' = 2 ∨ s' = 3 := by omega
    rcases a1 with rfl | rfl | rfl <;> rcases a2 with rfl | rfl | rfl <;> simp at e2 ⊢
  have e5 : d = d' := by omega
  rw [e4, e5]
theorem outTxt_inj : ∀ {a b : List Stk}, (∀ x ∈ a, stOk x = true) → (∀ x ∈ b, stOk x = true) → outTxt a = outTxt b → a = b
  | [], [], _, _, _ => rfl
  | [], y :: b, _, _, h => by simp [outTxt, stkTxt] at h
  | x :: a, [], _, _, h => by simp [outTxt, stkTxt] at h
  | x :: a, y :: b, ha, hb, h => by
    have h' : stkTxt x ++ outTxt a = stkTxt y ++ outTxt b := by simpa [outTxt] using h
    obtain ⟨h1, h2⟩ := List.append_inj h' rfl
    rw [stkTxt_inj (ha x (by simp)) (hb y (by simp)) h1, outTxt_inj (fun z hz => ha z (by simp [hz])) (fun z hz => hb z (by simp [hz])) h2]
theorem out_all {os : List Stk} (h : outOk os = true) : ∀ x ∈ os, stOk x = true := by
  intro x hx
  obtain ⟨k, hk⟩ := List.getElem?_of_mem hx
  simp only [outOk, Bool.and_eq_true] at h
  have := allTo_iff.1 h.2 k (List.getElem?_eq_some_iff.1 hk).1
  rw [outAt, stkAt_eq hk, Bool.and_eq_true] at this
  exact this.1
theorem outText_inj {a b : List Stk} (ha : outOk a = true) (hb : outOk b = true) (h : outText a = outText b) : a = b := by
  rw [outText, ha, outText, hb] at h
  have : (⟨(outTxt a).toArray⟩ : ByteArray).data.toList = (⟨(outTxt b).toArray⟩ : ByteArray).data.toList := by
    simp only [if_true] at h
    rw [h]
  exact outTxt_inj (out_all ha) (out_all hb) (by simpa using this)
theorem woOf_out {ss : List Sgn} {s : Str} (h : woOk ss s = true) : outOk (woOf ss s) = true := by
  have h2 := h
  simp only [woOk, Bool.and_eq_true] at h2
  rw [woOf, if_pos h]
  exact h2.2

theorem dec_conv (w : World) (n : Nat) (h : n ≤ 9) : (convert 22 9 (.slice (some ⟨w.heap.size, 0, none⟩) 1 1)).run Try.prog (w.alloc (.cells #[.int .u8 (48 + (n : Int))] 5)) = .ok (.string ⟨#[(48 + n).toUInt8]⟩) (w.alloc (.cells #[.int .u8 (48 + (n : Int))] 5)) := by
  have h := digit_conv w n
  have e : n % 10 = n := Nat.mod_eq_of_lt (by omega)
  have e2 : (n : Int) % 10 = n := by omega
  rw [e, e2] at h
  exact h
theorem spec_l6Dec (n : Nat) (w : World) (h : n ≤ 9) :
    Calls Try.prog 52 #[.int .i64 (n : Int)] w fun e w' => e = .returned (.string ⟨#[(48 + n).toUInt8]⟩) ∧ Below w.heap.size w w' := by
  have hcv := dec_conv w n h
  have hd1 : decide ((n : Int) < -9223372036854775807) = false := decide_eq_false (by omega)
  have hd2 : decide ((n : Int) < 0) = false := decide_eq_false (by omega)
  have hd3 : decide ((n : Int) < 10) = true := decide_eq_true (by omega)
  have hd4 : decide (n < 10) = true := decide_eq_true (by omega)
  generalize (48 + n).toUInt8 = b at *
  go_enter Try.func52, Try.ntmps52
  go_wp2
  go_ret
  exact ⟨rfl, bel_alloc (Below.refl _ _) _⟩

theorem stkTxt_cat (n a b : Nat) (z : Int) (h : (⟨#[115, 109, 108]⟩ : ByteArray).extract a b = ⟨#[sizeLetter z]⟩) : (⟨#[(48 + n).toUInt8]⟩ : ByteArray) ++ (⟨#[115, 109, 108]⟩ : ByteArray).extract a b = ⟨(stkTxt ((n : Int), z)).toArray⟩ := by
  rw [h, str_cons _ [sizeLetter z]]
  rfl
theorem spec_StrokeText (s : Stk) (w : World) (h : stOk s = true) :
    Calls Try.prog 39 #[.agg #[.int .i64 s.1, .int .i64 s.2]] w fun e w' => e = .returned (.string ⟨(stkTxt s).toArray⟩) ∧ Below w.heap.size w w' := by
  obtain ⟨d, z⟩ := s
  have hb := stOk_iff.1 h
  simp only at hb
  obtain ⟨n, rfl⟩ := Int.eq_ofNat_of_zero_le hb.1
  have hn : n ≤ 9 := by omega
  have bB := bel_alloc (Below.refl w.heap.size w) (.cells #[.int .i64 (n : Int), .int .i64 z] 51)
  have hz : z = 1 ∨ z = 2 ∨ z = 3 := by omega
  have hdec := fun w' => spec_l6Dec n w' hn
  have hcat : ∀ a b : Nat, (⟨#[115, 109, 108]⟩ : ByteArray).extract a b = ⟨#[sizeLetter z]⟩ → (⟨#[(48 + n).toUInt8]⟩ : ByteArray) ++ (⟨#[115, 109, 108]⟩ : ByteArray).extract a b = ⟨(stkTxt ((n : Int), z)).toArray⟩ := fun a b h => stkTxt_cat n a b z h
  have hgo : ∃ f : Str, (∀ w', Calls Try.prog 52 #[.int .i64 (n : Int)] w' fun e w'' => e = .returned (.string f) ∧ Below w'.heap.size w' w'') ∧ f.size ≤ 1 ∧ ∀ a b : Nat, (⟨#[115, 109, 108]⟩ : ByteArray).extract a b = ⟨#[sizeLetter z]⟩ → f ++ (⟨#[115, 109, 108]⟩ : ByteArray).extract a b = ⟨(stkTxt ((n : Int), z)).toArray⟩ := ⟨_, hdec, by simp [ByteArray.size], hcat⟩
  obtain ⟨f, hf, hfs, hcat2⟩ := hgo
  have HF := Lib.hid hf
  have HC := Lib.hid hcat2
  clear hb hdec hcat hf hcat2
  rcases hz with rfl | rfl | rfl
  · have HX := Lib.hid (HC.out 0 1 rfl)
    generalize (⟨(stkTxt ((n : Int), _)).toArray⟩ : ByteArray) = res at *
    go_enter Try.func39, Try.ntmps39
    go_wp2_with fail
    refine (spec_StrokeValid_of (_, _) true h _).mono ?_
    rintro e w1 ⟨rfl, b1⟩
    have k0 : w1.cell? ⟨w.heap.size, 0, none⟩ = some (.int .i64 (n : Int)) := box_later b1 0
    have k1 := box_later b1 1
    simp only [List.getElem?_toArray, List.getElem?_cons_zero, List.getElem?_cons_succ] at k1
    have q0 := cell_regrown k0
    have q1 := cell_regrown k1
    have bal := bel_trans bB b1
    clear b1 k0 k1
    go_wp2
    (refine wp_region_quiet_below (by kernel_rfl) (by kernel_rfl) ?_; (repeat (go_big_quiet_step (((go_at_call 52; exact Calls.regrown_of (HF.out _)))))); refine wpQuiet_nil ?_; intro _ hw'; obtain ⟨⟨dq, osq⟩, hw''⟩ := hw'; subst hw'')
    have hq := below_regrown w1 dq osq
    generalize grow (redrawn w1 dq) osq = wq at *
    clear q0 q1
    go_wp2
    go_ret
    exact ⟨by rw [← HX.out]; rfl, bal.trans (hq.mono bal.size)⟩
  · have HX := Lib.hid (HC.out 1 2 rfl)
    generalize (⟨(stkTxt ((n : Int), _)).toArray⟩ : ByteArray) = res at *
    go_enter Try.func39, Try.ntmps39
    go_wp2_with fail
    refine (spec_StrokeValid_of (_, _) true h _).mono ?_
    rintro e w1 ⟨rfl, b1⟩
    have k0 : w1.cell? ⟨w.heap.size, 0, none⟩ = some (.int .i64 (n : Int)) := box_later b1 0
    have k1 := box_later b1 1
    simp only [List.getElem?_toArray, List.getElem?_cons_zero, List.getElem?_cons_succ] at k1
    have q0 := cell_regrown k0
    have q1 := cell_regrown k1
    have bal := bel_trans bB b1
    clear b1 k0 k1
    go_wp2
    (refine wp_region_quiet_below (by kernel_rfl) (by kernel_rfl) ?_; (repeat (go_big_quiet_step (((go_at_call 52; exact Calls.regrown_of (HF.out _)))))); refine wpQuiet_nil ?_; intro _ hw'; obtain ⟨⟨dq, osq⟩, hw''⟩ := hw'; subst hw'')
    have hq := below_regrown w1 dq osq
    generalize grow (redrawn w1 dq) osq = wq at *
    clear q0 q1
    go_wp2
    go_ret
    exact ⟨by rw [← HX.out]; rfl, bal.trans (hq.mono bal.size)⟩
  · have HX := Lib.hid (HC.out 2 3 rfl)
    generalize (⟨(stkTxt ((n : Int), _)).toArray⟩ : ByteArray) = res at *
    go_enter Try.func39, Try.ntmps39
    go_wp2_with fail
    refine (spec_StrokeValid_of (_, _) true h _).mono ?_
    rintro e w1 ⟨rfl, b1⟩
    have k0 : w1.cell? ⟨w.heap.size, 0, none⟩ = some (.int .i64 (n : Int)) := box_later b1 0
    have k1 := box_later b1 1
    simp only [List.getElem?_toArray, List.getElem?_cons_zero, List.getElem?_cons_succ] at k1
    have q0 := cell_regrown k0
    have q1 := cell_regrown k1
    have bal := bel_trans bB b1
    clear b1 k0 k1
    go_wp2
    (refine wp_region_quiet_below (by kernel_rfl) (by kernel_rfl) ?_; (repeat (go_big_quiet_step (((go_at_call 52; exact Calls.regrown_of (HF.out _)))))); refine wpQuiet_nil ?_; intro _ hw'; obtain ⟨⟨dq, osq⟩, hw''⟩ := hw'; subst hw'')
    have hq := below_regrown w1 dq osq
    generalize grow (redrawn w1 dq) osq = wq at *
    clear q0 q1
    go_wp2
    go_ret
    exact ⟨by rw [← HX.out]; rfl, bal.trans (hq.mono bal.size)⟩

set_option maxRecDepth 100000 in
theorem spec_OutlineText (os : List Stk) (A : Option Addr) (c : Nat) (w : World) (hw : Seg w 0 w.heap.size A (flat stkC os)) (hn : os.length ≤ maxLen) :
    Calls Try.prog 23 #[.slice A os.length c] w fun e w' => e = .returned (.string (outText os)) ∧ Below w.heap.size w w' := by
  have hn' : os.length ≤ 9223372036854775807 := hn
  have HB0 : outOk os = true → os.length ≤ 8 ∧ outText os = ⟨(outTxt os).toArray⟩ := fun h => by
    refine ⟨?_, by rw [outText, h]; rfl⟩
    simp only [outOk, Bool.and_eq_true, decide_eq_true_eq] at h
    exact h.1
  have HN0 : outOk os = false → outText os = ByteArray.empty := fun h => by rw [outText, h]; rfl
  have HB := Lib.hid HB0
  have HN := Lib.hid HN0
  clear HB0 HN0
  go_enter Try.func23, Try.ntmps23
  go_wp2
  go_loopw [3, 4] (fun v i wr => ∃ k : Nat, ∃ l : List UInt8, k ≤ os.length ∧ i = .int .i64 k ∧ v = .string ⟨l.toArray⟩ ∧ Hid (k = 0 ∨ outOk os = true) ∧ Hid (l = outTxt (os.take k)) ∧ Below w.heap.size w wr) (fun _ i _ => os.length - (intOf i).toNat)
  case atStart => exact ⟨0, [], Nat.zero_le _, rfl, rfl, .inl rfl, rfl, Below.refl _ _⟩
  case round =>
    obtain ⟨k, l, hk, rfl, rfl, hbo, hl, hb⟩ := hrel
    by_cases hlt : k < os.length
    · obtain ⟨s, hs⟩ := get_lt hlt
      have HS := Lib.hid hs
      have hkd : decide ((k : Int) < (os.length : Int)) = true := by simp; omega
      have hkdn : decide (k < os.length) = true := by simp; omega
      clear hs
      go_wp2_with fail
      refine (spec_OutlineValid os A c _ (hw.below hb).top hn).mono ?_
      rintro e w1 ⟨rfl, b1⟩
      have hb1 := bel_trans hb b1
      clear b1
      cases ho : outOk os
      · have hk0 : k = 0 := by
          rcases hbo.out with h | h
          · exact h
          · rw [ho] at h; cases h
        subst hk0
        have HE : Hid (outText os = ⟨l.toArray⟩) := by rw [Hid, HN.out ho, hl.out]; rfl
        go_wp2
        go_ret
        exact ⟨by rw [HE.out]; rfl, hb1⟩
      · have h8 := (HB.out ho).1
        have hso := out_all ho s (List.mem_of_getElem? HS.out)
        obtain ⟨g, o, rfl, hg, _, _, hc1, hc2⟩ := (hw.below hb1).stk HS.out
        have hll : l.length ≤ 16 := by rw [hl.out, outTxt_len, List.length_take]; omega
        go_wp2_with fail
        refine (spec_StrokeText s _ hso).mono ?_
        rintro e w2 ⟨rfl, b2⟩
        have hb2 := bel_trans hb1 b2
        have HX : Hid ((⟨l.toArray⟩ : ByteArray) ++ ⟨(stkTxt s).toArray⟩ = ⟨(l ++ stkTxt s).toArray⟩) := by rw [Hid, str_append]
        have HL : Hid (l ++ stkTxt s = outTxt (os.take (k + 1))) := by rw [Hid, take_snoc' HS.out, outTxt_snoc, ← hl.out]
        have hst : (⟨(stkTxt s).toArray⟩ : ByteArray).size ≤ 2 := by simp [ByteArray.size, stkTxt]
        generalize hgt : (⟨(stkTxt s).toArray⟩ : ByteArray) = ts at *
        clear hgt hc1 hc2 b2
        go_wp2
        go_roundw
        case rel => exact ⟨k + 1, _, by omega, by go_num, by rw [HX.out], .inr ho, HL, hb2⟩
        case measure => simp [intOf]; omega
    · have hke : k = os.length := by omega
      have HE : Hid (outText os = ⟨l.toArray⟩) := by
        have hl2 : l = outTxt os := by rw [hl.out, List.take_of_length_le (by omega)]
        cases ho : outOk os
        · have hk0 : k = 0 := by
            rcases hbo.out with h | h
            · exact h
            · rw [ho] at h; cases h
          rw [Hid, HN.out ho, hl.out, hk0]; rfl
        · rw [Hid, (HB.out ho).2, hl2]
      have hkd : decide ((k : Int) < (os.length : Int)) = false := by simp; omega
      have hkdn : decide (k < os.length) = false := by simp; omega
      clear hke
      go_wp2
      go_ret
      exact ⟨by rw [HE.out]; rfl, hb⟩

theorem slices_EqualStk (xs ys : List Stk) (A B : Option Addr) (c d : Nat) (w : World) (hw : Seg w 0 w.heap.size A (flat stkC xs)) (hv : Seg w 0 w.heap.size B (flat stkC ys)) (hn : xs.length ≤ maxLen) (hm : ys.length ≤ maxLen) :
    Calls Try.prog 20 #[.slice A xs.length c, .slice B ys.length d] w fun e w' => e = .returned (.bool (decide (xs = ys))) ∧ Below w.heap.size w w' := by
  have hn' : xs.length ≤ 9223372036854775807 := hn
  have hm' : ys.length ≤ 9223372036854775807 := hm
  by_cases hle : xs.length = ys.length
  · have hnb : (((xs.length : Nat) : Int) != ((ys.length : Nat) : Int)) = false := by rw [hle]; simp
    have HLE := Lib.hid hle
    clear hle
    go_enter Try.func20, Try.ntmps20
    go_wp2
    go_loopw [13] (fun i wr => ∃ k : Nat, k ≤ xs.length ∧ i = .int .i64 k ∧ Hid (xs.take k = ys.take k) ∧ Hid (∃ n, wr = w.drewN n)) (fun i _ => xs.length - (intOf i).toNat)
    case atStart => exact ⟨0, Nat.zero_le _, rfl, rfl, 0, rfl⟩
    case round =>
      obtain ⟨k, hk, rfl, hq, hd⟩ := hrel
      by_cases hlt : k < xs.length
      · have hlt2 : k < ys.length := by have := HLE.out; omega
        obtain ⟨⟨xa, xb⟩, hx⟩ := get_lt hlt
        obtain ⟨⟨ya, yb⟩, hy⟩ := get_lt hlt2
        obtain ⟨g, o, rfl, hg, _, _, e1, e2⟩ := hw.stk hx
        obtain ⟨g', o', rfl, hg', _, _, e3, e4⟩ := hv.stk hy
        simp only at e1 e2 e3 e4
        obtain ⟨m, hm2⟩ := hd.out
        have d1 : wr.cell? ⟨g, o + k * 2, none⟩ = some (.int .i64 xa) := by rw [hm2]; exact e1
        have d2 : wr.cell? ⟨g, o + k * 2 + 1, none⟩ = some (.int .i64 xb) := by rw [hm2]; exact e2
        have d3 : wr.cell? ⟨g', o' + k * 2, none⟩ = some (.int .i64 ya) := by rw [hm2]; exact e3
        have d4 : wr.cell? ⟨g', o' + k * 2 + 1, none⟩ = some (.int .i64 yb) := by rw [hm2]; exact e4
        clear e1 e2 e3 e4 hm2
        by_cases h1 : xa = ya
        · by_cases h2 : xb = yb
          · subst h1 h2
            have HQ : Hid (xs.take (k + 1) = ys.take (k + 1)) := by rw [Hid, take_snoc' hx, take_snoc' hy, hq.out]
            clear hx hy
            go_wp2
            go_quiet (fail)
            go_wp2
            go_roundw
            case rel => exact ⟨k + 1, by omega, by go_num, HQ, by obtain ⟨m, hm⟩ := hd.out; exact ⟨m + nq, by rw [hm, World.drewN_drewN]⟩⟩
            case measure => simp [intOf]; omega
          · subst h1
            have HN : Hid (decide (xs = ys) = false) := by
              rw [Hid, decide_eq_false_iff_not]
              intro e; rw [e, hy] at hx
              injection hx with hx; injection hx with _ hx; exact h2 hx.symm
            clear hx hy
            go_wp2
            go_quiet (fail)
            go_wp2
            go_ret
            exact ⟨ret_bool HN.out.symm, by obtain ⟨m, hm⟩ := hd.out; rw [hm, World.drewN_drewN]; exact Below_drewN (Below.refl _ _) _⟩
        · have HN : Hid (decide (xs = ys) = false) := by
            rw [Hid, decide_eq_false_iff_not]
            intro e; rw [e, hy] at hx
            injection hx with hx; injection hx with hx _; exact h1 hx.symm
          clear hx hy
          go_wp2
          go_quiet (fail)
          go_wp2
          go_ret
          exact ⟨ret_bool HN.out.symm, by obtain ⟨m, hm⟩ := hd.out; rw [hm, World.drewN_drewN]; exact Below_drewN (Below.refl _ _) _⟩
      · have HN : Hid (decide (xs = ys) = true) := by
          rw [Hid, decide_eq_true_iff]
          have h1 := hq.out
          have h2 := HLE.out
          rwa [List.take_of_length_le (by omega), List.take_of_length_le (by omega)] at h1
        go_wp2
        go_ret
        exact ⟨ret_bool HN.out.symm, by obtain ⟨m, hm⟩ := hd.out; rw [hm]; exact Below_drewN (Below.refl _ _) _⟩
  · have hnb : (((xs.length : Nat) : Int) != ((ys.length : Nat) : Int)) = true := by rw [bne_iff_ne]; omega
    have HN : Hid (decide (xs = ys) = false) := by rw [Hid, decide_eq_false_iff_not]; intro e; exact hle (by rw [e])
    have HLE := Lib.hid hle
    clear hle
    go_enter Try.func20, Try.ntmps20
    go_wp2
    go_ret
    exact ⟨ret_bool HN.out.symm, Below.refl _ _⟩
end Go.Proofs.Ytbcbpcidfcjibaa
