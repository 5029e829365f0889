/-
  Contracts of the functions over lists of words: szStringS, toStringS, eqStringS, Index, Contains, SpeechValid, DictionaryValid (both texts).
-/
import Derived.Test.YtgddklafeaoleaaWords2
import Derived.Test.YtgddklafeaoleaaData
namespace Go.Proofs.Ytgddklafeaoleaa
open Go.RowKit
set_option linter.unusedSimpArgs false
set_option linter.unusedVariables false

/-! ### plain -/
def strs (ws : List Str) : List Value := ws.map Value.string
theorem strs_at {ws : List Str} {k : Nat} {s : Str} (h : ws[k]? = some s) : (strs ws)[k]? = some (.string s) := by simp [strs, h]
def strAt (ws : List Str) (k : Nat) : Str := ws.getD k ByteArray.empty
theorem strAt_eq {ws : List Str} {k : Nat} {s : Str} (h : ws[k]? = some s) : strAt ws k = s := by simp [strAt, List.getD, h]
def StrsOk (ws : List Str) : Prop := ∀ s ∈ ws, s.size ≤ maxLen
theorem StrsOk.at_ {ws : List Str} (h : StrsOk ws) {k : Nat} {s : Str} (hs : ws[k]? = some s) : s.size ≤ maxLen := h s (List.mem_of_getElem? hs)

def szStr (ws : List Str) (k : Nat) : Int := (strAt ws k).size
def speechOk (ws : List Str) : Bool := decide (ws.length ≤ 20) && allTo (fun k => wordOk (strAt ws k)) ws.length
def hasNo (ws : List Str) (x : Str) (n : Nat) : Bool := allTo (fun j => !(decide (strAt ws j = x))) n
def dictAt (ws : List Str) (k : Nat) : Bool := wordOk (strAt ws k) && hasNo ws (strAt ws k) k
def dictOk (ws : List Str) : Bool := decide (ws.length ≤ 20) && allTo (dictAt ws) ws.length

/-! ### walks -/
theorem laws_szStringS (ws : List Str) (A : Option Addr) (c : Nat) (left : Int) (w : World) (hw : Seg w 0 w.heap.size A (strs ws)) (ho : StrsOk ws) (hn : ws.length ≤ maxLen) (h0 : 0 ≤ left) (h1 : left ≤ 1048576) :
    Calls Try.prog 25 #[.slice A ws.length c, .int .i64 left] w fun e w' => (∃ z, e = .returned (.int .i64 z) ∧ Left left (ws.length + sumTo (szStr ws) ws.length) z) ∧ w = w' := by
  have hn' : ws.length ≤ 9223372036854775807 := hn
  have hmono := fun k (hk : k ≤ ws.length) => sumTo_mono (f := szStr ws) (fun i => by simp [szStr]) hk
  have HM := Lib.hid hmono
  clear hmono
  by_cases hl : left - ws.length < 0
  · go_enter Try.func25, Try.ntmps25
    go_wp2
    go_ret
    exact ⟨⟨_, rfl, .inl rfl⟩, rfl⟩
  · go_enter Try.func25, Try.ntmps25
    go_wp2
    go_loop [1, 5] (fun v i => ∃ k : Nat, k ≤ ws.length ∧ i = .int .i64 k ∧ ∃ z : Int, v = .int .i64 z ∧ 0 ≤ z ∧ Hid (z + (ws.length + sumTo (szStr ws) k) = left)) (fun _ i => ws.length - (intOf i).toNat)
    case atStart => exact ⟨0, Nat.zero_le _, rfl, _, rfl, by omega, by simp [Hid, sumTo]⟩
    case round =>
      obtain ⟨k, hk, rfl, z, rfl, hz, hzs⟩ := hrel
      by_cases hlt : k < ws.length
      · obtain ⟨s, hs⟩ := get_lt hlt
        have hsz : s.size ≤ 9223372036854775807 := ho.at_ hs
        have HS := Lib.hid hs
        obtain ⟨g, o, rfl, hg, hc⟩ := hw.at_ (strs_at hs)
        have hcell := hc k _ (strs_at hs)
        have hzl : z ≤ 1048576 := by
          have h3 := hzs.out
          have h4 := HM.out 0 (Nat.zero_le _)
          have h5 : sumTo (szStr ws) 0 ≤ sumTo (szStr ws) k := sumTo_mono (fun i => by simp [szStr]) (Nat.zero_le _)
          simp [sumTo] at h5
          omega
        clear hs hc
        have hstep : Hid (sumTo (szStr ws) (k + 1) = sumTo (szStr ws) k + s.size) := by simp [Hid, sumTo, szStr, strAt_eq HS.out]
        go_wp2
        · go_ret
          exact ⟨⟨_, rfl, .inl rfl⟩, rfl⟩
        · go_round
          case rel => exact ⟨k + 1, by omega, by go_num, _, by go_num, by omega, by have := hzs.out; have := hstep.out; rw [Hid]; omega⟩
          case measure => simp [intOf]; omega
      · go_wp2
        go_ret
        obtain rfl : k = ws.length := by omega
        exact ⟨⟨_, rfl, .inr ⟨hz, hzs.out⟩⟩, rfl⟩

theorem info_str : (Try.prog.info? 9).map (fun i => (i.zero, i.size, i.bytes)) = some (some (.string ByteArray.empty), 1, 16) := by kernel_rfl

theorem laws_toStringS_own (ws : List Str) (A : Option Addr) (c : Nat) (w : World) (hw : Seg w 0 w.heap.size A (strs ws)) (hn : ws.length ≤ 1048576) :
    Calls Try.prog 26 #[.slice A ws.length c] w fun e w' => ∃ A', e = .returned (.slice A' ws.length ws.length) ∧ w'.ownsRow w.heap.size 9 1 (.slice A' ws.length ws.length) ws.length (strs ws) ∧ Below w.heap.size w w' := by
  have hmk := make_n (P := Try.prog) 30 9 (.string ByteArray.empty) 1 16 Try.underlying30 info_str (by decide) ws.length (by omega)
  go_enter Try.func26, Try.ntmps26
  go_wp2
  clear hmk
  go_loopw [4] (fun i wr => ∃ k : Nat, k ≤ ws.length ∧ i = .int .i64 k ∧ Below w.heap.size w wr ∧ ∃ z, z.length = ws.length - k ∧ wr.ownsRow w.heap.size 9 1 (.slice (some ⟨w.heap.size, 0, none⟩) ws.length ws.length) ws.length ((strs ws).take k ++ z))
    (fun i _ => ws.length - (intOf i).toNat)
  case atStart => exact ⟨0, Nat.zero_le _, rfl, (Below.refl _ _).alloc (Nat.le_refl _) _, _, by simp [madeCells], World.ownsRow_lit w _ _ (Nat.le_refl _) (by simp [maxLen]; omega) (by simp [madeCells])⟩
  case round =>
    obtain ⟨k, hk, rfl, hbel, z, hz, hown⟩ := hrel
    by_cases hlt : k < ws.length
    · obtain ⟨s, hs⟩ := get_lt hlt
      have HS := Lib.hid hs
      obtain ⟨g, o, rfl, hg, hc⟩ := hw.at_ (strs_at hs)
      have hcell : wr.cell? ⟨g, o + k, none⟩ = some (.string s) := (hbel.cell (by exact hg)).trans (hc k _ (strs_at hs))
      have hlen : (strs ws).length = ws.length := by simp [strs]
      have h1 : ∃ u, ((strs ws).take k ++ z)[k]? = some u := get_lt (by simp [hlen]; omega)
      obtain ⟨u, hu⟩ := h1
      have hcA : wr.cell? ⟨w.heap.size, k, none⟩ = some u := (hown.cellAt k (by omega)).trans hu
      have hfA := hown.frozenAt k
      have hst := Lib.hid (hown.stored k (.string s))
      have HZ := Lib.hid hz
      have HL := Lib.hid hlen
      have HB := hbel.size
      clear hs hc hu hz hown hlen
      go_wp2
      go_roundw
      case rel =>
        refine ⟨k + 1, by omega, by go_num, hbel.setCell (p := ⟨w.heap.size, k, none⟩) (Nat.le_refl _) _, z.tail, by simp [HZ.out]; omega, ?_⟩
        have := hst.out.1
        rw [set_snoc _ _ _ _ (by simp [HL.out]; omega) (by have := HZ.out; omega)] at this
        rw [take_snoc' (strs_at HS.out)]
        exact this
      case measure => simp [intOf]; omega
    · obtain rfl : k = ws.length := by omega
      obtain rfl : z = [] := List.eq_nil_of_length_eq_zero (by omega)
      have hown' : wr.ownsRow w.heap.size 9 1 (.slice (some ⟨w.heap.size, 0, none⟩) ws.length ws.length) ws.length (strs ws) := by
        have := hown
        rwa [List.append_nil, List.take_of_length_le (by simp [strs])] at this
      go_wp2
      go_ret
      exact ⟨_, rfl, hown', hbel⟩

theorem laws_toStringS (ws : List Str) (A : Option Addr) (c : Nat) (w : World) (hw : Seg w 0 w.heap.size A (strs ws)) (hn : ws.length ≤ 1048576) :
    Calls Try.prog 26 #[.slice A ws.length c] w fun e w' => ∃ A', e = .returned (.slice A' ws.length ws.length) ∧ Seg w' w.heap.size w'.heap.size A' (strs ws) ∧ Below w.heap.size w w' :=
  (laws_toStringS_own ws A c w hw hn).mono fun _ _ ⟨A', h1, h2, h3⟩ => ⟨A', h1, Seg.of_own h2, h3⟩

theorem laws_eqStringS (ws : List Str) (A B : Option Addr) (c d : Nat) (w : World) (hw : Seg w 0 w.heap.size A (strs ws)) (hv : Seg w 0 w.heap.size B (strs ws)) (hn : ws.length ≤ 1048576) :
    Calls Try.prog 27 #[.slice A ws.length c, .slice B ws.length d] w fun e w' => e = .returned (.bool true) ∧ ∃ n, w' = w.drewN n := by
  go_enter Try.func27, Try.ntmps27
  go_wp2
  go_loopw [5] (fun i wr => ∃ k : Nat, k ≤ ws.length ∧ i = .int .i64 k ∧ ∃ n, wr = w.drewN n) (fun i _ => ws.length - (intOf i).toNat)
  case atStart => exact ⟨0, Nat.zero_le _, rfl, 0, rfl⟩
  case round =>
    obtain ⟨k, hk, rfl, n, rfl⟩ := hrel
    generalize hwr : w.drewN n = wr
    have HW := Lib.hid hwr
    by_cases hlt : k < ws.length
    · obtain ⟨s, hs⟩ := get_lt hlt
      obtain ⟨g, o, rfl, hg, hc⟩ := hw.at_ (strs_at hs)
      obtain ⟨g', o', rfl, hg', hc'⟩ := hv.at_ (strs_at hs)
      have hcell : wr.cell? ⟨g, o + k, none⟩ = some (.string s) := by rw [← hwr]; exact hc k _ (strs_at hs)
      have hcell' : wr.cell? ⟨g', o' + k, none⟩ = some (.string s) := by rw [← hwr]; exact hc' k _ (strs_at hs)
      clear hc hc' hs hwr
      go_wp2
      go_quiet (fail)
      go_wp2
      go_roundw
      case rel => exact ⟨k + 1, by omega, by go_num, n + nq, by rw [← HW.out, World.drewN_drewN]⟩
      case measure => simp [intOf]; omega
    · clear hwr
      go_wp2
      go_ret
      exact ⟨rfl, n, HW.out.symm⟩

theorem slices_Index (ws : List Str) (x : Str) (A : Option Addr) (c : Nat) (w : World) (hw : Seg w 0 w.heap.size A (strs ws)) (hn : ws.length ≤ maxLen) :
    Calls Try.prog 83 #[.slice A ws.length c, .string x] w fun e w' => (∃ i : Int, e = .returned (.int .i64 i) ∧ Hid (decide (0 ≤ i) = !hasNo ws x ws.length)) ∧ w = w' := by
  have hn' : ws.length ≤ 9223372036854775807 := hn
  go_enter Try.func83, Try.ntmps83
  go_wp2
  go_loop [8] (fun i => ∃ k : Nat, k ≤ ws.length ∧ i = .int .i64 k ∧ Hid (hasNo ws x k = true)) (fun i => ws.length - (intOf i).toNat)
  case atStart => exact ⟨0, Nat.zero_le _, rfl, rfl⟩
  case round =>
    obtain ⟨k, hk, rfl, hl⟩ := hrel
    by_cases hlt : k < ws.length
    · obtain ⟨s, hs⟩ := get_lt hlt
      have HS := Lib.hid (strAt_eq hs)
      obtain ⟨g, o, rfl, hg, hc⟩ := hw.at_ (strs_at hs)
      have hcell := hc k _ (strs_at hs)
      clear hs hc
      by_cases hx : x = s
      · subst hx
        have HN : Hid (hasNo ws x ws.length = false) := allTo_not (k := k) (by simp [HS.out]) hlt
        go_wp2
        go_ret
        exact ⟨⟨_, rfl, by rw [HN.out]; simp [Hid]⟩, rfl⟩
      · have HN : Hid (hasNo ws x (k + 1) = true) := by
          have := hl.out
          simp only [Hid, hasNo, allTo] at this ⊢
          rw [this, HS.out]
          simp [Ne.symm hx]
        have hxe := str_ne hx
        clear hx
        go_wp2
        go_round
        case rel => exact ⟨k + 1, by omega, by go_num, HN⟩
        case measure => simp [intOf]; omega
    · go_wp2
      go_ret
      obtain rfl : k = ws.length := by omega
      exact ⟨⟨_, rfl, by rw [hl.out]; simp [Hid]⟩, rfl⟩

theorem slices_Contains (ws : List Str) (x : Str) (A : Option Addr) (c : Nat) (w : World) (hw : Seg w 0 w.heap.size A (strs ws)) (hn : ws.length ≤ maxLen) :
    Calls Try.prog 57 #[.slice A ws.length c, .string x] w fun e w' => e = .returned (.bool (!hasNo ws x ws.length)) ∧ w = w' := by
  go_enter Try.func57, Try.ntmps57
  go_wp2_with (go_at_call 83; refine (slices_Index ws x _ _ _ hw hn).mono ?_; rintro e w' ⟨⟨i, rfl, hi⟩, rfl⟩)
  go_ret
  exact ⟨by rw [← hi.out]; rfl, rfl⟩

theorem impl_SpeechValid (ws : List Str) (A : Option Addr) (c : Nat) (w : World) (hw : Seg w 0 w.heap.size A (strs ws)) (ho : StrsOk ws) (hn : ws.length ≤ maxLen) :
    Calls Try.prog 82 #[.slice A ws.length c] w fun e w' => e = .returned (.bool (speechOk ws)) ∧ w = w' := by
  have hn' : ws.length ≤ 9223372036854775807 := hn
  by_cases h2 : (20 : Int) < ws.length
  · go_enter Try.func82, Try.ntmps82
    go_wp2
    go_ret
    exact ⟨by simp [speechOk]; omega, rfl⟩
  go_enter Try.func82, Try.ntmps82
  go_wp2
  go_loop [4, 10] (fun _ i => ∃ k : Nat, k ≤ ws.length ∧ i = .int .i64 k ∧ Hid (allTo (fun k => wordOk (strAt ws k)) k = true)) (fun _ i => ws.length - (intOf i).toNat)
  case atStart => exact ⟨0, Nat.zero_le _, rfl, rfl⟩
  case round =>
    obtain ⟨k, hk, rfl, hl⟩ := hrel
    by_cases hlt : k < ws.length
    · obtain ⟨s, hs⟩ := get_lt hlt
      have HS := Lib.hid (strAt_eq hs)
      have hso := ho.at_ hs
      obtain ⟨g, o, rfl, hg, hc⟩ := hw.at_ (strs_at hs)
      have hcell := hc k _ (strs_at hs)
      clear hs hc
      cases hv : wordOk s
      · have HN : Hid (allTo (fun k => wordOk (strAt ws k)) ws.length = false) := allTo_not (k := k) (by rw [HS.out]; exact hv) hlt
        go_wp2_with (go_at_call 79; refine (impl_WordValid _ _ hso).mono ?_; rintro e w' ⟨rfl, rfl⟩; rw [hv])
        go_ret
        exact ⟨ret_bool (by rw [speechOk, HN.out, Bool.and_false]), rfl⟩
      · have HN : Hid (allTo (fun k => wordOk (strAt ws k)) (k + 1) = true) := by
          have := hl.out
          simp only [Hid, allTo] at this ⊢
          rw [this, HS.out, hv]; rfl
        go_wp2_with (go_at_call 79; refine (impl_WordValid _ _ hso).mono ?_; rintro e w' ⟨rfl, rfl⟩; rw [hv])
        go_round
        case rel => exact ⟨k + 1, by omega, by go_num, HN⟩
        case measure => simp [intOf]; omega
    · go_wp2
      go_ret
      obtain rfl : k = ws.length := by omega
      exact ⟨ret_bool (by rw [speechOk, hl.out]; simp; omega), rfl⟩

theorem spec_l4Words (ws : List Str) (lo hi : Int) (A : Option Addr) (c : Nat) (w : World) (hw : Seg w 0 w.heap.size A (strs ws)) (ho : StrsOk ws) (hn : ws.length ≤ maxLen) :
    Calls Try.prog 48 #[.slice A ws.length c, .int .i64 lo, .int .i64 hi] w fun e w' => e = .returned (.bool (allTo (fun k => wordOk (strAt ws k)) ws.length && (decide (lo ≤ ws.length) && decide ((ws.length : Int) ≤ hi)))) ∧ w = w' := by
  have hn' : ws.length ≤ 9223372036854775807 := hn
  go_enter Try.func48, Try.ntmps48
  go_wp2
  go_loop [7] (fun i => ∃ k : Nat, k ≤ ws.length ∧ i = .int .i64 k ∧ Hid (allTo (fun k => wordOk (strAt ws k)) k = true)) (fun i => ws.length - (intOf i).toNat)
  case atStart => exact ⟨0, Nat.zero_le _, rfl, rfl⟩
  case round =>
    obtain ⟨k, hk, rfl, hl⟩ := hrel
    by_cases hlt : k < ws.length
    · obtain ⟨s, hs⟩ := get_lt hlt
      have HS := Lib.hid (strAt_eq hs)
      have hso := ho.at_ hs
      obtain ⟨g, o, rfl, hg, hc⟩ := hw.at_ (strs_at hs)
      have hcell := hc k _ (strs_at hs)
      clear hs hc
      cases hv : wordOk s
      · have HN : Hid (allTo (fun k => wordOk (strAt ws k)) ws.length = false) := allTo_not (k := k) (by rw [HS.out]; exact hv) hlt
        go_wp2_with (go_at_call 76; refine (spec_WordValid _ _ hso).mono ?_; rintro e w' ⟨rfl, rfl⟩; rw [hv])
        go_ret
        exact ⟨ret_bool (by rw [HN.out, Bool.false_and]), rfl⟩
      · have HN : Hid (allTo (fun k => wordOk (strAt ws k)) (k + 1) = true) := by
          have := hl.out
          simp only [Hid, allTo] at this ⊢
          rw [this, HS.out, hv]; rfl
        go_wp2_with (go_at_call 76; refine (spec_WordValid _ _ hso).mono ?_; rintro e w' ⟨rfl, rfl⟩; rw [hv])
        go_round
        case rel => exact ⟨k + 1, by omega, by go_num, HN⟩
        case measure => simp [intOf]; omega
    · go_wp2_with (go_at_call 81; refine (spec_l6In _ _ _ _).mono ?_; rintro e w' ⟨rfl, rfl⟩)
      go_ret
      obtain rfl : k = ws.length := by omega
      exact ⟨ret_bool (by rw [hl.out]; rfl), rfl⟩

theorem spec_SpeechValid (ws : List Str) (A : Option Addr) (c : Nat) (w : World) (hw : Seg w 0 w.heap.size A (strs ws)) (ho : StrsOk ws) (hn : ws.length ≤ maxLen) :
    Calls Try.prog 85 #[.slice A ws.length c] w fun e w' => e = .returned (.bool (speechOk ws)) ∧ w = w' := by
  go_enter Try.func85, Try.ntmps85
  go_wp2_with (go_at_call 48; refine (spec_l4Words ws _ _ _ _ _ hw ho hn).mono ?_; rintro e w' ⟨rfl, rfl⟩)
  go_ret
  exact ⟨ret_bool (by rw [speechOk, Bool.and_comm]; congr 1; rw [Bool.eq_iff_iff]; simp; omega), rfl⟩

end Go.Proofs.Ytgddklafeaoleaa
