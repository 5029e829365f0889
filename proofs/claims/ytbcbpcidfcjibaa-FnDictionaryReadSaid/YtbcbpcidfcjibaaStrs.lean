/-
  Contracts of the functions over lists of words: szStringS, toStringS, eqStringS, Index, Contains, SpeechValid, DictionaryValid (both texts).
-/
import Derived.Test.YtbcbpcidfcjibaaWords2
import Derived.Test.YtbcbpcidfcjibaaData
namespace Go.Proofs.Ytbcbpcidfcjibaa
open Go.RowKit
set_option linter.unusedSimpArgs false
set_option linter.unusedVariables false

/-! ### plain -/
def strs (ws : List Str) : List Value := ws.map Value.string
theorem strs_at {ws : List Str} {k : Nat} {s : Str} (h : ws[k]? = some s) : (strs ws)[k]? = some (.string s) := by simp [strs, h]
def strAt (ws : List Str) (k : Nat) : Str := ws.getD k ByteArray.empty
theorem strAt_eq {ws : List Str} {k : Nat} {s : Str} (h : ws[k]? = some s) : strAt ws k = s := by simp [strAt, List.getD, h]
def StrsOk (ws : List Str) : Prop := ∀ s ∈ ws, s.size ≤ maxLen
theorem StrsOk.at_ {ws : List Str} (h : StrsOk ws) {k : Nat} {s : Str} (hs : ws[k]? = some s) : s.size ≤ maxLen := h s (List.mem_of_getElem? hs)

def szStr (ws : List Str) (k : Nat) : Int := (strAt ws k).size
def speechOk (ws : List Str) : Bool := decide (ws.length ≤ 20) && allTo (fun k => wordOk (strAt ws k)) ws.length
def hasNo (ws : List Str) (x : Str) (n : Nat) : Bool := allTo (fun j => !(decide (strAt ws j = x))) n
def dictAt (ws : List Str) (k : Nat) : Bool := wordOk (strAt ws k) && hasNo ws (strAt ws k) k
def dictOk (ws : List Str) : Bool := decide (ws.length ≤ 20) && allTo (dictAt ws) ws.length

/-! ### walks -/
theorem info_str : (Try.prog.info? 9).map (fun i => (i.zero, i.size, i.bytes)) = some (some (.string ByteArray.empty), 1, 16) := by kernel_rfl

theorem slices_Index (ws : List Str) (x : Str) (A : Option Addr) (c : Nat) (w : World) (hw : Seg w 0 w.heap.size A (strs ws)) (hn : ws.length ≤ maxLen) :
    Calls Try.prog 54 #[.slice A ws.length c, .string x] w fun e w' => (∃ i : Int, e = .returned (.int .i64 i) ∧ Hid (decide (0 ≤ i) = !hasNo ws x ws.length)) ∧ w = w' := by
  have hn' : ws.length ≤ 9223372036854775807 := hn
  go_enter Try.func54, Try.ntmps54
  go_wp2
  go_loop [8] (fun i => ∃ k : Nat, k ≤ ws.length ∧ i = .int .i64 k ∧ Hid (hasNo ws x k = true)) (fun i => ws.length - (intOf i).toNat)
  case atStart => exact ⟨0, Nat.zero_le _, rfl, rfl⟩
  case round =>
    obtain ⟨k, hk, rfl, hl⟩ := hrel
    by_cases hlt : k < ws.length
    · obtain ⟨s, hs⟩ := get_lt hlt
      have HS := Lib.hid (strAt_eq hs)
      obtain ⟨g, o, rfl, hg, hc⟩ := hw.at_ (strs_at hs)
      have hcell := hc k _ (strs_at hs)
      clear hs hc
      by_cases hx : x = s
      · subst hx
        have HN : Hid (hasNo ws x ws.length = false) := allTo_not (k := k) (by simp [HS.out]) hlt
        go_wp2
        go_ret
        exact ⟨⟨_, rfl, by rw [HN.out]; simp [Hid]⟩, rfl⟩
      · have HN : Hid (hasNo ws x (k + 1) = true) := by
          have := hl.out
          simp only [Hid, hasNo, allTo] at this ⊢
          rw [this, HS.out]
          simp [Ne.symm hx]
        have hxe := str_ne hx
        clear hx
        go_wp2
        go_round
        case rel => exact ⟨k + 1, by omega, by go_num, HN⟩
        case measure => simp [intOf]; omega
    · go_wp2
      go_ret
      obtain rfl : k = ws.length := by omega
      exact ⟨⟨_, rfl, by rw [hl.out]; simp [Hid]⟩, rfl⟩

theorem slices_Contains (ws : List Str) (x : Str) (A : Option Addr) (c : Nat) (w : World) (hw : Seg w 0 w.heap.size A (strs ws)) (hn : ws.length ≤ maxLen) :
    Calls Try.prog 49 #[.slice A ws.length c, .string x] w fun e w' => e = .returned (.bool (!hasNo ws x ws.length)) ∧ w = w' := by
  go_enter Try.func49, Try.ntmps49
  go_wp2_with (go_at_call 54; refine (slices_Index ws x _ _ _ hw hn).mono ?_; rintro e w' ⟨⟨i, rfl, hi⟩, rfl⟩)
  go_ret
  exact ⟨by rw [← hi.out]; rfl, rfl⟩

theorem impl_DictionaryValid (ws : List Str) (A : Option Addr) (c : Nat) (w : World) (hw : Seg w 0 w.heap.size A (strs ws)) (ho : StrsOk ws) (hn : ws.length ≤ maxLen) (hc0 : ws.length ≤ c) (hcm : c ≤ maxLen) :
    Calls Try.prog 35 #[.slice A ws.length c] w fun e w' => e = .returned (.bool (dictOk ws)) ∧ w = w' := by
  have hn' : ws.length ≤ 9223372036854775807 := hn
  have hcm' : c ≤ 9223372036854775807 := hcm
  by_cases h2 : (20 : Int) < ws.length
  · go_enter Try.func35, Try.ntmps35
    go_wp2
    go_ret
    exact ⟨by simp [dictOk]; omega, rfl⟩
  go_enter Try.func35, Try.ntmps35
  go_wp2
  go_loop [3, 4, 10] (fun _ _ i => ∃ k : Nat, k ≤ ws.length ∧ i = .int .i64 k ∧ Hid (allTo (dictAt ws) k = true)) (fun _ _ i => ws.length - (intOf i).toNat)
  case atStart => exact ⟨0, Nat.zero_le _, rfl, rfl⟩
  case round =>
    obtain ⟨k, hk, rfl, hl⟩ := hrel
    by_cases hlt : k < ws.length
    · obtain ⟨s, hs⟩ := get_lt hlt
      have HS := Lib.hid (strAt_eq hs)
      have hso := ho.at_ hs
      have hseg := hw.take k
      obtain ⟨g, o, rfl, hg, hc⟩ := hw.at_ (strs_at hs)
      have hcell := hc k _ (strs_at hs)
      clear hs hc
      cases hv : wordOk s
      · have HN : Hid (allTo (dictAt ws) ws.length = false) := allTo_not (k := k) (by rw [dictAt, HS.out, hv]; rfl) hlt
        go_wp2_with (go_at_call 24; refine (impl_WordValid _ _ hso).mono ?_; rintro e w' ⟨rfl, rfl⟩; rw [hv])
        go_ret
        exact ⟨ret_bool (by rw [dictOk, HN.out, Bool.and_false]), rfl⟩
      · have hsg : Seg w 0 w.heap.size (some ⟨g, o, none⟩) (strs (ws.take k)) := by simpa [strs] using hseg
        have hlk : (ws.take k).length = k := by simp; omega
        have hcon := slices_Contains (ws.take k) s (some ⟨g, o, none⟩) c w hsg (by rw [hlk]; simp [maxLen]; omega)
        have hno : hasNo (ws.take k) s k = hasNo ws s k := allTo_congr fun i hi => by simp [strAt, List.getD, List.getElem?_take, hi]; exact decide_eq_decide.2 Iff.rfl
        rw [hlk, hno] at hcon
        have HC := Lib.hid hcon
        clear hcon hlk hno hsg hseg
        cases hh : hasNo ws s k
        · have HN : Hid (allTo (dictAt ws) ws.length = false) := allTo_not (k := k) (by rw [dictAt, HS.out, hv, hh]; rfl) hlt
          go_wp2_with (first | (go_at_call 24; refine (impl_WordValid _ _ hso).mono ?_; rintro e w' ⟨rfl, rfl⟩; rw [hv]) | (go_at_call 49; refine HC.out.mono ?_; rintro e w' ⟨rfl, rfl⟩; rw [hh]))
          go_ret
          exact ⟨ret_bool (by rw [dictOk, HN.out, Bool.and_false]), rfl⟩
        · have HN : Hid (allTo (dictAt ws) (k + 1) = true) := by
            have := hl.out
            simp only [Hid, allTo] at this ⊢
            rw [this, dictAt, HS.out, hv, hh]; rfl
          go_wp2_with (first | (go_at_call 24; refine (impl_WordValid _ _ hso).mono ?_; rintro e w' ⟨rfl, rfl⟩; rw [hv]) | (go_at_call 49; refine HC.out.mono ?_; rintro e w' ⟨rfl, rfl⟩; rw [hh]))
          go_round
          case rel => exact ⟨k + 1, by omega, by go_num, HN⟩
          case measure => simp [intOf]; omega
    · go_wp2
      go_ret
      obtain rfl : k = ws.length := by omega
      exact ⟨ret_bool (by rw [dictOk, hl.out]; simp; omega), rfl⟩

theorem spec_DictionaryValid (ws : List Str) (A : Option Addr) (c : Nat) (w : World) (hw : Seg w 0 w.heap.size A (strs ws)) (ho : StrsOk ws) (hn : ws.length ≤ maxLen) :
    Calls Try.prog 37 #[.slice A ws.length c] w fun e w' => e = .returned (.bool (dictOk ws)) ∧ ∃ n, w' = w.drewN n := by
  have hn' : ws.length ≤ 9223372036854775807 := hn
  go_enter Try.func37, Try.ntmps37
  go_wp2
  go_loopw [3, 4] (fun i _ wr => ∃ k : Nat, k ≤ ws.length ∧ i = .int .i64 k ∧ Hid (allTo (dictAt ws) k = true) ∧ ∃ n, wr = w.drewN n) (fun i _ _ => ws.length - (intOf i).toNat)
  case atStart => exact ⟨0, Nat.zero_le _, rfl, rfl, 0, rfl⟩
  case round =>
    obtain ⟨k, hk, rfl, hl, n, rfl⟩ := hrel
    generalize hwr : w.drewN n = wr
    have HW := Lib.hid hwr
    by_cases hlt : k < ws.length
    · obtain ⟨s, hs⟩ := get_lt hlt
      have HS := Lib.hid (strAt_eq hs)
      have hso := ho.at_ hs
      obtain ⟨g, o, rfl, hg, hc⟩ := hw.at_ (strs_at hs)
      have hcell : wr.cell? ⟨g, o + k, none⟩ = some (.string s) := by rw [← hwr]; exact hc k _ (strs_at hs)
      have HC := Lib.hid hc
      clear hs hc hwr
      cases hv : wordOk s
      · have HN : Hid (allTo (dictAt ws) ws.length = false) := allTo_not (k := k) (by rw [dictAt, HS.out, hv]; rfl) hlt
        go_wp2_with (go_at_call 31; refine (spec_WordValid _ _ hso).mono ?_; rintro e w' ⟨rfl, rfl⟩; rw [hv])
        go_ret
        exact ⟨ret_bool (by rw [dictOk, HN.out, Bool.and_false]), n, HW.out.symm⟩
      · go_wp2_with (go_at_call 31; refine (spec_WordValid _ _ hso).mono ?_; rintro e w' ⟨rfl, rfl⟩; rw [hv])
        clear hcell
        go_loopw [4] (fun i wr => ∃ j : Nat, j ≤ k ∧ i = .int .i64 j ∧ Hid (hasNo ws s j = true) ∧ Hid (∃ n, wr = w.drewN n)) (fun i _ => k - (intOf i).toNat)
        case atStart => exact ⟨0, Nat.zero_le _, rfl, rfl, n, HW.out.symm⟩
        case round =>
          rename_i wr'
          obtain ⟨j, hj, rfl, hh, HR⟩ := hrel
          by_cases hjl : j < k
          · obtain ⟨s', hs'⟩ := get_lt (show j < ws.length by omega)
            have HS' := Lib.hid (strAt_eq hs')
            obtain ⟨s2, hs2⟩ := get_lt hlt
            have e2 : s2 = s := by rw [← strAt_eq hs2, HS.out]
            have hcell : ∀ w2, (∃ n, w2 = w.drewN n) → w2.cell? ⟨g, o + k, none⟩ = some (.string s) := by rintro w2 ⟨m, rfl⟩; rw [← e2]; exact HC.out k _ (strs_at hs2)
            have hcell' : ∀ w2, (∃ n, w2 = w.drewN n) → w2.cell? ⟨g, o + j, none⟩ = some (.string s') := by rintro w2 ⟨m, rfl⟩; exact HC.out j _ (strs_at hs')
            have hc1 := hcell _ HR.out
            have hc2 := hcell' _ HR.out
            clear hs' hcell hcell' hs2 e2
            by_cases hx : s' = s
            · subst hx
              have HN : Hid (allTo (dictAt ws) ws.length = false) := allTo_not (k := k) (by rw [dictAt, HS.out, show hasNo ws s' k = false from allTo_not (k := j) (by simp [HS'.out]) hjl, Bool.and_false]) hlt
              go_wp2
              go_quiet (fail)
              go_wp2
              go_ret
              exact ⟨ret_bool (by rw [dictOk, HN.out, Bool.and_false]), by obtain ⟨m, hm⟩ := HR.out; exact ⟨m + nq, by rw [hm, World.drewN_drewN]⟩⟩
            · have HN : Hid (hasNo ws s (j + 1) = true) := by
                have := hh.out
                simp only [Hid, hasNo, allTo] at this ⊢
                rw [this, HS'.out]
                simp [hx]
              have hxe := str_ne hx
              clear hx
              go_wp2
              go_quiet (fail)
              go_wp2
              go_roundw
              case rel => exact ⟨j + 1, by omega, by go_num, HN, by obtain ⟨m, hm⟩ := HR.out; exact ⟨m + nq, by rw [hm, World.drewN_drewN]⟩⟩
              case measure => simp [intOf]; omega
          · obtain rfl : j = k := by omega
            have HN : Hid (allTo (dictAt ws) (j + 1) = true) := by
              have := hl.out
              simp only [Hid, allTo] at this ⊢
              rw [this, dictAt, HS.out, hv, hh.out]; rfl
            go_wp2
            go_roundw
            case rel => exact ⟨j + 1, by omega, by go_num, HN, HR.out⟩
            case measure => simp [intOf]; omega
    · clear hwr
      go_wp2
      go_ret
      obtain rfl : k = ws.length := by omega
      exact ⟨ret_bool (by rw [dictOk, hl.out, Bool.eq_iff_iff]; simp; omega), n, HW.out.symm⟩
end Go.Proofs.Ytbcbpcidfcjibaa
