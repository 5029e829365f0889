/-
  Contracts of l4Different and SpeechVaries (both texts).
-/
import Derived.Test.YtgddklafeaoleaaStrs
namespace Go.Proofs.Ytgddklafeaoleaa
open Go.RowKit
set_option linter.unusedSimpArgs false
set_option linter.unusedVariables false

def diffAt (ws : List Str) (k : Nat) : Int := if hasNo ws (strAt ws k) k then 1 else 0
def diffTo (ws : List Str) (n : Nat) : Int := sumTo (diffAt ws) n
def variesOf (ws : List Str) : Int := if speechOk ws then diffTo ws ws.length else -1
theorem diffAt_le (ws : List Str) (k : Nat) : 0 ≤ diffAt ws k ∧ diffAt ws k ≤ 1 := by unfold diffAt; split <;> omega
theorem diffTo_le (ws : List Str) (n : Nat) : 0 ≤ diffTo ws n ∧ diffTo ws n ≤ n := by
  induction n with
  | zero => simp [diffTo, sumTo]
  | succ n ih => have := diffAt_le ws n; simp only [diffTo, sumTo] at *; omega
theorem speech_len {ws : List Str} (h : speechOk ws = true) : ws.length ≤ 20 := by
  simp only [speechOk, Bool.and_eq_true, decide_eq_true_eq] at h
  exact h.1
theorem str_neq {x s : Str} (h : ¬ x = s) : (ByteArray.toList x != ByteArray.toList s) = true := by
  rw [bne, str_ne h]; rfl

theorem spec_l4Different (ws : List Str) (A : Option Addr) (c : Nat) (w : World) (hw : Seg w 0 w.heap.size A (strs ws)) (hn : ws.length ≤ 1048576) :
    Calls Try.prog 56 #[.slice A ws.length c] w fun e w' => e = .returned (.int .i64 (diffTo ws ws.length)) ∧ ∃ n, w' = w.drewN n := by
  go_enter Try.func56, Try.ntmps56
  go_wp2
  go_loopw [3, 4, 5, 6] (fun v i _ _ wr => ∃ k : Nat, k ≤ ws.length ∧ i = .int .i64 k ∧ v = .int .i64 (diffTo ws k) ∧ Hid (∃ n, wr = w.drewN n)) (fun _ i _ _ _ => ws.length - (intOf i).toNat)
  case atStart => exact ⟨0, Nat.zero_le _, rfl, rfl, 0, rfl⟩
  case round =>
    obtain ⟨k, hk, rfl, rfl, hd⟩ := hrel
    have hdl := diffTo_le ws k
    by_cases hlt : k < ws.length
    · obtain ⟨s, hs⟩ := get_lt hlt
      obtain ⟨g, o, rfl, hg, hc⟩ := hw.at_ (strs_at hs)
      have hck : ∀ w2, (∃ n, w2 = w.drewN n) → w2.cell? ⟨g, o + k, none⟩ = some (.string s) := by rintro w2 ⟨m, rfl⟩; exact hc k _ (strs_at hs)
      have HCK := Lib.hid hck
      have HC := Lib.hid hc
      have HS := Lib.hid (strAt_eq hs)
      have hkd : decide ((k : Int) < (ws.length : Int)) = true := by simp; omega
      have hkdn : decide (k < ws.length) = true := by simp; omega
      clear hs hc hck
      go_wp2
      go_loopw [5, 6] (fun f j wr => ∃ i : Nat, i ≤ k ∧ j = .int .i64 i ∧ f = .bool (hasNo ws s i) ∧ Hid (∃ n, wr = w.drewN n)) (fun _ j _ => k - (intOf j).toNat)
      case atStart => exact ⟨0, Nat.zero_le _, rfl, rfl, hd⟩
      case round =>
        obtain ⟨i, hi, rfl, rfl, hd2⟩ := hrel
        by_cases hil : i < k
        · obtain ⟨s', hs'⟩ := get_lt (show i < ws.length by omega)
          have hc1 := HCK.out _ hd2.out
          have hc2 : wr.cell? ⟨g, o + i, none⟩ = some (.string s') := by obtain ⟨m, rfl⟩ := hd2.out; exact HC.out i _ (strs_at hs')
          have HS' := Lib.hid (strAt_eq hs')
          have hni : Hid (hasNo ws s (i + 1) = (hasNo ws s i && !(decide (s' = s)))) := by rw [Hid, hasNo, allTo, HS'.out]; rfl
          clear hs'
          cases hno : hasNo ws s i
          · have H2 : Hid (hasNo ws s (i + 1) = false) := by rw [Hid, hni.out, hno]; rfl
            go_wp2
            go_quiet (fail)
            go_wp2
            go_roundw
            case rel => exact ⟨i + 1, by omega, by go_num, by rw [H2.out], by obtain ⟨m, hm⟩ := hd2.out; exact ⟨m + nq, by rw [hm, World.drewN_drewN]⟩⟩
            case measure => simp [intOf]; omega
          · by_cases hx : s' = s
            · subst hx
              have H2 : Hid (hasNo ws s' (i + 1) = false) := by rw [Hid, hni.out]; simp
              go_wp2
              go_quiet (fail)
              go_wp2
              go_roundw
              case rel => exact ⟨i + 1, by omega, by go_num, by rw [H2.out], by obtain ⟨m, hm⟩ := hd2.out; exact ⟨m + nq, by rw [hm, World.drewN_drewN]⟩⟩
              case measure => simp [intOf]; omega
            · have H2 : Hid (hasNo ws s (i + 1) = true) := by rw [Hid, hni.out, hno]; simp [hx]
              have hxe := str_ne hx
              have hxn := str_neq hx
              clear hx
              go_wp2
              go_quiet (fail)
              go_wp2
              go_roundw
              case rel => exact ⟨i + 1, by omega, by go_num, by rw [H2.out], by obtain ⟨m, hm⟩ := hd2.out; exact ⟨m + nq, by rw [hm, World.drewN_drewN]⟩⟩
              case measure => simp [intOf]; omega
        · obtain rfl : i = k := by omega
          cases hno : hasNo ws s i
          · have H2 : Hid (diffTo ws (i + 1) = diffTo ws i) := by rw [Hid, diffTo, sumTo, diffAt, HS.out, hno]; simp [diffTo]
            go_wp2
            go_roundw
            case rel => exact ⟨i + 1, by omega, by go_num, by rw [H2.out], hd2⟩
            case measure => simp [intOf]; omega
          · have H2 : Hid (diffTo ws (i + 1) = diffTo ws i + 1) := by rw [Hid, diffTo, sumTo, diffAt, HS.out, hno]; simp [diffTo]
            go_wp2
            go_roundw
            case rel => exact ⟨i + 1, by omega, by go_num, by rw [H2.out], hd2⟩
            case measure => simp [intOf]; omega
    · go_wp2
      go_ret
      obtain rfl : k = ws.length := by omega
      exact ⟨rfl, hd.out⟩

theorem contains_take (ws : List Str) (k : Nat) (s : Str) (hk : k ≤ ws.length) (g o c : Nat) (w : World) (hs : Seg w 0 w.heap.size (some ⟨g, o, none⟩) (strs ws)) (hn : ws.length ≤ maxLen) :
    Calls Try.prog 57 #[.slice (some ⟨g, o, none⟩) k c, .string s] w fun e w' => e = .returned (.bool (!hasNo ws s k)) ∧ w = w' := by
  have hsg : Seg w 0 w.heap.size (some ⟨g, o, none⟩) (strs (ws.take k)) := by simpa [strs] using hs.take k
  have hlk : (ws.take k).length = k := by simp; omega
  have hcon := slices_Contains (ws.take k) s (some ⟨g, o, none⟩) c w hsg (by rw [hlk]; omega)
  have hno : hasNo (ws.take k) s k = hasNo ws s k := allTo_congr fun i hi => by simp [strAt, List.getD, List.getElem?_take, hi]; exact decide_eq_decide.2 Iff.rfl
  rwa [hlk, hno] at hcon

end Go.Proofs.Ytgddklafeaoleaa
