/-
  Contracts of lettersOf, l4Letters and the laws' lettersOf: the letters of a list of texts.
-/
import Derived.Test.YtgddklafeaoleaaStrD
import Derived.Test.YtgddklafeaoleaaBrfQ
namespace Go.Proofs.Ytgddklafeaoleaa
open Go.RowKit
set_option linter.unusedSimpArgs false
set_option linter.unusedVariables false

theorem impl_lettersOf (ws : List Str) (A : Option Addr) (c : Nat) (w : World) (hw : Seg w 0 w.heap.size A (strs ws)) (hn : ws.length ≤ maxLen) (hl : letters ws ≤ 1048576) :
    Calls Try.prog 69 #[.slice A ws.length c] w fun e w' => e = .returned (.int .i64 (letters ws)) ∧ w = w' := by
  have hn' : ws.length ≤ 9223372036854775807 := hn
  have HM := Lib.hid (fun k (hk : k ≤ ws.length) => sumTo_mono (f := szStr ws) (fun i => by simp [szStr]) hk)
  have HZ := Lib.hid (fun k => sumTo_mono (f := szStr ws) (k := 0) (n := k) (fun i => by simp [szStr]) (Nat.zero_le _))
  have HL := Lib.hid hl
  clear hl
  go_enter Try.func69, Try.ntmps69
  go_wp2
  go_loop [3, 8] (fun n i => ∃ k : Nat, k ≤ ws.length ∧ i = .int .i64 k ∧ ∃ z : Int, n = .int .i64 z ∧ Hid (z = sumTo (szStr ws) k)) (fun _ i => ws.length - (intOf i).toNat)
  case atStart => exact ⟨0, Nat.zero_le _, rfl, _, rfl, rfl⟩
  case round =>
    obtain ⟨k, hk, rfl, z, rfl, hz⟩ := hrel
    by_cases hlt : k < ws.length
    · obtain ⟨s, hs⟩ := get_lt hlt
      obtain ⟨g, o, rfl, hg, hcell⟩ := hw.strk hs
      have h1 := HM.out (k + 1) (by omega)
      have h2 := HZ.out k
      have e : sumTo (szStr ws) (k + 1) = sumTo (szStr ws) k + s.size := by simp [sumTo, szStr, strAt_eq hs]
      have e0 : sumTo (szStr ws) 0 = 0 := rfl
      have h3 : letters ws = sumTo (szStr ws) ws.length := rfl
      have h4 := HL.out
      have h5 := hz.out
      have z0 : 0 ≤ z := by omega
      have z1 : z + (s.size : Int) ≤ 1048576 := by omega
      have HE : Hid (z + (s.size : Int) = sumTo (szStr ws) (k + 1)) := by rw [Hid]; omega
      clear hs h1 h2 e e0 h3 h4 h5
      go_wp2
      go_round
      case rel => exact ⟨k + 1, by omega, by go_num, _, rfl, HE⟩
      case measure => simp [intOf]; omega
    · have HE : Hid (z = letters ws) := by
        obtain rfl : k = ws.length := by omega
        exact hz
      go_wp2
      go_ret
      exact ⟨ret_int HE.out, rfl⟩

theorem spec_l4Letters (ws : List Str) (A : Option Addr) (c : Nat) (w : World) (hw : Seg w 0 w.heap.size A (strs ws)) (hn : ws.length ≤ maxLen) (hl : letters ws ≤ 1048576) :
    Calls Try.prog 68 #[.slice A ws.length c] w fun e w' => e = .returned (.int .i64 (letters ws)) ∧ w = w' := by
  have hn' : ws.length ≤ 9223372036854775807 := hn
  have HM := Lib.hid (fun k (hk : k ≤ ws.length) => sumTo_mono (f := szStr ws) (fun i => by simp [szStr]) hk)
  have HZ := Lib.hid (fun k => sumTo_mono (f := szStr ws) (k := 0) (n := k) (fun i => by simp [szStr]) (Nat.zero_le _))
  have HL := Lib.hid hl
  clear hl
  go_enter Try.func68, Try.ntmps68
  go_wp2
  go_loop [3, 4] (fun n i => ∃ k : Nat, k ≤ ws.length ∧ i = .int .i64 k ∧ ∃ z : Int, n = .int .i64 z ∧ Hid (z = sumTo (szStr ws) k)) (fun _ i => ws.length - (intOf i).toNat)
  case atStart => exact ⟨0, Nat.zero_le _, rfl, _, rfl, rfl⟩
  case round =>
    obtain ⟨k, hk, rfl, z, rfl, hz⟩ := hrel
    by_cases hlt : k < ws.length
    · obtain ⟨s, hs⟩ := get_lt hlt
      obtain ⟨g, o, rfl, hg, hcell⟩ := hw.strk hs
      have h1 := HM.out (k + 1) (by omega)
      have h2 := HZ.out k
      have e : sumTo (szStr ws) (k + 1) = sumTo (szStr ws) k + s.size := by simp [sumTo, szStr, strAt_eq hs]
      have e0 : sumTo (szStr ws) 0 = 0 := rfl
      have h3 : letters ws = sumTo (szStr ws) ws.length := rfl
      have h4 := HL.out
      have h5 := hz.out
      have z0 : 0 ≤ z := by omega
      have z1 : z + (s.size : Int) ≤ 1048576 := by omega
      have HE : Hid (z + (s.size : Int) = sumTo (szStr ws) (k + 1)) := by rw [Hid]; omega
      clear hs h1 h2 e e0 h3 h4 h5
      go_wp2
      go_round
      case rel => exact ⟨k + 1, by omega, by go_num, _, rfl, HE⟩
      case measure => simp [intOf]; omega
    · have HE : Hid (z = letters ws) := by
        obtain rfl : k = ws.length := by omega
        exact hz
      go_wp2
      go_ret
      exact ⟨ret_int HE.out, rfl⟩

theorem laws_lettersOf (ws : List Str) (A : Option Addr) (c : Nat) (w : World) (hw : Seg w 0 w.heap.size A (strs ws)) (hn : ws.length ≤ maxLen) (hl : letters ws ≤ 1048576) :
    Calls Try.prog 31 #[.slice A ws.length c] w fun e w' => e = .returned (.int .i64 (letters ws)) ∧ w = w' := by
  have hn' : ws.length ≤ 9223372036854775807 := hn
  have HM := Lib.hid (fun k (hk : k ≤ ws.length) => sumTo_mono (f := szStr ws) (fun i => by simp [szStr]) hk)
  have HZ := Lib.hid (fun k => sumTo_mono (f := szStr ws) (k := 0) (n := k) (fun i => by simp [szStr]) (Nat.zero_le _))
  have HL := Lib.hid hl
  clear hl
  go_enter Try.func31, Try.ntmps31
  go_wp2
  go_loop [3, 4] (fun n i => ∃ k : Nat, k ≤ ws.length ∧ i = .int .i64 k ∧ ∃ z : Int, n = .int .i64 z ∧ Hid (z = sumTo (szStr ws) k)) (fun _ i => ws.length - (intOf i).toNat)
  case atStart => exact ⟨0, Nat.zero_le _, rfl, _, rfl, rfl⟩
  case round =>
    obtain ⟨k, hk, rfl, z, rfl, hz⟩ := hrel
    by_cases hlt : k < ws.length
    · obtain ⟨s, hs⟩ := get_lt hlt
      obtain ⟨g, o, rfl, hg, hcell⟩ := hw.strk hs
      have h1 := HM.out (k + 1) (by omega)
      have h2 := HZ.out k
      have e : sumTo (szStr ws) (k + 1) = sumTo (szStr ws) k + s.size := by simp [sumTo, szStr, strAt_eq hs]
      have e0 : sumTo (szStr ws) 0 = 0 := rfl
      have h3 : letters ws = sumTo (szStr ws) ws.length := rfl
      have h4 := HL.out
      have h5 := hz.out
      have z0 : 0 ≤ z := by omega
      have z1 : z + (s.size : Int) ≤ 1048576 := by omega
      have HE : Hid (z + (s.size : Int) = sumTo (szStr ws) (k + 1)) := by rw [Hid]; omega
      clear hs h1 h2 e e0 h3 h4 h5
      go_wp2
      go_round
      case rel => exact ⟨k + 1, by omega, by go_num, _, rfl, HE⟩
      case measure => simp [intOf]; omega
    · have HE : Hid (z = letters ws) := by
        obtain rfl : k = ws.length := by omega
        exact hz
      go_wp2
      go_ret
      exact ⟨ret_int HE.out, rfl⟩
end Go.Proofs.Ytgddklafeaoleaa
