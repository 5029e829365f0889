/-
  Lists of texts and of numbers of the call's own: made, marked, held, compared.
-/
import Derived.Test.YtniemanapimjoaaMrk
namespace Go.Proofs.Ytniemanapimjoaa
open Go.RowKit Go.Sort
set_option linter.unusedSimpArgs false
set_option linter.unusedVariables false

theorem Seg.int1 {w : World} {lo hi : Nat} {A : Option Addr} {l : List Int} {k : Nat} {b : Int} (h : Seg w lo hi A (flat intC l)) (hk : l[k]? = some b) :
    ∃ g o, A = some ⟨g, o, none⟩ ∧ g < w.heap.size ∧ w.cell? ⟨g, o + k, none⟩ = some (.int .i64 b) := by
  have h0 := flat_get intC_len hk (j := 0) (by decide)
  rw [Nat.mul_one, Nat.add_zero] at h0
  rcases h with h | ⟨g, o, rfl, a, b, c, d⟩
  · rw [h] at h0; simp [intC] at h0
  · exact ⟨g, o, rfl, c, by simpa [intC] using d _ _ h0⟩
theorem ints_eq (xs : List Int) (A B : Option Addr) (c d : Nat) (w : World) (hw : Seg w 0 w.heap.size A (flat intC xs)) (hv : Seg w 0 w.heap.size B (flat intC xs)) (hn : xs.length ≤ 1048576) :
    Calls Try.prog 23 #[.slice A xs.length c, .slice B xs.length d] w fun e w' => e = .returned (.bool true) ∧ Below w.heap.size w w' := by
  go_enter Try.func23, Try.ntmps23
  go_wp2
  go_loopw [5] (fun i wr => ∃ k : Nat, k ≤ xs.length ∧ i = .int .i64 k ∧ Hid (∃ n, wr = w.drewN n)) (fun i _ => xs.length - (intOf i).toNat)
  case atStart => exact ⟨0, Nat.zero_le _, rfl, 0, rfl⟩
  case round =>
    obtain ⟨k, hk, rfl, hd⟩ := hrel
    by_cases hlt : k < xs.length
    · obtain ⟨x, hx⟩ := get_lt hlt
      obtain ⟨g, o, rfl, hg, e1⟩ := hw.int1 hx
      obtain ⟨g', o', rfl, hg', e2⟩ := hv.int1 hx
      obtain ⟨m, hm⟩ := hd.out
      have d1 : wr.cell? ⟨g, o + k, none⟩ = some (.int .i64 x) := by rw [hm]; exact e1
      have d2 : wr.cell? ⟨g', o' + k, none⟩ = some (.int .i64 x) := by rw [hm]; exact e2
      clear hx e1 e2 hm
      go_wp2
      go_quiet (fail)
      go_wp2
      go_roundw
      case rel => exact ⟨k + 1, by omega, by go_num, by obtain ⟨m, hm⟩ := hd.out; exact ⟨m + nq, by rw [hm, World.drewN_drewN]⟩⟩
      case measure => simp [intOf]; omega
    · go_wp2
      go_ret
      exact ⟨rfl, by obtain ⟨m, hm⟩ := hd.out; rw [hm]; exact Below_drewN (Below.refl _ _) _⟩
def marksInt (k : Int) (n : Nat) : List Int := (List.range n).map fun (i : Nat) => k + (i : Int)
theorem marksInt_len (k : Int) (n : Nat) : (marksInt k n).length = n := by simp [marksInt]
theorem marksInt_at (k : Int) {n i : Nat} (h : i < n) : (marksInt k n)[i]? = some (k + (i : Int)) := by simp [marksInt, h]
theorem ints_markG (xs : List Int) (base : Nat) (A : Option Addr) (c : Nat) (k : Int) (w : World) (hown : w.ownsRow base 3 1 (.slice A xs.length c) xs.length (flat intC xs)) (hn : xs.length ≤ 1048576) (hk0 : 0 ≤ k) (hk1 : k ≤ 1000000000000) :
    Calls Try.prog 30 #[.slice A xs.length c, .int .i64 k] w fun e w' => e = .returned (.int .i64 (k + xs.length)) ∧ w'.ownsRow base 3 1 (.slice A xs.length c) xs.length (flat intC (marksInt k xs.length)) ∧ w.grownBy w' (Value.slice A xs.length c).ownBlock := by
  go_enter Try.func30, Try.ntmps30
  go_wp2
  go_loopw [1, 5] (fun q i wr => ∃ j : Nat, j ≤ xs.length ∧ i = .int .i64 j ∧ q = .int .i64 (k + (j : Int)) ∧ wr.ownsRow base 3 1 (.slice A xs.length c) xs.length (flat intC ((marksInt k xs.length).take j) ++ flat intC (xs.drop j)) ∧ w.grownBy wr (Value.slice A xs.length c).ownBlock) (fun _ i _ => xs.length - (intOf i).toNat)
  case atStart => exact ⟨0, Nat.zero_le _, rfl, by simp, by simpa [flat] using hown, grow_refl _ _⟩
  case round =>
    obtain ⟨j, hj, rfl, rfl, hown', hwr⟩ := hrel
    by_cases hlt : j < xs.length
    · obtain ⟨b, c', hv, hb, hbs, _, _⟩ := own_head hown' (by omega)
      injection hv with hA _ hc
      subst hA hc
      have hz : (flat intC (xs.drop j)).length = ((marksInt k xs.length).length - j) * 1 := by rw [flat_length intC_len, marksInt_len]; simp
      have hlm : j < (marksInt k xs.length).length := by rw [marksInt_len]; exact hlt
      obtain ⟨⟨u, hcA⟩, hfA⟩ := own_room intC_len hown' hlm hz 0 (by decide)
      rw [Nat.add_zero, Nat.mul_one] at hcA hfA
      have hput := (own_put intC_len hown' (marksInt_at k hlt) hz).1
      have hdr : (flat intC (xs.drop j)).drop 1 = flat intC (xs.drop (j + 1)) := by
        have := flat_drop intC_len (xs.drop j) 1
        rw [List.drop_drop] at this
        simpa using this
      rw [hdr, Nat.mul_one] at hput
      have HP := Lib.hid hput
      have hw2 := grow_trans hwr (grow_set wr b j xs.length c (.int .i64 (k + (j : Int))))
      clear hz hlm hput hdr hown'
      go_wp2
      go_roundw
      case rel => exact ⟨j + 1, by omega, by go_num, by go_num, HP.out, hw2⟩
      case measure => simp [intOf]; omega
    · obtain rfl : j = xs.length := by omega
      rw [List.take_of_length_le (by rw [marksInt_len]; exact Nat.le_refl _), List.drop_eq_nil_of_le (Nat.le_refl _), flat_nil, List.append_nil] at hown'
      go_wp2
      go_ret
      exact ⟨rfl, hown', hwr⟩
theorem ints_heldB (n : Nat) (k0 : Int) (A : Option Addr) (c : Nat) (w : World) (hw : Seg w 0 w.heap.size A (flat intC (marksInt k0 n))) (hn : n ≤ 1048576) (hk0 : 0 ≤ k0) (hk1 : k0 ≤ 1000000000000) :
    Calls Try.prog 31 #[.slice A n c, .int .i64 k0] w fun e w' => e = .returned (.int .i64 (k0 + n)) ∧ Below w.heap.size w w' := by
  go_enter Try.func31, Try.ntmps31
  go_wp2
  go_loop [1, 5] (fun q i => ∃ j : Nat, j ≤ n ∧ i = .int .i64 j ∧ q = .int .i64 (k0 + (j : Int))) (fun _ i => n - (intOf i).toNat)
  case atStart => exact ⟨0, Nat.zero_le _, rfl, by simp⟩
  case round =>
    obtain ⟨j, hj, rfl, rfl⟩ := hrel
    by_cases hlt : j < n
    · obtain ⟨g, o, rfl, hg, hc1⟩ := hw.int1 (marksInt_at k0 hlt)
      go_wp2
      go_round
      case rel => exact ⟨j + 1, by omega, by go_num, by go_num⟩
      case measure => simp [intOf]; omega
    · obtain rfl : j = n := by omega
      go_wp2
      go_ret
      exact ⟨rfl, Below.refl _ _⟩

/-! ### texts -/
theorem strs_toO (xs : List Str) (A : Option Addr) (c : Nat) (w : World) (hw : LayStrs w 0 w.heap.size A xs) (ho : OkStrs xs) (hn : xs.length ≤ 1048576) :
    Calls Try.prog 20 #[.slice A xs.length c] w fun e w' => ∃ A', e = .returned (.slice A' xs.length xs.length) ∧ w'.ownsRow w.heap.size 9 1 (.slice A' xs.length xs.length) xs.length (strs xs) ∧ Below w.heap.size w w' := laws_toStringS_own xs A c w hw hn
def marksStr (k : Int) (n : Nat) : List Str := (List.range n).map fun (i : Nat) => mtext (k + (i : Int))
theorem marksStr_len (k : Int) (n : Nat) : (marksStr k n).length = n := by simp [marksStr]
theorem marksStr_at (k : Int) {n i : Nat} (h : i < n) : (marksStr k n)[i]? = some (mtext (k + (i : Int))) := by simp [marksStr, h]
set_option maxRecDepth 100000 in
theorem strs_markG (xs : List Str) (base : Nat) (A : Option Addr) (c : Nat) (k : Int) (w : World) (hown : w.ownsRow base 9 1 (.slice A xs.length c) xs.length (strs xs)) (hn : xs.length ≤ 1048576) (hk0 : 1 ≤ k) (hk1 : k ≤ 1000000000000) :
    Calls Try.prog 28 #[.slice A xs.length c, .int .i64 k] w fun e w' => e = .returned (.int .i64 (k + xs.length)) ∧ w'.ownsRow base 9 1 (.slice A xs.length c) xs.length (strs (marksStr k xs.length)) ∧ w.grownBy w' (Value.slice A xs.length c).ownBlock := by
  rw [strs, ← flat_strC] at hown
  rw [strs, ← flat_strC]
  go_enter Try.func28, Try.ntmps28
  go_wp2
  go_loopw [1, 5] (fun q i wr => ∃ j : Nat, j ≤ xs.length ∧ i = .int .i64 j ∧ q = .int .i64 (k + (j : Int)) ∧ wr.ownsRow base 9 1 (.slice A xs.length c) xs.length (flat strC ((marksStr k xs.length).take j) ++ flat strC (xs.drop j)) ∧ w.grownBy wr (Value.slice A xs.length c).ownBlock) (fun _ i _ => xs.length - (intOf i).toNat)
  case atStart => exact ⟨0, Nat.zero_le _, rfl, by simp, by simpa [flat] using hown, grow_refl _ _⟩
  case round =>
    obtain ⟨j, hj, rfl, rfl, hown', hwr⟩ := hrel
    by_cases hlt : j < xs.length
    · go_wp2_with fail
      refine (laws_markText _ _ (by omega) (by omega)).mono ?_
      rintro e w1 ⟨rfl, b1⟩
      have hown1 := own_below hown' b1
      have hwr1 := grow_trans hwr (grow_below b1)
      obtain ⟨b, c', hv, hb, hbs, _, _⟩ := own_head hown1 (by omega)
      injection hv with hA _ hc
      subst hA hc
      have hz : (flat strC (xs.drop j)).length = ((marksStr k xs.length).length - j) * 1 := by rw [flat_length strC_len, marksStr_len]; simp
      have hlm : j < (marksStr k xs.length).length := by rw [marksStr_len]; exact hlt
      obtain ⟨⟨u, hcA⟩, hfA⟩ := own_room strC_len hown1 hlm hz 0 (by decide)
      rw [Nat.add_zero, Nat.mul_one] at hcA hfA
      have hput := (own_put strC_len hown1 (marksStr_at k hlt) hz).1
      have hdr : (flat strC (xs.drop j)).drop 1 = flat strC (xs.drop (j + 1)) := by
        have := flat_drop strC_len (xs.drop j) 1
        rw [List.drop_drop] at this
        simpa using this
      rw [hdr, Nat.mul_one] at hput
      have HP := Lib.hid hput
      have hw2 := grow_trans hwr1 (grow_set w1 b j xs.length c (.string (mtext (k + (j : Int)))))
      clear hz hlm hput hdr hown' hown1 b1 hwr hwr1
      go_wp2
      go_roundw
      case rel => exact ⟨j + 1, by omega, by go_num, by go_num, HP.out, hw2⟩
      case measure => simp [intOf]; omega
    · obtain rfl : j = xs.length := by omega
      rw [List.take_of_length_le (by rw [marksStr_len]; exact Nat.le_refl _), List.drop_eq_nil_of_le (Nat.le_refl _), flat_nil, List.append_nil] at hown'
      go_wp2
      go_ret
      exact ⟨rfl, hown', hwr⟩
end Go.Proofs.Ytniemanapimjoaa
