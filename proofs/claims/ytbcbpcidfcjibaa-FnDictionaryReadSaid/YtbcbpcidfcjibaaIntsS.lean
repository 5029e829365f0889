/-
  Contracts of the laws' sameInts and hasInt.
-/
import Derived.Test.YtbcbpcidfcjibaaMrk2
namespace Go.Proofs.Ytbcbpcidfcjibaa
open Go.RowKit Go.Sort
set_option linter.unusedSimpArgs false
set_option linter.unusedVariables false

theorem ints_same (xs : List Int) (A B : Option Addr) (c d : Nat) (w : World) (hw : Seg w 0 w.heap.size A (flat intC xs)) (hv : Seg w 0 w.heap.size B (flat intC xs)) (hn : xs.length ≤ 1048576) :
    Calls Try.prog 7 #[.slice A xs.length c, .slice B xs.length d] w fun e w' => e = .returned (.bool true) ∧ Below w.heap.size w w' := by
  go_enter Try.func7, Try.ntmps7
  go_wp2
  go_loopw [5] (fun i wr => ∃ k : Nat, k ≤ xs.length ∧ i = .int .i64 k ∧ Hid (∃ n, wr = w.drewN n)) (fun i _ => xs.length - (intOf i).toNat)
  case atStart => exact ⟨0, Nat.zero_le _, rfl, 0, rfl⟩
  case round =>
    obtain ⟨k, hk, rfl, hd⟩ := hrel
    by_cases hlt : k < xs.length
    · obtain ⟨x, hx⟩ := get_lt hlt
      obtain ⟨g, o, rfl, hg, e1⟩ := hw.int1 hx
      obtain ⟨g', o', rfl, hg', e2⟩ := hv.int1 hx
      obtain ⟨m, hm⟩ := hd.out
      have d1 : wr.cell? ⟨g, o + k, none⟩ = some (.int .i64 x) := by rw [hm]; exact e1
      have d2 : wr.cell? ⟨g', o' + k, none⟩ = some (.int .i64 x) := by rw [hm]; exact e2
      clear hx e1 e2 hm
      go_wp2
      go_quiet (fail)
      go_wp2
      go_roundw
      case rel => exact ⟨k + 1, by omega, by go_num, by obtain ⟨m, hm⟩ := hd.out; exact ⟨m + nq, by rw [hm, World.drewN_drewN]⟩⟩
      case measure => simp [intOf]; omega
    · go_wp2
      go_ret
      exact ⟨rfl, by obtain ⟨m, hm⟩ := hd.out; rw [hm]; exact Below_drewN (Below.refl _ _) _⟩
theorem laws_hasInt (xs : List Int) (v : Int) (A : Option Addr) (c : Nat) (w : World) (hw : Seg w 0 w.heap.size A (flat intC xs)) (hn : xs.length ≤ 1048576) :
    Calls Try.prog 11 #[.slice A xs.length c, .int .i64 v] w fun e w' => e = .returned (.bool (decide (v ∈ xs))) ∧ w = w' := by
  go_enter Try.func11, Try.ntmps11
  go_wp2
  go_loop [5] (fun i => ∃ k : Nat, k ≤ xs.length ∧ i = .int .i64 k ∧ Hid (v ∉ xs.take k)) (fun i => xs.length - (intOf i).toNat)
  case atStart => exact ⟨0, Nat.zero_le _, rfl, by simp [Hid]⟩
  case round =>
    obtain ⟨k, hk, rfl, hno⟩ := hrel
    by_cases hlt : k < xs.length
    · obtain ⟨x, hx⟩ := get_lt hlt
      obtain ⟨g, o, rfl, hg, e1⟩ := hw.int1 hx
      by_cases he : x = v
      · have HN : Hid (decide (v ∈ xs) = true) := by rw [Hid, decide_eq_true_iff, ← he]; exact List.mem_of_getElem? hx
        subst he
        clear hx
        go_wp2
        go_ret
        exact ⟨ret_bool HN.out.symm, rfl⟩
      · have HN : Hid (v ∉ xs.take (k + 1)) := by
          rw [Hid, take_snoc' hx, List.mem_append]
          rintro (h | h)
          · exact hno.out h
          · simp at h; exact he h.symm
        have hb : (x == v) = false := beq_eq_false_iff_ne.2 he
        clear hx
        go_wp2
        go_round
        case rel => exact ⟨k + 1, by omega, by go_num, HN⟩
        case measure => simp [intOf]; omega
    · have HN : Hid (decide (v ∈ xs) = false) := by
        rw [Hid, decide_eq_false_iff_not]
        have := hno.out
        rwa [List.take_of_length_le (by omega)] at this
      go_wp2
      go_ret
      exact ⟨ret_bool HN.out.symm, rfl⟩
end Go.Proofs.Ytbcbpcidfcjibaa
