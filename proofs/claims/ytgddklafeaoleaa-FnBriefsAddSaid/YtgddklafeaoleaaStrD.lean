/-
  Contracts of comparisons of two lists of texts: slices.Equal, the reference's l4Same, the laws' sameTexts.
-/
import Derived.Test.YtgddklafeaoleaaStrs
namespace Go.Proofs.Ytgddklafeaoleaa
open Go.RowKit
set_option linter.unusedSimpArgs false
set_option linter.unusedVariables false

theorem str_neD {x s : Str} (h : ¬ x = s) : (ByteArray.toList x != ByteArray.toList s) = true := by
  rw [bne_iff_ne, ByteArray.toList_eq, ByteArray.toList_eq]
  exact fun e => h (str_ext e)
theorem Seg.strk {w : World} {lo hi : Nat} {A : Option Addr} {ws : List Str} {k : Nat} {s : Str} (h : Seg w lo hi A (strs ws)) (hk : ws[k]? = some s) :
    ∃ g o, A = some ⟨g, o, none⟩ ∧ g < w.heap.size ∧ w.cell? ⟨g, o + k, none⟩ = some (.string s) := by
  obtain ⟨g, o, e, h1, h2⟩ := h.at_ (strs_at hk)
  exact ⟨g, o, e, h1, h2 k _ (strs_at hk)⟩

theorem slices_EqualStr (xs ys : List Str) (A B : Option Addr) (c d : Nat) (w : World) (hw : Seg w 0 w.heap.size A (strs xs)) (hv : Seg w 0 w.heap.size B (strs ys)) (hn : xs.length ≤ maxLen) (hm : ys.length ≤ maxLen) :
    Calls Try.prog 53 #[.slice A xs.length c, .slice B ys.length d] w fun e w' => e = .returned (.bool (decide (xs = ys))) ∧ Below w.heap.size w w' := by
  have hn' : xs.length ≤ 9223372036854775807 := hn
  have hm' : ys.length ≤ 9223372036854775807 := hm
  by_cases hle : xs.length = ys.length
  · have hnb : (((xs.length : Nat) : Int) != ((ys.length : Nat) : Int)) = false := by rw [hle]; simp
    have HLE := Lib.hid hle
    clear hle
    go_enter Try.func53, Try.ntmps53
    go_wp2
    go_loopw [13] (fun i wr => ∃ k : Nat, k ≤ xs.length ∧ i = .int .i64 k ∧ Hid (xs.take k = ys.take k) ∧ Hid (∃ n, wr = w.drewN n)) (fun i _ => xs.length - (intOf i).toNat)
    case atStart => exact ⟨0, Nat.zero_le _, rfl, rfl, 0, rfl⟩
    case round =>
      obtain ⟨k, hk, rfl, hq, hd⟩ := hrel
      by_cases hlt : k < xs.length
      · have hlt2 : k < ys.length := by have := HLE.out; omega
        obtain ⟨x, hx⟩ := get_lt hlt
        obtain ⟨y, hy⟩ := get_lt hlt2
        obtain ⟨g, o, rfl, hg, e1⟩ := hw.strk hx
        obtain ⟨g', o', rfl, hg', e2⟩ := hv.strk hy
        obtain ⟨m, hm2⟩ := hd.out
        have d1 : wr.cell? ⟨g, o + k, none⟩ = some (.string x) := by rw [hm2]; exact e1
        have d2 : wr.cell? ⟨g', o' + k, none⟩ = some (.string y) := by rw [hm2]; exact e2
        have hlt3 : (k : Int) < (ys.length : Int) := by omega
        clear e1 e2 hm2
        by_cases h1 : x = y
        · subst h1
          have HQ : Hid (xs.take (k + 1) = ys.take (k + 1)) := by rw [Hid, take_snoc' hx, take_snoc' hy, hq.out]
          have hxn : (ByteArray.toList x != ByteArray.toList x) = false := by simp
          clear hx hy
          go_wp2
          go_quiet (fail)
          go_wp2
          go_roundw
          case rel => exact ⟨k + 1, by omega, by go_num, HQ, by obtain ⟨m, hm⟩ := hd.out; exact ⟨m + nq, by rw [hm, World.drewN_drewN]⟩⟩
          case measure => simp [intOf]; omega
        · have HN : Hid (decide (xs = ys) = false) := by
            rw [Hid, decide_eq_false_iff_not]
            intro e; rw [e, hy] at hx
            injection hx with hx; exact h1 hx.symm
          have hxn := str_neD h1
          have hxb := str_ne h1
          clear hx hy h1
          go_wp2
          go_quiet (fail)
          go_wp2
          go_ret
          exact ⟨ret_bool HN.out.symm, by obtain ⟨m, hm⟩ := hd.out; rw [hm, World.drewN_drewN]; exact Below_drewN (Below.refl _ _) _⟩
      · have HN : Hid (decide (xs = ys) = true) := by
          rw [Hid, decide_eq_true_iff]
          have h1 := hq.out
          have h2 := HLE.out
          rwa [List.take_of_length_le (by omega), List.take_of_length_le (by omega)] at h1
        go_wp2
        go_ret
        exact ⟨ret_bool HN.out.symm, by obtain ⟨m, hm⟩ := hd.out; rw [hm]; exact Below_drewN (Below.refl _ _) _⟩
  · have hnb : (((xs.length : Nat) : Int) != ((ys.length : Nat) : Int)) = true := by rw [bne_iff_ne]; omega
    have HN : Hid (decide (xs = ys) = false) := by rw [Hid, decide_eq_false_iff_not]; intro e; exact hle (by rw [e])
    have HLE := Lib.hid hle
    clear hle
    go_enter Try.func53, Try.ntmps53
    go_wp2
    go_ret
    exact ⟨ret_bool HN.out.symm, Below.refl _ _⟩

theorem spec_l4Same (xs ys : List Str) (A B : Option Addr) (c d : Nat) (w : World) (hw : Seg w 0 w.heap.size A (strs xs)) (hv : Seg w 0 w.heap.size B (strs ys)) (hn : xs.length ≤ maxLen) (hm : ys.length ≤ maxLen) :
    Calls Try.prog 49 #[.slice A xs.length c, .slice B ys.length d] w fun e w' => e = .returned (.bool (decide (xs = ys))) ∧ Below w.heap.size w w' := by
  have hn' : xs.length ≤ 9223372036854775807 := hn
  have hm' : ys.length ≤ 9223372036854775807 := hm
  by_cases hle : xs.length = ys.length
  · have hnb : (((xs.length : Nat) : Int) != ((ys.length : Nat) : Int)) = false := by rw [hle]; simp
    have HLE := Lib.hid hle
    clear hle
    go_enter Try.func49, Try.ntmps49
    go_wp2
    go_loopw [5] (fun i wr => ∃ k : Nat, k ≤ xs.length ∧ i = .int .i64 k ∧ Hid (xs.take k = ys.take k) ∧ Hid (∃ n, wr = w.drewN n)) (fun i _ => xs.length - (intOf i).toNat)
    case atStart => exact ⟨0, Nat.zero_le _, rfl, rfl, 0, rfl⟩
    case round =>
      obtain ⟨k, hk, rfl, hq, hd⟩ := hrel
      by_cases hlt : k < xs.length
      · have hlt2 : k < ys.length := by have := HLE.out; omega
        obtain ⟨x, hx⟩ := get_lt hlt
        obtain ⟨y, hy⟩ := get_lt hlt2
        obtain ⟨g, o, rfl, hg, e1⟩ := hw.strk hx
        obtain ⟨g', o', rfl, hg', e2⟩ := hv.strk hy
        obtain ⟨m, hm2⟩ := hd.out
        have d1 : wr.cell? ⟨g, o + k, none⟩ = some (.string x) := by rw [hm2]; exact e1
        have d2 : wr.cell? ⟨g', o' + k, none⟩ = some (.string y) := by rw [hm2]; exact e2
        have hlt3 : (k : Int) < (ys.length : Int) := by omega
        clear e1 e2 hm2
        by_cases h1 : x = y
        · subst h1
          have HQ : Hid (xs.take (k + 1) = ys.take (k + 1)) := by rw [Hid, take_snoc' hx, take_snoc' hy, hq.out]
          have hxn : (ByteArray.toList x != ByteArray.toList x) = false := by simp
          clear hx hy
          go_wp2
          go_quiet (fail)
          go_wp2
          go_roundw
          case rel => exact ⟨k + 1, by omega, by go_num, HQ, by obtain ⟨m, hm⟩ := hd.out; exact ⟨m + nq, by rw [hm, World.drewN_drewN]⟩⟩
          case measure => simp [intOf]; omega
        · have HN : Hid (decide (xs = ys) = false) := by
            rw [Hid, decide_eq_false_iff_not]
            intro e; rw [e, hy] at hx
            injection hx with hx; exact h1 hx.symm
          have hxn := str_neD h1
          have hxb := str_ne h1
          clear hx hy h1
          go_wp2
          go_quiet (fail)
          go_wp2
          go_ret
          exact ⟨ret_bool HN.out.symm, by obtain ⟨m, hm⟩ := hd.out; rw [hm, World.drewN_drewN]; exact Below_drewN (Below.refl _ _) _⟩
      · have HN : Hid (decide (xs = ys) = true) := by
          rw [Hid, decide_eq_true_iff]
          have h1 := hq.out
          have h2 := HLE.out
          rwa [List.take_of_length_le (by omega), List.take_of_length_le (by omega)] at h1
        go_wp2
        go_ret
        exact ⟨ret_bool HN.out.symm, by obtain ⟨m, hm⟩ := hd.out; rw [hm]; exact Below_drewN (Below.refl _ _) _⟩
  · have hnb : (((xs.length : Nat) : Int) != ((ys.length : Nat) : Int)) = true := by rw [bne_iff_ne]; omega
    have HN : Hid (decide (xs = ys) = false) := by rw [Hid, decide_eq_false_iff_not]; intro e; exact hle (by rw [e])
    have HLE := Lib.hid hle
    clear hle
    go_enter Try.func49, Try.ntmps49
    go_wp2
    go_ret
    exact ⟨ret_bool HN.out.symm, Below.refl _ _⟩

theorem laws_sameTexts (xs ys : List Str) (A B : Option Addr) (c d : Nat) (w : World) (hw : Seg w 0 w.heap.size A (strs xs)) (hv : Seg w 0 w.heap.size B (strs ys)) (hn : xs.length ≤ maxLen) (hm : ys.length ≤ maxLen) :
    Calls Try.prog 24 #[.slice A xs.length c, .slice B ys.length d] w fun e w' => e = .returned (.bool (decide (xs = ys))) ∧ Below w.heap.size w w' := by
  have hn' : xs.length ≤ 9223372036854775807 := hn
  have hm' : ys.length ≤ 9223372036854775807 := hm
  by_cases hle : xs.length = ys.length
  · have hnb : (((xs.length : Nat) : Int) != ((ys.length : Nat) : Int)) = false := by rw [hle]; simp
    have HLE := Lib.hid hle
    clear hle
    go_enter Try.func24, Try.ntmps24
    go_wp2
    go_loopw [5] (fun i wr => ∃ k : Nat, k ≤ xs.length ∧ i = .int .i64 k ∧ Hid (xs.take k = ys.take k) ∧ Hid (∃ n, wr = w.drewN n)) (fun i _ => xs.length - (intOf i).toNat)
    case atStart => exact ⟨0, Nat.zero_le _, rfl, rfl, 0, rfl⟩
    case round =>
      obtain ⟨k, hk, rfl, hq, hd⟩ := hrel
      by_cases hlt : k < xs.length
      · have hlt2 : k < ys.length := by have := HLE.out; omega
        obtain ⟨x, hx⟩ := get_lt hlt
        obtain ⟨y, hy⟩ := get_lt hlt2
        obtain ⟨g, o, rfl, hg, e1⟩ := hw.strk hx
        obtain ⟨g', o', rfl, hg', e2⟩ := hv.strk hy
        obtain ⟨m, hm2⟩ := hd.out
        have d1 : wr.cell? ⟨g, o + k, none⟩ = some (.string x) := by rw [hm2]; exact e1
        have d2 : wr.cell? ⟨g', o' + k, none⟩ = some (.string y) := by rw [hm2]; exact e2
        have hlt3 : (k : Int) < (ys.length : Int) := by omega
        clear e1 e2 hm2
        by_cases h1 : x = y
        · subst h1
          have HQ : Hid (xs.take (k + 1) = ys.take (k + 1)) := by rw [Hid, take_snoc' hx, take_snoc' hy, hq.out]
          have hxn : (ByteArray.toList x != ByteArray.toList x) = false := by simp
          clear hx hy
          go_wp2
          go_quiet (fail)
          go_wp2
          go_roundw
          case rel => exact ⟨k + 1, by omega, by go_num, HQ, by obtain ⟨m, hm⟩ := hd.out; exact ⟨m + nq, by rw [hm, World.drewN_drewN]⟩⟩
          case measure => simp [intOf]; omega
        · have HN : Hid (decide (xs = ys) = false) := by
            rw [Hid, decide_eq_false_iff_not]
            intro e; rw [e, hy] at hx
            injection hx with hx; exact h1 hx.symm
          have hxn := str_neD h1
          have hxb := str_ne h1
          clear hx hy h1
          go_wp2
          go_quiet (fail)
          go_wp2
          go_ret
          exact ⟨ret_bool HN.out.symm, by obtain ⟨m, hm⟩ := hd.out; rw [hm, World.drewN_drewN]; exact Below_drewN (Below.refl _ _) _⟩
      · have HN : Hid (decide (xs = ys) = true) := by
          rw [Hid, decide_eq_true_iff]
          have h1 := hq.out
          have h2 := HLE.out
          rwa [List.take_of_length_le (by omega), List.take_of_length_le (by omega)] at h1
        go_wp2
        go_ret
        exact ⟨ret_bool HN.out.symm, by obtain ⟨m, hm⟩ := hd.out; rw [hm]; exact Below_drewN (Below.refl _ _) _⟩
  · have hnb : (((xs.length : Nat) : Int) != ((ys.length : Nat) : Int)) = true := by rw [bne_iff_ne]; omega
    have HN : Hid (decide (xs = ys) = false) := by rw [Hid, decide_eq_false_iff_not]; intro e; exact hle (by rw [e])
    have HLE := Lib.hid hle
    clear hle
    go_enter Try.func24, Try.ntmps24
    go_wp2
    go_ret
    exact ⟨ret_bool HN.out.symm, Below.refl _ _⟩
end Go.Proofs.Ytgddklafeaoleaa
