/-
  Marks of texts; lists of texts of the call's own: marked.
-/
import Derived.Test.YtgddklafeaoleaaOwn
import Derived.Test.YtgddklafeaoleaaKinds1
namespace Go.Proofs.Ytgddklafeaoleaa
open Go.RowKit
set_option linter.unusedSimpArgs false
set_option linter.unusedVariables false

def digs (k : Nat) (out : List UInt8) : List UInt8 := if h : k = 0 then out else digs (k / 10) ((48 + k % 10).toUInt8 :: out)
termination_by k
decreasing_by omega
theorem digs_zero (out : List UInt8) : digs 0 out = out := by rw [digs]; simp
theorem digs_step {k : Nat} (h : k ≠ 0) (out : List UInt8) : digs k out = digs (k / 10) ((48 + k % 10).toUInt8 :: out) := by rw [digs]; simp [h]
theorem digs_len (k : Nat) (out : List UInt8) : (digs k out).length ≤ k + out.length := by
  induction k using Nat.strongRecOn generalizing out with
  | _ k ih =>
    by_cases h : k = 0
    · subst h; rw [digs_zero]; omega
    · rw [digs_step h]
      have := ih (k / 10) (by omega) ((48 + k % 10).toUInt8 :: out)
      simp only [List.length_cons] at this
      omega
def mtext (k : Int) : Str := ⟨(109 :: digs k.toNat []).toArray⟩
theorem str_cons (b : UInt8) (l : List UInt8) : (⟨#[b]⟩ : ByteArray) ++ ⟨l.toArray⟩ = ⟨(b :: l).toArray⟩ := by
  apply str_ext; simp [ByteArray.data_append]
theorem digit_nat (k : Nat) : ((48 + k % 10).toUInt8.toNat : Int) = 48 + (k : Int) % 10 := by
  have : (48 + k % 10).toUInt8.toNat = 48 + k % 10 := by
    simp [Nat.toUInt8]; omega
  rw [this]; omega
theorem digit_conv (w : World) (m : Nat) : (convert 29 9 (.slice (some ⟨w.heap.size, 0, none⟩) 1 1)).run Try.prog (w.alloc (.cells #[.int .u8 (48 + (m : Int) % 10)] 5)) = .ok (.string ⟨#[(48 + m % 10).toUInt8]⟩) (w.alloc (.cells #[.int .u8 (48 + (m : Int) % 10)] 5)) := by
  have h := bytes_string (P := Try.prog) (base := 0) (c := 1) (n := 1) Try.underlying29 Try.underlying5 Try.underlying9 (l := [(48 + m % 10).toUInt8]) (Seg.lit w #[byteCell (48 + m % 10).toUInt8] 5) rfl
  rw [byteCell, digit_nat] at h
  exact h
set_option maxRecDepth 100000 in
theorem laws_markText (k : Int) (w : World) (h1 : 1 ≤ k) (h2 : k ≤ 1000000000000000) :
    Calls Try.prog 80 #[.int .i64 k] w fun e w' => e = .returned (.string (mtext k)) ∧ Below w.heap.size w w' := by
  obtain ⟨n, rfl⟩ := Int.eq_ofNat_of_zero_le (show 0 ≤ k by omega)
  have hfin : mtext (n : Int) = ⟨(109 :: digs n []).toArray⟩ := rfl
  have HF := Lib.hid hfin
  clear hfin
  have hd0 : decide (n = 0) = false := by simp; omega
  go_enter Try.func80, Try.ntmps80
  go_wp2
  go_loopw [0, 3] (fun q v wr => ∃ m : Nat, ∃ l : List UInt8, m ≤ n ∧ q = .int .i64 m ∧ v = .string ⟨l.toArray⟩ ∧ Hid (digs m l = digs n []) ∧ Hid (l.length + m ≤ n) ∧ Below w.heap.size w wr) (fun q _ _ => (intOf q).toNat)
  case atStart => exact ⟨n, [], Nat.le_refl _, rfl, rfl, rfl, by simp [Hid], Below.refl _ _⟩
  case round =>
    obtain ⟨m, l, hm, rfl, rfl, hd, hl, hb⟩ := hrel
    have hlb : l.length ≤ 1000000000000000 := by have := hl.out; omega
    by_cases h0 : 0 < m
    · have hcv := digit_conv wr m
      have hcs := str_cons ((48 + m % 10).toUInt8) l
      have HD : Hid (digs (m / 10) ((48 + m % 10).toUInt8 :: l) = digs n []) := by rw [Hid, ← digs_step (by omega)]; exact hd.out
      have HL : Hid (((48 + m % 10).toUInt8 :: l).length + m / 10 ≤ n) := by have := hl.out; rw [Hid, List.length_cons]; omega
      generalize hg : (48 + m % 10).toUInt8 = b at *
      clear hg
      go_wp2
      go_roundw
      case rel => exact ⟨m / 10, b :: l, by omega, by go_num, by first | rfl | rw [hcs], HD, HL, bel_alloc hb _⟩
      case measure => simp [intOf]; omega
    · obtain rfl : m = 0 := by omega
      have hE : digs n [] = l := by rw [← hd.out, digs_zero]
      have HE := Lib.hid hE
      have hcs := str_cons 109 l
      clear hE
      go_wp2
      go_ret
      exact ⟨by rw [HF.out, HE.out, ← hcs]; rfl, hb⟩
theorem strs_toO (xs : List Str) (A : Option Addr) (c : Nat) (w : World) (hw : LayStrs w 0 w.heap.size A xs) (ho : OkStrs xs) (hn : xs.length ≤ 1048576) :
    Calls Try.prog 26 #[.slice A xs.length c] w fun e w' => ∃ A', e = .returned (.slice A' xs.length xs.length) ∧ w'.ownsRow w.heap.size 9 1 (.slice A' xs.length xs.length) xs.length (strs xs) ∧ Below w.heap.size w w' := laws_toStringS_own xs A c w hw hn
def marksStr (k : Int) (n : Nat) : List Str := (List.range n).map fun (i : Nat) => mtext (k + (i : Int))
theorem marksStr_len (k : Int) (n : Nat) : (marksStr k n).length = n := by simp [marksStr]
theorem marksStr_at (k : Int) {n i : Nat} (h : i < n) : (marksStr k n)[i]? = some (mtext (k + (i : Int))) := by simp [marksStr, h]
set_option maxRecDepth 100000 in
theorem strs_markG (xs : List Str) (base : Nat) (A : Option Addr) (c : Nat) (k : Int) (w : World) (hown : w.ownsRow base 9 1 (.slice A xs.length c) xs.length (strs xs)) (hn : xs.length ≤ 1048576) (hk0 : 1 ≤ k) (hk1 : k ≤ 100000000000000) :
    Calls Try.prog 44 #[.slice A xs.length c, .int .i64 k] w fun e w' => e = .returned (.int .i64 (k + xs.length)) ∧ w'.ownsRow base 9 1 (.slice A xs.length c) xs.length (strs (marksStr k xs.length)) ∧ w.grownBy w' (Value.slice A xs.length c).ownBlock := by
  rw [strs, ← flat_strC] at hown
  rw [strs, ← flat_strC]
  go_enter Try.func44, Try.ntmps44
  go_wp2
  go_loopw [1, 5] (fun q i wr => ∃ j : Nat, j ≤ xs.length ∧ i = .int .i64 j ∧ q = .int .i64 (k + (j : Int)) ∧ wr.ownsRow base 9 1 (.slice A xs.length c) xs.length (flat strC ((marksStr k xs.length).take j) ++ flat strC (xs.drop j)) ∧ w.grownBy wr (Value.slice A xs.length c).ownBlock) (fun _ i _ => xs.length - (intOf i).toNat)
  case atStart => exact ⟨0, Nat.zero_le _, rfl, by simp, by simpa [flat] using hown, grow_refl _ _⟩
  case round =>
    obtain ⟨j, hj, rfl, rfl, hown', hwr⟩ := hrel
    by_cases hlt : j < xs.length
    · go_wp2_with fail
      refine (laws_markText _ _ (by omega) (by omega)).mono ?_
      rintro e w1 ⟨rfl, b1⟩
      have hown1 := own_below hown' b1
      have hwr1 := grow_trans hwr (grow_below b1)
      obtain ⟨b, c', hv, hb, hbs, _, _⟩ := own_head hown1 (by omega)
      injection hv with hA _ hc
      subst hA hc
      have hz : (flat strC (xs.drop j)).length = ((marksStr k xs.length).length - j) * 1 := by rw [flat_length strC_len, marksStr_len]; simp
      have hlm : j < (marksStr k xs.length).length := by rw [marksStr_len]; exact hlt
      obtain ⟨⟨u, hcA⟩, hfA⟩ := own_room strC_len hown1 hlm hz 0 (by decide)
      rw [Nat.add_zero, Nat.mul_one] at hcA hfA
      have hput := (own_put strC_len hown1 (marksStr_at k hlt) hz).1
      have hdr : (flat strC (xs.drop j)).drop 1 = flat strC (xs.drop (j + 1)) := by
        have := flat_drop strC_len (xs.drop j) 1
        rw [List.drop_drop] at this
        simpa using this
      rw [hdr, Nat.mul_one] at hput
      have HP := Lib.hid hput
      have hw2 := grow_trans hwr1 (grow_set w1 b j xs.length c (.string (mtext (k + (j : Int)))))
      clear hz hlm hput hdr hown' hown1 b1 hwr hwr1
      go_wp2
      go_roundw
      case rel => exact ⟨j + 1, by omega, by go_num, by go_num, HP.out, hw2⟩
      case measure => simp [intOf]; omega
    · obtain rfl : j = xs.length := by omega
      rw [List.take_of_length_le (by rw [marksStr_len]; exact Nat.le_refl _), List.drop_eq_nil_of_le (Nat.le_refl _), flat_nil, List.append_nil] at hown'
      go_wp2
      go_ret
      exact ⟨rfl, hown', hwr⟩
end Go.Proofs.Ytgddklafeaoleaa
