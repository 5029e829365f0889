/-
  Marks of texts; lists of signs, of texts and of numbers of the call's own: marked, held, compared.
-/
import Derived.Test.YtniemanapimjoaaKinds2
import Derived.Test.YtniemanapimjoaaKindSgn
namespace Go.Proofs.Ytniemanapimjoaa
open Go.RowKit Go.Sort
set_option linter.unusedSimpArgs false
set_option linter.unusedVariables false

theorem own_grew {w w' : World} {base n : Nat} {e : TypeId} {size : Nat} {v vm : Value} {xs : List Value} (h : w.ownsRow base e size v n xs) (hm : w.grownBy w' vm.ownBlock) (hne : ∀ k, v.ownBlock = some k → vm.ownBlock = some k → False) : w'.ownsRow base e size v n xs := by
  refine h.kept hm ?_
  cases hv : v.ownBlock with
  | none => exact .inl rfl
  | some k => exact .inr fun e => hne k hv e.symm
theorem grown_bel {w0 w w' : World} {row : Option Nat} (h : Below w0.heap.size w0 w) (hg : w.grownBy w' row) (hlo : ∀ k, row = some k → w0.heap.size ≤ k) : Below w0.heap.size w0 w' := h.grown hg h.size hlo
theorem grow_trans {w1 w2 w3 : World} {r : Option Nat} (h1 : w1.grownBy w2 r) (h2 : w2.grownBy w3 r) : w1.grownBy w3 r :=
  ⟨h2.os.trans h1.os, h2.tape.trans h1.tape, h2.output.trans h1.output, Nat.le_trans h1.size h2.size, fun k hk hne => (h2.block k (Nat.lt_of_lt_of_le hk h1.size) hne).trans (h1.block k hk hne)⟩
theorem grow_below {w w' : World} {r : Option Nat} (h : Below w.heap.size w w') : w.grownBy w' r := ⟨h.os, h.tape, h.output, h.size, fun k hk _ => h.block k hk⟩
theorem grow_set (w : World) (b o n c : Nat) (u : Value) : w.grownBy (w.setCell ⟨b, o, none⟩ u) (Value.slice (some ⟨b, 0, none⟩) n c).ownBlock := (wrote_set w b o n c u).1
theorem grow_refl (w : World) (r : Option Nat) : w.grownBy w r := ⟨rfl, rfl, rfl, Nat.le_refl _, fun _ _ _ => rfl⟩

/-! ### a mark's text -/
def digs (k : Nat) (out : List UInt8) : List UInt8 := if h : k = 0 then out else digs (k / 10) ((48 + k % 10).toUInt8 :: out)
termination_by k
decreasing_by omega
theorem digs_zero (out : List UInt8) : digs 0 out = out := by rw [digs]; simp
theorem digs_step {k : Nat} (h : k ≠ 0) (out : List UInt8) : digs k out = digs (k / 10) ((48 + k % 10).toUInt8 :: out) := by rw [digs]; simp [h]
theorem digs_len (k : Nat) (out : List UInt8) : (digs k out).length ≤ k + out.length := by
  induction k using Nat.strongRecOn generalizing out with
  | _ k ih =>
    by_cases h : k = 0
    · subst h; rw [digs_zero]; omega
    · rw [digs_step h]
      have := ih (k / 10) (by omega) ((48 + k % 10).toUInt8 :: out)
      simp only [List.length_cons] at this
      omega
def mtext (k : Int) : Str := ⟨(109 :: digs k.toNat []).toArray⟩
theorem str_cons (b : UInt8) (l : List UInt8) : (⟨#[b]⟩ : ByteArray) ++ ⟨l.toArray⟩ = ⟨(b :: l).toArray⟩ := by
  apply str_ext; simp [ByteArray.data_append]
theorem digit_nat (k : Nat) : ((48 + k % 10).toUInt8.toNat : Int) = 48 + (k : Int) % 10 := by
  have : (48 + k % 10).toUInt8.toNat = 48 + k % 10 := by
    simp [Nat.toUInt8]; omega
  rw [this]; omega
theorem digit_conv (w : World) (m : Nat) : (convert 57 9 (.slice (some ⟨w.heap.size, 0, none⟩) 1 1)).run Try.prog (w.alloc (.cells #[.int .u8 (48 + (m : Int) % 10)] 5)) = .ok (.string ⟨#[(48 + m % 10).toUInt8]⟩) (w.alloc (.cells #[.int .u8 (48 + (m : Int) % 10)] 5)) := by
  have h := bytes_string (P := Try.prog) (base := 0) (c := 1) (n := 1) Try.underlying57 Try.underlying5 Try.underlying9 (l := [(48 + m % 10).toUInt8]) (Seg.lit w #[byteCell (48 + m % 10).toUInt8] 5) rfl
  rw [byteCell, digit_nat] at h
  exact h
set_option maxRecDepth 100000 in
theorem laws_markText (k : Int) (w : World) (h1 : 1 ≤ k) (h2 : k ≤ 1000000000000000) :
    Calls Try.prog 72 #[.int .i64 k] w fun e w' => e = .returned (.string (mtext k)) ∧ Below w.heap.size w w' := by
  obtain ⟨n, rfl⟩ := Int.eq_ofNat_of_zero_le (show 0 ≤ k by omega)
  have hfin : mtext (n : Int) = ⟨(109 :: digs n []).toArray⟩ := rfl
  have HF := Lib.hid hfin
  clear hfin
  have hd0 : decide (n = 0) = false := by simp; omega
  go_enter Try.func72, Try.ntmps72
  go_wp2
  go_loopw [0, 3] (fun q v wr => ∃ m : Nat, ∃ l : List UInt8, m ≤ n ∧ q = .int .i64 m ∧ v = .string ⟨l.toArray⟩ ∧ Hid (digs m l = digs n []) ∧ Hid (l.length + m ≤ n) ∧ Below w.heap.size w wr) (fun q _ _ => (intOf q).toNat)
  case atStart => exact ⟨n, [], Nat.le_refl _, rfl, rfl, rfl, by simp [Hid], Below.refl _ _⟩
  case round =>
    obtain ⟨m, l, hm, rfl, rfl, hd, hl, hb⟩ := hrel
    have hlb : l.length ≤ 1000000000000000 := by have := hl.out; omega
    by_cases h0 : 0 < m
    · have hcv := digit_conv wr m
      have hcs := str_cons ((48 + m % 10).toUInt8) l
      have HD : Hid (digs (m / 10) ((48 + m % 10).toUInt8 :: l) = digs n []) := by rw [Hid, ← digs_step (by omega)]; exact hd.out
      have HL : Hid (((48 + m % 10).toUInt8 :: l).length + m / 10 ≤ n) := by have := hl.out; rw [Hid, List.length_cons]; omega
      generalize hg : (48 + m % 10).toUInt8 = b at *
      clear hg
      go_wp2
      go_roundw
      case rel => exact ⟨m / 10, b :: l, by omega, by go_num, by first | rfl | rw [hcs], HD, HL, bel_alloc hb _⟩
      case measure => simp [intOf]; omega
    · obtain rfl : m = 0 := by omega
      have hE : digs n [] = l := by rw [← hd.out, digs_zero]
      have HE := Lib.hid hE
      have hcs := str_cons 109 l
      clear hE
      go_wp2
      go_ret
      exact ⟨by rw [HF.out, HE.out, ← hcs]; rfl, hb⟩

/-! ### lists of signs, marked and held -/
def markSgn (k : Int) (i : Nat) : Sgn := (mtext (k + 3 * (i : Int)), (k + 3 * (i : Int) + 1, k + 3 * (i : Int) + 1 + 1))
def marksSgn (k : Int) (n : Nat) : List Sgn := (List.range n).map (markSgn k)
theorem marksSgn_len (k : Int) (n : Nat) : (marksSgn k n).length = n := by simp [marksSgn]
theorem marksSgn_at (k : Int) {n i : Nat} (h : i < n) : (marksSgn k n)[i]? = some (markSgn k i) := by simp [marksSgn, h]
set_option maxRecDepth 100000 in
theorem sgns_markG (xs : List Sgn) (base : Nat) (A : Option Addr) (c : Nat) (k : Int) (w : World) (hown : w.ownsRow base 59 3 (.slice A xs.length c) xs.length (flat sgnC xs)) (hn : xs.length ≤ 1048576) (hk0 : 1 ≤ k) (hk1 : k ≤ 1000000000000) :
    Calls Try.prog 27 #[.slice A xs.length c, .int .i64 k] w fun e w' => e = .returned (.int .i64 (k + 3 * xs.length)) ∧ w'.ownsRow base 59 3 (.slice A xs.length c) xs.length (flat sgnC (marksSgn k xs.length)) ∧ w.grownBy w' (Value.slice A xs.length c).ownBlock := by
  go_enter Try.func27, Try.ntmps27
  go_wp2
  go_loopw [1, 5] (fun q i wr => ∃ j : Nat, j ≤ xs.length ∧ i = .int .i64 j ∧ q = .int .i64 (k + 3 * (j : Int)) ∧ wr.ownsRow base 59 3 (.slice A xs.length c) xs.length (flat sgnC ((marksSgn k xs.length).take j) ++ flat sgnC (xs.drop j)) ∧ w.grownBy wr (Value.slice A xs.length c).ownBlock) (fun _ i _ => xs.length - (intOf i).toNat)
  case atStart => exact ⟨0, Nat.zero_le _, rfl, by simp, by simpa [flat] using hown, grow_refl _ _⟩
  case round =>
    obtain ⟨j, hj, rfl, rfl, hown', hwr⟩ := hrel
    by_cases hlt : j < xs.length
    · go_wp2_with fail
      refine (laws_markText _ _ (by omega) (by omega)).mono ?_
      rintro e w1 ⟨rfl, b1⟩
      have hown1 := own_below hown' b1
      have hwr1 := grow_trans hwr (grow_below b1)
      obtain ⟨b, c', hv, hb, hbs, _, _⟩ := own_head hown1 (by omega)
      injection hv with hA _ hc
      subst hA hc
      have hz : (flat sgnC (xs.drop j)).length = ((marksSgn k xs.length).length - j) * 3 := by rw [flat_length sgnC_len, marksSgn_len]; simp
      have hlm : j < (marksSgn k xs.length).length := by rw [marksSgn_len]; exact hlt
      obtain ⟨⟨u, hcA⟩, hfA⟩ := own_room sgnC_len hown1 hlm hz 0 (by decide)
      obtain ⟨⟨u', hcB⟩, hfB⟩ := own_room sgnC_len hown1 hlm hz 1 (by decide)
      obtain ⟨⟨u2, hcC⟩, hfC⟩ := own_room sgnC_len hown1 hlm hz 2 (by decide)
      rw [Nat.add_zero] at hcA hfA
      have hput := (own_put sgnC_len hown1 (marksSgn_at k hlt) hz).1
      have hdr : (flat sgnC (xs.drop j)).drop 3 = flat sgnC (xs.drop (j + 1)) := by
        have := flat_drop sgnC_len (xs.drop j) 1
        rw [List.drop_drop] at this
        simpa using this
      rw [hdr] at hput
      have HP := Lib.hid hput
      have hw2 := grow_trans hwr1 (grow_trans (grow_set w1 b (j * 3) xs.length c (.string (mtext (k + 3 * (j : Int))))) (grow_trans (grow_set _ b (j * 3 + 1) xs.length c (.int .i64 (k + 3 * (j : Int) + 1))) (grow_set _ b (j * 3 + 2) xs.length c (.int .i64 (k + 3 * (j : Int) + 1 + 1)))))
      clear hz hlm hput hdr hown' hown1 b1 hwr hwr1
      go_wp2
      go_roundw
      case rel => exact ⟨j + 1, by omega, by go_num, by go_num, HP.out, hw2⟩
      case measure => simp [intOf]; omega
    · obtain rfl : j = xs.length := by omega
      rw [List.take_of_length_le (by rw [marksSgn_len]; exact Nat.le_refl _), List.drop_eq_nil_of_le (Nat.le_refl _), flat_nil, List.append_nil] at hown'
      go_wp2
      go_ret
      exact ⟨rfl, hown', hwr⟩

set_option maxRecDepth 100000 in
theorem sgns_heldB (n : Nat) (k0 : Int) (A : Option Addr) (c : Nat) (w : World) (hw : Seg w 0 w.heap.size A (flat sgnC (marksSgn k0 n))) (hn : n ≤ 1048576) (hk0 : 1 ≤ k0) (hk1 : k0 ≤ 1000000000000) :
    Calls Try.prog 48 #[.slice A n c, .int .i64 k0] w fun e w' => e = .returned (.int .i64 (k0 + 3 * n)) ∧ Below w.heap.size w w' := by
  go_enter Try.func48, Try.ntmps48
  go_wp2
  go_loopw [1, 5] (fun q i wr => ∃ j : Nat, j ≤ n ∧ i = .int .i64 j ∧ q = .int .i64 (k0 + 3 * (j : Int)) ∧ Below w.heap.size w wr) (fun _ i _ => n - (intOf i).toNat)
  case atStart => exact ⟨0, Nat.zero_le _, rfl, by simp, Below.refl _ _⟩
  case round =>
    obtain ⟨j, hj, rfl, rfl, hb⟩ := hrel
    by_cases hlt : j < n
    · obtain ⟨g, o, rfl, hg, _, _, hc1, hc2, hc3⟩ := (hw.below hb).sgn (marksSgn_at k0 hlt)
      simp only [markSgn] at hc1 hc2 hc3
      have q1 := cell_regrown hc1
      have q2 := cell_regrown hc2
      have q3 := cell_regrown hc3
      have q20 := Lib.hid hc2
      have q30 := Lib.hid hc3
      clear hc1 hc2 hc3
      go_wp2
      (refine wp_region_quiet_below (by kernel_rfl) (by kernel_rfl) ?_; (repeat (go_big_quiet_step (((go_at_call 72; exact Calls.regrown_of (laws_markText _ _ (by omega) (by omega))))))); refine wpQuiet_nil ?_; intro _ hw'; obtain ⟨⟨dq, osq⟩, hw''⟩ := hw'; subst hw'')
      have hq := below_regrown wr dq osq
      generalize grow (redrawn wr dq) osq = wq at *
      have d2 := (hq.cell (p := ⟨g, o + j * 3 + 1, none⟩) hg).trans q20.out
      have d3 := (hq.cell (p := ⟨g, o + j * 3 + 2, none⟩) hg).trans q30.out
      clear q1 q2 q3
      go_wp2
      go_roundw
      case rel => exact ⟨j + 1, by omega, by go_num, by go_num, hb.trans (hq.mono hb.size)⟩
      case measure => simp [intOf]; omega
    · obtain rfl : j = n := by omega
      go_wp2
      go_ret
      exact ⟨rfl, hb⟩

theorem stks_markG (xs : List Stk) (base : Nat) (A : Option Addr) (c : Nat) (k : Int) (w : World) (hown : w.ownsRow base 52 2 (.slice A xs.length c) xs.length (flat stkC xs)) (hn : xs.length ≤ 1048576) (hk0 : 0 ≤ k) (hk1 : k ≤ 1000000000000) :
    Calls Try.prog 29 #[.slice A xs.length c, .int .i64 k] w fun e w' => e = .returned (.int .i64 (k + 2 * xs.length)) ∧ w'.ownsRow base 52 2 (.slice A xs.length c) xs.length (flat stkC (marksStk k xs.length)) ∧ w.grownBy w' (Value.slice A xs.length c).ownBlock :=
  (stks_markO xs base A c k w hown hn hk0 hk1).mono fun _ _ ⟨h1, h2, h3⟩ => ⟨h1, h2, h3.1⟩
theorem stks_heldB (n : Nat) (k0 : Int) (A : Option Addr) (c : Nat) (w : World) (hw : Seg w 0 w.heap.size A (flat stkC (marksStk k0 n))) (hn : n ≤ 1048576) (hk0 : 0 ≤ k0) (hk1 : k0 ≤ 1000000000000) :
    Calls Try.prog 57 #[.slice A n c, .int .i64 k0] w fun e w' => e = .returned (.int .i64 (k0 + 2 * n)) ∧ Below w.heap.size w w' := callsB_same (stks_held n k0 A c w hw hn hk0 hk1)
end Go.Proofs.Ytniemanapimjoaa
