/-
  Contracts of the reader of a code: l6Open, pick, of.
-/
import Derived.Test.YtgddklafeaoleaaMem
import Derived.Test.YtgddklafeaoleaaData
import Derived.BigQuiet
import Derived.Outline
namespace Go.Proofs.Ytgddklafeaoleaa
open Go.RowKit
set_option linter.unusedSimpArgs false
set_option linter.unusedVariables false

/-- Block g holds a reader of a code at place p; the code lies in a block below g. -/
def Rd (w : World) (g : Nat) (p : Nat) : Prop :=
  ∃ B c, ∃ l : List UInt8, w.heap[g]? = some (.cells #[.slice B l.length c, .int .i64 p] 89 (0, 0)) ∧ Seg w 0 g B (flat byteC l) ∧ l.length ≤ 2000

theorem Seg.byte {w : World} {lo hi : Nat} {A : Option Addr} {l : List UInt8} {k : Nat} {b : UInt8} (h : Seg w lo hi A (flat byteC l)) (hk : l[k]? = some b) :
    ∃ g o, A = some ⟨g, o, none⟩ ∧ g < w.heap.size ∧ lo ≤ g ∧ g < hi ∧ w.cell? ⟨g, o + k, none⟩ = some (.int .u8 b.toNat) := by
  have h0 := flat_get byteC_len hk (j := 0) (by decide)
  rw [Nat.mul_one, Nat.add_zero] at h0
  rcases h with h | ⟨g, o, rfl, a, b, c, d⟩
  · rw [h] at h0; simp [byteC] at h0
  · exact ⟨g, o, rfl, c, a, b, by simpa [byteC] using d _ _ h0⟩

theorem Rd.lt {w : World} {g p : Nat} (h : Rd w g p) : g < w.heap.size := by
  obtain ⟨B, c, l, h, _⟩ := h
  exact (Array.getElem?_eq_some_iff.1 h).1
/-- the reader stays where nothing below it and not its block is written -/
theorem Rd.keep {w w' : World} {g p : Nat} (h : Rd w g p) (hk : ∀ k, k ≤ g → w'.heap[k]? = w.heap[k]?) (hs : w.heap.size ≤ w'.heap.size) : Rd w' g p := by
  obtain ⟨B, c, l, h1, h2, h3⟩ := h
  exact ⟨B, c, l, (hk g (Nat.le_refl _)).trans h1, h2.keep hs fun k _ hk' _ => hk k (by omega), h3⟩
theorem Rd.below {w w' : World} {g p : Nat} (h : Rd w g p) (hb : Below w.heap.size w w') : Rd w' g p :=
  h.keep (fun k hk => hb.block k (Nat.lt_of_le_of_lt hk h.lt)) hb.size

theorem spec_l6Open (l : List UInt8) (A : Option Addr) (c : Nat) (w : World) (hw : Seg w 0 w.heap.size A (flat byteC l)) (hc : l.length ≤ c) (hm : c ≤ maxLen) :
    Calls Try.prog 59 #[.slice A l.length c] w fun e w' => e = .returned (.pointer (some ⟨w.heap.size, 0, none⟩)) ∧ Rd w' w.heap.size 0 ∧ Below w.heap.size w w' ∧ w'.heap.size = w.heap.size + 1 := by
  have hm' : c ≤ 9223372036854775807 := hm
  by_cases h : (2000 : Int) < l.length
  · go_enter Try.func59, Try.ntmps59
    go_wp2
    go_ret
    refine ⟨rfl, ⟨A, c, l.take 2000, ?_, ?_, by simp; omega⟩, bel_alloc (Below.refl _ _) _, by simp⟩
    · have e : (l.take 2000).length = 2000 := by simp; omega
      rw [heap_alloc_new, e]
      rfl
    · have := hw.take 2000
      rw [show 2000 = 2000 * 1 from rfl, flat_take byteC_len] at this
      exact this.below (bel_alloc (Below.refl _ _) _)
  · go_enter Try.func59, Try.ntmps59
    go_wp2
    go_ret
    exact ⟨rfl, ⟨A, c, l, heap_alloc_new w _, hw.below (bel_alloc (Below.refl _ _) _), by omega⟩, bel_alloc (Below.refl _ _) _, by simp⟩

/-- what a reader's pick leaves -/
def Picked (g p : Nat) (n : Int) (w : World) (e : Ending) (w' : World) : Prop :=
  ∃ x : Int, e = .returned (.int .i64 x) ∧ 0 ≤ x ∧ x < n ∧ Rd w' g (p + 1) ∧ w.grownBy w' (some g) ∧ w'.heap.size = w.heap.size

theorem picked_of {g p : Nat} {n x : Int} {w : World} {m : Nat} (h : Rd w g p) (h0 : 0 ≤ x) (h1 : x < n) : Picked g p n w (.returned (.int .i64 x)) ((w.setCell ⟨g, 1, none⟩ (.int .i64 ((p : Int) + 1))).drewN m) := by
  obtain ⟨B, c, l, hb, hs, hl⟩ := h
  refine ⟨x, rfl, h0, h1, ⟨B, c, l, ?_, hs.keep (by simp [World.setCell, World.drewN]) fun k _ hk _ => ?_, hl⟩, ?_, by simp [World.setCell, World.drewN]⟩
  · show (w.setCell _ _).heap[g]? = _
    rw [heap_setCell_same w g 1 _ _ _ hb]
    simp
  · show (w.setCell _ _).heap[k]? = _
    exact Below.heap_setCell w ⟨g, 1, none⟩ _ k (by simp; omega)
  · refine ⟨rfl, rfl, rfl, by simp [World.setCell, World.drewN], fun k hk hne => ?_⟩
    show (w.setCell _ _).heap[k]? = _
    exact Below.heap_setCell w ⟨g, 1, none⟩ _ k (by simp; intro e; exact hne (by rw [e]))

theorem xor_i64 (a b : Nat) (ha : a < 4611686018427387904) (hb : b < 4611686018427387904) : bits .xor .i64 (a : Int) (b : Int) = ((a ^^^ b : Nat) : Int) := by
  have hx : a ^^^ b < 2 ^ 62 := Nat.xor_lt_two_pow (by omega) (by omega)
  have h1 : (BitVec.ofInt 64 (a : Int)).toNat = a := by
    rw [BitVec.ofInt_natCast, BitVec.toNat_ofNat]; exact Nat.mod_eq_of_lt (by omega)
  have h2 : (BitVec.ofInt 64 (b : Int)).toNat = b := by
    rw [BitVec.ofInt_natCast, BitVec.toNat_ofNat]; exact Nat.mod_eq_of_lt (by omega)
  show IntKind.i64.wrap ((BitVec.ofInt 64 (a : Int) ^^^ BitVec.ofInt 64 (b : Int)).toNat : Int) = _
  rw [BitVec.toNat_xor, h1, h2]
  exact IntWalk.i64_in _ (by omega)

set_option maxRecDepth 100000 in
theorem spec_pick (g p : Nat) (n : Int) (w : World) (h : Rd w g p) (hp : p ≤ 1000000) (hn : 1 ≤ n) (hn2 : n ≤ 100000) :
    Calls Try.prog 71 #[.pointer (some ⟨g, 0, none⟩), .int .i64 n] w (Picked g p n w) := by
  have HP := fun x m (h0 : 0 ≤ x) (h1 : x < n) => picked_of (x := x) (m := m) h h0 h1
  have HR := Lib.hid HP
  clear HP
  obtain ⟨B, c, l, hb, hs, hl⟩ := h
  have k0 : w.cell? ⟨g, 0, none⟩ = some (.slice B l.length c) := cell_of_row _ _ _ _ _ _ hb
  have k1 : w.cell? ⟨g, 1, none⟩ = some (.int .i64 p) := cell_of_row _ _ _ _ _ _ hb
  have kf : w.frozen? ⟨g, 1, none⟩ = false := by simp [World.frozen?, hb]
  have hg : g < w.heap.size := (Array.getElem?_eq_some_iff.1 hb).1
  clear hb
  by_cases hl0 : l.length = 0
  · obtain rfl : l = [] := List.eq_nil_of_length_eq_zero hl0
    clear hl0
    go_enter Try.func71, Try.ntmps71
    go_wp2
    go_ret
    exact HR.out 0 0 (by omega) (by omega)
  have hl1 : 1 ≤ l.length := by omega
  have d1 : decide (n < 1) = false := by simp; omega
  have d2 : ((l.length : Int) == 0) = false := beq_eq_false_iff_ne.2 (by omega)
  by_cases hpl : p < l.length
  · obtain ⟨b, hb⟩ := get_lt hpl
    obtain ⟨g', o, rfl, hg', _, hlt, hc⟩ := hs.byte hb
    have hbl : b.toNat < 256 := b.toNat_lt
    have hc' : (w.setCell ⟨g, 1, none⟩ (.int .i64 ((p : Int) + 1))).cell? ⟨g', o + p, none⟩ = some (.int .u8 b.toNat) := by
      rw [World.cell?_setCell_other _ _ _ _ (by intro e; injection e; omega)]; exact hc
    have HB := Lib.hid hb
    have HL := Lib.hid hl0
    clear hb hl0 hc
    go_enter Try.func71, Try.ntmps71
    go_wp2
    go_ret
    exact HR.out _ 0 (Int.emod_nonneg _ (by omega)) (Int.emod_lt_of_pos _ (by omega))
  · have hi1 : p % l.length < l.length := Nat.mod_lt _ hl1
    have hi2 : (p * 7 + 3) % l.length < l.length := Nat.mod_lt _ hl1
    have q1 : ((p : Int)).tmod (l.length : Int) = ((p % l.length : Nat) : Int) := rfl
    have q2 : ((p : Int) * 7 + 3).tmod (l.length : Int) = (((p * 7 + 3) % l.length : Nat) : Int) := rfl
    have q3 : ((p : Int)).tdiv (l.length : Int) = ((p / l.length : Nat) : Int) := rfl
    have hi3 : p / l.length ≤ 1000000 := Nat.le_trans (Nat.div_le_self _ _) hp
    generalize p % l.length = i1 at *
    generalize (p * 7 + 3) % l.length = i2 at *
    generalize p / l.length = i3 at *
    obtain ⟨b, hb⟩ := get_lt hi1
    obtain ⟨b2, hb2⟩ := get_lt hi2
    obtain ⟨g', o, rfl, hg', _, hlt, hc⟩ := hs.byte hb
    obtain ⟨g2, o2, e', _, _, _, hcc⟩ := hs.byte hb2
    injection e' with e'
    injection e' with e1 e2
    subst e1 e2
    have hbl : b.toNat < 256 := b.toNat_lt
    have hbl2 : b2.toNat < 256 := b2.toNat_lt
    have hc' : (w.setCell ⟨g, 1, none⟩ (.int .i64 ((p : Int) + 1))).cell? ⟨g', o + i1, none⟩ = some (.int .u8 b.toNat) := by
      rw [World.cell?_setCell_other _ _ _ _ (by intro e; injection e; omega)]; exact hc
    have hcc' : (w.setCell ⟨g, 1, none⟩ (.int .i64 ((p : Int) + 1))).cell? ⟨g', o + i2, none⟩ = some (.int .u8 b2.toNat) := by
      rw [World.cell?_setCell_other _ _ _ _ (by intro e; injection e; omega)]; exact hcc
    have k0' : (w.setCell ⟨g, 1, none⟩ (.int .i64 ((p : Int) + 1))).cell? ⟨g, 0, none⟩ = some (.slice (some ⟨g', o, none⟩) l.length c) := by
      rw [World.cell?_setCell_other _ _ _ _ (by intro e; injection e; omega)]; exact k0
    have HB := Lib.hid hb
    have HL := Lib.hid hl0
    have hx0 : ¬ (p : Int) < (l.length : Int) := by omega
    have hpn : ¬ p < l.length := by omega
    have Q1 := Lib.hid q1
    have Q2 := Lib.hid q2
    have Q3 := Lib.hid q3
    clear hb hl0 hc hcc hb2 q1 q2 q3
    go_enter Try.func71, Try.ntmps71
    go_wp2
    generalize hW : w.setCell ⟨g, 1, none⟩ (.int .i64 ((p : Int) + 1)) = w1 at *
    have HW := Lib.hid hW
    clear hW
    have q1 := Q1.out
    have q2 := Q2.out
    have q3 := Q3.out
    have z1 : (i1 : Int) < l.length := by omega
    have z2 : (i2 : Int) < l.length := by omega
    have e1 : IntKind.i64.wrap ((b.toNat : Int) * 131) = (b.toNat : Int) * 131 := IntWalk.i64_in _ (by omega)
    have e2 : IntKind.i64.wrap ((b2.toNat : Int) * 1117) = (b2.toNat : Int) * 1117 := IntWalk.i64_in _ (by omega)
    have e3 : IntKind.i64.wrap ((p : Int) * 7) = (p : Int) * 7 := IntWalk.i64_in _ (by omega)
    have e4 : IntKind.i64.wrap ((p : Int) * 7 + 3) = (p : Int) * 7 + 3 := IntWalk.i64_in _ (by omega)
    have e5 : IntKind.i64.wrap ((b.toNat : Int) * 131 + (b2.toNat : Int) * 1117) = (b.toNat : Int) * 131 + (b2.toNat : Int) * 1117 := IntWalk.i64_in _ (by omega)
    have e6 : IntKind.i64.wrap ((p : Int) * 29) = (p : Int) * 29 := IntWalk.i64_in _ (by omega)
    have e7 : IntKind.i64.wrap ((b.toNat : Int) * 131 + (b2.toNat : Int) * 1117 + (p : Int) * 29) = (b.toNat : Int) * 131 + (b2.toNat : Int) * 1117 + (p : Int) * 29 := IntWalk.i64_in _ (by omega)
    have e8 : IntKind.i64.wrap ((i3 : Int) * 53) = (i3 : Int) * 53 := IntWalk.i64_in _ (by omega)
    have e9 : IntKind.i64.wrap ((b.toNat : Int) * 131 + (b2.toNat : Int) * 1117 + (p : Int) * 29 + (i3 : Int) * 53) = (b.toNat : Int) * 131 + (b2.toNat : Int) * 1117 + (p : Int) * 29 + (i3 : Int) * 53 := IntWalk.i64_in _ (by omega)
    go_quiet (fail)
    clear e1 e2 e3 e4 e5 e6 e7 e8 e9 q1 q2 q3
    generalize hX : (b.toNat : Int) * 131 + (b2.toNat : Int) * 1117 + (p : Int) * 29 + (i3 : Int) * 53 = X
    have x0 : 0 ≤ X := by omega
    have x1 : X ≤ 100000000000 := by omega
    clear hX
    obtain ⟨m, rfl⟩ := Int.eq_ofNat_of_zero_le x0
    have hxor : Hid (bits .xor .i64 (m : Int) ((m : Int) / 64) = ((m ^^^ (m / 64) : Nat) : Int)) := xor_i64 m (m / 64) (by omega) (by omega)
    go_wp2
    go_ret
    have hfin := HR.out ((bits .xor .i64 (m : Int) ((m : Int) / 64)).tmod n) nq (by rw [hxor.out]; exact Int.tmod_nonneg _ (by omega)) (Int.tmod_lt_of_pos _ (by omega))
    exact hfin

/-- what a reader's choice out of a list of texts leaves -/
def Chosen (g p : Nat) (ws : List Str) (w : World) (e : Ending) (w' : World) : Prop :=
  ∃ s, e = .returned (.string s) ∧ s ∈ ws ∧ Rd w' g (p + 1) ∧ w.grownBy w' (some g) ∧ w'.heap.size = w.heap.size
theorem Seg.str {w : World} {lo hi : Nat} {A : Option Addr} {l : List Str} {k : Nat} {b : Str} (h : Seg w lo hi A (flat strC l)) (hk : l[k]? = some b) :
    ∃ g o, A = some ⟨g, o, none⟩ ∧ g < w.heap.size ∧ lo ≤ g ∧ g < hi ∧ w.cell? ⟨g, o + k, none⟩ = some (.string b) := by
  have h0 := flat_get strC_len hk (j := 0) (by decide)
  rw [Nat.mul_one, Nat.add_zero] at h0
  rcases h with h | ⟨g, o, rfl, a, b, c, d⟩
  · rw [h] at h0; simp [strC] at h0
  · exact ⟨g, o, rfl, c, a, b, by simpa [strC] using d _ _ h0⟩
theorem grown_seg {w w' : World} {g lo hi : Nat} {A : Option Addr} {xs : List Value} (hg : w.grownBy w' (some g)) (h : Seg w lo hi A xs) (hlo : g < lo) : Seg w' lo hi A xs :=
  h.keep hg.size fun k h1 _ h3 => hg.block k h3 (by intro e; injection e; omega)

theorem spec_of (g p : Nat) (ws : List Str) (A : Option Addr) (c : Nat) (w : World) (h : Rd w g p) (hs : Seg w (g + 1) w.heap.size A (flat strC ws)) (hp : p ≤ 1000000) (hn : 1 ≤ ws.length) (hn2 : ws.length ≤ 100000) :
    Calls Try.prog 73 #[.pointer (some ⟨g, 0, none⟩), .slice A ws.length c] w (Chosen g p ws w) := by
  go_enter Try.func73, Try.ntmps73
  go_wp2_with fail
  refine (spec_pick g p _ _ h hp (by omega) (by omega)).mono ?_
  rintro e w1 ⟨x, rfl, hx0, hx1, hr, hg, hsz⟩
  obtain ⟨k, rfl⟩ := Int.eq_ofNat_of_zero_le hx0
  obtain ⟨s, hk⟩ := get_lt (l := ws) (k := k) (by omega)
  obtain ⟨g2, o, rfl, hg2, _, _, hc⟩ := (grown_seg hg hs (by omega)).str hk
  have HK := Lib.hid hk
  have HZ := Lib.hid hsz
  clear hk hsz
  go_wp2
  go_ret
  exact ⟨s, rfl, List.mem_of_getElem? HK.out, hr, hg, HZ.out⟩
end Go.Proofs.Ytgddklafeaoleaa
