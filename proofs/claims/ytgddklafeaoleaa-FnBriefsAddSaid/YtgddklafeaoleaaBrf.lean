/-
  Briefs and lists of them: the laws' helpers (size, copy, comparison).
-/
import Derived.Test.YtgddklafeaoleaaStrD
import Derived.Test.YtgddklafeaoleaaBrfQ
import Derived.Test.YtgddklafeaoleaaOpen
import Derived.Test.YtgddklafeaoleaaOwn
import Derived.Test.YtgddklafeaoleaaKinds1
import Derived.Lib.QuietBelow
import Derived.Outline
namespace Go.Proofs.Ytgddklafeaoleaa
open Go.RowKit
set_option linter.unusedSimpArgs false
set_option linter.unusedVariables false

def pbsOf (xs : List Brf) : List PB := xs.map fun x => (x.1, x.2.2.2)
theorem pbsOf_len (xs : List Brf) : (pbsOf xs).length = xs.length := by simp [pbsOf]
theorem pbsOf_at {xs : List Brf} {k : Nat} {x : Brf} (h : xs[k]? = some x) : (pbsOf xs)[k]? = some (x.1, x.2.2.2) := by simp [pbsOf, h]
theorem pbAt_of {xs : List Brf} {k : Nat} {x : Brf} (h : xs[k]? = some x) : pbAt (pbsOf xs) k = (x.1, x.2.2.2) := pbAt_eq (pbsOf_at h)
theorem pbsOf_snoc (xs : List Brf) (x : Brf) : pbsOf (xs ++ [x]) = pbsOf xs ++ [(x.1, x.2.2.2)] := by simp [pbsOf]
theorem pbsOf_take (xs : List Brf) (k : Nat) : pbsOf (xs.take k) = (pbsOf xs).take k := by simp [pbsOf, List.map_take]
/-- a list of texts as it lies -/
def RowS (w : World) (r : Row Str) : Prop := Seg w 0 w.heap.size r.1 (strs r.2.2) ∧ StrsOk r.2.2 ∧ r.2.2.length ≤ r.2.1 ∧ r.2.1 ≤ maxLen
theorem RowS.below {w w' : World} {r : Row Str} (h : RowS w r) (hb : Below w.heap.size w w') : RowS w' r := ⟨(h.1.below hb).top, h.2⟩
def BrfAt (w : World) (x : Brf) : Prop := x.1.size ≤ maxLen ∧ RowS w x.2
def BrfsAt (w : World) (xs : List Brf) : Prop := ∀ x ∈ xs, BrfAt w x
theorem BrfAt.below {w w' : World} {x : Brf} (h : BrfAt w x) (hb : Below w.heap.size w w') : BrfAt w' x := ⟨h.1, h.2.below hb⟩
theorem BrfsAt.below {w w' : World} {xs : List Brf} (h : BrfsAt w xs) (hb : Below w.heap.size w w') : BrfsAt w' xs := fun x hx => (h x hx).below hb
theorem BrfsAt.take {w : World} {xs : List Brf} (h : BrfsAt w xs) (k : Nat) : BrfsAt w (xs.take k) := fun x hx => h x (List.mem_of_mem_take hx)
theorem Seg.brf {w : World} {lo hi : Nat} {A : Option Addr} {xs : List Brf} {k : Nat} {s : Brf} (h : Seg w lo hi A (flat brfC xs)) (hk : xs[k]? = some s) :
    ∃ g o, A = some ⟨g, o, none⟩ ∧ g < w.heap.size ∧ lo ≤ g ∧ g < hi ∧ w.cell? ⟨g, o + k * 2, none⟩ = some (.string s.1) ∧ w.cell? ⟨g, o + k * 2 + 1, none⟩ = some (rowV s.2) := by
  have h0 := flat_get brfC_len hk (j := 0) (by decide)
  have h1 := flat_get brfC_len hk (j := 1) (by decide)
  rcases h with h | ⟨g, o, rfl, a, b, c, d⟩
  · rw [h] at h0; simp [brfC] at h0
  · exact ⟨g, o, rfl, c, a, b, by simpa [brfC] using d _ _ h0, by simpa [brfC, Nat.add_assoc] using d _ _ h1⟩
theorem row_strsS {w : World} {r : Row Str} (h : RowOk w strC StrOk r) : RowS w r := ⟨by have := h.1; rwa [flat_strC] at this, h.2.1, h.2.2⟩
theorem row_brfs {w : World} {r : Row Brf} (h : RowOk w brfC (BrfOk w) r) : ∃ A c xs, rowV r = .slice A (xs : List Brf).length c ∧ Seg w 0 w.heap.size A (flat brfC xs) ∧ BrfsAt w xs ∧ xs.length ≤ c ∧ c ≤ maxLen := by
  obtain ⟨A, c, xs⟩ := r
  exact ⟨A, c, xs, rfl, h.1, fun x hx => ⟨(h.2.1 x hx).1, row_strsS (h.2.1 x hx).2⟩, h.2.2.1, h.2.2.2⟩
theorem info_brf : (Try.prog.info? 35).map (fun i => (i.zero, i.size, i.bytes)) = some (some (.agg #[.string ByteArray.empty, .slice none 0 0]), 2, 40) := by kernel_rfl

/-! ### sizes -/
def ShortB (x : Brf) : Prop := x.1.size ≤ 1048576 ∧ x.2.2.2.length ≤ 1048576
def ShortBrfs (xs : List Brf) (k : Nat) : Prop := ∀ i x, i < k → xs[i]? = some x → ShortB x
theorem brf_sz (m : Str) (ws : List Str) (A : Option Addr) (c : Nat) (left : Int) (w : World) (hw : Seg w 0 w.heap.size A (strs ws)) (ho : StrsOk ws) (hm : m.size ≤ maxLen) (hn : ws.length ≤ maxLen) (h0 : 0 ≤ left) (h1 : left ≤ 1048576) :
    Calls Try.prog 46 #[.agg #[.string m, .slice A ws.length c], .int .i64 left] w fun e w' => (∃ z, e = .returned (.int .i64 z) ∧ (z = -1 ∨ (0 ≤ z ∧ z ≤ left ∧ (m.size : Int) ≤ left ∧ (ws.length : Int) ≤ left))) ∧ Below w.heap.size w w' := by
  have hm' : m.size ≤ 9223372036854775807 := hm
  have bA := bel_alloc (Below.refl w.heap.size w) (.cells #[.string m, .slice A ws.length c] 52)
  have hw1 := (hw.below bA).top
  by_cases hl : left - m.size < 0
  · go_enter Try.func46, Try.ntmps46
    go_wp2
    go_ret
    exact ⟨⟨_, rfl, .inl rfl⟩, bA⟩
  · have hsum := sumTo_mono (f := szStr ws) (k := 0) (n := ws.length) (fun i => by simp [szStr]) (Nat.zero_le _)
    have HS : Hid (0 ≤ sumTo (szStr ws) ws.length) := hsum
    clear hsum
    go_enter Try.func46, Try.ntmps46
    go_wp2_with fail
    refine (laws_szStringS ws A c (left - m.size) _ hw1 ho hn (by omega) (by omega)).mono ?_
    rintro e w' ⟨⟨z, rfl, hz⟩, rfl⟩
    rcases hz with rfl | ⟨hz0, hz1⟩
    · go_wp2
      go_ret
      exact ⟨⟨_, rfl, .inl rfl⟩, bA⟩
    · have HZ := Lib.hid hz1
      clear hz1
      go_wp2
      go_ret
      exact ⟨⟨z, rfl, .inr (by have := HZ.out; have := HS.out; omega)⟩, bA⟩
theorem brfs_sz (xs : List Brf) (A : Option Addr) (c : Nat) (left : Int) (w : World) (hw : Seg w 0 w.heap.size A (flat brfC xs)) (ho : BrfsAt w xs) (hn : xs.length ≤ maxLen) (h0 : 0 ≤ left) (h1 : left ≤ 1048576) :
    Calls Try.prog 14 #[.slice A xs.length c, .int .i64 left] w fun e w' => (∃ z, e = .returned (.int .i64 z) ∧ (z = -1 ∨ (0 ≤ z ∧ z ≤ left ∧ (xs.length : Int) ≤ left ∧ Hid (ShortBrfs xs xs.length)))) ∧ Below w.heap.size w w' := by
  have hn' : xs.length ≤ 9223372036854775807 := hn
  by_cases hl : left - xs.length < 0
  · go_enter Try.func14, Try.ntmps14
    go_wp2
    go_ret
    exact ⟨⟨_, rfl, .inl rfl⟩, Below.refl _ _⟩
  · go_enter Try.func14, Try.ntmps14
    go_wp2
    go_loopw [1, 5] (fun v i wr => ∃ k : Nat, k ≤ xs.length ∧ i = .int .i64 k ∧ (∃ z : Int, v = .int .i64 z ∧ 0 ≤ z ∧ z ≤ left) ∧ Hid (ShortBrfs xs k) ∧ Below w.heap.size w wr) (fun _ i _ => xs.length - (intOf i).toNat)
    case atStart => exact ⟨0, Nat.zero_le _, rfl, ⟨_, rfl, by omega, by omega⟩, fun i x hi => by omega, Below.refl _ _⟩
    case round =>
      obtain ⟨k, hk, rfl, ⟨z, rfl, hz0, hz1⟩, hsh, hb⟩ := hrel
      by_cases hlt : k < xs.length
      · obtain ⟨⟨xm, xA, xc, xs'⟩, hs⟩ := get_lt hlt
        obtain ⟨g, o, rfl, hg, _, hgw, hc1, hc2⟩ := (hw.below hb).brf hs
        simp only [rowV] at hc1 hc2
        obtain ⟨hxm, hxw, hxo, hxc, hxn⟩ := (ho _ (List.mem_of_getElem? hs)).below hb
        simp only at hxm hxw hxo hxc hxn
        have HS := Lib.hid hs
        clear hs
        go_wp2_with fail
        refine (brf_sz xm xs' xA xc z _ hxw hxo hxm (Nat.le_trans hxc hxn) hz0 (by omega)).mono ?_
        rintro e w1 ⟨⟨y, rfl, hy⟩, b1⟩
        have bal := hb.trans (b1.mono hb.size)
        clear hc1 hc2
        rcases hy with rfl | ⟨hy0, hy1, hy2, hy3⟩
        · go_wp2
          go_ret
          exact ⟨⟨_, rfl, .inl rfl⟩, bal⟩
        · have HSH : Hid (ShortBrfs xs (k + 1)) := by
            intro i x hi hx
            by_cases e : i = k
            · subst e
              rw [HS.out] at hx
              injection hx with hx
              subst hx
              exact ⟨by show xm.size ≤ _; omega, by show xs'.length ≤ _; omega⟩
            · exact hsh.out i x (by omega) hx
          go_wp2
          go_roundw
          case rel => exact ⟨k + 1, by omega, by go_num, ⟨y, rfl, hy0, by omega⟩, HSH, bal⟩
          case measure => simp [intOf]; omega
      · have HSH : Hid (ShortBrfs xs xs.length) := by
          obtain rfl : k = xs.length := by omega
          exact hsh
        go_wp2
        go_ret
        exact ⟨⟨_, rfl, .inr ⟨hz0, hz1, by omega, HSH⟩⟩, hb⟩
end Go.Proofs.Ytgddklafeaoleaa
