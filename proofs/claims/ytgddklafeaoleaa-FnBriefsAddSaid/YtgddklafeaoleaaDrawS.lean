/-
  Contract of l91Speech: a short list of small texts.
-/
import Derived.Test.YtgddklafeaoleaaDraw2
import Derived.Test.YtgddklafeaoleaaMem2
import Derived.Test.YtgddklafeaoleaaStrs
namespace Go.Proofs.Ytgddklafeaoleaa
open Go.RowKit
set_option linter.unusedSimpArgs false
set_option linter.unusedVariables false

theorem Drew.own {g P n : Nat} {w wr w' : World} {e : TypeId} {size : Nat} {v : Value} {xs : List Value} (h : Drew g P w wr) (hown : wr.ownsRow w.heap.size e size v n xs) (hg : wr.grownBy w' v.ownBlock) (hgw : g < w.heap.size) : Drew g P w w' := by
  obtain ⟨⟨p, hp, hr⟩, h2⟩ := h
  have hlo : ∀ k, v.ownBlock = some k → w.heap.size ≤ k := fun k hk => (hown.lt k hk).1
  have hs := h2.size
  refine ⟨⟨p, hp, hr.keep (fun k hk => hg.block k (by omega) fun e => ?_) hg.size⟩, ⟨hg.os.trans h2.os, hg.tape.trans h2.tape, hg.output.trans h2.output, Nat.le_trans h2.size hg.size, fun k hk hne => (hg.block k (by omega) fun e => ?_).trans (h2.block k hk hne)⟩⟩
  · have := hlo k e.symm; omega
  · have := hlo k e.symm; omega
theorem Drew.setOwn {g P b o : Nat} {w wr : World} (h : Drew g P w wr) (hb : w.heap.size ≤ b) (hgw : g < w.heap.size) (u : Value) : Drew g P w (wr.setCell ⟨b, o, none⟩ u) := by
  obtain ⟨⟨p, hp, hr⟩, h2⟩ := h
  have hs := h2.size
  have hk : ∀ k, k < w.heap.size → (wr.setCell ⟨b, o, none⟩ u).heap[k]? = wr.heap[k]? := fun k hk => Below.heap_setCell wr ⟨b, o, none⟩ u k (by simp; omega)
  refine ⟨⟨p, hp, hr.keep (fun k hk' => hk k (by omega)) (by simp [World.setCell])⟩, ⟨h2.os, h2.tape, h2.output, by simp [World.setCell]; exact h2.size, fun k hk' hne => (hk k hk').trans (h2.block k hk' hne)⟩⟩
theorem Drew.kept {g P n base : Nat} {w wr : World} {e : TypeId} {size : Nat} {v : Value} {xs : List Value} (h : Drew g P w wr) (hown : w.ownsRow base e size v n xs) (hg : g < base) : wr.ownsRow base e size v n xs :=
  hown.kept h.2 (.inr (fun e => by have := (hown.lt g e).1; omega))
def DrewStrs (g P n : Nat) (w : World) (e : Ending) (w' : World) : Prop :=
  ∃ A c, ∃ ws : List Str, e = .returned (.slice A ws.length c) ∧ Seg w' w.heap.size w'.heap.size A (flat strC ws) ∧ (∀ s ∈ ws, s.size ≤ 100) ∧ ws.length ≤ n ∧ ws.length ≤ c ∧ c ≤ maxLen ∧ Drew g P w w'

/-- the same, the list being the call's own -/
def DrewStrsO (g P n : Nat) (w : World) (e : Ending) (w' : World) : Prop :=
  ∃ A c, ∃ ws : List Str, e = .returned (.slice A ws.length c) ∧ w'.ownsRow w.heap.size 9 1 (.slice A ws.length c) ws.length (flat strC ws) ∧ (∀ s ∈ ws, s.size ≤ 100) ∧ ws.length ≤ n ∧ Drew g P w w'
theorem own_len {w : World} {base n m c : Nat} {A : Option Addr} {ws : List Str} (h : w.ownsRow base 9 1 (.slice A m c) n (flat strC ws)) (hm : m = ws.length) (hn : n = ws.length) : w.ownsRow base 9 1 (.slice A ws.length c) ws.length (flat strC ws) := by
  rw [hm, hn] at h; exact h
theorem own_strs {w : World} {base n : Nat} {v : Value} {ws : List Str} (h : w.ownsRow base 9 1 v n (flat strC ws)) : ∃ A c, v = .slice A ws.length c ∧ n = ws.length ∧ ws.length ≤ c ∧ c ≤ maxLen ∧ Seg w base w.heap.size A (flat strC ws) := by
  have hl : (flat strC ws).length = n * 1 := h.1
  rw [flat_length strC_len] at hl
  obtain rfl : n = ws.length := by omega
  obtain ⟨A, c, rfl, h1, h2⟩ := own_form h
  exact ⟨A, c, rfl, rfl, h1, h2, Seg.of_own h⟩

theorem spec_l91SpeechO (g P : Nat) (most : Int) (w : World) (h : RdB w g P) (hp : P ≤ 900000) (hm0 : 0 ≤ most) (hm1 : most ≤ 100) :
    Calls Try.prog 74 #[.pointer (some ⟨g, 0, none⟩), .int .i64 most] w (DrewStrsO g (P + 104) 100 w) := by
  have hgw := h.lt
  go_enter Try.func74, Try.ntmps74
  go_wp2_with fail
  refine (pickB g P _ _ (h.below (bel_alloc (Below.refl _ _) _)) (by omega) (by omega) (by omega)).mono ?_
  rintro e w1 ⟨x, rfl, hx0, hx1, d1⟩
  have hown0 := d1.kept (World.ownsRow_made (size := 1) (e := 9) w #[] 0 (Nat.le_refl _) (by simp [maxLen]) (by simp)) hgw
  have d1' : Drew g (P + 1) w w1 := ((h.drew).then_ (bel_alloc (Below.refl _ _) _)).trans d1
  clear d1
  go_wp2
  go_loopw [5, 7] (fun v i wr => ∃ k : Nat, (k : Int) ≤ x ∧ i = .int .i64 k ∧ ∃ ws : List Str, ws.length = k ∧ wr.ownsRow w.heap.size 9 1 v k (flat strC ws) ∧ (∀ s ∈ ws, s.size ≤ 100) ∧ Drew g (P + 1 + k) w wr) (fun _ i _ => x.toNat - (intOf i).toNat)
  case atStart => exact ⟨0, by omega, rfl, [], rfl, hown0, by simp, d1'⟩
  case round =>
    obtain ⟨k, hk, rfl, ws, hwl, hown, hsm, dr⟩ := hrel
    have HSM := Lib.hid hsm
    clear hsm
    by_cases hlt : (k : Int) < x
    · have HWL := Lib.hid hwl
      clear hwl
      go_wp2_with fail
      refine (ofB 13 _ 5 g (P + 1 + k) _ rfl rfl (by decide) (by decide) dr.1 (by omega)).mono ?_
      rintro e w2 ⟨s, rfl, hs, d2⟩
      have hown2 := d2.kept hown hgw
      have d02 := dr.trans d2
      have hB := d02.size
      clear hown dr d2
      go_wp2_with (at_builtin; refine append_one w2 (by rfl) (.tmp 18) (.tmp 22) 30 (by rfl) (w.heap.size) 9 _ 1 16 Try.underlying30 info_str rfl (by decide) (by decide) (u5) _ _ (by rfl) hown2 #[.string s] (by rfl) rfl (by simp [Value.oneCell']) (by omega) hB ?_; intro v' w3 hown' hgrow)
      have d03 := d02.own hown2 hgrow hgw
      have R1 : w3.ownsRow w.heap.size 9 1 v' (k + 1) (flat strC (ws ++ [s])) := by rw [flat_snoc]; exact hown'
      clear hown' hgrow hown2
      go_wp2
      go_roundw
      case rel => exact ⟨k + 1, by omega, by go_num, ws ++ [s], by simp [HWL.out], R1, fun t ht => by rcases List.mem_append.1 ht with h | h; exact HSM.out t h; simp at h; subst h; omega, d03.mono (by omega)⟩
      case measure => simp [intOf]; omega
    · by_cases hk0 : k = 0
      · have hx' : ¬ (0 : Int) < x := by omega
        have hxd : decide ((0 : Int) < x) = false := by simp; omega
        obtain ⟨A, c, rfl, hkl, hlc, hcm, hseg⟩ := own_strs hown
        have OWN := Lib.hid (own_len hown rfl hkl)
        have HH := Lib.hid hkl
        have HK := Lib.hid hk0
        have HWL := Lib.hid hwl
        clear hk0 hkl hwl
        go_wp2
        go_ret
        exact ⟨A, c, ws, rfl, OWN.out, HSM.out, by have := HWL.out; omega, dr.mono (by omega)⟩
      · have hxd : decide ((0 : Int) < x) = true := by simp; omega
        have hx' : (0 : Int) < x := by omega
        go_wp2_with fail
        refine (pickB g _ _ _ dr.1 (by omega) (by decide) (by decide)).mono ?_
        rintro e w2 ⟨y, rfl, hy0, hy1, d2⟩
        have hown2 := d2.kept hown hgw
        have d02 := dr.trans d2
        cases hz : (y == 0)
        · obtain ⟨A, c, rfl, hkl, hlc, hcm, hseg⟩ := own_strs hown2
          have OWN := Lib.hid (own_len hown2 rfl hkl)
          have HH := Lib.hid hkl
          have HWL := Lib.hid hwl
          clear hkl hwl hown hown2
          go_wp2
          go_ret
          exact ⟨A, c, ws, rfl, OWN.out, HSM.out, by have := HWL.out; omega, d02.mono (by omega)⟩
        · clear hown
          go_wp2_with fail
          refine (ofB 13 _ 3 g _ _ rfl rfl (by decide) (by decide) d02.1 (by omega)).mono ?_
          rintro e w3 ⟨s, rfl, hs, d3⟩
          have hown3 := d3.kept hown2 hgw
          have d03 := d02.trans d3
          clear hown2
          obtain ⟨b, c, rfl, hbl, hbs, hlc, hcm⟩ := own_head hown3 (by omega)
          obtain ⟨t0, tl, rfl⟩ : ∃ t0 tl, ws = t0 :: tl := by cases ws with | nil => simp at hwl; omega | cons a b => exact ⟨a, b, rfl⟩
          have hc0 : w3.cell? ⟨b, 0, none⟩ = some (.string t0) := (hown3.cellAt 0 (by omega)).trans rfl
          have hf0 := hown3.frozenAt 0
          have hst := (hown3.stored 0 (.string s)).1
          have hst2 : (w3.setCell ⟨b, 0, none⟩ (.string s)).ownsRow w.heap.size 9 1 (.slice (some ⟨b, 0, none⟩) k c) k (flat strC (s :: tl)) := hst
          have dS := d03.setOwn (o := 0) hbl hgw (.string s)
          have hkn : (0 : Int) < (k : Int) := by omega
          have hkn' : 0 < k := by omega
          have HST := Lib.hid hst2
          have HWL := Lib.hid hwl
          clear hst hst2 hown3 hwl
          go_wp2
          go_ret
          have hl := HWL.out
          simp only [List.length_cons] at hl
          exact ⟨some ⟨b, 0, none⟩, c, s :: tl, by rw [List.length_cons, hl]; rfl, own_len HST.out (by rw [List.length_cons]; omega) (by rw [List.length_cons]; omega), fun t ht => by rcases List.mem_cons.1 ht with h | h; subst h; omega; exact HSM.out t (List.mem_cons_of_mem _ h), by rw [List.length_cons]; omega, dS.mono (by omega)⟩
theorem spec_l91Speech (g P : Nat) (most : Int) (w : World) (h : RdB w g P) (hp : P ≤ 900000) (hm0 : 0 ≤ most) (hm1 : most ≤ 100) :
    Calls Try.prog 74 #[.pointer (some ⟨g, 0, none⟩), .int .i64 most] w (DrewStrs g (P + 104) 100 w) := by
  refine (spec_l91SpeechO g P most w h hp hm0 hm1).mono ?_
  rintro e w' ⟨A, c, ws, h1, h2, h3, h4, h5⟩
  obtain ⟨A', c', hv, h6, h7⟩ := own_form h2
  injection hv with e1 e2 e3
  subst e1 e3
  exact ⟨A, c, ws, h1, Seg.of_own h2, h3, h4, h6, h7, h5⟩
end Go.Proofs.Ytgddklafeaoleaa
