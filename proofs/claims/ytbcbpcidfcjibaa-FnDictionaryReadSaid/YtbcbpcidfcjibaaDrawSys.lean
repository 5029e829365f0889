/-
  Contract of l91System: a short list of signs.
-/
import Derived.Test.YtbcbpcidfcjibaaDrawS
import Derived.Test.YtbcbpcidfcjibaaAdd
import Derived.IntWalk
import Derived.Deep.DrawnRows
namespace Go.Proofs.Ytbcbpcidfcjibaa
open Go.RowKit Go.Sort
set_option linter.unusedSimpArgs false
set_option linter.unusedVariables false
attribute [local go_sem ↓] Go.wp_at_zero Go.wp_at_succ

def DrewSgns (g P n : Nat) (w : World) (e : Ending) (w' : World) : Prop :=
  ∃ A c, ∃ ss : List Sgn, e = .returned (.slice A ss.length c) ∧ w'.ownsRow w.heap.size 78 3 (.slice A ss.length c) ss.length (flat sgnC ss) ∧ (∀ x ∈ ss, x.1.size ≤ 100) ∧ ss.length ≤ n ∧ ss.length ≤ c ∧ c ≤ maxLen ∧ Drew g P w w'
theorem added_small {ss : List Sgn} {x : Sgn} (h : ∀ y ∈ ss, y.1.size ≤ 100) (hx : x.1.size ≤ 100) : ∀ y ∈ added ss x, y.1.size ≤ 100 := by
  unfold added
  split
  · intro y hy
    rcases List.mem_append.1 hy with h1 | h1
    · exact h y h1
    · simp at h1; subst h1; exact hx
  · intro y hy; simp at hy
def six : List Str := [⟨#[98]⟩, ⟨#[100]⟩, ⟨#[116]⟩, ⟨#[110]⟩, ⟨#[115]⟩, ⟨#[114]⟩]
theorem six_small : ∀ s ∈ six, s.size ≤ 100 := by
  intro s hs
  simp [six] at hs
  rcases hs with rfl | rfl | rfl | rfl | rfl | rfl <;> decide

theorem Drew.drewd {g P : Nat} {w1 w2 : World} (h : Drew g P w1 w2) : Drew g P w1 w2.drew := h.then_ (Below.refl _ _).drew
theorem Drew.base {g P : Nat} {w1 w2 : World} (h : Drew g P w1 w2) : w1.heap.size ≤ w2.heap.size := h.2.size
theorem Drew.rd {g P : Nat} {w1 w2 : World} (h : Drew g P w1 w2) : RdB w2 g P := h.1
theorem Drew.cell1 {g P b o : Nat} {w1 w2 : World} {u : Option Value} (h : Drew g P w1 w2) (hc : w1.cell? ⟨b, o, none⟩ = u) (hlt : b < w1.heap.size) (hne : g < b) : w2.cell? ⟨b, o, none⟩ = u :=
  (World.cell?_of_block (a := ⟨b, o, none⟩) (h.2.block b hlt (by intro e; injection e; omega))).trans hc
set_option maxRecDepth 100000 in
set_option maxHeartbeats 1000000 in
theorem spec_l91System (g P : Nat) (w : World) (h : RdB w g P) (hp : P ≤ 900000) :
    Calls Try.prog 28 #[.pointer (some ⟨g, 0, none⟩)] w (DrewSgns g (P + 16) 8 w) := by
  have hgw := h.lt
  go_enter Try.func28, Try.ntmps28
  go_wp2_with fail
  have bW := bel_alloc (bel_alloc (Below.refl w.heap.size w) (.cells #[] 78)) (.cells #[.string ⟨#[98]⟩, .string ⟨#[100]⟩, .string ⟨#[116]⟩, .string ⟨#[110]⟩, .string ⟨#[115]⟩, .string ⟨#[114]⟩] 9)
  refine (pickB g P _ _ (h.below bW) (by omega) (by decide) (by decide)).mono ?_
  rintro e w1 ⟨n, rfl, hn0, hn1, d1⟩
  have own0 := d1.kept ((World.ownsRow_made (size := 3) (e := 78) w #[] 0 (Nat.le_refl _) (by simp [maxLen]) (by simp)).alloc (.cells #[.string ⟨#[98]⟩, .string ⟨#[100]⟩, .string ⟨#[116]⟩, .string ⟨#[110]⟩, .string ⟨#[115]⟩, .string ⟨#[114]⟩] 9)) hgw
  have sl : Seg w1 (w.heap.size + 1) (w.heap.size + 2) (some ⟨w.heap.size + 1, 0, none⟩) (flat strC six) := by
    have h := Seg.lit (w.alloc (.cells #[] 78)) #[.string ⟨#[98]⟩, .string ⟨#[100]⟩, .string ⟨#[116]⟩, .string ⟨#[110]⟩, .string ⟨#[115]⟩, .string ⟨#[114]⟩] 9
    have e : (w.alloc (.cells #[] 78)).heap.size = w.heap.size + 1 := by simp
    have e2 : ((w.alloc (.cells #[] 78)).alloc (.cells #[.string ⟨#[98]⟩, .string ⟨#[100]⟩, .string ⟨#[116]⟩, .string ⟨#[110]⟩, .string ⟨#[115]⟩, .string ⟨#[114]⟩] 9)).heap.size = w.heap.size + 2 := by simp
    rw [e, e2] at h
    exact d1.seg h (by omega)
  have dW : Drew g (P + 1) w w1 := (h.drew.then_ bW).trans d1
  have own00 : w1.ownsRow w.heap.size 78 3 (.slice (some ⟨w.heap.size, 0, none⟩) 0 0) 0 (flat sgnC []) := own0
  clear bW d1 own0
  go_wp2
  go_loopw [3, 6] (fun v i wr => ∃ k : Nat, ∃ ss : List Sgn, (k : Int) ≤ n ∧ i = .int .i64 k ∧ ss.length ≤ k ∧ wr.ownsRow w.heap.size 78 3 v ss.length (flat sgnC ss) ∧ Hid (∀ x ∈ ss, x.1.size ≤ 100) ∧ Seg wr (w.heap.size + 1) (w.heap.size + 2) (some ⟨w.heap.size + 1, 0, none⟩) (flat strC six) ∧ Drew g (P + 1 + 2 * k) w wr) (fun _ i _ => n.toNat - (intOf i).toNat)
  case atStart => exact ⟨0, [], by omega, rfl, Nat.le_refl _, own00, fun x hx => by simp at hx, sl, dW⟩
  case round =>
    obtain ⟨k, ss, hk, rfl, hsl, hown, hsm, sg, dr⟩ := hrel
    by_cases hlt : (k : Int) < n
    · obtain ⟨s, hs⟩ := get_lt (l := six) (k := k) (by simp [six]; omega)
      have hss := six_small s (List.mem_of_getElem? hs)
      obtain ⟨g2, o2, e2, hg2, _, _, hc0⟩ := sg.str hs
      injection e2 with e2
      injection e2 with e3 e4
      subst e3 e4
      rw [Nat.zero_add] at hc0
      obtain ⟨A1, c1, rfl, _, _⟩ := own_form hown
      have e5 : (k : Int) < 6 := by omega
      have drD : Drew g (P + 1 + 2 * k) w wr.drew := dr.drewd
      have hR := drD.1
      have ownD := hown.drew
      have sgD : Seg wr.drew (w.heap.size + 1) (w.heap.size + 2) (some ⟨w.heap.size + 1, 0, none⟩) (flat strC six) := sg
      have kl0 : wr.drew.cell? ⟨w.heap.size + 1, k, none⟩ = some (.string s) := hc0
      have hszD : w.heap.size + 1 < wr.drew.heap.size := hg2
      have hm' : ss.length ≤ 1048576 := by omega
      have HS := Lib.hid hs
      clear hs hown sg
      have hP1 : P + 1 + 2 * k ≤ 1000000 := by omega
      have hP2 : P + 1 + 2 * k + 1 ≤ 1000000 := by omega
      have hg1 : g < w.heap.size + 1 := by omega
      have i8 : (1 : Int) ≤ 8 := by decide
      have j8 : (8 : Int) ≤ 100000 := by decide
      have i3 : (1 : Int) ≤ 3 := by decide
      have j3 : (3 : Int) ≤ 100000 := by decide
      have hw1 : ∀ x2 : Int, 0 ≤ x2 → x2 < 3 → IntKind.i64.wrap (1 + x2) = 1 + x2 := fun x2 a b => IntWalk.i64_in _ (by omega)
      have HW1 := Lib.hid hw1
      have hok : OkSgns ss := fun y hy => Nat.le_trans (hsm.out y hy) (by decide)
      have hsk : s.size ≤ maxLen := Nat.le_trans hss (by decide)
      have HOK := Lib.hid hok
      clear hw1 hok
      go_wp2
      go_region_held3 (fun w' => w'.cell? ⟨w.heap.size + 1, k, none⟩ = some (.string s)) (first | exact hc0 | exact kl0 | exact kl1 | exact kl2 | exact kl3)
        (first
          | (go_at_call 15; (with_reducible refine (pickB g (P + 1 + 2 * k) 8 wr.drew hR hP1 i8 j8).mono ?_); rintro e w2 ⟨x1, rfl, hx0, hx1, d2⟩; have dr2 := drD.trans d2; have own2 := d2.kept ownD hgw; have kl1 := d2.cell1 kl0 hszD hg1; have sg2 := d2.seg sgD hg1; have hsz2 := Nat.lt_of_lt_of_le hszD d2.size; have hR2 := d2.rd)
          | (go_at_call 15; (with_reducible refine (pickB g (P + 1 + 2 * k + 1) 3 w2 hR2 hP2 i3 j3).mono ?_); rintro e w3 ⟨x2, rfl, hy0, hy1, d3⟩; have dr3 := dr2.trans d3; have own3 := d3.kept own2 hgw; have kl2 := d3.cell1 kl1 hsz2 hg1; have sg3 := d3.seg sg2 hg1; have hsz3 := Nat.lt_of_lt_of_le hsz2 d3.size; have e1 := HW1.out x2 hy0 hy1; have sA := (Seg.of_own own3).mono (lo' := 0) (Nat.zero_le _) (Nat.le_refl _))
          | (go_at_call 43; (with_reducible refine (spec_SystemAdd ss (s, (x1, 1 + x2)) A1 c1 w3 sA HOK.out hsk hm').mono ?_); rintro e w4 ⟨v4, rfl, own4', b4⟩; have own4 : w4.ownsRow w.heap.size 78 3 v4 (added ss (s, (x1, 1 + x2))).length (flat sgnC (added ss (s, (x1, 1 + x2)))) := own_mono own4' dr3.base; have dr4 := dr3.then_ b4; have own5 := own_below own3 b4; have sg4 := sg3.below b4; have kl3 := (b4.cell (p := ⟨w.heap.size + 1, k, none⟩) hsz3).trans kl2))
      clear kl0 kl1 kl2 kl3 e1 d2 d3 b4 dr2 dr3 own2 own3 sg2 sg3 hR hR2 drD ownD sgD hc0 sA
      cases hx : addOk ss (s, (x1, 1 + x2))
      · go_wp2
        go_roundw
        case rel => exact ⟨k + 1, ss, by omega, by go_num, by omega, own5, hsm, sg4, dr4.mono (by omega)⟩
        case measure => simp [intOf]; omega
      · have HA : Hid (added ss (s, (x1, 1 + x2)) = ss ++ [(s, (x1, 1 + x2))]) := by rw [Hid, added, hx]; rfl
        have hlen : (added ss (s, (x1, 1 + x2))).length = ss.length + 1 := by rw [HA.out]; simp
        have R1 : w4.ownsRow w.heap.size 78 3 v4 (added ss (s, (x1, 1 + x2))).length (flat sgnC (added ss (s, (x1, 1 + x2)))) := own4
        have R2 := Lib.hid (added_small (x := (s, (x1, 1 + x2))) hsm.out hss)
        have R3 : (added ss (s, (x1, 1 + x2))).length ≤ k + 1 := by omega
        clear own4 own5 hlen
        go_wp2
        go_roundw
        case rel => exact ⟨k + 1, _, by omega, by go_num, R3, R1, R2, sg4, dr4.mono (by omega)⟩
        case measure => simp [intOf]; omega
    · have hk6 : k ≤ 6 := by omega
      by_cases hs0 : ss.length = 0
      · have hss0 : ss = [] := List.eq_nil_of_length_eq_zero hs0
        subst hss0
        obtain ⟨A1, c1, rfl, hc1, hc2⟩ := own_form hown
        clear hs0
        go_wp2
        go_ret
        exact ⟨A1, c1, [], rfl, hown, hsm.out, Nat.zero_le _, hc1, hc2, dr.mono (by omega)⟩
      obtain ⟨b, c1, rfl, hbl, hbs, hc1, hc2⟩ := own_head hown (by omega)
      obtain ⟨x0, tl, rfl⟩ : ∃ x0 tl, ss = x0 :: tl := by cases ss with | nil => simp at hs0 | cons a b => exact ⟨a, b, rfl⟩
      have hl7 : (x0 :: tl).length ≤ 6 := by omega
      have hpos : (0 : Int) < ((x0 :: tl).length : Int) := Int.natCast_pos.2 (by simp)
      have hposn : 0 < (x0 :: tl).length := by simp
      have HSM := Lib.hid hsm.out
      clear hs0 sg
      generalize hln : (x0 :: tl).length = m at *
      have HLN := Lib.hid hln
      clear hln
      go_wp2_with fail
      refine (pickB g (P + 1 + 2 * k) 40 _ dr.1 (by omega) (by decide) (by decide)).mono ?_
      rintro e w2 ⟨y, rfl, hy0, hy1, d2⟩
      have own2 := d2.kept hown hgw
      have dr2 := dr.trans d2
      clear hown d2
      have hc0 : w2.cell? ⟨b, 0, none⟩ = some (.string x0.1) := (own2.cellAt 0 (by omega)).trans rfl
      have hcd : w2.cell? ⟨b, 1, none⟩ = some (.int .i64 x0.2.1) := (own2.cellAt 1 (by omega)).trans rfl
      have hcz : w2.cell? ⟨b, 2, none⟩ = some (.int .i64 x0.2.2) := (own2.cellAt 2 (by omega)).trans rfl
      have hf2 := own2.frozenAt 2
      cases z0 : (y == 0)
      · cases z1 : (y == 1)
        · cases z2 : (y == 2)
          · go_wp2
            go_ret
            exact ⟨some ⟨b, 0, none⟩, c1, x0 :: tl, by rw [HLN.out]; rfl, by rw [HLN.out]; exact own2, HSM.out, by rw [HLN.out]; omega, by rw [HLN.out]; exact hc1, hc2, dr2.mono (by omega)⟩
          · have hst : (w2.setCell ⟨b, 2, none⟩ (.int .i64 0)).ownsRow w.heap.size 78 3 (.slice (some ⟨b, 0, none⟩) m c1) m (flat sgnC ((x0.1, (x0.2.1, 0)) :: tl)) := (own2.stored 2 (.int .i64 0)).1
            have dS := dr2.setOwn (o := 2) hbl hgw (.int .i64 0)
            have HST := Lib.hid hst
            clear hst own2
            go_wp2
            go_ret
            exact ⟨some ⟨b, 0, none⟩, c1, (x0.1, (x0.2.1, 0)) :: tl, by rw [List.length_cons, ← List.length_cons (a := x0), HLN.out]; rfl, by rw [List.length_cons, ← List.length_cons (a := x0), HLN.out]; exact HST.out, fun q hq => by rcases List.mem_cons.1 hq with h | h; subst h; exact HSM.out x0 (by simp); exact HSM.out q (List.mem_cons_of_mem _ h), by rw [List.length_cons, ← List.length_cons (a := x0), HLN.out]; omega, by rw [List.length_cons, ← List.length_cons (a := x0), HLN.out]; exact hc1, hc2, dS.mono (by omega)⟩
        · have hB2 := dr2.size
          go_wp2_with (at_builtin; refine append_one w2 (by rfl) (.tmp 51) (.tmp 55) 23 (by rfl) (w.heap.size) 78 _ 3 32 Try.underlying23 info_sgn rfl (by decide) (by decide) (_) _ _ (by rfl) own2 #[.string x0.1, .int .i64 x0.2.1, .int .i64 x0.2.2] (by rfl) rfl (by simp [Value.oneCell']) (by omega) hB2 ?_; intro v' w3 own3 hgrow)
          have d3 := dr2.own own2 hgrow hgw
          have own4 : w3.ownsRow w.heap.size 78 3 v' (m + 1) (flat sgnC ((x0 :: tl) ++ [x0])) := by rw [flat_snoc]; exact own3
          obtain ⟨A4, c4, rfl, h4a, h4b⟩ := own_form own4
          have OW4 := Lib.hid own4
          have HL4 : Hid (((x0 :: tl) ++ [x0]).length = m + 1) := by rw [Hid, List.length_append, HLN.out]; rfl
          clear own2 own3 own4 hgrow
          go_wp2
          go_ret
          exact ⟨A4, c4, (x0 :: tl) ++ [x0], by rw [HL4.out]; rfl, by rw [HL4.out]; exact OW4.out, fun q hq => by rcases List.mem_append.1 hq with h | h; exact HSM.out q h; simp at h; subst h; exact HSM.out q (by simp), by rw [HL4.out]; omega, by rw [HL4.out]; exact h4a, h4b, d3.mono (by omega)⟩
      · have hf0 := own2.frozenAt 0
        go_wp2_with fail
        refine (ofB 13 _ 4 g (P + 1 + 2 * k + 1) _ rfl rfl (by decide) (by decide) dr2.1 (by omega)).mono ?_
        rintro e w3 ⟨s3, rfl, hs3, d3⟩
        have own3 := d3.kept own2 hgw
        have dr3 := dr2.trans d3
        have hf3 := own3.frozenAt 0
        have hc3 : w3.cell? ⟨b, 0, none⟩ = some (.string x0.1) := (own3.cellAt 0 (by omega)).trans rfl
        have hst : (w3.setCell ⟨b, 0, none⟩ (.string s3)).ownsRow w.heap.size 78 3 (.slice (some ⟨b, 0, none⟩) m c1) m (flat sgnC ((s3, x0.2) :: tl)) := (own3.stored 0 (.string s3)).1
        have dS := dr3.setOwn (o := 0) hbl hgw (.string s3)
        have HST := Lib.hid hst
        clear hst own2 own3 hc0 hcd hcz hf2 hf0 d3
        go_wp2
        go_ret
        exact ⟨some ⟨b, 0, none⟩, c1, (s3, x0.2) :: tl, by rw [List.length_cons, ← List.length_cons (a := x0), HLN.out]; rfl, by rw [List.length_cons, ← List.length_cons (a := x0), HLN.out]; exact HST.out, fun q hq => by rcases List.mem_cons.1 hq with h | h; subst h; exact Nat.le_trans hs3 (by decide); exact HSM.out q (List.mem_cons_of_mem _ h), by rw [List.length_cons, ← List.length_cons (a := x0), HLN.out]; omega, by rw [List.length_cons, ← List.length_cons (a := x0), HLN.out]; exact hc1, hc2, dS.mono (by omega)⟩
end Go.Proofs.Ytbcbpcidfcjibaa
