/-
  Contracts of WordOutline (both texts) and of the program's outline.
-/
import Derived.Test.YtbcbpcidfcjibaaPlan
import Derived.Test.YtbcbpcidfcjibaaJoin
import Derived.Test.YtbcbpcidfcjibaaChain
import Derived.Test.YtbcbpcidfcjibaaWords2
import Derived.Test.YtbcbpcidfcjibaaWordsP
namespace Go.Proofs.Ytbcbpcidfcjibaa
open Go.RowKit Go.Sort
set_option linter.unusedSimpArgs false
set_option linter.unusedVariables false

/-- what is needed of the bare form as a text -/
def BareIs (s bs : Str) : Prop := bs.size = (bareOf s).length ∧ (∀ k, k < bs.size → bs.extract k (k + 1) = oneS ((bareOf s).getD k 0)) ∧ ∀ k (h : k < bs.size), bs[k] = (bareOf s).getD k 0
theorem bareIs (s : Str) : BareIs s ⟨(bareOf s).toArray⟩ := by
  have h0 : (⟨(bareOf s).toArray⟩ : ByteArray).size = (bareOf s).length := size_mk _
  refine ⟨h0, fun k hk => ?_, fun k hk => ?_⟩
  · rw [extract_oneS _ k hk, byteAt_mk _ _ (by omega), List.getD_eq_getElem?_getD, List.getElem?_eq_getElem (by omega)]; rfl
  · rw [byteAt_get _ k hk, byteAt_mk _ _ (by omega), List.getD_eq_getElem?_getD, List.getElem?_eq_getElem (by omega)]; rfl

theorem own_made0H (w : World) (base H : Nat) (hH : w.heap.size = H) (hb : base ≤ w.heap.size) : OwnStks (w.alloc (.cells #[] 51)) base (.slice (some ⟨H, 0, none⟩) 0 0) [] := by
  subst hH; exact own_made0 w base hb
set_option maxRecDepth 100000 in
set_option maxHeartbeats 1000000 in
theorem spec_WordOutline (ss : List Sgn) (s : Str) (A : Option Addr) (c : Nat) (w : World) (hw : Seg w 0 w.heap.size A (flat sgnC ss)) (ho : OkSgns ss) (hn : ss.length ≤ maxLen) (hs : s.size ≤ maxLen) :
    Calls Try.prog 16 #[.slice A ss.length c, .string s] w (GaveStks (woOf ss s) (woOk ss s) w) := by
  have own0 : OwnStks (w.alloc (.cells #[] 51)) w.heap.size (.slice (some ⟨w.heap.size, 0, none⟩) 0 0) [] := own_made0 w w.heap.size (Nat.le_refl _)
  have bB := bel_alloc (Below.refl w.heap.size w) (.cells #[] 51)
  have hwB := (hw.below bB).top
  cases os : sysOk ss
  · have HJ : Hid (woOk ss s = false ∧ woOf ss s = []) := wo_sys os
    have OWN := Lib.hid own0
    clear own0
    go_enter Try.func16, Try.ntmps16
    go_wp2_with fail
    refine (spec_SystemValid ss A c _ hwB ho hn).mono ?_
    rintro e w1 ⟨rfl, b1⟩
    rw [os]
    have bal := bel_trans bB b1
    have own1 := Lib.hid (own_belowB OWN.out b1)
    go_wp2
    go_ret2
    exact ⟨_, by rw [HJ.out.1]; rfl, by rw [HJ.out.2]; exact own1.out, bal⟩
  cases ow : wordOk s
  · have HJ : Hid (woOk ss s = false ∧ woOf ss s = []) := wo_word ow
    have OWN := Lib.hid own0
    clear own0
    go_enter Try.func16, Try.ntmps16
    go_wp2_with fail
    refine (spec_SystemValid ss A c _ hwB ho hn).mono ?_
    rintro e w1 ⟨rfl, b1⟩
    rw [os]
    have bal := bel_trans bB b1
    have own1 := Lib.hid (own_belowB OWN.out b1)
    go_wp2_with fail
    refine (spec_WordValid _ _ hs).mono ?_
    rintro e w' ⟨rfl, rfl⟩
    rw [ow]
    go_wp2
    go_ret2
    exact ⟨_, by rw [HJ.out.1]; rfl, by rw [HJ.out.2]; exact own1.out, bal⟩
  have B12 := bare_len12 ow
  have OWN := Lib.hid own0
  have HB := Lib.hid (bareIs s)
  clear own0
  go_enter Try.func16, Try.ntmps16
  go_wp2_with fail
  refine (spec_SystemValid ss A c _ hwB ho hn).mono ?_
  rintro e w1 ⟨rfl, b1⟩
  rw [os]
  have bal := bel_trans bB b1
  have own1 := Lib.hid (own_belowB OWN.out b1)
  go_wp2_with fail
  refine (spec_WordValid _ _ hs).mono ?_
  rintro e w' ⟨rfl, rfl⟩
  rw [ow]
  go_wp2_with fail
  refine (spec_WordBare _ _ hs).mono ?_
  rintro e w' ⟨rfl, nd, rfl⟩
  generalize (⟨(bareOf s).toArray⟩ : ByteArray) = bs at HB ⊢
  have bal2 := Below_drewN bal nd
  have own2 : Hid (OwnStks (w1.drewN nd) w.heap.size (.slice (some ⟨w.heap.size, 0, none⟩) 0 0) []) := own_belowB own1.out (Below_drewN (Below.refl _ _) nd)
  have hbs : bs.size ≤ 12 := by have := HB.out.1; omega
  generalize w1.drewN nd = w2 at *
  go_wp2
  go_loopw [6, 8] (fun v i wr => ∃ k : Nat, k ≤ bs.size ∧ i = .int .i64 k ∧ Hid (hasL ss (bareOf s) k = true) ∧ wr.ownsRow w.heap.size 51 2 v k (flat stkC (stksL ss (bareOf s) k)) ∧ Below w.heap.size w wr) (fun _ i _ => bs.size - (intOf i).toNat)
  case atStart => exact ⟨0, Nat.zero_le _, rfl, rfl, own2.out, bal2⟩
  case round =>
    obtain ⟨k, hk, rfl, hl, hown, hb⟩ := hrel
    by_cases hlt : k < bs.size
    · have hkB : Hid (k < (bareOf s).length) := by have := HB.out.1; rw [Hid]; omega
      have hkd : (k : Int) + 1 ≤ (bs.size : Int) := by omega
      go_wp2_with fail
      refine (spec_SystemStroke ss _ A c _ (hw.below hb).top ho hn).mono ?_
      rintro e w3 ⟨rfl, b3⟩
      have hst : strokeOf ss (bs.extract k (k + 1)) = stkL ss ((bareOf s).getD k 0) := by rw [HB.out.2.1 k hlt, strokeOf, os]; rfl
      rw [hst]
      have hown3 := own_below hown b3
      have hb3 := hb.trans (b3.mono hb.size)
      clear hst hown b3
      cases hx : stkL ss ((bareOf s).getD k 0) with
      | none =>
        have HJ : Hid (woOk ss s = false ∧ woOf ss s = []) := wo_miss hkB.out hx
        have HX := Lib.hid hx
        clear hx hown3
        have hso : stkOr none = ((0, 0) : Stk) := rfl
        rw [hso]
        clear hso
        have hb4 := bel_alloc hb3 (.cells #[.int .i64 0, .int .i64 0] 51)
        go_wp2
        go_ret2
        exact ⟨_, by rw [HJ.out.1]; rfl, by rw [HJ.out.2]; exact own_made0H _ _ _ (by simp) hb4.size, bel_alloc hb4 _⟩
      | some st =>
        have HX := Lib.hid hx
        have HN : Hid (hasL ss (bareOf s) (k + 1) = true) := allTo_step hl.out (by rw [HX.out]; rfl)
        have HS : Hid (flat stkC (stksL ss (bareOf s) (k + 1)) = flat stkC (stksL ss (bareOf s) k) ++ [.int .i64 st.1, .int .i64 st.2]) := by
          rw [Hid, stksL_succ, flat_snoc, HX.out]; rfl
        have hown4 := hown3.alloc (.cells #[.int .i64 st.1, .int .i64 st.2] 51)
        have hb4 := bel_alloc hb3 (.cells #[.int .i64 st.1, .int .i64 st.2] 51)
        have hB4 := hb4.size
        have hso : stkOr (some st) = st := rfl
        rw [hso]
        clear hx hown3 hso
        go_wp2_with (at_builtin; go_loud (refine append_oneH (w3.heap.size + 1) _ (by simp) (by rfl) (.tmp 42) (.tmp 44) 25 (by rfl) (w.heap.size) 51 _ 2 16 Try.underlying25 info_stk rfl (by decide) (by decide) (u6) _ _ (by rfl) hown4 #[.int .i64 st.1, .int .i64 st.2] (by rfl) rfl (by simp [Value.oneCell']) (by omega) hB4 ?_); intro v' w5 hown5 hgrow)
        have R1 : w5.ownsRow w.heap.size 51 2 v' (k + 1) (flat stkC (stksL ss (bareOf s) (k + 1))) := by rw [HS.out]; exact hown5
        have R2 := own_grown_below hb4 hown4 hgrow hB4
        clear hown5 hgrow hown4
        go_wp2
        go_roundw
        case rel => exact ⟨k + 1, by omega, by go_num, HN, R1, R2⟩
        case measure => simp [intOf]; omega
    · have hkl : k = (bareOf s).length := by have := HB.out.1; omega
      have OW : Hid (OwnStks wr w.heap.size u6 (stksL ss (bareOf s) k)) := by rw [Hid, OwnStks, stksL_len]; exact hown
      obtain ⟨A2, c2, hv, _, _, hseg⟩ := OW.out.form
      rw [stksL_len] at hv
      subst hv
      have HF : Hid (woOk ss s = outOk (stksL ss (bareOf s) k) ∧ woOf ss s = if outOk (stksL ss (bareOf s) k) then stksL ss (bareOf s) k else []) := by
        have := wo_full os ow (by rw [← hkl]; exact hl.out)
        rwa [← hkl] at this
      have hv3 := spec_OutlineValid (stksL ss (bareOf s) k) A2 c2 wr (hseg.mono (Nat.zero_le _) (Nat.le_refl _)) (by rw [stksL_len]; unfold maxLen; omega)
      rw [stksL_len] at hv3
      have HV3 := Lib.hid hv3
      have HK := Lib.hid hkl
      clear hv3 hown hkl
      go_wp2_with fail
      refine HV3.out.mono ?_
      rintro e w3 ⟨rfl, b3⟩
      have own5 := Lib.hid (own_belowB OW.out b3)
      have bal3 := hb.trans (b3.mono hb.size)
      cases oo : outOk (stksL ss (bareOf s) k)
      · have HJ : Hid (woOk ss s = false ∧ woOf ss s = []) := ⟨by rw [HF.out.1, oo], by rw [HF.out.2, oo]; rfl⟩
        go_wp2
        go_ret2
        exact ⟨_, by rw [HJ.out.1]; rfl, by rw [HJ.out.2]; exact own_made0 w3 _ bal3.size, bel_alloc bal3 _⟩
      · have HJ : Hid (woOk ss s = true ∧ woOf ss s = stksL ss (bareOf s) k) := ⟨by rw [HF.out.1, oo], by rw [HF.out.2, oo]; rfl⟩
        go_wp2
        go_ret2
        exact ⟨_, by rw [HJ.out.1]; rfl, by rw [HJ.out.2]; exact own5.out, bal3⟩

theorem keyB_one (b : UInt8) : keyB (oneS b) = .int .u8 (b.toNat : Int) := rfl
set_option maxRecDepth 100000 in
set_option maxHeartbeats 1000000 in
theorem impl_outline (ss : List Sgn) (s : Str) (b : Nat) (w : World) (hm : MapIs w b (ss.map ent)) (os : sysOk ss = true) (hs : s.size ≤ maxLen) :
    Calls Try.prog 27 #[.map (some b), .string s] w (GaveStks (woOf ss s) (woOk ss s) w) := by
  cases ow : wordOk s
  · have HJ : Hid (woOk ss s = false ∧ woOf ss s = []) := wo_word ow
    go_enter Try.func27, Try.ntmps27
    go_wp2_with fail
    refine (impl_WordValid _ _ hs).mono ?_
    rintro e w' ⟨rfl, rfl⟩
    rw [ow]
    go_wp2
    go_ret2
    exact ⟨.slice none 0 0, by rw [HJ.out.1]; rfl, by rw [HJ.out.2]; exact own_none _ _, Below.refl _ _⟩
  have B12 := bare_len12 ow
  have HB := Lib.hid (bareIs s)
  have HM := Lib.hid hm
  clear hm
  go_enter Try.func27, Try.ntmps27
  go_wp2_with fail
  refine (impl_WordValid _ _ hs).mono ?_
  rintro e w' ⟨rfl, rfl⟩
  rw [ow]
  go_wp2_with fail
  refine (impl_WordBare _ _ hs).mono ?_
  rintro e w1 ⟨rfl, b1⟩
  generalize (⟨(bareOf s).toArray⟩ : ByteArray) = bs at HB ⊢
  have own0 : Hid (OwnStks (w1.alloc (.cells #[] 51)) w.heap.size (.slice (some ⟨w1.heap.size, 0, none⟩) 0 0) []) := own_made0 w1 w.heap.size b1.size
  have bal2 := bel_alloc b1 (.cells #[] 51)
  have hbs : bs.size ≤ 12 := by have := HB.out.1; omega
  go_wp2
  go_loopw [7, 19] (fun v i wr => ∃ k : Nat, k ≤ bs.size ∧ i = .int .i64 k ∧ Hid (hasL ss (bareOf s) k = true) ∧ wr.ownsRow w.heap.size 51 2 v k (flat stkC (stksL ss (bareOf s) k)) ∧ Below w.heap.size w wr) (fun _ i _ => bs.size - (intOf i).toNat)
  case atStart => exact ⟨0, Nat.zero_le _, rfl, rfl, own0.out, bal2⟩
  case round =>
    obtain ⟨k, hk, rfl, hl, hown, hb⟩ := hrel
    by_cases hlt : k < bs.size
    · have hkB : Hid (k < (bareOf s).length) := by have := HB.out.1; rw [Hid]; omega
      have HB0 := Lib.hid (HB.out.2.2 k hlt)
      have hz1 : (zeroValue 51).run Try.prog wr = .ok (.agg #[.int .i64 0, .int .i64 0]) wr := by kernel_rfl
      have hmr := HM.out.below hb
      rcases map_lookup (byte_key Try.underlying5) Try.underlying57 hz1 hmr (ent_keys _) (key := keyB (oneS ((bareOf s).getD k 0))) ⟨_, rfl⟩ with ⟨hl1, miss1⟩ | ⟨p, hp, hpe, hl1⟩
      · have HJ : Hid (woOk ss s = false ∧ woOf ss s = []) := wo_miss hkB.out (strokeIn_ent os rfl miss1)
        rw [keyB_one, ← HB0.out] at hl1
        have hb4 := bel_alloc hb (.cells #[.int .i64 0, .int .i64 0] 51)
        clear hz1 hmr miss1 hown
        go_wp2
        go_ret2
        exact ⟨.slice none 0 0, by rw [HJ.out.1]; rfl, by rw [HJ.out.2]; exact own_none _ _, hb4⟩
      · obtain ⟨y, hy, rfl⟩ := List.mem_map.1 hp
        have HX : Hid (stkL ss ((bareOf s).getD k 0) = some y.2) := strokeIn_find os rfl hy hpe
        have HN : Hid (hasL ss (bareOf s) (k + 1) = true) := allTo_step hl.out (by rw [HX.out]; rfl)
        have HS : Hid (flat stkC (stksL ss (bareOf s) (k + 1)) = flat stkC (stksL ss (bareOf s) k) ++ [.int .i64 y.2.1, .int .i64 y.2.2]) := by
          rw [Hid, stksL_succ, flat_snoc, HX.out]; rfl
        rw [keyB_one, ← HB0.out] at hl1
        simp only [ent] at hl1
        have hown4 := hown.alloc (.cells #[.int .i64 y.2.1, .int .i64 y.2.2] 51)
        have hb4 := bel_alloc hb (.cells #[.int .i64 y.2.1, .int .i64 y.2.2] 51)
        have hB4 := hb4.size
        clear hz1 hmr hp hpe hown hy
        go_wp2_with (at_builtin; go_loud (refine append_oneH (wr.heap.size + 1) _ (by simp) (by rfl) (.tmp 32) (.tmp 34) 25 (by rfl) (w.heap.size) 51 _ 2 16 Try.underlying25 info_stk rfl (by decide) (by decide) (u7) _ _ (by rfl) hown4 #[.int .i64 y.2.1, .int .i64 y.2.2] (by rfl) rfl (by simp [Value.oneCell']) (by omega) hB4 ?_); intro v' w5 hown5 hgrow)
        have R1 : w5.ownsRow w.heap.size 51 2 v' (k + 1) (flat stkC (stksL ss (bareOf s) (k + 1))) := by rw [HS.out]; exact hown5
        have R2 := own_grown_below hb4 hown4 hgrow hB4
        clear hown5 hgrow hown4 hl1
        go_wp2
        go_roundw
        case rel => exact ⟨k + 1, by omega, by go_num, HN, R1, R2⟩
        case measure => simp [intOf]; omega
    · have hkl : k = (bareOf s).length := by have := HB.out.1; omega
      have OW : Hid (OwnStks wr w.heap.size u7 (stksL ss (bareOf s) k)) := by rw [Hid, OwnStks, stksL_len]; exact hown
      obtain ⟨A2, c2, hv, _, _, hseg⟩ := OW.out.form
      rw [stksL_len] at hv
      subst hv
      have HF : Hid (woOk ss s = outOk (stksL ss (bareOf s) k) ∧ woOf ss s = if outOk (stksL ss (bareOf s) k) then stksL ss (bareOf s) k else []) := by
        have := wo_full os ow (by rw [← hkl]; exact hl.out)
        rwa [← hkl] at this
      have hv3 := impl_OutlineValid (stksL ss (bareOf s) k) A2 c2 wr (hseg.mono (Nat.zero_le _) (Nat.le_refl _)) (by rw [stksL_len]; unfold maxLen; omega)
      rw [stksL_len] at hv3
      have HV3 := Lib.hid hv3
      have HK := Lib.hid hkl
      clear hv3 hown hkl
      go_wp2_with fail
      refine HV3.out.mono ?_
      rintro e w3 ⟨rfl, b3⟩
      have own5 := Lib.hid (own_belowB OW.out b3)
      have bal3 := hb.trans (b3.mono hb.size)
      cases oo : outOk (stksL ss (bareOf s) k)
      · have HJ : Hid (woOk ss s = false ∧ woOf ss s = []) := ⟨by rw [HF.out.1, oo], by rw [HF.out.2, oo]; rfl⟩
        go_wp2
        go_ret2
        exact ⟨.slice none 0 0, by rw [HJ.out.1]; rfl, by rw [HJ.out.2]; exact own_none _ _, bal3⟩
      · have HJ : Hid (woOk ss s = true ∧ woOf ss s = stksL ss (bareOf s) k) := ⟨by rw [HF.out.1, oo], by rw [HF.out.2, oo]; rfl⟩
        go_wp2
        go_ret2
        exact ⟨_, by rw [HJ.out.1]; rfl, by rw [HJ.out.2]; exact own5.out, bal3⟩

theorem impl_WordOutline (ss : List Sgn) (s : Str) (A : Option Addr) (c : Nat) (w : World) (hw : Seg w 0 w.heap.size A (flat sgnC ss)) (ho : OkSgns ss) (hn : ss.length ≤ maxLen) (hs : s.size ≤ maxLen) :
    Calls Try.prog 9 #[.slice A ss.length c, .string s] w (GaveStks (woOf ss s) (woOk ss s) w) := by
  go_enter Try.func9, Try.ntmps9
  go_wp2_with fail
  refine (impl_signsOf ss A c _ hw ho hn).mono ?_
  rintro e w1 ⟨v, rfl, hmap, b1⟩
  cases os : sysOk ss
  · have HJ : Hid (woOk ss s = false ∧ woOf ss s = []) := wo_sys os
    clear hmap
    go_wp2
    go_ret2
    exact ⟨.slice none 0 0, by rw [HJ.out.1]; rfl, by rw [HJ.out.2]; exact own_none _ _, b1⟩
  · obtain ⟨b, rfl, hb, hm⟩ := hmap os
    have HM := Lib.hid hm
    clear hmap hm
    go_wp2_with fail
    refine (impl_outline ss s b _ HM.out os hs).mono ?_
    rintro e w2 ⟨v2, rfl, own2, b2⟩
    obtain ⟨A2, c2, rfl, _, _, _⟩ := own2.form
    have OW : Hid (OwnStks w2 w.heap.size (.slice A2 (woOf ss s).length c2) (woOf ss s)) := own_mono own2 b1.size
    have bal := bel_trans b1 b2
    clear own2
    go_wp2
    go_ret2
    exact ⟨_, rfl, OW.out, bal⟩
end Go.Proofs.Ytbcbpcidfcjibaa
