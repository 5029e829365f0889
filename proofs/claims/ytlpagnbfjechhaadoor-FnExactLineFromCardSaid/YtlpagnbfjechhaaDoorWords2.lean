/-
  Contracts of the vowels, WordVowels, WordBare, WordPosition (both texts).
-/
import Derived.Test.YtlpagnbfjechhaaDoorMem
import Derived.Test.YtlpagnbfjechhaaDoorWords1
import Derived.Lib.Bytealg
import Derived.Deep.QuietTactic
import Derived.BigQuiet
namespace Go.Proofs.YtlpagnbfjechhaaDoor
open Go.RowKit
set_option linter.unusedSimpArgs false
set_option linter.unusedVariables false

theorem idx_vowels (c : UInt8) : decide (0 ≤ Lib.indexByte [97, 101, 105, 111, 117] c) = vowel c := by
  have : ∀ n : Fin 256, decide (0 ≤ Lib.indexByte [97, 101, 105, 111, 117] (UInt8.ofNat n.1)) = vowel (UInt8.ofNat n.1) := by decide +kernel
  have h := this ⟨c.toNat, c.toNat_lt⟩
  simpa using h

set_option maxRecDepth 100000 in
set_option maxHeartbeats 400000 in
theorem strings_IndexByte (s : ByteArray) (c : Int) (w : World) :
    Calls Tryd.prog 18 #[.string s, .int .u8 c] w fun e w' => e = .returned (.int .i64 (Lib.indexByte s.data.toList c.toNat.toUInt8)) ∧ w = w' := by
  go_enter Tryd.func18, Tryd.ntmps18
  go_wp2
  rw [run_callFunc_extern Tryd.func32 (by kernel_rfl) (by kernel_rfl) (by kernel_rfl) (e := Extern.BytealgIndexByte.indexByte) (by kernel_rfl), Lib.run_indexByteString]
  simp only [Result.andThen]
  rw [Oper.upon_value]
  go_wp2
  go_ret
  exact ⟨rfl, rfl⟩

theorem vowel_cases (c : UInt8) : vowel c = (decide ((c.toNat : Int) = 97) || decide ((c.toNat : Int) = 101) || decide ((c.toNat : Int) = 105) || decide ((c.toNat : Int) = 111) || decide ((c.toNat : Int) = 117)) := by
  unfold vowel
  rw [Bool.eq_iff_iff]
  simp [← UInt8.toNat_inj]
  omega

theorem info_u8 : (Tryd.prog.info? 5).map (fun i => (i.zero, i.size, i.bytes)) = some (some (.int .u8 0), 1, 1) := by kernel_rfl

theorem bare_vowel {s : ByteArray} {k : Nat} (h : vowel (byteAt s k) = true) : bareAt s k = false := by simp [bareAt, h]

end Go.Proofs.YtlpagnbfjechhaaDoor
