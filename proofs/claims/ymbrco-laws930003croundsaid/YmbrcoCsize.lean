/-
  Ymbrco: 'zzs930003csize': an item's value length.
-/
import Derived.Test.YmbrcoQuads
import Derived.Test.YmbrcoMem
namespace Go.Proofs.Ymbrco
open Go.RowKit
set_option linter.unusedVariables false

def szI (F N : Int) : Int := if F % 3 = 0 then N % 128 else if F % 3 = 1 then 128 + N % 128 else 256 + N % 1024
def szN (F N : Int) : Nat := (szI F N).toNat
theorem szI_bounds (F N : Int) : 0 ≤ szI F N ∧ szI F N ≤ 1279 := by
  unfold szI
  repeat' split
  all_goals omega
theorem szN_cast (F N : Int) : ((szN F N : Nat) : Int) = szI F N := by
  have := (szI_bounds F N).1
  unfold szN
  omega
theorem szN_le (F N : Int) : szN F N ≤ 1279 := by
  have := (szI_bounds F N).2
  have := szN_cast F N
  omega

set_option maxRecDepth 100000 in
theorem csize_calls (t F N X : Int) (w : World) (hF : 0 ≤ F ∧ F ≤ 255) (hN : 0 ≤ N ∧ N ≤ 65535) :
    Calls Ycom.prog 28 #[.agg #[.int .u8 t, .int .u8 F, .int .u16 N, .int .u8 X]] w fun e w' => e = .returned (.int .i64 (szN F N : Nat)) ∧ Below w.heap.size w w' := by
  have HS : Hid (((szN F N : Nat) : Int) = szI F N) := szN_cast F N
  by_cases h0 : F % 3 = 0
  · have HI : Hid (szI F N = N % 128) := by show _ = _; unfold szI; rw [if_pos h0]
    have hb : (F % 3 == 0) = true := by simp [h0]
    go_enter Ycom.func28, Ycom.ntmps28
    go_wp2
    go_ret
    exact ⟨ret_int (by rw [HS.out, HI.out]), (Below.refl _ _).alloc (Nat.le_refl _) _⟩
  · have hb : (F % 3 == 0) = false := by simp [h0]
    by_cases h1 : F % 3 = 1
    · have HI : Hid (szI F N = 128 + N % 128) := by show _ = _; unfold szI; rw [if_neg h0, if_pos h1]
      have hb1 : (F % 3 == 1) = true := by simp [h1]
      clear h0 h1
      go_enter Ycom.func28, Ycom.ntmps28
      go_wp2
      go_ret
      exact ⟨ret_int (by rw [HS.out, HI.out]), (Below.refl _ _).alloc (Nat.le_refl _) _⟩
    · have HI : Hid (szI F N = 256 + N % 1024) := by show _ = _; unfold szI; rw [if_neg h0, if_neg h1]
      have hb1 : (F % 3 == 1) = false := by simp [h1]
      clear h0 h1
      go_enter Ycom.func28, Ycom.ntmps28
      go_wp2
      go_ret
      exact ⟨ret_int (by rw [HS.out, HI.out]), (Below.refl _ _).alloc (Nat.le_refl _) _⟩
end Go.Proofs.Ymbrco
