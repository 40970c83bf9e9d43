/-
  Ymbrcp: the helpers of the E laws: 'zzs930003esame', 'zzs930003erank', 'Sort'.
-/
import Derived.Test.YmbrcpMem
import Derived.LaidEqlPtr
namespace Go.Proofs.Ymbrcp
open Go.RowKit
set_option linter.unusedVariables false

set_option maxRecDepth 100000 in
set_option maxHeartbeats 1000000 in
/-- One and the same record is the same. -/
theorem esame_calls (t : Int) (a : Option Addr) (m c1 c2 : Nat) (w : World) (hm : m ≤ 9223372036854775807) (ha : 0 < m → ∃ b off, a = some ⟨b, off, none⟩) :
    Calls Ycpm.prog 16 #[.agg #[.int .u8 t, .slice a m c1], .agg #[.int .u8 t, .slice a m c2]] w fun e w' => e = .returned (.bool true) ∧ Below w.heap.size w w' := by
  have hq := eqlB_nil
  by_cases h0 : m = 0
  · subst h0
    clear ha
    go_enter Ycpm.func16, Ycpm.ntmps16
    go_wp2
    go_quiet (fail)
    go_wp2
    go_ret
    exact ⟨rfl, (((Below.refl _ _).alloc (Nat.le_refl _) _).alloc (by simp) _).trans ((below_drewN _ _).mono (by simp; omega))⟩
  · obtain ⟨b, off, rfl⟩ := ha (by omega)
    have h1 : ((m : Int) == 0) = false := by simp; omega
    have hp : 0 < m := by omega
    obtain ⟨i5, hi5, _⟩ := info_parts Ycpm.info5
    have hpp : ∀ (w : World) (ad : Addr), (binOp .eql 56 (.pointer (some ad)) (.pointer (some ad))).run Ycpm.prog w = .ok (.bool true) w := fun w ad => run_eql_ptr_same w ad Ycpm.underlying56 hi5
    clear hi5
    have hp2 : (0 : Int) < (m : Int) := by omega
    go_enter Ycpm.func16, Ycpm.ntmps16
    go_wp2
    go_quiet (fail)
    go_wp2
    go_ret
    exact ⟨rfl, (((Below.refl _ _).alloc (Nat.le_refl _) _).alloc (by simp) _).trans ((below_drewN _ _).mono (by simp; omega))⟩
end Go.Proofs.Ymbrcp
