/-
  Ymbrcp: 'zzs930003fwire': the wire size of a value.
-/
import Derived.Test.YmbrcpSums
namespace Go.Proofs.Ymbrcp
open Go.RowKit
set_option linter.unusedVariables false

set_option maxRecDepth 100000 in
theorem fwire_calls (n : Nat) (w : World) (hn : n ≤ 65535) :
    Calls Ycpm.prog 19 #[.int .i64 n] w fun e w' => e = .returned (.int .i64 (wire n)) ∧ w' = w := by
  by_cases h1 : n < 128
  · have HE : Hid (Ending.returned (.int .i64 ((n : Int) + 2)) = .returned (.int .i64 (wire n))) := by rw [show (wire n : Int) = (n : Int) + 2 by simp [wire, h1]]; rfl
    go_enter Ycpm.func19, Ycpm.ntmps19
    go_wp2
    go_ret
    exact ⟨(ret_int (by omega)).trans HE.out, rfl⟩
  by_cases h2 : n < 256
  · have HE : Hid (Ending.returned (.int .i64 ((n : Int) + 3)) = .returned (.int .i64 (wire n))) := by rw [show (wire n : Int) = (n : Int) + 3 by simp [wire, h1, h2]]; rfl
    go_enter Ycpm.func19, Ycpm.ntmps19
    go_wp2
    go_ret
    exact ⟨(ret_int (by omega)).trans HE.out, rfl⟩
  · have HE : Hid (Ending.returned (.int .i64 ((n : Int) + 4)) = .returned (.int .i64 (wire n))) := by rw [show (wire n : Int) = (n : Int) + 4 by simp [wire, h1, h2]]; rfl
    go_enter Ycpm.func19, Ycpm.ntmps19
    go_wp2
    go_ret
    exact ⟨(ret_int (by omega)).trans HE.out, rfl⟩
end Go.Proofs.Ymbrcp
