/-
  Ymbrcq: 'zzs930003llen' gives some length up to 131069.
-/
import Derived.Test.YmbrcqBase
namespace Go.Proofs.Ymbrcq
open Go.RowKit
set_option linter.unusedVariables false

set_option maxRecDepth 100000 in
theorem llen_calls (e o : Int) (w : World) (he : 0 ≤ e ∧ e ≤ 255) (ho : 0 ≤ o ∧ o ≤ 65535) :
    Calls Ycqm.prog 23 #[.int .u8 e, .int .u16 o] w fun r w' => ∃ n : Nat, r = .returned (.int .i64 n) ∧ n ≤ 131069 ∧ w' = w := by
  obtain ⟨o, rfl⟩ := Int.eq_ofNat_of_zero_le ho.1
  go_enter Ycqm.func23, Ycqm.ntmps23
  go_wp2
  all_goals
    go_ret
    first
      | (refine ⟨o, ret_int ?_, ?_, rfl⟩ <;> omega)
      | (refine ⟨o + 126, ret_int ?_, ?_, rfl⟩ <;> omega)
      | (refine ⟨o + 254, ret_int ?_, ?_, rfl⟩ <;> omega)
      | (refine ⟨o + 65534, ret_int ?_, ?_, rfl⟩ <;> omega)
end Go.Proofs.Ymbrcq
