/-
  Ymbrcp: the walk of 'LawS930003HWire'.
-/
import Derived.Test.YmbrcpHwalk
namespace Go.Proofs.Ymbrcp.lawS930003HWire
open Go.RowKit Go.Proofs.Ymbrcp
set_option linter.unusedVariables false

theorem walk (a : Option Addr) (n c : Nat) (r : Recs) (w : World) (hl : n ≤ c) (hc : c ≤ 9223372036854775807) (_hn : a = none → n = 0 ∧ c = 0) (hz : RecsOk n r ∧ RecsAt w a n r ∧ ValsAt w n r) :
    Calls Ycpm.prog 12 #[.slice a n c] w fun e w' => e = .returned (.bool true) ∧ Below w.heap.size w w' := by
  obtain ⟨hok, ha, hv⟩ := hz
  have HC : Hid (Calls Ycpm.prog 25 #[.slice a n c] w fun e w' => e = .returned (.bool true) ∧ Below w.heap.size w w') := hwire_calls a n c r w (by omega) hok ha hv
  clear hok ha hv
  go_enter Ycpm.func12, Ycpm.ntmps12
  go_wp2_with (go_at_call 25; refine HC.out.mono ?_; rintro e w1 ⟨rfl, hb⟩; have HB := (show Hid _ from hb); clear hb)
  go_ret
  exact ⟨rfl, HB.out⟩
end Go.Proofs.Ymbrcp.lawS930003HWire
