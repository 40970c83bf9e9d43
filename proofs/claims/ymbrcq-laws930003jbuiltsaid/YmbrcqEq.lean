/-
  Ymbrcq: the comparison of two byte slices answers true where both hold the same bytes.
-/
import Derived.Test.YmbrcqBase
import Derived.WalkSpells
namespace Go.Proofs.Ymbrcq
open Go.RowKit
set_option linter.unusedVariables false

theorem neqB_nil (w : World) (a : Option Addr) (l c : Nat) : (binOp .neq 23 (.slice a l c) (.slice none 0 0)).run Ycqm.prog w = .ok (.bool (!a.isNone)) w := run_neq_slice_nil_any w 23 5 a l c 0 0 Ycqm.underlying23

set_option maxHeartbeats 1000000 in
theorem eq_calls (a1 a2 : Option Addr) (n n2 c1 c2 : Nat) (z : Nat → Int) (w : World) (hn : n ≤ 9223372036854775807) (hn2 : n2 = n) (h1 : BytesAt w a1 n z) (h2 : BytesAt w a2 n z) :
    Calls Ycqm.prog 18 #[.slice a1 n c1, .slice a2 n2 c2] w fun e w' => e = .returned (.bool true) ∧ ∃ d, w' = w.drewN d := by
  subst hn2
  have H1 : Hid (BytesAt w a1 n2 z) := h1
  have H2 : Hid (BytesAt w a2 n2 z) := h2
  clear h1 h2
  go_enter Ycqm.func18, Ycqm.ntmps18
  go_wp2
  go_loopw [5] (fun i wr => ∃ k d : Nat, k ≤ n2 ∧ i = .int .i64 k ∧ wr = w.drewN d) (fun i _ => n2 - (intOf i).toNat)
  case atStart => exact ⟨0, 0, Nat.zero_le _, rfl, rfl⟩
  case round =>
    obtain ⟨k, d, hk, rfl, rfl⟩ := hrel
    by_cases hlt : k < n2
    · obtain ⟨b1, o1, rfl, hc1⟩ := H1.out (by omega)
      obtain ⟨b2, o2, rfl, hc2⟩ := H2.out (by omega)
      have g1 : w.cell? ⟨b1, o1 + k, none⟩ = some (.int .u8 (z k)) := hc1 k hlt
      have g2 : w.cell? ⟨b2, o2 + k, none⟩ = some (.int .u8 (z k)) := hc2 k hlt
      have hl : (k : Int) < (n2 : Int) := by omega
      clear hc1 hc2
      go_wp2
      go_quiet (fail)
      go_wp2
      go_roundw
      case rel => exact ⟨k + 1, _, by omega, by go_num, rfl⟩
      case measure => simp [intOf] <;> omega
    · go_wp2
      go_ret
      exact ⟨rfl, d, rfl⟩
end Go.Proofs.Ymbrcq
