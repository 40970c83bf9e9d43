/-
  Ymbrco: the walk of 'LawS930003DExact'.
-/
import Derived.Test.YmbrcoDwant
namespace Go.Proofs.Ymbrco.lawS930003DExact
open Go.RowKit Go.Proofs.Ymbrco

set_option maxHeartbeats 400000 in
theorem walk (a : Option Addr) (n c : Nat) (z : Nat → Int) (pos : Int) (w : World) (hl : n ≤ c) (hc : c ≤ 9223372036854775807) (_hn : a = none → n = 0 ∧ c = 0) (hz : IsByte z ∧ BytesAt w a n z) (hp : -9223372036854775808 ≤ pos ∧ pos ≤ 9223372036854775807) :
    Calls Ycom.prog 12 #[.slice a n c, .int .i64 pos] w fun e w' => e = .returned (.bool true) ∧ Below w.heap.size w w' := by
  obtain ⟨hz1, hz2⟩ := hz
  have H1 : Hid (Calls Ycom.prog 29 #[.slice a n c, .int .i64 pos] w fun e w' => e = .returned (tri (span z n pos)) ∧ ∃ k, w' = w.drewN k) := span_calls a n c z pos w (by omega) hz1 hz2 hp.1 hp.2
  have H2 : Hid (∀ k, Calls Ycom.prog 30 #[.slice a n c, .int .i64 pos] (w.drewN k) fun e w' => e = .returned (tri (span z n pos)) ∧ w' = w.drewN k) := fun k => dwant_calls a n c z pos _ hl hc hz1 (hz2.below (below_drewN w k)) hp.1 hp.2
  clear hz1 hz2 _hn hp
  generalize span z n pos = s at *
  obtain ⟨s1, s2, s3⟩ := s
  go_enter Ycom.func12, Ycom.ntmps12
  go_wp2_with fail
  refine H1.out.mono ?_
  rintro e w' ⟨rfl, k, rfl⟩
  unfold tri
  go_wp2_with fail
  refine (H2.out k).mono ?_
  rintro e w' ⟨rfl, rfl⟩
  unfold tri
  go_wp2
  go_ret
  exact ⟨rfl, below_drewN w k⟩
end Go.Proofs.Ymbrco.lawS930003DExact
