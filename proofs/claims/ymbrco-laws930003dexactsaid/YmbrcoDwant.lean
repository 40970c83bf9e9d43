/-
  Ymbrco: 'zzs930003dwant' computes what 'Span' computes.
-/
import Derived.Test.YmbrcoSpan
namespace Go.Proofs.Ymbrco
open Go.RowKit

set_option maxHeartbeats 2000000 in
theorem dwant_calls (a : Option Addr) (n c : Nat) (z : Nat → Int) (pos : Int) (w : World) (hn : n ≤ c) (hcap : c ≤ 9223372036854775807) (hz : IsByte z) (ha : BytesAt w a n z) (hp0 : -9223372036854775808 ≤ pos) (hp1 : pos ≤ 9223372036854775807) :
    Calls Ycom.prog 30 #[.slice a n c, .int .i64 pos] w fun e w' => e = .returned (tri (span z n pos)) ∧ w' = w := by
  by_cases h0 : pos < 0
  · have HE : Hid (Ending.returned (.tuple #[.int .i64 pos, .int .i64 pos, .int .i64 1]) = .returned (tri (span z n pos))) := tri_of (span_out z n pos (.inl h0))
    go_enter Ycom.func30, Ycom.ntmps30
    go_wp2
    go_ret3
    exact ⟨HE.out, rfl⟩
  by_cases h1 : (n : Int) ≤ pos
  · have HE : Hid (Ending.returned (.tuple #[.int .i64 pos, .int .i64 pos, .int .i64 1]) = .returned (tri (span z n pos))) := tri_of (span_out z n pos (.inr h1))
    go_enter Ycom.func30, Ycom.ntmps30
    go_wp2
    go_ret3
    exact ⟨HE.out, rfl⟩
  obtain ⟨p, rfl⟩ := Int.eq_ofNat_of_zero_le (show 0 ≤ pos by omega)
  obtain ⟨b, off, rfl, hc⟩ := ha (by omega)
  by_cases hq : n ≤ p + 1
  · have HE : Hid (Ending.returned (.tuple #[.int .i64 (p : Int), .int .i64 (p : Int), .int .i64 1]) = .returned (tri (span z n p))) := tri_of (span_end z n p (by omega) hq)
    have hq2 : n - (p + 1) = 0 := by omega
    have hq3 : ((n : Int) - ((p : Int) + 1) == 0) = true := by simp; omega
    by_cases hcc : c = p + 1
    all_goals
      go_enter Ycom.func30, Ycom.ntmps30
      go_wp2
      go_ret3
      exact ⟨HE.out, rfl⟩
  have hs := span_at z n p (by omega)
  have c0 : w.cell? ⟨b, off + (p + 1), none⟩ = some (.int .u8 (z (p + 1))) := hc (p + 1) (by omega)
  have z0 := hz (p + 1)
  have hne : ¬ c = p + 1 := by omega
  by_cases h2 : z (p + 1) < 128
  · rw [if_pos h2] at hs
    by_cases h3 : (n : Int) < (p : Int) + 2 + z (p + 1)
    · rw [if_pos h3] at hs
      have HE : Hid (Ending.returned (.tuple #[.int .i64 (p : Int), .int .i64 (p : Int), .int .i64 1]) = .returned (tri (span z n p))) := tri_of hs
      clear hs hc hz ha
      go_enter Ycom.func30, Ycom.ntmps30
      go_wp2
      go_ret3
      exact ⟨HE.out, rfl⟩
    · rw [if_neg h3] at hs
      have HE : Hid (Ending.returned (.tuple #[.int .i64 ((p : Int) + 2), .int .i64 ((p : Int) + 2 + z (p + 1)), .int .i64 0]) = .returned (tri (span z n p))) := tri_of hs
      clear hs hc hz ha
      go_enter Ycom.func30, Ycom.ntmps30
      go_wp2
      go_ret3
      exact ⟨HE.out, rfl⟩
  rw [if_neg h2] at hs
  by_cases h129 : z (p + 1) = 129
  · rw [if_pos h129] at hs
    have e1 : (z (p + 1) == 129) = true := by simpa using h129
    clear h129
    by_cases h4 : n < p + 3
    · rw [if_pos h4] at hs
      have HE : Hid (Ending.returned (.tuple #[.int .i64 (p : Int), .int .i64 (p : Int), .int .i64 1]) = .returned (tri (span z n p))) := tri_of hs
      clear hs hc hz ha
      go_enter Ycom.func30, Ycom.ntmps30
      go_wp2
      go_ret3
      exact ⟨HE.out, rfl⟩
    rw [if_neg h4] at hs
    have c1 : w.cell? ⟨b, off + (p + 1) + 1, none⟩ = some (.int .u8 (z (p + 2))) := hc (p + 2) (by omega)
    have z1 := hz (p + 2)
    by_cases h5 : z (p + 2) < 128
    · rw [if_pos h5] at hs
      have HE : Hid (Ending.returned (.tuple #[.int .i64 (p : Int), .int .i64 (p : Int), .int .i64 2]) = .returned (tri (span z n p))) := tri_of hs
      clear hs hc hz ha
      go_enter Ycom.func30, Ycom.ntmps30
      go_wp2
      refine wp_loop_rounds 2 ?_
      rw [rounds_succ]
      go_wp2
      rw [rounds_succ]
      go_wp2
      go_ret3
      exact ⟨HE.out, rfl⟩
    rw [if_neg h5] at hs
    by_cases h3 : (n : Int) < (p : Int) + 3 + z (p + 2)
    · rw [if_pos h3] at hs
      have HE : Hid (Ending.returned (.tuple #[.int .i64 (p : Int), .int .i64 (p : Int), .int .i64 1]) = .returned (tri (span z n p))) := tri_of hs
      clear hs hc hz ha
      go_enter Ycom.func30, Ycom.ntmps30
      go_wp2
      refine wp_loop_rounds 2 ?_
      rw [rounds_succ]
      go_wp2
      rw [rounds_succ]
      go_wp2
      go_ret3
      exact ⟨HE.out, rfl⟩
    · rw [if_neg h3] at hs
      have HE : Hid (Ending.returned (.tuple #[.int .i64 ((p : Int) + 3), .int .i64 ((p : Int) + 3 + z (p + 2)), .int .i64 0]) = .returned (tri (span z n p))) := tri_of hs
      clear hs hc hz ha
      go_enter Ycom.func30, Ycom.ntmps30
      go_wp2
      refine wp_loop_rounds 2 ?_
      rw [rounds_succ]
      go_wp2
      rw [rounds_succ]
      go_wp2
      go_ret3
      exact ⟨HE.out, rfl⟩
  rw [if_neg h129] at hs
  have e1 : (z (p + 1) == 129) = false := by simpa using h129
  by_cases h130 : z (p + 1) = 130
  · rw [if_pos h130] at hs
    have e2 : (z (p + 1) == 130) = true := by simpa using h130
    clear h130 h129
    by_cases h4 : n < p + 4
    · rw [if_pos h4] at hs
      have HE : Hid (Ending.returned (.tuple #[.int .i64 (p : Int), .int .i64 (p : Int), .int .i64 1]) = .returned (tri (span z n p))) := tri_of hs
      clear hs hc hz ha
      go_enter Ycom.func30, Ycom.ntmps30
      go_wp2
      go_ret3
      exact ⟨HE.out, rfl⟩
    rw [if_neg h4] at hs
    have c1 : w.cell? ⟨b, off + (p + 1) + 1, none⟩ = some (.int .u8 (z (p + 2))) := hc (p + 2) (by omega)
    have c2 : w.cell? ⟨b, off + (p + 1) + 2, none⟩ = some (.int .u8 (z (p + 3))) := hc (p + 3) (by omega)
    have z1 := hz (p + 2)
    have z2 := hz (p + 3)
    by_cases h5 : z (p + 2) * 256 + z (p + 3) < 256
    · rw [if_pos h5] at hs
      have HE : Hid (Ending.returned (.tuple #[.int .i64 (p : Int), .int .i64 (p : Int), .int .i64 2]) = .returned (tri (span z n p))) := tri_of hs
      clear hs hc hz ha
      go_enter Ycom.func30, Ycom.ntmps30
      go_wp2
      refine wp_loop_rounds 3 ?_
      rw [rounds_succ]
      go_wp2
      rw [rounds_succ]
      go_wp2
      rw [rounds_succ]
      go_wp2
      go_ret3
      exact ⟨HE.out, rfl⟩
    rw [if_neg h5] at hs
    by_cases h3 : (n : Int) < (p : Int) + 4 + (z (p + 2) * 256 + z (p + 3))
    · rw [if_pos h3] at hs
      have HE : Hid (Ending.returned (.tuple #[.int .i64 (p : Int), .int .i64 (p : Int), .int .i64 1]) = .returned (tri (span z n p))) := tri_of hs
      clear hs hc hz ha
      go_enter Ycom.func30, Ycom.ntmps30
      go_wp2
      refine wp_loop_rounds 3 ?_
      rw [rounds_succ]
      go_wp2
      rw [rounds_succ]
      go_wp2
      rw [rounds_succ]
      go_wp2
      go_ret3
      exact ⟨HE.out, rfl⟩
    · rw [if_neg h3] at hs
      have HE : Hid (Ending.returned (.tuple #[.int .i64 ((p : Int) + 4), .int .i64 ((p : Int) + 4 + (z (p + 2) * 256 + z (p + 3))), .int .i64 0]) = .returned (tri (span z n p))) := tri_of hs
      clear hs hc hz ha
      go_enter Ycom.func30, Ycom.ntmps30
      go_wp2
      refine wp_loop_rounds 3 ?_
      rw [rounds_succ]
      go_wp2
      rw [rounds_succ]
      go_wp2
      rw [rounds_succ]
      go_wp2
      go_ret3
      exact ⟨HE.out, rfl⟩
  · rw [if_neg h130] at hs
    have e2 : (z (p + 1) == 130) = false := by simpa using h130
    have HE : Hid (Ending.returned (.tuple #[.int .i64 (p : Int), .int .i64 (p : Int), .int .i64 2]) = .returned (tri (span z n p))) := tri_of hs
    clear hs hc hz ha h130 h129
    go_enter Ycom.func30, Ycom.ntmps30
    go_wp2
    go_ret3
    exact ⟨HE.out, rfl⟩
end Go.Proofs.Ymbrco
