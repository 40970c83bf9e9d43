/-
  Ymbrcp: 'zzs930003gmodel' computes where the value lies, or the code, as 'Span' has it.
-/
import Derived.Test.YmbrcpSpan
namespace Go.Proofs.Ymbrcp
open Go.RowKit
set_option linter.unusedVariables false

/-- From 'Span''s answer: where the value lies and how long it is; or the code alone. -/
def gm (s : Int × Int × Int) : Int × Int × Int := if s.2.2 = 0 then (s.1, s.2.1 - s.1, 0) else (0, 0, s.2.2)

theorem wraps_i64 (n : Int) (h₀ : 0 ≤ n) (h₁ : n < 2 ^ 62) : IntKind.i64.wrap n = n := by rw [IntKind.wrap_i64]; omega
theorem or_byte (x y : Int) (hx : 0 ≤ x ∧ x ≤ 255) (hy : 0 ≤ y ∧ y ≤ 255) : bits .or .i64 (x * 256) y = x * 256 + y :=
  bits_join .i64 62 (by decide) wraps_i64 8 (x * 256) y (by omega) (by omega) (by omega) (by omega) (by omega) (by omega)
theorem or_zero (y : Int) (hy : 0 ≤ y ∧ y ≤ 255) : bits .or .i64 0 y = y := by
  have := or_byte 0 y (by omega) hy
  simpa using this

set_option maxRecDepth 100000 in
set_option maxHeartbeats 4000000 in
theorem gmodel_calls (a : Option Addr) (n c : Nat) (z : Nat → Int) (pos : Int) (w : World) (hn : n ≤ c) (hcap : c ≤ 9223372036854775807) (hz : IsByte z) (ha : BytesAt w a n z) (hp0 : -9223372036854775808 ≤ pos) (hp1 : pos ≤ 9223372036854775807) :
    Calls Ycpm.prog 20 #[.slice a n c, .int .i64 pos] w fun e w' => e = .returned (tri (gm (span z n pos))) ∧ w' = w := by
  by_cases h0 : pos < 0
  · have HE : Hid (Ending.returned (.tuple #[.int .i64 0, .int .i64 0, .int .i64 1]) = .returned (tri (gm (span z n pos)))) := tri_of (by rw [span_out z n pos (.inl h0)]; simp [gm])
    go_enter Ycpm.func20, Ycpm.ntmps20
    go_wp2
    go_ret3
    exact ⟨HE.out, rfl⟩
  by_cases h1 : (n : Int) ≤ pos
  · have HE : Hid (Ending.returned (.tuple #[.int .i64 0, .int .i64 0, .int .i64 1]) = .returned (tri (gm (span z n pos)))) := tri_of (by rw [span_out z n pos (.inr h1)]; simp [gm])
    go_enter Ycpm.func20, Ycpm.ntmps20
    go_wp2
    go_ret3
    exact ⟨HE.out, rfl⟩
  obtain ⟨p, rfl⟩ := Int.eq_ofNat_of_zero_le (show 0 ≤ pos by omega)
  obtain ⟨b, off, rfl, hc⟩ := ha (by omega)
  by_cases hq : n ≤ p + 1
  · have HE : Hid (Ending.returned (.tuple #[.int .i64 0, .int .i64 0, .int .i64 1]) = .returned (tri (gm (span z n p)))) := tri_of (by rw [span_end z n p (by omega) hq]; simp [gm])
    have hq2 : n - (p + 1) = 0 := by omega
    have hq3 : ((n : Int) - ((p : Int) + 1) == 0) = true := by simp; omega
    by_cases hcc : c = p + 1
    all_goals
      go_enter Ycpm.func20, Ycpm.ntmps20
      go_wp2
      go_ret3
      exact ⟨HE.out, rfl⟩
  have hs := span_at z n p (by omega)
  have c0 : w.cell? ⟨b, off + (p + 1), none⟩ = some (.int .u8 (z (p + 1))) := hc (p + 1) (by omega)
  have z0 := hz (p + 1)
  have hne : ¬ c = p + 1 := by omega
  by_cases h2 : z (p + 1) < 128
  · rw [if_pos h2] at hs
    by_cases h3 : (n : Int) < (p : Int) + 2 + z (p + 1)
    · rw [if_pos h3] at hs
      have HE : Hid (Ending.returned (.tuple #[.int .i64 (0), .int .i64 (0), .int .i64 1]) = .returned (tri (gm (span z n p)))) := tri_of (by rw [hs]; simp [gm] <;> omega)
      clear hs hc hz ha
      go_enter Ycpm.func20, Ycpm.ntmps20
      go_wp2
      go_ret3
      exact ⟨HE.out, rfl⟩
    · rw [if_neg h3] at hs
      have HE : Hid (Ending.returned (.tuple #[.int .i64 ((p : Int) + 2), .int .i64 (z (p + 1)), .int .i64 0]) = .returned (tri (gm (span z n p)))) := tri_of (by rw [hs]; simp [gm] <;> omega)
      clear hs hc hz ha
      go_enter Ycpm.func20, Ycpm.ntmps20
      go_wp2
      go_ret3
      exact ⟨HE.out, rfl⟩
  rw [if_neg h2] at hs
  by_cases h129 : z (p + 1) = 129
  · rw [if_pos h129] at hs
    rw [h129] at c0
    clear h129 h2 z0
    by_cases h4 : n < p + 3
    · rw [if_pos h4] at hs
      have HE : Hid (Ending.returned (.tuple #[.int .i64 (0), .int .i64 (0), .int .i64 1]) = .returned (tri (gm (span z n p)))) := tri_of (by rw [hs]; simp [gm] <;> omega)
      clear hs hc hz ha
      go_enter Ycpm.func20, Ycpm.ntmps20
      go_wp2
      go_ret3
      exact ⟨HE.out, rfl⟩
    rw [if_neg h4] at hs
    have c1 : w.cell? ⟨b, off + (p + 1) + 1, none⟩ = some (.int .u8 (z (p + 2))) := hc (p + 2) (by omega)
    have z1 := hz (p + 2)
    have o1 := or_zero (z (p + 2)) z1
    by_cases h5 : z (p + 2) < 128
    · rw [if_pos h5] at hs
      have HE : Hid (Ending.returned (.tuple #[.int .i64 (0), .int .i64 (0), .int .i64 2]) = .returned (tri (gm (span z n p)))) := tri_of (by rw [hs]; simp [gm] <;> omega)
      clear hs hc hz ha
      go_enter Ycpm.func20, Ycpm.ntmps20
      go_wp2
      refine wp_loop_rounds 2 ?_
      rw [rounds_succ]
      go_wp2
      rw [rounds_succ]
      go_wp2
      go_ret3
      exact ⟨HE.out, rfl⟩
    rw [if_neg h5] at hs
    by_cases h3 : (n : Int) < (p : Int) + 3 + z (p + 2)
    · rw [if_pos h3] at hs
      have HE : Hid (Ending.returned (.tuple #[.int .i64 (0), .int .i64 (0), .int .i64 1]) = .returned (tri (gm (span z n p)))) := tri_of (by rw [hs]; simp [gm] <;> omega)
      clear hs hc hz ha
      go_enter Ycpm.func20, Ycpm.ntmps20
      go_wp2
      refine wp_loop_rounds 2 ?_
      rw [rounds_succ]
      go_wp2
      rw [rounds_succ]
      go_wp2
      go_ret3
      exact ⟨HE.out, rfl⟩
    · rw [if_neg h3] at hs
      have HE : Hid (Ending.returned (.tuple #[.int .i64 ((p : Int) + 3), .int .i64 (z (p + 2)), .int .i64 0]) = .returned (tri (gm (span z n p)))) := tri_of (by rw [hs]; simp [gm] <;> omega)
      clear hs hc hz ha
      go_enter Ycpm.func20, Ycpm.ntmps20
      go_wp2
      refine wp_loop_rounds 2 ?_
      rw [rounds_succ]
      go_wp2
      rw [rounds_succ]
      go_wp2
      go_ret3
      exact ⟨HE.out, rfl⟩
  rw [if_neg h129] at hs
  by_cases h130 : z (p + 1) = 130
  · rw [if_pos h130] at hs
    rw [h130] at c0
    clear h130 h129 h2 z0
    by_cases h4 : n < p + 4
    · rw [if_pos h4] at hs
      have HE : Hid (Ending.returned (.tuple #[.int .i64 (0), .int .i64 (0), .int .i64 1]) = .returned (tri (gm (span z n p)))) := tri_of (by rw [hs]; simp [gm] <;> omega)
      clear hs hc hz ha
      go_enter Ycpm.func20, Ycpm.ntmps20
      go_wp2
      go_ret3
      exact ⟨HE.out, rfl⟩
    rw [if_neg h4] at hs
    have c1 : w.cell? ⟨b, off + (p + 1) + 1, none⟩ = some (.int .u8 (z (p + 2))) := hc (p + 2) (by omega)
    have c2 : w.cell? ⟨b, off + (p + 1) + 2, none⟩ = some (.int .u8 (z (p + 3))) := hc (p + 3) (by omega)
    have z1 := hz (p + 2)
    have z2 := hz (p + 3)
    have o1 := or_zero (z (p + 2)) z1
    have o2 := or_byte (z (p + 2)) (z (p + 3)) z1 z2
    by_cases h5 : z (p + 2) * 256 + z (p + 3) < 256
    · rw [if_pos h5] at hs
      have HE : Hid (Ending.returned (.tuple #[.int .i64 (0), .int .i64 (0), .int .i64 2]) = .returned (tri (gm (span z n p)))) := tri_of (by rw [hs]; simp [gm] <;> omega)
      clear hs hc hz ha
      go_enter Ycpm.func20, Ycpm.ntmps20
      go_wp2
      refine wp_loop_rounds 3 ?_
      rw [rounds_succ]
      go_wp2
      rw [rounds_succ]
      go_wp2
      rw [rounds_succ]
      go_wp2
      go_ret3
      exact ⟨HE.out, rfl⟩
    rw [if_neg h5] at hs
    by_cases h3 : (n : Int) < (p : Int) + 4 + (z (p + 2) * 256 + z (p + 3))
    · rw [if_pos h3] at hs
      have HE : Hid (Ending.returned (.tuple #[.int .i64 (0), .int .i64 (0), .int .i64 1]) = .returned (tri (gm (span z n p)))) := tri_of (by rw [hs]; simp [gm] <;> omega)
      clear hs hc hz ha
      go_enter Ycpm.func20, Ycpm.ntmps20
      go_wp2
      refine wp_loop_rounds 3 ?_
      rw [rounds_succ]
      go_wp2
      rw [rounds_succ]
      go_wp2
      rw [rounds_succ]
      go_wp2
      go_ret3
      exact ⟨HE.out, rfl⟩
    · rw [if_neg h3] at hs
      have HE : Hid (Ending.returned (.tuple #[.int .i64 ((p : Int) + 4), .int .i64 (z (p + 2) * 256 + z (p + 3)), .int .i64 0]) = .returned (tri (gm (span z n p)))) := tri_of (by rw [hs]; simp [gm] <;> omega)
      clear hs hc hz ha
      go_enter Ycpm.func20, Ycpm.ntmps20
      go_wp2
      refine wp_loop_rounds 3 ?_
      rw [rounds_succ]
      go_wp2
      rw [rounds_succ]
      go_wp2
      rw [rounds_succ]
      go_wp2
      go_ret3
      exact ⟨HE.out, rfl⟩
  · rw [if_neg h130] at hs
    by_cases hg : 130 < z (p + 1)
    · have HE : Hid (Ending.returned (.tuple #[.int .i64 0, .int .i64 0, .int .i64 2]) = .returned (tri (gm (span z n p)))) := tri_of (by rw [hs]; simp [gm])
      clear hs hc hz ha h129 h130
      go_enter Ycpm.func20, Ycpm.ntmps20
      go_wp2
      go_ret3
      exact ⟨HE.out, rfl⟩
    · have HE : Hid (Ending.returned (.tuple #[.int .i64 0, .int .i64 0, .int .i64 2]) = .returned (tri (gm (span z n p)))) := tri_of (by rw [hs]; simp [gm])
      have h128 : z (p + 1) = 128 := by omega
      rw [h128] at c0
      clear hs hc hz ha h129 h130 h128 hg z0 h2
      go_enter Ycpm.func20, Ycpm.ntmps20
      go_wp2
      go_ret3
      exact ⟨HE.out, rfl⟩
end Go.Proofs.Ymbrcp
