/-
  Ymbrco: the walk of 'LawS930003DShift': what lies before pos has no say.
-/
import Derived.Test.YmbrcoSpan
namespace Go.Proofs.Ymbrco.lawS930003DShift
open Go.RowKit Go.Proofs.Ymbrco

theorem span_shift (z : Nat → Int) (n p : Nat) (h : p ≤ n) :
    span z n p = ((span (fun i => z (i + p)) (n - p) 0).1 + p, (span (fun i => z (i + p)) (n - p) 0).2.1 + p, (span (fun i => z (i + p)) (n - p) 0).2.2) := by
  by_cases h0 : n ≤ p
  · rw [span_out z n p (by omega), span_out _ (n - p) 0 (by omega)]
    simp
  by_cases h1 : n ≤ p + 1
  · have e := span_end (fun i => z (i + p)) (n - p) 0 (by omega) (by omega)
    rw [span_end z n p (by omega) h1]
    simp only [Int.natCast_zero] at e
    rw [e]
    simp
  · have e := span_at (fun i => z (i + p)) (n - p) 0 (by omega)
    simp only [Int.natCast_zero, Nat.zero_add, Int.zero_add] at e
    rw [span_at z n p (by omega), e]
    have a1 : 1 + p = p + 1 := by omega
    have a2 : 2 + p = p + 2 := by omega
    have a3 : 3 + p = p + 3 := by omega
    rw [a1, a2, a3]
    have b1 : ((n - p : Nat) : Int) = (n : Int) - (p : Int) := by omega
    have b2 : (n - p < 3) = (n < p + 3) := by apply propext; omega
    have b3 : (n - p < 4) = (n < p + 4) := by apply propext; omega
    have d1 : ((n : Int) - (p : Int) < 2 + z (p + 1)) = ((n : Int) < (p : Int) + 2 + z (p + 1)) := by apply propext; omega
    have d2 : ((n : Int) - (p : Int) < 3 + z (p + 2)) = ((n : Int) < (p : Int) + 3 + z (p + 2)) := by apply propext; omega
    have d3 : ((n : Int) - (p : Int) < 4 + (z (p + 2) * 256 + z (p + 3))) = ((n : Int) < (p : Int) + 4 + (z (p + 2) * 256 + z (p + 3))) := by apply propext; omega
    simp only [b1, b2, b3, d1, d2, d3]
    repeat' split
    all_goals simp
    all_goals omega

set_option maxHeartbeats 1000000 in
theorem walk (a : Option Addr) (n c : Nat) (z : Nat → Int) (s : Int) (w : World) (hl : n ≤ c) (hc : c ≤ 9223372036854775807) (_hn : a = none → n = 0 ∧ c = 0) (hz : IsByte z ∧ BytesAt w a n z) (hs : 0 ≤ s ∧ s ≤ 18446744073709551615) :
    Calls Ycom.prog 14 #[.slice a n c, .int .u64 s] w fun e w' => e = .returned (.bool true) ∧ Below w.heap.size w w' := by
  obtain ⟨hz1, hz2⟩ := hz
  obtain ⟨hs0, hs1⟩ := hs
  obtain ⟨p, hp, hpn⟩ : ∃ p : Nat, s % ((n : Int) + 1) = (p : Int) ∧ p ≤ n := by
    have h1 := Int.emod_nonneg s (show ((n : Int) + 1) ≠ 0 by omega)
    have h2 := Int.emod_lt_of_pos s (show 0 < ((n : Int) + 1) by omega)
    exact ⟨(s % ((n : Int) + 1)).toNat, by omega, by omega⟩
  have hp0 : 0 ≤ s % ((n : Int) + 1) := by omega
  have hp1 : s % ((n : Int) + 1) ≤ (n : Int) := by omega
  have HP : Hid (s % ((n : Int) + 1) = (p : Int)) := hp
  clear hp
  have hS := span_shift z n p hpn
  have H1 : Hid (Calls Ycom.prog 29 #[.slice a n c, .int .i64 (p : Int)] w fun e w' => e = .returned (tri (span z n p)) ∧ ∃ k, w' = w.drewN k) := span_calls a n c z _ w (by omega) hz1 hz2 (by omega) (by omega)
  obtain ⟨B1, B2, B3⟩ := span_bounds (fun i => z (i + p)) (n - p) 0 (fun i => hz1 _)
  have hb : 0 ≤ (span (fun i => z (i + p)) (n - p) 0).1 ∧ (span (fun i => z (i + p)) (n - p) 0).1 ≤ (n : Int) - p ∧ 0 ≤ (span (fun i => z (i + p)) (n - p) 0).2.1 ∧ (span (fun i => z (i + p)) (n - p) 0).2.1 ≤ (n : Int) - p := by omega
  clear B1 B2 B3
  have H2 : Hid (∀ k a' c', BytesAt w a' (n - p) (fun i => z (i + p)) → Calls Ycom.prog 29 #[.slice a' (n - p) c', .int .i64 0] (w.drewN k) fun e w' => e = .returned (tri (span (fun i => z (i + p)) (n - p) 0)) ∧ ∃ k, w' = w.drewN k) := by
    intro k a' c' h
    refine (span_calls a' _ c' _ 0 (w.drewN k) (by omega) (fun i => hz1 _) (h.below (below_drewN w k)) (by omega) (by omega)).mono ?_
    rintro e w' ⟨rfl, m, rfl⟩
    exact ⟨rfl, k + m, by simp [World.drewN, Nat.add_assoc]⟩
  have HB : Hid (BytesAt w a n z) := hz2
  rw [hS] at H1
  clear hS hz2 hz1
  generalize hq : span (fun i => z (i + p)) (n - p) 0 = q at *
  have HQ : Hid (span (fun i => z (i + p)) (n - p) 0 = q) := hq
  clear hq
  obtain ⟨q1, q2, q3⟩ := q
  dsimp only at *
  have HAA : Hid ((a = none ∧ n = 0 ∧ c = 0) ∨ ∃ b off sp, a = some ⟨b, off, sp⟩) := by
    cases a with
    | none => exact .inl ⟨rfl, _hn rfl⟩
    | some ad => exact .inr ⟨ad.block, ad.off, ad.spot, rfl⟩
  clear _hn
  go_enter Ycom.func14, Ycom.ntmps14
  go_wp2_with fail
  rw [HP.out]
  clear hp0 hp1
  refine H1.out.mono ?_
  rintro e w' ⟨rfl, k, rfl⟩
  unfold tri
  dsimp only
  rcases HAA.out with ⟨rfl, rfl, rfl⟩ | ⟨b, off, sp, rfl⟩
  · obtain rfl : p = 0 := by omega
    go_wp2_with fail
    refine (H2.out k _ _ (fun h => by omega)).mono ?_
    rintro e w' ⟨rfl, k, rfl⟩
    unfold tri
    go_wp2
    go_ret
    exact ⟨rfl, below_drewN w k⟩
  · by_cases hcc : c = p
    · go_wp2_with fail
      refine (H2.out k _ _ (fun h => by omega)).mono ?_
      rintro e w' ⟨rfl, k, rfl⟩
      unfold tri
      go_wp2
      go_ret
      exact ⟨rfl, below_drewN w k⟩
    · go_wp2_with fail
      refine (H2.out k _ _ (HB.out.add p)).mono ?_
      rintro e w' ⟨rfl, k, rfl⟩
      unfold tri
      go_wp2
      go_ret
      exact ⟨rfl, below_drewN w k⟩
end Go.Proofs.Ymbrco.lawS930003DShift
