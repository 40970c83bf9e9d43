/-
  Ymbrcq: 'ReadLength' and 'Span': each computes a plain function of the bytes.
-/
import Derived.Test.YmbrcqBase
namespace Go.Proofs.Ymbrcq
open Go.RowKit

/-- The length field at pos: the length, the position behind it, the code. -/
def rl (z : Nat → Int) (n : Nat) (pos : Int) : Int × Int × Int :=
  if pos < 0 ∨ (n : Int) ≤ pos then (0, pos, 1)
  else if z pos.toNat < 128 then (z pos.toNat, pos + 1, 0)
  else if z pos.toNat = 129 then
    if (n : Int) - pos < 2 then (0, pos, 1) else if z (pos.toNat + 1) < 128 then (0, pos, 2) else (z (pos.toNat + 1), pos + 2, 0)
  else if z pos.toNat = 130 then
    if (n : Int) - pos < 3 then (0, pos, 1) else if z (pos.toNat + 1) * 256 + z (pos.toNat + 2) < 256 then (0, pos, 2) else (z (pos.toNat + 1) * 256 + z (pos.toNat + 2), pos + 3, 0)
  else (0, pos, 2)

/-- The value of the record at pos: its start, its end, the code. -/
def span (z : Nat → Int) (n : Nat) (pos : Int) : Int × Int × Int :=
  if pos < 0 ∨ (n : Int) ≤ pos then (pos, pos, 1)
  else if (rl z n (pos + 1)).2.2 ≠ 0 then (pos, pos, (rl z n (pos + 1)).2.2)
  else if (n : Int) - (rl z n (pos + 1)).2.1 < (rl z n (pos + 1)).1 then (pos, pos, 1)
  else ((rl z n (pos + 1)).2.1, (rl z n (pos + 1)).2.1 + (rl z n (pos + 1)).1, 0)

def tri (x : Int × Int × Int) : Value := .tuple #[.int .i64 x.1, .int .i64 x.2.1, .int .i64 x.2.2]

theorem tri_of {x : Int × Int × Int} {a b c : Int} (h : x = (a, b, c)) : Ending.returned (.tuple #[.int .i64 a, .int .i64 b, .int .i64 c]) = .returned (tri x) := by rw [h]; rfl

set_option maxHeartbeats 1000000 in
theorem rl_calls (a : Option Addr) (n c : Nat) (z : Nat → Int) (pos : Int) (w : World) (hn : n ≤ 9223372036854775807) (hz : IsByte z) (ha : BytesAt w a n z) (hp0 : -9223372036854775808 ≤ pos) (hp1 : pos ≤ 9223372036854775807) :
    Calls Ycqm.prog 29 #[.slice a n c, .int .i64 pos] w fun e w' => e = .returned (tri (rl z n pos)) ∧ ∃ k, w' = w.drewN k := by
  by_cases h0 : pos < 0
  · have e : rl z n pos = (0, pos, 1) := by rw [rl, if_pos (.inl h0)]
    have E := tri_of e
    have HE : Hid (Ending.returned (.tuple #[.int .i64 0, .int .i64 pos, .int .i64 1]) = .returned (tri (rl z n pos))) := E
    clear E e
    go_enter Ycqm.func29, Ycqm.ntmps29
    go_wp2
    go_ret3
    exact ⟨HE.out, 0, rfl⟩
  by_cases h1 : (n : Int) ≤ pos
  · have e : rl z n pos = (0, pos, 1) := by rw [rl, if_pos (.inr h1)]
    have HE : Hid (Ending.returned (.tuple #[.int .i64 0, .int .i64 pos, .int .i64 1]) = .returned (tri (rl z n pos))) := tri_of e
    clear e
    go_enter Ycqm.func29, Ycqm.ntmps29
    go_wp2
    go_ret3
    exact ⟨HE.out, 0, rfl⟩
  obtain ⟨p, rfl⟩ := Int.eq_ofNat_of_zero_le (show 0 ≤ pos by omega)
  obtain ⟨b, off, rfl, hc⟩ := ha (by omega)
  have hg : ¬ ((p : Int) < 0 ∨ (n : Int) ≤ (p : Int)) := by omega
  have c0 : w.cell? ⟨b, off + p, none⟩ = some (.int .u8 (z p)) := hc p (by omega)
  have z0 := hz p
  by_cases h2 : z p < 128
  · have e : rl z n (p : Int) = (z p, (p : Int) + 1, 0) := by rw [rl, if_neg hg]; simp [h2]
    have HE := tri_of e
    have HE : Hid (Ending.returned (.tuple #[.int .i64 (z p), .int .i64 ((p : Int) + 1), .int .i64 0]) = .returned (tri (rl z n p))) := tri_of e
    clear e hc hz ha hg
    go_enter Ycqm.func29, Ycqm.ntmps29
    go_wp2
    go_ret3
    exact ⟨HE.out, 0, rfl⟩
  by_cases h3 : z p = 129
  · have h3b : (z p == 129) = true := by simpa using h3
    by_cases h4 : (n : Int) - (p : Int) < 2
    · have e : rl z n (p : Int) = (0, (p : Int), 1) := by rw [rl, if_neg hg]; simp [h3, h4]
      have HE : Hid (Ending.returned (.tuple #[.int .i64 0, .int .i64 (p : Int), .int .i64 1]) = .returned (tri (rl z n p))) := tri_of e
      clear e hc hz ha hg h3
      go_enter Ycqm.func29, Ycqm.ntmps29
      go_wp2
      go_ret3
      exact ⟨HE.out, 0, rfl⟩
    have c1 : w.cell? ⟨b, off + (p + 1), none⟩ = some (.int .u8 (z (p + 1))) := hc (p + 1) (by omega)
    have z1 := hz (p + 1)
    by_cases h5 : z (p + 1) < 128
    · have e : rl z n (p : Int) = (0, (p : Int), 2) := by rw [rl, if_neg hg]; simp [h3, h4, h5]
      have HE : Hid (Ending.returned (.tuple #[.int .i64 0, .int .i64 (p : Int), .int .i64 2]) = .returned (tri (rl z n p))) := tri_of e
      clear e hc hz ha hg h3
      go_enter Ycqm.func29, Ycqm.ntmps29
      go_wp2
      go_ret3
      exact ⟨HE.out, 0, rfl⟩
    · have e : rl z n (p : Int) = (z (p + 1), (p : Int) + 2, 0) := by rw [rl, if_neg hg]; simp [h3, h4, h5]
      have HE : Hid (Ending.returned (.tuple #[.int .i64 (z (p + 1)), .int .i64 ((p : Int) + 2), .int .i64 0]) = .returned (tri (rl z n p))) := tri_of e
      clear e hc hz ha hg h3
      go_enter Ycqm.func29, Ycqm.ntmps29
      go_wp2
      go_ret3
      exact ⟨HE.out, 0, rfl⟩
  by_cases h6 : z p = 130
  · have h3b : (z p == 129) = false := by simpa using h3
    have h6b : (z p == 130) = true := by simpa using h6
    by_cases h4 : (n : Int) - (p : Int) < 3
    · have e : rl z n (p : Int) = (0, (p : Int), 1) := by rw [rl, if_neg hg]; simp [h6, h4]
      have HE : Hid (Ending.returned (.tuple #[.int .i64 0, .int .i64 (p : Int), .int .i64 1]) = .returned (tri (rl z n p))) := tri_of e
      clear e hc hz ha hg h3 h6
      go_enter Ycqm.func29, Ycqm.ntmps29
      go_wp2
      go_ret3
      exact ⟨HE.out, 0, rfl⟩
    have c1 : w.cell? ⟨b, off + (p + 1), none⟩ = some (.int .u8 (z (p + 1))) := hc (p + 1) (by omega)
    have c2 : w.cell? ⟨b, off + (p + 2), none⟩ = some (.int .u8 (z (p + 2))) := hc (p + 2) (by omega)
    have z1 := hz (p + 1)
    have z2 := hz (p + 2)
    have l1 : (p : Int) + 1 < (n : Int) := by omega
    have l2 : (p : Int) + 2 < (n : Int) := by omega
    by_cases h5 : z (p + 1) * 256 + z (p + 2) < 256
    · have e : rl z n (p : Int) = (0, (p : Int), 2) := by rw [rl, if_neg hg]; simp [h6, h4, h5]
      have HE : Hid (Ending.returned (.tuple #[.int .i64 0, .int .i64 (p : Int), .int .i64 2]) = .returned (tri (rl z n p))) := tri_of e
      clear e hc hz ha hg h3 h6
      go_enter Ycqm.func29, Ycqm.ntmps29
      go_wp2
      go_quiet (fail)
      go_wp2
      go_ret3
      exact ⟨HE.out, _, rfl⟩
    · have e : rl z n (p : Int) = (z (p + 1) * 256 + z (p + 2), (p : Int) + 3, 0) := by rw [rl, if_neg hg]; simp [h6, h4, h5]
      have HE : Hid (Ending.returned (.tuple #[.int .i64 (z (p + 1) * 256 + z (p + 2)), .int .i64 ((p : Int) + 3), .int .i64 0]) = .returned (tri (rl z n p))) := tri_of e
      clear e hc hz ha hg h3 h6
      go_enter Ycqm.func29, Ycqm.ntmps29
      go_wp2
      go_quiet (fail)
      go_wp2
      go_ret3
      exact ⟨HE.out, _, rfl⟩
  · have h3b : (z p == 129) = false := by simpa using h3
    have h6b : (z p == 130) = false := by simpa using h6
    have e : rl z n (p : Int) = (0, (p : Int), 2) := by rw [rl, if_neg hg]; simp [h2, h3, h6]
    have HE : Hid (Ending.returned (.tuple #[.int .i64 0, .int .i64 (p : Int), .int .i64 2]) = .returned (tri (rl z n p))) := tri_of e
    clear e hc hz ha hg h3 h6
    go_enter Ycqm.func29, Ycqm.ntmps29
    go_wp2
    go_ret3
    exact ⟨HE.out, 0, rfl⟩

theorem rl_bounds (z : Nat → Int) (n : Nat) (q : Int) (hz : IsByte z) :
    0 ≤ (rl z n q).1 ∧ (rl z n q).1 ≤ 65535 ∧ (0 ≤ (rl z n q).2.2 ∧ (rl z n q).2.2 ≤ 2) ∧
      ((rl z n q).2.2 = 0 → q + 1 ≤ (rl z n q).2.1 ∧ (rl z n q).2.1 ≤ n) ∧ ((rl z n q).2.2 ≠ 0 → (rl z n q).2.1 = q) ∧ q ≤ (rl z n q).2.1 ∧ (rl z n q).2.1 ≤ q + 3 := by
  have b0 := hz q.toNat
  have b1 := hz (q.toNat + 1)
  have b2 := hz (q.toNat + 2)
  unfold rl
  repeat' split
  all_goals (dsimp only; omega)

set_option maxHeartbeats 1000000 in
theorem span_calls (a : Option Addr) (n c : Nat) (z : Nat → Int) (pos : Int) (w : World) (hn : n ≤ 9223372036854775807) (hz : IsByte z) (ha : BytesAt w a n z) (hp0 : -9223372036854775808 ≤ pos) (hp1 : pos ≤ 9223372036854775807) :
    Calls Ycqm.prog 28 #[.slice a n c, .int .i64 pos] w fun e w' => e = .returned (tri (span z n pos)) ∧ ∃ k, w' = w.drewN k := by
  by_cases h0 : pos < 0
  · have e : span z n pos = (pos, pos, 1) := by rw [span, if_pos (.inl h0)]
    have HE : Hid (Ending.returned (.tuple #[.int .i64 pos, .int .i64 pos, .int .i64 1]) = .returned (tri (span z n pos))) := tri_of e
    clear e
    go_enter Ycqm.func28, Ycqm.ntmps28
    go_wp2
    go_ret3
    exact ⟨HE.out, 0, rfl⟩
  by_cases h1 : (n : Int) ≤ pos
  · have e : span z n pos = (pos, pos, 1) := by rw [span, if_pos (.inr h1)]
    have HE : Hid (Ending.returned (.tuple #[.int .i64 pos, .int .i64 pos, .int .i64 1]) = .returned (tri (span z n pos))) := tri_of e
    clear e
    go_enter Ycqm.func28, Ycqm.ntmps28
    go_wp2
    go_ret3
    exact ⟨HE.out, 0, rfl⟩
  have hg : ¬ (pos < 0 ∨ (n : Int) ≤ pos) := by omega
  obtain ⟨B1, B2, ⟨B3, B3'⟩, B4, B5, B6, B7⟩ := rl_bounds z n (pos + 1) hz
  have HR : Hid (∀ w', BytesAt w' a n z → Calls Ycqm.prog 29 #[.slice a n c, .int .i64 (pos + 1)] w' fun e w'' => e = .returned (tri (rl z n (pos + 1))) ∧ ∃ k, w'' = w'.drewN k) := fun w' h => rl_calls a n c z (pos + 1) w' hn hz h (by omega) (by omega)
  have HA : Hid (BytesAt w a n z) := ha
  clear ha hz
  by_cases h2 : (rl z n (pos + 1)).2.2 ≠ 0
  · have e : span z n pos = (pos, pos, (rl z n (pos + 1)).2.2) := by rw [span, if_neg hg, if_pos h2]
    clear B4 B5
    generalize rl z n (pos + 1) = r at *
    obtain ⟨r1, r2, r3⟩ := r
    dsimp only at *
    have HE : Hid (Ending.returned (.tuple #[.int .i64 pos, .int .i64 pos, .int .i64 r3]) = .returned (tri (span z n pos))) := tri_of e
    have h2b : (r3 != 0) = true := by simpa using h2
    clear e h2
    go_enter Ycqm.func28, Ycqm.ntmps28
    go_wp2_with (go_at_call 29; refine (HR.out _ HA.out).mono ?_; rintro e w' ⟨rfl, k, rfl⟩; unfold tri)
    go_ret3
    exact ⟨HE.out, _, rfl⟩
  · have h2' : (rl z n (pos + 1)).2.2 = 0 := by omega
    obtain ⟨B8, B9⟩ := B4 h2'
    by_cases h3 : (n : Int) - (rl z n (pos + 1)).2.1 < (rl z n (pos + 1)).1
    · have e : span z n pos = (pos, pos, 1) := by rw [span, if_neg hg, if_neg h2, if_pos h3]
      clear B4 B5 h2
      generalize rl z n (pos + 1) = r at *
      obtain ⟨r1, r2, r3⟩ := r
      dsimp only at *
      subst h2'
      have HE : Hid (Ending.returned (.tuple #[.int .i64 pos, .int .i64 pos, .int .i64 1]) = .returned (tri (span z n pos))) := tri_of e
      clear e
      go_enter Ycqm.func28, Ycqm.ntmps28
      go_wp2_with (go_at_call 29; refine (HR.out _ HA.out).mono ?_; rintro e w' ⟨rfl, k, rfl⟩; unfold tri)
      go_ret3
      exact ⟨HE.out, _, rfl⟩
    · have e : span z n pos = ((rl z n (pos + 1)).2.1, (rl z n (pos + 1)).2.1 + (rl z n (pos + 1)).1, 0) := by rw [span, if_neg hg, if_neg h2, if_neg h3]
      clear B4 B5 h2
      generalize rl z n (pos + 1) = r at *
      obtain ⟨r1, r2, r3⟩ := r
      dsimp only at *
      subst h2'
      have HE : Hid (Ending.returned (.tuple #[.int .i64 r2, .int .i64 (r2 + r1), .int .i64 0]) = .returned (tri (span z n pos))) := tri_of e
      clear e
      go_enter Ycqm.func28, Ycqm.ntmps28
      go_wp2_with (go_at_call 29; refine (HR.out _ HA.out).mono ?_; rintro e w' ⟨rfl, k, rfl⟩; unfold tri)
      go_ret3
      exact ⟨HE.out, _, rfl⟩

/-- The same, said flat, at a position inside. -/
theorem span_out (z : Nat → Int) (n : Nat) (pos : Int) (h : pos < 0 ∨ (n : Int) ≤ pos) : span z n pos = (pos, pos, 1) := by rw [span, if_pos h]
theorem span_end (z : Nat → Int) (n p : Nat) (h : p < n) (h1 : n ≤ p + 1) : span z n p = ((p : Int), (p : Int), 1) := by
  have e : rl z n ((p : Int) + 1) = (0, (p : Int) + 1, 1) := by rw [rl, if_pos (by omega)]
  rw [span, if_neg (by omega), e]; simp
theorem rl_at (z : Nat → Int) (n p : Nat) (h1 : p + 1 < n) : rl z n ((p : Int) + 1) =
    if z (p + 1) < 128 then (z (p + 1), (p : Int) + 2, 0)
    else if z (p + 1) = 129 then
      if n < p + 3 then (0, (p : Int) + 1, 1) else if z (p + 2) < 128 then (0, (p : Int) + 1, 2) else (z (p + 2), (p : Int) + 3, 0)
    else if z (p + 1) = 130 then
      if n < p + 4 then (0, (p : Int) + 1, 1) else if z (p + 2) * 256 + z (p + 3) < 256 then (0, (p : Int) + 1, 2) else (z (p + 2) * 256 + z (p + 3), (p : Int) + 4, 0)
    else (0, (p : Int) + 1, 2) := by
  rw [rl, if_neg (by omega)]
  have e0 : ((p : Int) + 1).toNat = p + 1 := by omega
  rw [e0]
  have e2 : ((n : Int) - ((p : Int) + 1) < 2) = (n < p + 3) := by apply propext; omega
  have e3 : ((n : Int) - ((p : Int) + 1) < 3) = (n < p + 4) := by apply propext; omega
  have a1 : (p : Int) + 1 + 1 = (p : Int) + 2 := by omega
  have a2 : (p : Int) + 1 + 2 = (p : Int) + 3 := by omega
  have a3 : (p : Int) + 1 + 3 = (p : Int) + 4 := by omega
  simp only [e2, e3, a1, a2, a3, Nat.add_assoc, Nat.reduceAdd]
theorem span_at (z : Nat → Int) (n p : Nat) (h1 : p + 1 < n) : span z n p =
    if z (p + 1) < 128 then (if (n : Int) < (p : Int) + 2 + z (p + 1) then ((p : Int), (p : Int), 1) else ((p : Int) + 2, (p : Int) + 2 + z (p + 1), 0))
    else if z (p + 1) = 129 then
      if n < p + 3 then ((p : Int), (p : Int), 1) else if z (p + 2) < 128 then ((p : Int), (p : Int), 2)
      else if (n : Int) < (p : Int) + 3 + z (p + 2) then ((p : Int), (p : Int), 1) else ((p : Int) + 3, (p : Int) + 3 + z (p + 2), 0)
    else if z (p + 1) = 130 then
      if n < p + 4 then ((p : Int), (p : Int), 1) else if z (p + 2) * 256 + z (p + 3) < 256 then ((p : Int), (p : Int), 2)
      else if (n : Int) < (p : Int) + 4 + (z (p + 2) * 256 + z (p + 3)) then ((p : Int), (p : Int), 1) else ((p : Int) + 4, (p : Int) + 4 + (z (p + 2) * 256 + z (p + 3)), 0)
    else ((p : Int), (p : Int), 2) := by
  rw [span, if_neg (by omega), rl_at z n p h1]
  split
  · by_cases h : (n : Int) < (p : Int) + 2 + z (p + 1)
    · rw [if_neg (by simp), if_pos (by dsimp only; omega), if_pos h]
    · rw [if_neg (by simp), if_neg (by dsimp only; omega), if_neg h]
  · split
    · split
      · simp
      · split
        · simp
        · by_cases h : (n : Int) < (p : Int) + 3 + z (p + 2)
          · rw [if_neg (by simp), if_pos (by dsimp only; omega), if_pos h]
          · rw [if_neg (by simp), if_neg (by dsimp only; omega), if_neg h]
    · split
      · split
        · simp
        · split
          · simp
          · by_cases h : (n : Int) < (p : Int) + 4 + (z (p + 2) * 256 + z (p + 3))
            · rw [if_neg (by simp), if_pos (by dsimp only; omega), if_pos h]
            · rw [if_neg (by simp), if_neg (by dsimp only; omega), if_neg h]
      · simp
theorem span_bounds (z : Nat → Int) (n : Nat) (pos : Int) (hz : IsByte z) :
    (0 ≤ (span z n pos).2.2 ∧ (span z n pos).2.2 ≤ 2) ∧
    ((span z n pos).2.2 = 0 → 0 ≤ pos ∧ pos + 2 ≤ (span z n pos).1 ∧ (span z n pos).1 ≤ pos + 4 ∧ (span z n pos).1 ≤ (span z n pos).2.1 ∧ (span z n pos).2.1 ≤ n ∧ (span z n pos).2.1 - (span z n pos).1 ≤ 65535) ∧
    ((span z n pos).2.2 ≠ 0 → (span z n pos).1 = pos ∧ (span z n pos).2.1 = pos) := by
  obtain ⟨B1, B2, ⟨B3, B3'⟩, B4, B5, B6, B7⟩ := rl_bounds z n (pos + 1) hz
  unfold span
  repeat' split
  all_goals (dsimp only at *; omega)
end Go.Proofs.Ymbrcq
