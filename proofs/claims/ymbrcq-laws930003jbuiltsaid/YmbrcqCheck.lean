/-
  Ymbrcq: 'Check': so many whole records, the position behind them, a code.
-/
import Derived.Test.YmbrcqSpan
namespace Go.Proofs.Ymbrcq
open Go.RowKit
set_option linter.unusedVariables false

/-- At p stands a head of h bytes that announces L bytes. -/
def Head (z : Nat → Int) (p h L : Nat) : Prop :=
  (h = 2 ∧ z (p + 1) < 128 ∧ (L : Int) = z (p + 1)) ∨ (h = 3 ∧ z (p + 1) = 129 ∧ ¬ z (p + 2) < 128 ∧ (L : Int) = z (p + 2)) ∨
  (h = 4 ∧ z (p + 1) = 130 ∧ ¬ z (p + 2) * 256 + z (p + 3) < 256 ∧ (L : Int) = z (p + 2) * 256 + z (p + 3))

theorem Head.ge {z : Nat → Int} {p h L : Nat} (H : Head z p h L) : 2 ≤ h ∧ h ≤ 4 := by
  rcases H with ⟨rfl, _⟩ | ⟨rfl, _⟩ | ⟨rfl, _⟩ <;> omega
theorem Head.whole {z : Nat → Int} {n p h L : Nat} (H : Head z p h L) (hn : p + h + L ≤ n) : (span z n p).2.2 = 0 ∧ (span z n p).2.1 = ((p + h + L : Nat) : Int) := by
  rcases H with ⟨rfl, h1, h2⟩ | ⟨rfl, h1, h2, h3⟩ | ⟨rfl, h1, h2, h3⟩
  · rw [span_at z n p (by omega), if_pos h1, if_neg (by omega)]
    dsimp only
    omega
  · rw [span_at z n p (by omega), if_neg (by omega), if_pos h1, if_neg (by omega), if_neg h2, if_neg (by omega)]
    dsimp only
    omega
  · rw [span_at z n p (by omega), if_neg (by omega), if_neg (by omega), if_pos h1, if_neg (by omega), if_neg h2, if_neg (by omega)]
    dsimp only
    omega
theorem Head.short {z : Nat → Int} {n p h L : Nat} (H : Head z p h L) (hn : n < p + h + L) (h2 : p + h ≤ n) : (span z n p).2.2 = 1 := by
  rcases H with ⟨rfl, h1, h2⟩ | ⟨rfl, h1, h2, h3⟩ | ⟨rfl, h1, h2, h3⟩
  · rw [span_at z n p (by omega), if_pos h1, if_pos (by omega)]
  · rw [span_at z n p (by omega), if_neg (by omega), if_pos h1, if_neg (by omega), if_neg h2, if_pos (by omega)]
  · rw [span_at z n p (by omega), if_neg (by omega), if_neg (by omega), if_pos h1, if_neg (by omega), if_neg h2, if_pos (by omega)]

/-- k whole records from the front lead to p. -/
def Reach (z : Nat → Int) (n : Nat) : Nat → Nat → Prop
  | 0, p => p = 0
  | k + 1, p => ∃ q, Reach z n k q ∧ q < n ∧ (span z n q).2.2 = 0 ∧ (span z n q).2.1 = (p : Int)

theorem Reach.uniq {z : Nat → Int} {n : Nat} : ∀ {k p q : Nat}, Reach z n k p → Reach z n k q → p = q
  | 0, p, q, h, g => by simp only [Reach] at h g; omega
  | k + 1, p, q, ⟨a, ha, _, _, ea⟩, ⟨b, hb, _, _, eb⟩ => by
    have := Reach.uniq ha hb
    subst this
    omega

theorem Reach.le {z : Nat → Int} {n : Nat} (hz : IsByte z) : ∀ {k p : Nat}, Reach z n k p → p ≤ n ∧ 2 * k ≤ p
  | 0, p, h => by simp only [Reach] at h; omega
  | k + 1, p, ⟨a, ha, h1, h2, ea⟩ => by
    have := Reach.le hz ha
    have hb := (span_bounds z n a hz).2.1 h2
    omega

/-- Where k + 1 records lead, the first k lead to a place at which a whole record stands. -/
theorem Reach.pre {z : Nat → Int} {n : Nat} : ∀ {j k p : Nat}, Reach z n k p → j < k → ∃ q, Reach z n j q ∧ q < n ∧ (span z n q).2.2 = 0
  | j, 0, p, h, hj => by omega
  | j, k + 1, p, ⟨a, ha, h1, h2, ea⟩, hj => by
    by_cases e : j = k
    · subst e
      exact ⟨a, ha, h1, h2⟩
    · exact Reach.pre ha (by omega)

/-- What 'Check' answers. -/
def IsCheck (z : Nat → Int) (n : Nat) (c p : Nat) (code : Int) : Prop := Reach z n c p ∧ ((code = 0 ∧ p = n) ∨ (p < n ∧ code = (span z n p).2.2 ∧ code ≠ 0))

theorem IsCheck.not_lt {z : Nat → Int} {n c p c' p' : Nat} {code code' : Int} (h : IsCheck z n c p code) (g : IsCheck z n c' p' code') : ¬ c < c' := by
  intro hlt
  obtain ⟨q, hq, h1, h2⟩ := g.1.pre hlt
  have := h.1.uniq hq
  subst this
  rcases h.2 with ⟨_, h3⟩ | ⟨_, h3, h4⟩ <;> omega

theorem IsCheck.uniq {z : Nat → Int} {n c p c' p' : Nat} {code code' : Int} (h : IsCheck z n c p code) (g : IsCheck z n c' p' code') : c = c' ∧ p = p' ∧ code = code' := by
  have h1 := h.not_lt g
  have h2 := g.not_lt h
  obtain rfl : c = c' := by omega
  have := h.1.uniq g.1
  subst this
  refine ⟨rfl, rfl, ?_⟩
  rcases h.2 with ⟨_, h3⟩ | ⟨_, h3, h4⟩ <;> rcases g.2 with ⟨_, g3⟩ | ⟨_, g3, g4⟩ <;> omega

set_option maxHeartbeats 1000000 in
theorem check_long (a : Option Addr) (n c : Nat) (w : World) (hn : n ≤ 9223372036854775807) (h : (1048576 : Int) < n) :
    Calls Ycqm.prog 20 #[.slice a n c] w fun e w' => e = .returned (.tuple #[.int .i64 0, .int .i64 0, .int .i64 3]) ∧ w' = w := by
  have hd : decide ((1048576 : Int) < (n : Int)) = true := decide_eq_true h
  go_enter Ycqm.func20, Ycqm.ntmps20
  go_wp2
  go_ret3
  exact ⟨rfl, rfl⟩

set_option maxHeartbeats 1000000 in
theorem check_calls (a : Option Addr) (n c : Nat) (z : Nat → Int) (w : World) (hn : (n : Int) ≤ 1048576) (hz : IsByte z) (ha : BytesAt w a n z) :
    Calls Ycqm.prog 20 #[.slice a n c] w fun e w' => ∃ (cnt p : Nat) (code : Int), e = .returned (.tuple #[.int .i64 cnt, .int .i64 p, .int .i64 code]) ∧ IsCheck z n cnt p code ∧ ∃ k, w' = w.drewN k := by
  have HA : Hid (BytesAt w a n z) := ha
  have HZ : Hid (IsByte z) := hz
  clear ha hz
  have hd : decide ((1048576 : Int) < (n : Int)) = false := decide_eq_false (by omega)
  go_enter Ycqm.func20, Ycqm.ntmps20
  go_wp2
  go_loopw [5, 6] (fun x y wr => ∃ (k p d : Nat), p ≤ n ∧ k ≤ n ∧ x = .int .i64 k ∧ y = .int .i64 p ∧ Hid (Reach z n k p) ∧ wr = w.drewN d)
    (fun _ y _ => n - (intOf y).toNat)
  case atStart => exact ⟨0, 0, 0, Nat.zero_le _, Nat.zero_le _, rfl, rfl, rfl, rfl⟩
  case round =>
    obtain ⟨k, p, d, hp, hk, rfl, rfl, HR, rfl⟩ := hrel
    by_cases hlt : p < n
    · have hsb := span_bounds z n p HZ.out
      have HS : Hid (Calls Ycqm.prog 28 #[.slice a n c, .int .i64 (p : Int)] (w.drewN d) fun e w' => e = .returned (tri (span z n p)) ∧ ∃ k, w' = (w.drewN d).drewN k) := span_calls a n c z p _ (by omega) HZ.out (HA.out.below (below_drewN w d)) (by omega) (by omega)
      by_cases hc : (span z n p).2.2 = 0
      · obtain ⟨g0, g1, g2, g3, g4, g5⟩ := hsb.2.1 hc
        obtain ⟨q, hq⟩ : ∃ q : Nat, (span z n p).2.1 = (q : Int) := ⟨(span z n p).2.1.toNat, by omega⟩
        have HR2 : Hid (Reach z n (k + 1) q) := ⟨p, HR.out, hlt, hc, hq⟩
        have hrl := (HR2.out.le HZ.out)
        clear hsb
        generalize span z n p = s at *
        obtain ⟨s1, s2, s3⟩ := s
        dsimp only at *
        subst hq hc
        go_wp2_with fail
        refine HS.out.mono ?_
        rintro e w' ⟨rfl, d2, rfl⟩
        unfold tri
        go_wp2
        go_roundw
        case rel => exact ⟨k + 1, q, d + d2, by omega, by omega, by go_num, rfl, HR2, by simp [World.drewN]⟩
        case measure => simp [intOf] <;> omega
      · have HC : Hid (IsCheck z n k p (span z n p).2.2) := ⟨HR.out, .inr ⟨hlt, rfl, hc⟩⟩
        clear hsb
        generalize span z n p = s at *
        obtain ⟨s1, s2, s3⟩ := s
        dsimp only at *
        have hcb : (s3 != 0) = true := by simpa using hc
        go_wp2_with fail
        refine HS.out.mono ?_
        rintro e w' ⟨rfl, d2, rfl⟩
        unfold tri
        go_wp2
        go_ret3
        exact ⟨k, p, s3, rfl, HC.out, d + d2, by simp [World.drewN]⟩
    · obtain rfl : p = n := by omega
      go_wp2
      go_ret3
      exact ⟨k, p, 0, rfl, ⟨HR.out, .inl ⟨rfl, rfl⟩⟩, d, rfl⟩
end Go.Proofs.Ymbrcq
