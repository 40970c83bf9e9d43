/-
  Ymbrco: 'zzs930003chead': the head of the record at the front.
-/
import Derived.Test.YmbrcoCheck
namespace Go.Proofs.Ymbrco
open Go.RowKit
set_option linter.unusedVariables false

/-- What 'chead' answers of the record at p. -/
def ChIs (z : Nat → Int) (n p : Nat) (h l code : Int) : Prop :=
  ((code = 1 ∨ code = 2) ∧ h = 0 ∧ l = 0 ∧ (span z n p).2.2 = code) ∨ (code = 0 ∧ ∃ H L : Nat, h = H ∧ l = L ∧ Head z p H L ∧ p + H ≤ n)

theorem tri_ret {a b c a' b' c' : Int} (h1 : a = a') (h2 : b = b') (h3 : c = c') : Ending.returned (.tuple #[.int .i64 a, .int .i64 b, .int .i64 c]) = .returned (.tuple #[.int .i64 a', .int .i64 b', .int .i64 c']) := by rw [h1, h2, h3]

set_option maxRecDepth 100000 in
set_option maxHeartbeats 4000000 in
theorem chead_calls (a : Option Addr) (r c : Nat) (z : Nat → Int) (n p : Nat) (w : World) (hpr : n = p + r) (hr : 0 < r) (hn : (n : Int) ≤ 1048576) (hz : IsByte z) (ha : BytesAt w a r (fun i => z (i + p))) :
    Calls Ycom.prog 26 #[.slice a r c] w fun e w' => Hid (∃ h l code : Int, e = .returned (.tuple #[.int .i64 h, .int .i64 l, .int .i64 code]) ∧ ChIs z n p h l code) ∧ ∃ d, w' = w.drewN d := by
  obtain ⟨b, off, rfl, hcell0⟩ := ha hr
  have hcell : ∀ i, i < r → w.cell? ⟨b, off + i, none⟩ = some (.int .u8 (z (i + p))) := hcell0
  clear hcell0 ha
  by_cases h1 : r < 2
  · have HF : Hid (ChIs z n p 0 0 1) := .inl ⟨.inl rfl, rfl, rfl, by rw [span_end z n p (by omega) (by omega)]⟩
    clear hcell hpr
    go_enter Ycom.func26, Ycom.ntmps26
    go_wp2
    go_ret3
    exact ⟨⟨0, 0, 1, rfl, HF.out⟩, 0, rfl⟩
  have c1 : w.cell? ⟨b, off + 1, none⟩ = some (.int .u8 (z (p + 1))) := by rw [hcell 1 (by omega), Nat.add_comm 1 p]
  have z1 := hz (p + 1)
  by_cases h128 : z (p + 1) < 128
  · have HF : Hid (ChIs z n p 2 (z (p + 1)) 0) := .inr ⟨rfl, 2, (z (p + 1)).toNat, rfl, by omega, .inl ⟨rfl, h128, by omega⟩, by omega⟩
    have hd : decide (z (p + 1) < 128) = true := decide_eq_true h128
    clear hcell hpr
    go_enter Ycom.func26, Ycom.ntmps26
    go_wp2
    go_quiet (fail)
    go_wp2
    go_ret3
    exact ⟨⟨2, z (p + 1), 0, rfl, HF.out⟩, _, rfl⟩
  have hd : decide (z (p + 1) < 128) = false := decide_eq_false h128
  by_cases h129 : z (p + 1) = 129
  · have q1 : (z (p + 1) == 129) = true := by simpa using h129
    have q2 : (z (p + 1) == 130) = false := by simp; omega
    by_cases h3 : r < 3
    · have HF : Hid (ChIs z n p 0 0 1) := .inl ⟨.inl rfl, rfl, rfl, by rw [span_at z n p (by omega), if_neg (by omega), if_pos h129, if_pos (by omega)]⟩
      clear hcell hpr h129
      go_enter Ycom.func26, Ycom.ntmps26
      go_wp2
      go_ret3
      exact ⟨⟨0, 0, 1, rfl, HF.out⟩, 0, rfl⟩
    have c2 : w.cell? ⟨b, off + 2, none⟩ = some (.int .u8 (z (p + 2))) := by rw [hcell 2 (by omega), Nat.add_comm 2 p]
    have z2 := hz (p + 2)
    by_cases h4 : z (p + 2) < 128
    · have HF : Hid (ChIs z n p 0 0 2) := .inl ⟨.inr rfl, rfl, rfl, by rw [span_at z n p (by omega), if_neg (by omega), if_pos h129, if_neg (by omega), if_pos h4]⟩
      have hd2 : decide (128 ≤ z (p + 2)) = false := decide_eq_false (by omega)
      clear hcell hpr h129
      go_enter Ycom.func26, Ycom.ntmps26
      go_wp2
      go_ret3
      exact ⟨⟨0, 0, 2, rfl, HF.out⟩, 0, rfl⟩
    · have HF : Hid (ChIs z n p 3 (z (p + 2)) 0) := .inr ⟨rfl, 3, (z (p + 2)).toNat, rfl, by omega, .inr (.inl ⟨rfl, h129, h4, by omega⟩), by omega⟩
      have hd2 : decide (128 ≤ z (p + 2)) = true := decide_eq_true (by omega)
      clear hcell hpr h129
      go_enter Ycom.func26, Ycom.ntmps26
      go_wp2
      go_quiet (fail)
      go_wp2
      go_ret3
      exact ⟨⟨3, z (p + 2), 0, rfl, HF.out⟩, _, rfl⟩
  have q1 : (z (p + 1) == 129) = false := by simpa using h129
  by_cases h130 : z (p + 1) = 130
  · have q2 : (z (p + 1) == 130) = true := by simpa using h130
    by_cases h3 : r < 4
    · have HF : Hid (ChIs z n p 0 0 1) := .inl ⟨.inl rfl, rfl, rfl, by rw [span_at z n p (by omega), if_neg (by omega), if_neg (by omega), if_pos h130, if_pos (by omega)]⟩
      clear hcell hpr h130 h129
      go_enter Ycom.func26, Ycom.ntmps26
      go_wp2
      go_ret3
      exact ⟨⟨0, 0, 1, rfl, HF.out⟩, 0, rfl⟩
    have c2 : w.cell? ⟨b, off + 2, none⟩ = some (.int .u8 (z (p + 2))) := by rw [hcell 2 (by omega), Nat.add_comm 2 p]
    have c3 : w.cell? ⟨b, off + 3, none⟩ = some (.int .u8 (z (p + 3))) := by rw [hcell 3 (by omega), Nat.add_comm 3 p]
    have z2 := hz (p + 2)
    have z3 := hz (p + 3)
    by_cases h4 : z (p + 2) = 0
    · have HF : Hid (ChIs z n p 0 0 2) := .inl ⟨.inr rfl, rfl, rfl, by rw [span_at z n p (by omega), if_neg (by omega), if_neg (by omega), if_pos h130, if_neg (by omega), if_pos (by omega)]⟩
      have hd2 : (z (p + 2) == 0) = true := by simpa using h4
      clear hcell hpr h130 h129
      go_enter Ycom.func26, Ycom.ntmps26
      go_wp2
      go_ret3
      exact ⟨⟨0, 0, 2, rfl, HF.out⟩, 0, rfl⟩
    · have HF : Hid (ChIs z n p 4 (z (p + 2) * 256 + z (p + 3)) 0) := .inr ⟨rfl, 4, (z (p + 2) * 256 + z (p + 3)).toNat, rfl, by omega, .inr (.inr ⟨rfl, h130, by omega, by omega⟩), by omega⟩
      have hd2 : (z (p + 2) == 0) = false := by simpa using h4
      clear hcell hpr h130 h129
      go_enter Ycom.func26, Ycom.ntmps26
      go_wp2
      go_quiet (fail)
      go_wp2
      go_ret3
      exact ⟨⟨4, z (p + 2) * 256 + z (p + 3), 0, rfl, HF.out⟩, _, rfl⟩
  · have q2 : (z (p + 1) == 130) = false := by simpa using h130
    have HF : Hid (ChIs z n p 0 0 2) := .inl ⟨.inr rfl, rfl, rfl, by rw [span_at z n p (by omega), if_neg (by omega), if_neg (by omega), if_neg (by omega)]⟩
    clear hcell hpr h130 h129
    go_enter Ycom.func26, Ycom.ntmps26
    go_wp2
    go_ret3
    exact ⟨⟨0, 0, 2, rfl, HF.out⟩, 0, rfl⟩
end Go.Proofs.Ymbrco
