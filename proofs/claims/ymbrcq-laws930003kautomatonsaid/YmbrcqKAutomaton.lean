/-
  Ymbrcq: the byte-by-byte automaton ('zzs930003kwalk') and the walk of 'LawS930003KAutomaton'.
-/
import Derived.Test.YmbrcqCheck
namespace Go.Proofs.Ymbrcq.lawS930003KAutomaton
open Go.RowKit Go.Proofs.Ymbrcq
set_option linter.unusedVariables false

/-- At p stands a head of h bytes that announces L bytes. -/
def Head (z : Nat → Int) (p h L : Nat) : Prop :=
  (h = 2 ∧ z (p + 1) < 128 ∧ (L : Int) = z (p + 1)) ∨ (h = 3 ∧ z (p + 1) = 129 ∧ ¬ z (p + 2) < 128 ∧ (L : Int) = z (p + 2)) ∨
  (h = 4 ∧ z (p + 1) = 130 ∧ ¬ z (p + 2) * 256 + z (p + 3) < 256 ∧ (L : Int) = z (p + 2) * 256 + z (p + 3))

theorem Head.ge {z : Nat → Int} {p h L : Nat} (H : Head z p h L) : 2 ≤ h ∧ h ≤ 4 := by
  rcases H with ⟨rfl, _⟩ | ⟨rfl, _⟩ | ⟨rfl, _⟩ <;> omega
theorem Head.whole {z : Nat → Int} {n p h L : Nat} (H : Head z p h L) (hn : p + h + L ≤ n) : (span z n p).2.2 = 0 ∧ (span z n p).2.1 = ((p + h + L : Nat) : Int) := by
  rcases H with ⟨rfl, h1, h2⟩ | ⟨rfl, h1, h2, h3⟩ | ⟨rfl, h1, h2, h3⟩
  · rw [span_at z n p (by omega), if_pos h1, if_neg (by omega)]
    dsimp only
    omega
  · rw [span_at z n p (by omega), if_neg (by omega), if_pos h1, if_neg (by omega), if_neg h2, if_neg (by omega)]
    dsimp only
    omega
  · rw [span_at z n p (by omega), if_neg (by omega), if_neg (by omega), if_pos h1, if_neg (by omega), if_neg h2, if_neg (by omega)]
    dsimp only
    omega
theorem Head.short {z : Nat → Int} {n p h L : Nat} (H : Head z p h L) (hn : n < p + h + L) (h2 : p + h ≤ n) : (span z n p).2.2 = 1 := by
  rcases H with ⟨rfl, h1, h2⟩ | ⟨rfl, h1, h2, h3⟩ | ⟨rfl, h1, h2, h3⟩
  · rw [span_at z n p (by omega), if_pos h1, if_pos (by omega)]
  · rw [span_at z n p (by omega), if_neg (by omega), if_pos h1, if_neg (by omega), if_neg h2, if_pos (by omega)]
  · rw [span_at z n p (by omega), if_neg (by omega), if_neg (by omega), if_pos h1, if_neg (by omega), if_neg h2, if_pos (by omega)]

/-- What holds at each byte. -/
def Inv (z : Nat → Int) (n c p i : Nat) (s need : Int) : Prop := Reach z n c p ∧
  ((s = 0 ∧ i = p) ∨ (s = 1 ∧ i = p + 1) ∨ (s = 2 ∧ i = p + 2 ∧ z (p + 1) = 129) ∨ (s = 3 ∧ i = p + 2 ∧ z (p + 1) = 130) ∨ (s = 4 ∧ i = p + 3 ∧ z (p + 1) = 130 ∧ need = z (p + 2)) ∨
   (s = 5 ∧ 0 < need ∧ need ≤ 65535 ∧ ∃ h L, Head z p h L ∧ (i : Int) + need = (p : Int) + h + L ∧ p + h ≤ i))

theorem Inv.done {z : Nat → Int} {n c p h L : Nat} (hr : Reach z n c p) (H : Head z p h L) (hn : p + h + L ≤ n) (hp : p < n) (nd : Int) : Inv z n (c + 1) (p + h + L) (p + h + L) 0 nd :=
  ⟨⟨p, hr, hp, (H.whole hn).1, (H.whole hn).2⟩, .inl ⟨rfl, rfl⟩⟩

/-- What it answers at the end. -/
theorem Inv.fin {z : Nat → Int} {n c p : Nat} {s need : Int} (h : Inv z n c p n s need) (hz : IsByte z) : (s = 0 → IsCheck z n c p 0) ∧ (s ≠ 0 → IsCheck z n c p 1) := by
  obtain ⟨hr, h⟩ := h
  have key : ∀ x : Int, (span z n p).2.2 = x → p < n → x ≠ 0 → IsCheck z n c p x := fun x hx hp h0 => ⟨hr, .inr ⟨hp, hx.symm, h0⟩⟩
  rcases h with ⟨rfl, e⟩ | ⟨rfl, e⟩ | ⟨rfl, e, h1⟩ | ⟨rfl, e, h1⟩ | ⟨rfl, e, h1, _⟩ | ⟨rfl, h1, _, hh, L, H, e, h2⟩
  · exact ⟨fun _ => ⟨hr, .inl ⟨rfl, e.symm⟩⟩, fun h => absurd rfl h⟩
  · refine ⟨fun h => by omega, fun _ => key 1 ?_ (by omega) (by omega)⟩
    rw [span_end z n p (by omega) (by omega)]
  · refine ⟨fun h => by omega, fun _ => key 1 ?_ (by omega) (by omega)⟩
    rw [span_at z n p (by omega), if_neg (by omega), if_pos h1, if_pos (by omega)]
  · refine ⟨fun h => by omega, fun _ => key 1 ?_ (by omega) (by omega)⟩
    rw [span_at z n p (by omega), if_neg (by omega), if_neg (by omega), if_pos h1, if_pos (by omega)]
  · refine ⟨fun h => by omega, fun _ => key 1 ?_ (by omega) (by omega)⟩
    rw [span_at z n p (by omega), if_neg (by omega), if_neg (by omega), if_pos h1, if_pos (by omega)]
  · refine ⟨fun h => by omega, fun _ => key 1 (H.short (by omega) h2) (by have := H.ge; omega) (by omega)⟩

set_option maxHeartbeats 4000000 in
theorem kwalk_long (a : Option Addr) (n c : Nat) (w : World) (hn : n ≤ 9223372036854775807) (h : (1048576 : Int) < n) :
    Calls Ycqm.prog 21 #[.slice a n c] w fun e w' => e = .returned (.tuple #[.int .i64 0, .int .i64 0, .int .i64 3]) ∧ w' = w := by
  have hd : decide ((1048576 : Int) < (n : Int)) = true := decide_eq_true h
  go_enter Ycqm.func21, Ycqm.ntmps21
  go_wp2
  go_ret3
  exact ⟨rfl, rfl⟩

set_option maxHeartbeats 8000000 in
theorem kwalk_calls (a : Option Addr) (n c : Nat) (z : Nat → Int) (w : World) (hn : (n : Int) ≤ 1048576) (hz : IsByte z) (ha : BytesAt w a n z) :
    Calls Ycqm.prog 21 #[.slice a n c] w fun e w' => ∃ (cnt p : Nat) (code : Int), e = .returned (.tuple #[.int .i64 cnt, .int .i64 p, .int .i64 code]) ∧ IsCheck z n cnt p code ∧ w' = w := by
  have HA : Hid (BytesAt w a n z) := ha
  have HZ : Hid (IsByte z) := hz
  clear ha hz
  have hd : decide ((1048576 : Int) < (n : Int)) = false := decide_eq_false (by omega)
  go_enter Ycqm.func21, Ycqm.ntmps21
  go_wp2
  go_loop [5, 6, 7, 8, 9] (fun x y st nd ii => ∃ (k p i : Nat) (s need : Int), i ≤ n ∧ x = .int .i64 k ∧ y = .int .i64 p ∧ st = .int .i64 s ∧ nd = .int .i64 need ∧ ii = .int .i64 i ∧ Hid (Inv z n k p i s need))
    (fun _ _ _ _ ii => n - (intOf ii).toNat)
  case atStart => exact ⟨0, 0, 0, 0, 0, Nat.zero_le _, rfl, rfl, rfl, rfl, rfl, rfl, .inl ⟨rfl, rfl⟩⟩
  case round =>
    obtain ⟨k, p, i, s, need, hi, rfl, rfl, rfl, rfl, rfl, HI⟩ := hrel
    have hle := HI.out.1.le HZ.out
    by_cases hlt : i < n
    · obtain ⟨b, off, rfl, hcell⟩ := HA.out (by omega)
      have c1 : w.cell? ⟨b, off + i, none⟩ = some (.int .u8 (z i)) := hcell i hlt
      have zi := HZ.out i
      clear hcell
      obtain ⟨hr, hI⟩ := HI.out
      have HR : Hid (Reach z n k p) := hr
      clear hr HI
      rcases hI with ⟨rfl, rfl⟩ | ⟨rfl, rfl⟩ | ⟨rfl, rfl, h1⟩ | ⟨rfl, rfl, h1⟩ | ⟨rfl, rfl, h1, rfl⟩ | ⟨rfl, h1, h1', hh, L, H, e, h2⟩
      · -- a type byte
        go_wp2
        go_round
        case rel => exact ⟨k, i, i + 1, 1, need, by omega, rfl, rfl, rfl, rfl, by go_num, HR.out, .inr (.inl ⟨rfl, rfl⟩)⟩
        case measure => simp [intOf] <;> omega
      · -- the first length byte
        by_cases h128 : z (p + 1) < 128
        · obtain ⟨L, hL⟩ : ∃ L : Nat, z (p + 1) = (L : Int) := ⟨(z (p + 1)).toNat, by omega⟩
          have H : Head z p 2 L := .inl ⟨rfl, h128, hL.symm⟩
          by_cases h0 : z (p + 1) = 0
          · have h0b : (z (p + 1) == 0) = true := by simpa using h0
            obtain rfl : L = 0 := by omega
            have HN : Hid (Inv z n (k + 1) (p + 2) (p + 2) 0 (z (p + 1))) := Inv.done HR.out H (by omega) (by omega) _
            clear h0 hL H
            go_wp2
            go_round
            case rel => exact ⟨k + 1, p + 2, p + 2, 0, z (p + 1), by omega, by go_num, by go_num, rfl, rfl, by go_num, HN⟩
            case measure => simp [intOf] <;> omega
          · have h0b : (z (p + 1) == 0) = false := by simpa using h0
            have HN : Hid (Inv z n k p (p + 2) 5 (z (p + 1))) := ⟨HR.out, .inr (.inr (.inr (.inr (.inr ⟨rfl, by omega, by omega, 2, L, H, by omega, by omega⟩))))⟩
            clear h0 hL H
            go_wp2
            go_round
            case rel => exact ⟨k, p, p + 2, 5, z (p + 1), by omega, rfl, rfl, rfl, rfl, by go_num, HN⟩
            case measure => simp [intOf] <;> omega
        by_cases h129 : z (p + 1) = 129
        · have h129b : (z (p + 1) == 129) = true := by simpa using h129
          have HN : Hid (Inv z n k p (p + 2) 2 need) := ⟨HR.out, .inr (.inr (.inl ⟨rfl, rfl, h129⟩))⟩
          clear h129
          go_wp2
          go_round
          case rel => exact ⟨k, p, p + 2, 2, need, by omega, rfl, rfl, rfl, rfl, by go_num, HN⟩
          case measure => simp [intOf] <;> omega
        have h129b : (z (p + 1) == 129) = false := by simpa using h129
        by_cases h130 : z (p + 1) = 130
        · have h130b : (z (p + 1) == 130) = true := by simpa using h130
          have HN : Hid (Inv z n k p (p + 2) 3 need) := ⟨HR.out, .inr (.inr (.inr (.inl ⟨rfl, rfl, h130⟩)))⟩
          clear h130 h129
          go_wp2
          go_round
          case rel => exact ⟨k, p, p + 2, 3, need, by omega, rfl, rfl, rfl, rfl, by go_num, HN⟩
          case measure => simp [intOf] <;> omega
        · have h130b : (z (p + 1) == 130) = false := by simpa using h130
          have HC : Hid (IsCheck z n k p 2) := by
            refine ⟨HR.out, .inr ⟨by omega, ?_, by omega⟩⟩
            rw [span_at z n p (by omega), if_neg h128, if_neg h129, if_neg h130]
          clear h130 h129
          go_wp2
          go_ret3
          exact ⟨k, p, 2, rfl, HC.out, rfl⟩
      · -- behind 0x81
        by_cases h128 : z (p + 2) < 128
        · have HC : Hid (IsCheck z n k p 2) := by
            refine ⟨HR.out, .inr ⟨by omega, ?_, by omega⟩⟩
            rw [span_at z n p (by omega), if_neg (by omega), if_pos h1, if_neg (by omega), if_pos h128]
          clear h1
          go_wp2
          go_ret3
          exact ⟨k, p, 2, rfl, HC.out, rfl⟩
        · have HN : Hid (Inv z n k p (p + 3) 5 (z (p + 2))) := ⟨HR.out, .inr (.inr (.inr (.inr (.inr ⟨rfl, by omega, by omega, 3, (z (p + 2)).toNat, .inr (.inl ⟨rfl, h1, h128, by omega⟩), by omega, by omega⟩))))⟩
          have h0b : (z (p + 2) == 0) = false := by simp; omega
          clear h1
          go_wp2
          go_round
          case rel => exact ⟨k, p, p + 3, 5, z (p + 2), by omega, rfl, rfl, rfl, rfl, by go_num, HN⟩
          case measure => simp [intOf] <;> omega
      · -- the first byte behind 0x82
        have HN : Hid (Inv z n k p (p + 3) 4 (z (p + 2))) := ⟨HR.out, .inr (.inr (.inr (.inr (.inl ⟨rfl, rfl, h1, rfl⟩))))⟩
        clear h1
        go_wp2
        go_round
        case rel => exact ⟨k, p, p + 3, 4, z (p + 2), by omega, rfl, rfl, rfl, rfl, by go_num, HN⟩
        case measure => simp [intOf] <;> omega
      · -- the second byte behind 0x82
        have zi2 := HZ.out (p + 2)
        by_cases h256 : z (p + 2) * 256 + z (p + 3) < 256
        · have HC : Hid (IsCheck z n k p 2) := by
            refine ⟨HR.out, .inr ⟨by omega, ?_, by omega⟩⟩
            rw [span_at z n p (by omega), if_neg (by omega), if_neg (by omega), if_pos h1, if_neg (by omega), if_pos h256]
          clear h1
          go_wp2
          go_ret3
          exact ⟨k, p, 2, rfl, HC.out, rfl⟩
        · have HN : Hid (Inv z n k p (p + 4) 5 (z (p + 2) * 256 + z (p + 3))) := ⟨HR.out, .inr (.inr (.inr (.inr (.inr ⟨rfl, by omega, by omega, 4, (z (p + 2) * 256 + z (p + 3)).toNat, .inr (.inr ⟨rfl, h1, h256, by omega⟩), by omega, by omega⟩))))⟩
          have h0b : (z (p + 2) * 256 + z (p + 3) == 0) = false := by simp; omega
          clear h1
          go_wp2
          go_round
          case rel => exact ⟨k, p, p + 4, 5, _, by omega, rfl, rfl, rfl, rfl, by go_num, HN⟩
          case measure => simp [intOf] <;> omega
      · -- a value byte
        have hge := H.ge
        by_cases h0 : need = 1
        · subst h0
          have e2 : i + 1 = p + hh + L := by omega
          have HN : Hid (Inv z n (k + 1) (i + 1) (i + 1) 0 0) := by
            rw [e2]
            exact Inv.done HR.out H (by omega) (by omega) _
          clear e e2 H hge h2
          go_wp2
          go_round
          case rel => exact ⟨k + 1, i + 1, i + 1, 0, 0, by omega, by go_num, by go_num, rfl, by go_num, by go_num, HN⟩
          case measure => simp [intOf] <;> omega
        · have HN : Hid (Inv z n k p (i + 1) 5 (need - 1)) := ⟨HR.out, .inr (.inr (.inr (.inr (.inr ⟨rfl, by omega, by omega, hh, L, H, by omega, by omega⟩))))⟩
          have h0b : (need - 1 == 0) = false := by simp; omega
          clear e H hge h2
          go_wp2
          go_round
          case rel => exact ⟨k, p, i + 1, 5, need - 1, by omega, rfl, rfl, rfl, rfl, by go_num, HN⟩
          case measure => simp [intOf] <;> omega
    · obtain rfl : i = n := by omega
      have hf := HI.out.fin HZ.out
      by_cases hs : s = 0
      · have HC : Hid (IsCheck z i k p 0) := hf.1 hs
        subst hs
        clear hf HI
        go_wp2
        go_ret3
        exact ⟨k, p, 0, rfl, HC.out, rfl⟩
      · have HC : Hid (IsCheck z i k p 1) := hf.2 hs
        have hsb : (s != 0) = true := by simpa using hs
        clear hf HI
        go_wp2
        go_ret3
        exact ⟨k, p, 1, rfl, HC.out, rfl⟩

set_option maxHeartbeats 1000000 in
theorem walk (a : Option Addr) (n c : Nat) (z : Nat → Int) (w : World) (hl : n ≤ c) (hc : c ≤ 9223372036854775807) (_hn : a = none → n = 0 ∧ c = 0) (hz : IsByte z ∧ BytesAt w a n z) :
    Calls Ycqm.prog 9 #[.slice a n c] w fun e w' => e = .returned (.bool true) ∧ Below w.heap.size w w' := by
  obtain ⟨hz1, hz2⟩ := hz
  by_cases hbig : (1048576 : Int) < n
  · go_enter Ycqm.func9, Ycqm.ntmps9
    go_wp2_with fail
    refine (check_long a n c w (by omega) hbig).mono ?_
    rintro e w2 ⟨rfl, rfl⟩
    go_wp2_with fail
    refine (kwalk_long a n c _ (by omega) hbig).mono ?_
    rintro e w2 ⟨rfl, rfl⟩
    go_wp2
    go_ret
    exact ⟨rfl, Below.refl _ _⟩
  · have H2 : Hid (∀ d, Calls Ycqm.prog 21 #[.slice a n c] (w.drewN d) fun e w' => ∃ (cnt p : Nat) (code : Int), e = .returned (.tuple #[.int .i64 cnt, .int .i64 p, .int .i64 code]) ∧ IsCheck z n cnt p code ∧ w' = w.drewN d) := fun d => kwalk_calls a n c z _ (by omega) hz1 (hz2.below (below_drewN w d))
    have H1 : Hid (Calls Ycqm.prog 20 #[.slice a n c] w fun e w' => ∃ (cnt p : Nat) (code : Int), e = .returned (.tuple #[.int .i64 cnt, .int .i64 p, .int .i64 code]) ∧ IsCheck z n cnt p code ∧ ∃ k, w' = w.drewN k) := check_calls a n c z w (by omega) hz1 hz2
    clear hz1 hz2 _hn
    go_enter Ycqm.func9, Ycqm.ntmps9
    go_wp2_with fail
    refine H1.out.mono ?_
    rintro e w2 ⟨cnt, p, code, rfl, hc1, d, rfl⟩
    go_wp2_with fail
    refine (H2.out d).mono ?_
    rintro e w2 ⟨cnt2, p2, code2, rfl, hc2, rfl⟩
    obtain ⟨rfl, rfl, rfl⟩ := hc1.uniq hc2
    clear hc1 hc2
    go_wp2
    go_ret
    exact ⟨rfl, below_drewN w d⟩
end Go.Proofs.Ymbrcq.lawS930003KAutomaton
