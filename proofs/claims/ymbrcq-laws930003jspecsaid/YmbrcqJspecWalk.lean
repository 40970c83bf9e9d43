/-
  Ymbrcq: 'zzs930003jspec': records peeled off the front.
-/
import Derived.Test.YmbrcqFind
namespace Go.Proofs.Ymbrcq.lawS930003JSpec
open Go.RowKit Go.Proofs.Ymbrcq
set_option linter.unusedVariables false

theorem head_span {z : Nat → Int} {n p h L : Nat} (H : Head z p h L) (hn : p + h + L ≤ n) : span z n p = (((p + h : Nat) : Int), ((p + h + L : Nat) : Int), 0) := by
  rcases H with ⟨rfl, h1, h2⟩ | ⟨rfl, h1, h2, h3⟩ | ⟨rfl, h1, h2, h3⟩
  · rw [span_at z n p (by omega), if_pos h1, if_neg (by omega)]
    simp only [Prod.mk.injEq, and_true]
    omega
  · rw [span_at z n p (by omega), if_neg (by omega), if_pos h1, if_neg (by omega), if_neg h2, if_neg (by omega)]
    simp only [Prod.mk.injEq, and_true]
    omega
  · rw [span_at z n p (by omega), if_neg (by omega), if_neg (by omega), if_pos h1, if_neg (by omega), if_neg h2, if_neg (by omega)]
    simp only [Prod.mk.injEq, and_true]
    omega

theorem slcong {a : Option Addr} {n n' c : Nat} {x : Int} (h : n = n') : Ending.returned (.tuple #[.slice a n c, .int .i64 x]) = .returned (.tuple #[.slice a n' c, .int .i64 x]) := by rw [h]

theorem tupS {a : Option Addr} {n c : Nat} {x y : Int} (h : x = y) : Ending.returned (.tuple #[.slice a n c, .int .i64 x]) = .returned (.tuple #[.slice a n c, .int .i64 y]) := by rw [h]

set_option maxHeartbeats 1000000 in
theorem jspec_long (a : Option Addr) (n c : Nat) (t : Int) (w : World) (hn : n ≤ 9223372036854775807) (h : (1048576 : Int) < n) :
    Calls Ycqm.prog 16 #[.slice a n c, .int .u8 t] w fun e w' => e = .returned (.tuple #[.slice none 0 0, .int .i64 3]) ∧ w' = w := by
  have hd : decide ((1048576 : Int) < (n : Int)) = true := decide_eq_true h
  go_enter Ycqm.func16, Ycqm.ntmps16
  go_wp2
  go_ret2
  exact ⟨rfl, rfl⟩

/-- A slice's length: a measure. -/
def lenOf : Value → Nat | .slice _ n _ => n | _ => 0

set_option maxRecDepth 100000 in
set_option maxHeartbeats 16000000 in
theorem jspec_calls (a : Option Addr) (n c : Nat) (z : Nat → Int) (t : Int) (w : World) (hn : (n : Int) ≤ 1048576) (hnc : n ≤ c) (hcc : c ≤ 9223372036854775807) (hz : IsByte z) (ha : BytesAt w a n z) :
    Calls Ycqm.prog 16 #[.slice a n c, .int .u8 t] w fun e w' => (∃ d, w' = w.drewN d) ∧
      ((∃ code, e = .returned (.tuple #[.slice none 0 0, .int .i64 code]) ∧ FindBad z n t code) ∨
       (∃ s m a', (∃ c', e = .returned (.tuple #[.slice a' m c', .int .i64 0])) ∧ FindGood z n t s m ∧ BytesAt w a' m (fun i => z (s + i)))) := by
  have HA : Hid (BytesAt w a n z) := ha
  have HZ : Hid (IsByte z) := hz
  clear ha hz
  have hd : decide ((1048576 : Int) < (n : Int)) = false := decide_eq_false (by omega)
  go_enter Ycqm.func16, Ycqm.ntmps16
  go_wp2
  go_loopw [6] (fun y wr => ∃ (k p d : Nat) (a' : Option Addr) (c' : Nat), p ≤ n ∧ n - p ≤ c' ∧ c' ≤ 9223372036854775807 ∧ y = .slice a' (n - p) c' ∧ Hid (BytesAt w a' (n - p) (fun i => z (i + p))) ∧ Hid (ReachN z n t k p) ∧ wr = w.drewN d)
    (fun y _ => lenOf y)
  case atStart => exact ⟨0, 0, 0, a, c, Nat.zero_le _, by omega, hcc, rfl, HA, rfl, rfl⟩
  case round =>
    obtain ⟨k, p, d, a', c', hp, hc1, hc2, rfl, HB, HR, rfl⟩ := hrel
    by_cases h0 : n - p = 0
    · have HF : Hid (FindBad z n t 4) := ⟨k, p, HR.out, .inl ⟨by omega, rfl⟩⟩
      go_wp2
      go_ret2
      exact ⟨⟨d, rfl⟩, .inl ⟨4, rfl, HF.out⟩⟩
    obtain ⟨r, hr⟩ : ∃ r, n - p = r := ⟨_, rfl⟩
    have hpr : n = p + r := by omega
    rw [hr] at HB hc1 h0 ⊢
    clear hr
    obtain ⟨b, off, rfl, hcell0⟩ := HB.out (by omega)
    have hcell : ∀ i, i < r → w.cell? ⟨b, off + i, none⟩ = some (.int .u8 (z (i + p))) := hcell0
    clear hcell0
    by_cases h1 : r < 2
    · have HF : Hid (FindBad z n t 1) := ⟨k, p, HR.out, .inr ⟨by omega, by rw [span_end z n p (by omega) (by omega)], by omega⟩⟩
      clear hcell hpr
      go_wp2
      go_ret2
      exact ⟨⟨d, rfl⟩, .inl ⟨1, rfl, HF.out⟩⟩
    have c0 : w.cell? ⟨b, off, none⟩ = some (.int .u8 (z p)) := by simpa using hcell 0 (by omega)
    have c1 : w.cell? ⟨b, off + 1, none⟩ = some (.int .u8 (z (p + 1))) := by rw [hcell 1 (by omega), Nat.add_comm 1 p]
    have z1 := HZ.out (p + 1)
    by_cases hbad : 130 < z (p + 1) ∨ z (p + 1) = 128
    · have HF : Hid (FindBad z n t 2) := by
        refine ⟨k, p, HR.out, .inr ⟨by omega, ?_, by omega⟩⟩
        rw [span_at z n p (by omega), if_neg (by omega), if_neg (by omega), if_neg (by omega)]
      clear hcell hpr
      by_cases hg : 130 < z (p + 1)
      · go_wp2
        go_ret2
        exact ⟨⟨d, rfl⟩, .inl ⟨2, rfl, HF.out⟩⟩
      · have hgb : (z (p + 1) == 128) = true := by simp; omega
        go_wp2
        go_ret2
        exact ⟨⟨d, rfl⟩, .inl ⟨2, rfl, HF.out⟩⟩
    have g1 : ¬ 130 < z (p + 1) := fun h => hbad (.inl h)
    have g2 : (z (p + 1) == 128) = false := by simpa using fun h => hbad (.inr h)
    by_cases h128 : z (p + 1) < 128
    · obtain ⟨L, hL⟩ : ∃ L : Nat, z (p + 1) = (L : Int) := ⟨(z (p + 1)).toNat, by omega⟩
      have H : Head z p 2 L := .inl ⟨rfl, h128, hL.symm⟩
      have h127 : (L : Int) ≤ 127 := by omega
      rw [hL] at c1 z1 g1 g2
      clear hL hbad h128
      have q1 : ((L : Int) == 129) = false := by simp; omega
      have q2 : ((L : Int) == 130) = false := by simp; omega
      have hfit : Hid (p + 2 + L ≤ n → span z n p = (((p + 2 : Nat) : Int), ((p + 2 + L : Nat) : Int), 0)) := fun h => head_span H h
      have hshort : Hid (n < p + 2 + L → (span z n p).2.2 = 1) := fun h => H.short h (by omega)
      have HC : Hid (∀ i, i < r → w.cell? ⟨b, off + i, none⟩ = some (.int .u8 (z (i + p)))) := hcell
      clear hcell H
      by_cases hsh : r < 2 + L
      · have HF : Hid (FindBad z n t 1) := ⟨k, p, HR.out, .inr ⟨by omega, (hshort.out (by omega)).symm, by omega⟩⟩
        clear hpr hfit hshort
        go_wp2
        go_ret2
        exact ⟨⟨_, rfl⟩, .inl ⟨1, rfl, HF.out⟩⟩
      have hsp := hfit.out (by omega)
      clear hfit hshort
      by_cases ht : z p = t
      · have HG : Hid (FindGood z n t (p + 2) (L)) := ⟨k, p, HR.out, by omega, ht, hsp, by omega, by omega⟩
        have htb : (z p == t) = true := by simpa using ht
        have HX : Hid (∀ ad, (¬ c' = 2 → ad = some ⟨b, off + 2, none⟩) → BytesAt w ad (L) (fun i => z (p + 2 + i))) := by
          intro ad had hL0
          rw [had (by omega)]
          refine ⟨b, off + 2, rfl, fun i hi => ?_⟩
          rw [Nat.add_assoc, HC.out (2 + i) (by omega)]
          dsimp only
          rw [show 2 + i + p = p + 2 + i by omega]
        clear hsp ht hpr
        by_cases hce : c' = 2
        · go_wp2
          go_ret2
          exact ⟨⟨_, rfl⟩, .inr ⟨p + 2, L, some ⟨b, off, none⟩, ⟨0, rfl⟩, HG.out, HX.out _ (fun h => absurd hce h)⟩⟩
        · go_wp2
          go_ret2
          exact ⟨⟨_, rfl⟩, .inr ⟨p + 2, L, some ⟨b, off + 2, none⟩, ⟨c' - 2, slcong (by omega)⟩, HG.out, HX.out _ (fun _ => rfl)⟩⟩
      · have HR2 : Hid (ReachN z n t (k + 1) (p + 2 + (L))) := ⟨p, HR.out, by omega, by rw [hsp], ht, by rw [hsp]⟩
        have htb : (z p == t) = false := by simpa using ht
        have hnr : Hid (n - (p + 2 + (L)) = r - (2 + (L))) := by show _ = _; omega
        have HX : Hid (∀ ad, (¬ c' = 2 + (L) → ad = some ⟨b, off + (2 + (L)), none⟩) → BytesAt w ad (n - (p + 2 + (L))) (fun i => z (i + (p + 2 + (L))))) := by
          intro ad had hL0
          rw [had (by omega)]
          refine ⟨b, off + (2 + (L)), rfl, fun i hi => ?_⟩
          rw [Nat.add_assoc, HC.out (2 + (L) + i) (by omega)]
          dsimp only
          rw [show 2 + (L) + i + p = i + (p + 2 + (L)) by omega]
        have hbn : Hid (p + 2 + (L) ≤ n) := by show _ ≤ _; omega
        clear hsp ht hpr
        by_cases hce : c' = 2 + (L)
        · go_wp2
          go_roundw
          case rel => exact ⟨k + 1, p + 2 + (L), _, some ⟨b, off, none⟩, 2 + (L) - (2 + (L)), hbn.out, by rw [hnr.out]; omega, by omega, by rw [hnr.out], HX.out _ (fun h => absurd hce h), HR2, rfl⟩
          case measure => simp only [lenOf]; omega
        · go_wp2
          go_roundw
          case rel => exact ⟨k + 1, p + 2 + (L), _, some ⟨b, off + (2 + (L)), none⟩, c' - (2 + (L)), hbn.out, by rw [hnr.out]; omega, by omega, by rw [hnr.out], HX.out _ (fun _ => rfl), HR2, rfl⟩
          case measure => simp only [lenOf]; omega
    by_cases h129 : z (p + 1) = 129
    · have q1 : (z (p + 1) == 129) = true := by simpa using h129
      by_cases h3 : r < 3
      · have HF : Hid (FindBad z n t 1) := by
          refine ⟨k, p, HR.out, .inr ⟨by omega, ?_, by omega⟩⟩
          rw [span_at z n p (by omega), if_neg (by omega), if_pos h129, if_pos (by omega)]
        clear hcell hpr h129 hbad
        go_wp2
        go_ret2
        exact ⟨⟨d, rfl⟩, .inl ⟨1, rfl, HF.out⟩⟩
      have c2 : w.cell? ⟨b, off + 2, none⟩ = some (.int .u8 (z (p + 2))) := by rw [hcell 2 (by omega), Nat.add_comm 2 p]
      have z2 := HZ.out (p + 2)
      by_cases h2b : z (p + 2) < 128
      · have HF : Hid (FindBad z n t 2) := by
          refine ⟨k, p, HR.out, .inr ⟨by omega, ?_, by omega⟩⟩
          rw [span_at z n p (by omega), if_neg (by omega), if_pos h129, if_neg (by omega), if_pos h2b]
        clear hcell hpr h129 hbad
        go_wp2
        go_ret2
        exact ⟨⟨d, rfl⟩, .inl ⟨2, rfl, HF.out⟩⟩
      obtain ⟨L, hL⟩ : ∃ L : Nat, z (p + 2) = (L : Int) := ⟨(z (p + 2)).toNat, by omega⟩
      have H : Head z p 3 L := .inr (.inl ⟨rfl, h129, h2b, hL.symm⟩)
      have hL0 : Hid ((128 : Int) ≤ L) := by show _ ≤ _; omega
      have hL1 : (L : Int) ≤ 255 := by omega
      have hd8 : decide ((L : Int) < 128) = false := decide_eq_false (by omega)
      rw [hL] at c2
      clear hL hbad h128 h129 h2b z2
      have hfit : Hid (p + 3 + L ≤ n → span z n p = (((p + 3 : Nat) : Int), ((p + 3 + L : Nat) : Int), 0)) := fun h => head_span H h
      have hshort : Hid (n < p + 3 + L → (span z n p).2.2 = 1) := fun h => H.short h (by omega)
      have HC : Hid (∀ i, i < r → w.cell? ⟨b, off + i, none⟩ = some (.int .u8 (z (i + p)))) := hcell
      clear hcell H
      by_cases hsh : r < 3 + L
      · have HF : Hid (FindBad z n t 1) := ⟨k, p, HR.out, .inr ⟨by omega, (hshort.out (by omega)).symm, by omega⟩⟩
        clear hpr hfit hshort
        go_wp2
        go_ret2
        exact ⟨⟨_, rfl⟩, .inl ⟨1, rfl, HF.out⟩⟩
      have hsp := hfit.out (by omega)
      clear hfit hshort
      by_cases ht : z p = t
      · have HG : Hid (FindGood z n t (p + 3) (L)) := ⟨k, p, HR.out, by omega, ht, hsp, by omega, by omega⟩
        have htb : (z p == t) = true := by simpa using ht
        have HX : Hid (∀ ad, (¬ c' = 3 → ad = some ⟨b, off + 3, none⟩) → BytesAt w ad (L) (fun i => z (p + 3 + i))) := by
          intro ad had hL0
          rw [had (by omega)]
          refine ⟨b, off + 3, rfl, fun i hi => ?_⟩
          rw [Nat.add_assoc, HC.out (3 + i) (by omega)]
          dsimp only
          rw [show 3 + i + p = p + 3 + i by omega]
        clear hsp ht hpr
        by_cases hce : c' = 3
        · exfalso; have := hL0.out; omega
        · go_wp2
          go_ret2
          exact ⟨⟨_, rfl⟩, .inr ⟨p + 3, L, some ⟨b, off + 3, none⟩, ⟨c' - 3, slcong (by omega)⟩, HG.out, HX.out _ (fun _ => rfl)⟩⟩
      · have HR2 : Hid (ReachN z n t (k + 1) (p + 3 + (L))) := ⟨p, HR.out, by omega, by rw [hsp], ht, by rw [hsp]⟩
        have htb : (z p == t) = false := by simpa using ht
        have hnr : Hid (n - (p + 3 + (L)) = r - (3 + (L))) := by show _ = _; omega
        have HX : Hid (∀ ad, (¬ c' = 3 + (L) → ad = some ⟨b, off + (3 + (L)), none⟩) → BytesAt w ad (n - (p + 3 + (L))) (fun i => z (i + (p + 3 + (L))))) := by
          intro ad had hL0
          rw [had (by omega)]
          refine ⟨b, off + (3 + (L)), rfl, fun i hi => ?_⟩
          rw [Nat.add_assoc, HC.out (3 + (L) + i) (by omega)]
          dsimp only
          rw [show 3 + (L) + i + p = i + (p + 3 + (L)) by omega]
        have hbn : Hid (p + 3 + (L) ≤ n) := by show _ ≤ _; omega
        clear hsp ht hpr
        by_cases hce : c' = 3 + (L)
        · go_wp2
          go_roundw
          case rel => exact ⟨k + 1, p + 3 + (L), _, some ⟨b, off, none⟩, 3 + (L) - (3 + (L)), hbn.out, by rw [hnr.out]; omega, by omega, by rw [hnr.out], HX.out _ (fun h => absurd hce h), HR2, rfl⟩
          case measure => simp only [lenOf]; omega
        · go_wp2
          go_roundw
          case rel => exact ⟨k + 1, p + 3 + (L), _, some ⟨b, off + (3 + (L)), none⟩, c' - (3 + (L)), hbn.out, by rw [hnr.out]; omega, by omega, by rw [hnr.out], HX.out _ (fun _ => rfl), HR2, rfl⟩
          case measure => simp only [lenOf]; omega
    have h130 : z (p + 1) = 130 := by omega
    have q1 : (z (p + 1) == 129) = false := by simpa using h129
    have q2 : (z (p + 1) == 130) = true := by simpa using h130
    by_cases h3 : r < 4
    · have HF : Hid (FindBad z n t 1) := by
        refine ⟨k, p, HR.out, .inr ⟨by omega, ?_, by omega⟩⟩
        rw [span_at z n p (by omega), if_neg (by omega), if_neg (by omega), if_pos h130, if_pos (by omega)]
      clear hcell hpr h129 h130 hbad
      go_wp2
      go_ret2
      exact ⟨⟨d, rfl⟩, .inl ⟨1, rfl, HF.out⟩⟩
    have c2 : w.cell? ⟨b, off + 2, none⟩ = some (.int .u8 (z (p + 2))) := by rw [hcell 2 (by omega), Nat.add_comm 2 p]
    have c3 : w.cell? ⟨b, off + 3, none⟩ = some (.int .u8 (z (p + 3))) := by rw [hcell 3 (by omega), Nat.add_comm 3 p]
    have z2 := HZ.out (p + 2)
    have z3 := HZ.out (p + 3)
    by_cases h2b : z (p + 2) = 0
    · have HF : Hid (FindBad z n t 2) := by
        refine ⟨k, p, HR.out, .inr ⟨by omega, ?_, by omega⟩⟩
        rw [span_at z n p (by omega), if_neg (by omega), if_neg (by omega), if_pos h130, if_neg (by omega), if_pos (by omega)]
      have q3 : (z (p + 2) == 0) = true := by simpa using h2b
      clear hcell hpr h129 h130 hbad h2b
      go_wp2
      go_ret2
      exact ⟨⟨d, rfl⟩, .inl ⟨2, rfl, HF.out⟩⟩
    obtain ⟨X, hX⟩ : ∃ X : Nat, z (p + 2) = (X : Int) := ⟨(z (p + 2)).toNat, by omega⟩
    obtain ⟨Y, hY⟩ : ∃ Y : Nat, z (p + 3) = (Y : Int) := ⟨(z (p + 3)).toNat, by omega⟩
    have H : Head z p 4 (X * 256 + Y) := .inr (.inr ⟨rfl, h130, by omega, by rw [hX, hY]; omega⟩)
    have q3 : ((X : Int) == 0) = false := by simp; omega
    have hX1 : (1 : Int) ≤ X := by omega
    have hX2 : (X : Int) ≤ 255 := by omega
    have hY2 : (Y : Int) ≤ 255 := by omega
    have l2 : (2 : Int) < (r : Int) := by omega
    have l3 : (3 : Int) < (r : Int) := by omega
    rw [hX] at c2
    rw [hY] at c3
    clear hX hY hbad h128 h129 h130 h2b z2 z3
    have hfit : Hid (p + 4 + (X * 256 + Y) ≤ n → span z n p = (((p + 4 : Nat) : Int), ((p + 4 + (X * 256 + Y) : Nat) : Int), 0)) := fun h => head_span H h
    have hshort : Hid (n < p + 4 + (X * 256 + Y) → (span z n p).2.2 = 1) := fun h => H.short h (by omega)
    have HC : Hid (∀ i, i < r → w.cell? ⟨b, off + i, none⟩ = some (.int .u8 (z (i + p)))) := hcell
    clear hcell H
    by_cases hsh : r < 4 + (X * 256 + Y)
    · have HF : Hid (FindBad z n t 1) := ⟨k, p, HR.out, .inr ⟨by omega, (hshort.out (by omega)).symm, by omega⟩⟩
      clear hpr hfit hshort
      go_wp2
      go_quiet (fail)
      go_wp2
      go_ret2
      exact ⟨⟨_, rfl⟩, .inl ⟨1, rfl, HF.out⟩⟩
    have hsp := hfit.out (by omega)
    clear hfit hshort
    by_cases ht : z p = t
    · have HG : Hid (FindGood z n t (p + 4) ((X * 256 + Y))) := ⟨k, p, HR.out, by omega, ht, hsp, by omega, by omega⟩
      have htb : (z p == t) = true := by simpa using ht
      have HX : Hid (∀ ad, (¬ c' = 4 → ad = some ⟨b, off + 4, none⟩) → BytesAt w ad ((X * 256 + Y)) (fun i => z (p + 4 + i))) := by
        intro ad had hL0
        rw [had (by omega)]
        refine ⟨b, off + 4, rfl, fun i hi => ?_⟩
        rw [Nat.add_assoc, HC.out (4 + i) (by omega)]
        dsimp only
        rw [show 4 + i + p = p + 4 + i by omega]
      clear hsp ht hpr
      by_cases hce : c' = 4
      · exfalso; omega
      · go_wp2
        go_quiet (fail)
        go_wp2
        go_ret2
        exact ⟨⟨_, rfl⟩, .inr ⟨p + 4, (X * 256 + Y), some ⟨b, off + 4, none⟩, ⟨c' - 4, slcong (by omega)⟩, HG.out, HX.out _ (fun _ => rfl)⟩⟩
    · have HR2 : Hid (ReachN z n t (k + 1) (p + 4 + ((X * 256 + Y)))) := ⟨p, HR.out, by omega, by rw [hsp], ht, by rw [hsp]⟩
      have htb : (z p == t) = false := by simpa using ht
      have hnr : Hid (n - (p + 4 + ((X * 256 + Y))) = r - (4 + ((X * 256 + Y)))) := by show _ = _; omega
      have HX : Hid (∀ ad, (¬ c' = 4 + ((X * 256 + Y)) → ad = some ⟨b, off + (4 + ((X * 256 + Y))), none⟩) → BytesAt w ad (n - (p + 4 + ((X * 256 + Y)))) (fun i => z (i + (p + 4 + ((X * 256 + Y)))))) := by
        intro ad had hL0
        rw [had (by omega)]
        refine ⟨b, off + (4 + ((X * 256 + Y))), rfl, fun i hi => ?_⟩
        rw [Nat.add_assoc, HC.out (4 + ((X * 256 + Y)) + i) (by omega)]
        dsimp only
        rw [show 4 + ((X * 256 + Y)) + i + p = i + (p + 4 + ((X * 256 + Y))) by omega]
      have hbn : Hid (p + 4 + ((X * 256 + Y)) ≤ n) := by show _ ≤ _; omega
      clear hsp ht hpr
      by_cases hce : c' = 4 + ((X * 256 + Y))
      · go_wp2
        go_quiet (fail)
        go_wp2
        go_roundw
        case rel => exact ⟨k + 1, p + 4 + ((X * 256 + Y)), _, some ⟨b, off, none⟩, 4 + ((X * 256 + Y)) - (4 + ((X * 256 + Y))), hbn.out, by rw [hnr.out]; omega, by omega, by rw [hnr.out], HX.out _ (fun h => absurd hce h), HR2, rfl⟩
        case measure => simp only [lenOf]; omega
      · go_wp2
        go_quiet (fail)
        go_wp2
        go_roundw
        case rel => exact ⟨k + 1, p + 4 + ((X * 256 + Y)), _, some ⟨b, off + (4 + ((X * 256 + Y))), none⟩, c' - (4 + ((X * 256 + Y))), hbn.out, by rw [hnr.out]; omega, by omega, by rw [hnr.out], HX.out _ (fun _ => rfl), HR2, rfl⟩
        case measure => simp only [lenOf]; omega
end Go.Proofs.Ymbrcq.lawS930003JSpec
