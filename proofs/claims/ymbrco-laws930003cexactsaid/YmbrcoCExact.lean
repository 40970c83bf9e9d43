/-
  Ymbrco: the walk of 'LawS930003CExact'.
-/
import Derived.Test.YmbrcoDecode
import Derived.Test.YmbrcoChead
import Derived.Test.YmbrcoCeq
namespace Go.Proofs.Ymbrco.lawS930003CExact
open Go.RowKit Go.Proofs.Ymbrco
set_option linter.unusedVariables false

/-- A slice's length: a measure. -/
def lenOf : Value → Nat | .slice _ n _ => n | _ => 0

theorem head_span {z : Nat → Int} {n p h L : Nat} (H : Head z p h L) (hn : p + h + L ≤ n) : span z n p = (((p + h : Nat) : Int), ((p + h + L : Nat) : Int), 0) := by
  rcases H with ⟨rfl, h1, h2⟩ | ⟨rfl, h1, h2, h3⟩ | ⟨rfl, h1, h2, h3⟩
  · rw [span_at z n p (by omega), if_pos h1, if_neg (by omega)]
    simp only [Prod.mk.injEq, and_true]
    omega
  · rw [span_at z n p (by omega), if_neg (by omega), if_pos h1, if_neg (by omega), if_neg h2, if_neg (by omega)]
    simp only [Prod.mk.injEq, and_true]
    omega
  · rw [span_at z n p (by omega), if_neg (by omega), if_neg (by omega), if_pos h1, if_neg (by omega), if_neg h2, if_neg (by omega)]
    simp only [Prod.mk.injEq, and_true]
    omega

theorem head_le {z : Nat → Int} {p h L : Nat} (H : Head z p h L) (hz : IsByte z) : L ≤ 65535 := by
  have b1 := hz (p + 1)
  have b2 := hz (p + 2)
  have b3 := hz (p + 3)
  rcases H with ⟨_, h1, h2⟩ | ⟨_, h1, h2, h3⟩ | ⟨_, h1, h2, h3⟩ <;> omega

theorem reach_next {z : Nat → Int} {n k p H L : Nat} (hr : Reach z n k p) (h : Head z p H L) (hn : p + H + L ≤ n) (h0 : p < n) : Reach z n (k + 1) (p + (H + L)) := by
  have hs := head_span h hn
  refine ⟨p, hr, h0, by rw [hs], ?_⟩
  rw [hs]
  dsimp only
  omega

theorem reach_lt {z : Nat → Int} {n k p cnt q : Nat} (hr : Reach z n k p) (hp : p < n) (hc : IsCheck z n cnt q 0) : k < cnt := by
  have hq : q = n := by
    rcases hc.2 with ⟨_, h⟩ | ⟨_, _, h⟩
    · exact h
    · exact absurd rfl h
  by_cases h : k < cnt
  · exact h
  · by_cases e : cnt = k
    · subst e
      have := hr.uniq hc.1
      omega
    · obtain ⟨q', h1, h2, _⟩ := hr.pre (show cnt < k by omega)
      have := h1.uniq hc.1
      omega

theorem neqR_nil (w : World) (a : Option Addr) (l c : Nat) : (binOp .neq 34 (.slice a l c) (.slice none 0 0)).run Ycom.prog w = .ok (.bool (!a.isNone)) w := run_neq_slice_nil_any w 34 36 a l c 0 0 Ycom.underlying34

theorem long (a : Option Addr) (n c : Nat) (w : World) (hn : n ≤ 9223372036854775807) (h : (1048576 : Int) < n) :
    Calls Ycom.prog 9 #[.slice a n c] w fun e w' => e = .returned (.bool true) ∧ Below w.heap.size w w' := by
  have hd : decide ((1048576 : Int) < (n : Int)) = true := decide_eq_true h
  have hq := eqlR_nil
  go_enter Ycom.func9, Ycom.ntmps9
  go_wp2_with (go_at_call 25; refine (decode_long a n c w hn h).mono ?_; rintro e w1 ⟨rfl, rfl⟩)
  go_ret
  exact ⟨rfl, Below.refl _ _⟩

set_option maxRecDepth 100000 in
set_option maxHeartbeats 4000000 in
theorem walk (a : Option Addr) (n c : Nat) (z : Nat → Int) (w : World) (hl : n ≤ c) (hc : c ≤ 9223372036854775807) (_hn : a = none → n = 0 ∧ c = 0) (hz : IsByte z ∧ BytesAt w a n z) :
    Calls Ycom.prog 9 #[.slice a n c] w fun e w' => e = .returned (.bool true) ∧ Below w.heap.size w w' := by
  obtain ⟨hzb, ha⟩ := hz
  by_cases hbig : (1048576 : Int) < n
  · exact long a n c w (by omega) hbig
  have HA : Hid (BytesAt w a n z) := ha
  have HZ : Hid (IsByte z) := hzb
  clear ha hzb _hn
  have hn : (n : Int) ≤ 1048576 := by omega
  have hq := eqlR_nil
  have hqb := eqlB_nil
  have hd : decide ((1048576 : Int) < (n : Int)) = false := decide_eq_false hbig
  go_enter Ycom.func9, Ycom.ntmps9
  go_wp2_with fail
  refine (decode_calls a n c z w hl hc hn HZ.out HA.out).mono ?_
  rintro e w1 ⟨cnt, q, code, hck, hb, hcase⟩
  have HC : Hid (IsCheck z n cnt q code) := hck
  have HB : Hid (Below w.heap.size w w1) := hb
  have HA1 : Hid (BytesAt w1 a n z) := HA.out.below hb
  have hcnt : (cnt : Int) ≤ 524288 := by have := hck.1.le HZ.out; omega
  clear hck hb
  rcases hcase with ⟨hc0, rfl⟩ | ⟨rfl, g, G, rfl, hg, hdec⟩
  · have hcb : (code == 0) = false := by simpa using hc0
    go_wp2
    go_loopw [5, 6] (fun y kv wr => ∃ (k p d : Nat) (a' : Option Addr) (c' : Nat), p ≤ n ∧ n - p ≤ c' ∧ c' ≤ 9223372036854775807 ∧ y = .slice a' (n - p) c' ∧ kv = .int .i64 k ∧ k ≤ p ∧ Hid (BytesAt w1 a' (n - p) (fun i => z (i + p))) ∧ Hid (Reach z n k p) ∧ wr = w1.drewN d) (fun y _ _ => lenOf y)
    case atStart => exact ⟨0, 0, 0, a, c, Nat.zero_le _, by omega, hc, rfl, rfl, Nat.le_refl _, HA1.out, rfl, rfl⟩
    case round =>
      obtain ⟨k, p, d, a', c', hp, hc1, hc2, rfl, rfl, hkp, HBy, HR, rfl⟩ := hrel
      by_cases h0 : n - p = 0
      · exact absurd (HC.out.uniq (c' := k) (p' := p) (code' := 0) ⟨HR.out, .inl ⟨rfl, by omega⟩⟩).2.2 hc0
      obtain ⟨r, hr⟩ : ∃ r, n - p = r := ⟨_, rfl⟩
      have hpr : n = p + r := by omega
      rw [hr] at HBy hc1 h0 ⊢
      have HBad : Hid (∀ cd : Int, cd ≠ 0 → (span z n p).2.2 = cd → code = cd) := fun cd h1 h2 => (HC.out.uniq (c' := k) (p' := p) (code' := cd) ⟨HR.out, .inr ⟨by omega, h2.symm, h1⟩⟩).2.2
      have HPR : Hid (n = p + r) := hpr
      have hrp : 0 < r := by omega
      have hrn : (r : Int) ≤ 1048576 := by omega
      have hkn : (k : Int) ≤ 1048576 := by omega
      clear hr hpr
      go_wp2_with fail
      refine (chead_calls a' r c' z n p (w1.drewN d) HPR.out hrp hn HZ.out HBy.out).mono ?_
      rintro e w2 ⟨hid, d2, rfl⟩
      obtain ⟨h, l, cd, rfl, hch⟩ := hid.out
      rcases hch with ⟨hcd, rfl, rfl, hsp⟩ | ⟨rfl, H, L, rfl, rfl, hH, hpH⟩
      · have hcode := HBad.out cd (by omega) hsp
        have hq1 : (cd == 0) = false := by simp; omega
        have hq2 : (code == cd) = true := by simpa using hcode
        clear hcode hsp
        go_wp2
        go_ret
        exact ⟨rfl, HB.out.trans ((below_drewN _ _).mono HB.out.size)⟩
      · obtain ⟨hH2, hH4⟩ := hH.ge
        have hL := head_le hH HZ.out
        have HH : Hid (Head z p H L) := hH
        have hHr : H ≤ r := by have := HPR.out; omega
        clear hH hpH
        by_cases hsh : r < H + L
        · have hcode := HBad.out 1 (by omega) (HH.out.short (by have := HPR.out; omega) (by have := HPR.out; omega))
          have hq2 : (code == 1) = true := by simpa using hcode
          have hq3 : decide ((r : Int) - (H : Int) < (L : Int)) = true := decide_eq_true (by omega)
          clear hcode
          go_wp2
          go_ret
          exact ⟨rfl, HB.out.trans ((below_drewN _ _).mono HB.out.size)⟩
        · have hq3 : decide ((r : Int) - (H : Int) < (L : Int)) = false := decide_eq_false (by omega)
          have HR2 : Hid (Reach z n (k + 1) (p + (H + L))) := reach_next HR.out HH.out (by have := HPR.out; omega) (by have := HPR.out; omega)
          have hnr : Hid (n - (p + (H + L)) = r - (H + L)) := by have := HPR.out; show _ = _; omega
          have hbn : Hid (p + (H + L) ≤ n) := by have := HPR.out; show _ ≤ _; omega
          obtain ⟨b, off, rfl, hcell⟩ := HBy.out hrp
          have HX : Hid (∀ ad, (¬ c' = H + L → ad = some ⟨b, off + (H + L), none⟩) → BytesAt w1 ad (n - (p + (H + L))) (fun i => z (i + (p + (H + L))))) := by
            intro ad had hL0
            have e1 := HPR.out
            rw [had (by omega)]
            refine ⟨b, off + (H + L), rfl, fun i hi => ?_⟩
            rw [Nat.add_assoc, hcell (H + L + i) (by omega)]
            dsimp only
            rw [show H + L + i + p = i + (p + (H + L)) by omega]
          clear hcell
          by_cases hce : c' = H + L
          · go_wp2
            go_roundw
            case rel => exact ⟨k + 1, p + (H + L), _, some ⟨b, off, none⟩, H + L - (H + L), hbn.out, by rw [hnr.out]; omega, by omega, by rw [hnr.out], by go_num, by omega, HX.out _ (fun h => absurd hce h), HR2.out, rfl⟩
            case measure => simp only [lenOf]; omega
          · go_wp2
            go_roundw
            case rel => exact ⟨k + 1, p + (H + L), _, some ⟨b, off + (H + L), none⟩, c' - (H + L), hbn.out, by rw [hnr.out]; omega, by omega, by rw [hnr.out], by go_num, by omega, HX.out _ (fun _ => rfl), HR2.out, rfl⟩
            case measure => simp only [lenOf]; omega
  · have HD : Hid (DecAt w1 w.heap.size g cnt cnt z n G) := hdec
    clear hdec
    go_wp2
    go_loopw [5, 6] (fun y kv wr => ∃ (k p d : Nat) (a' : Option Addr) (c' : Nat), p ≤ n ∧ n - p ≤ c' ∧ c' ≤ 9223372036854775807 ∧ y = .slice a' (n - p) c' ∧ kv = .int .i64 k ∧ k ≤ p ∧ Hid (BytesAt w1 a' (n - p) (fun i => z (i + p))) ∧ Hid (Reach z n k p) ∧ wr = w1.drewN d) (fun y _ _ => lenOf y)
    case atStart => exact ⟨0, 0, 0, a, c, Nat.zero_le _, by omega, hc, rfl, rfl, Nat.le_refl _, HA1.out, rfl, rfl⟩
    case round =>
      obtain ⟨k, p, d, a', c', hp, hc1, hc2, rfl, rfl, hkp, HBy, HR, rfl⟩ := hrel
      by_cases h0 : n - p = 0
      · have hkc : cnt = k := (HC.out.uniq (c' := k) (p' := p) (code' := 0) ⟨HR.out, .inl ⟨rfl, by omega⟩⟩).1
        subst hkc
        have hqn := neqR_nil
        rw [h0]
        go_wp2
        go_ret
        exact ⟨rfl, HB.out.trans ((below_drewN _ _).mono HB.out.size)⟩
      obtain ⟨r, hr⟩ : ∃ r, n - p = r := ⟨_, rfl⟩
      have hpr : n = p + r := by omega
      rw [hr] at HBy hc1 h0 ⊢
      have HBad : Hid (∀ cd : Int, cd ≠ 0 → (span z n p).2.2 = cd → 0 = cd) := fun cd h1 h2 => (HC.out.uniq (c' := k) (p' := p) (code' := cd) ⟨HR.out, .inr ⟨by omega, h2.symm, h1⟩⟩).2.2
      have HPR : Hid (n = p + r) := hpr
      have hrp : 0 < r := by omega
      have hrn : (r : Int) ≤ 1048576 := by omega
      have hkn : (k : Int) ≤ 1048576 := by omega
      clear hr hpr
      go_wp2_with fail
      refine (chead_calls a' r c' z n p (w1.drewN d) HPR.out hrp hn HZ.out HBy.out).mono ?_
      rintro e w2 ⟨hid, d2, rfl⟩
      obtain ⟨h, l, cd, rfl, hch⟩ := hid.out
      rcases hch with ⟨hcd, rfl, rfl, hsp⟩ | ⟨rfl, H, L, rfl, rfl, hH, hpH⟩
      · have hcode := HBad.out cd (by omega) hsp
        omega
      · obtain ⟨hH2, hH4⟩ := hH.ge
        have hL := head_le hH HZ.out
        have HH : Hid (Head z p H L) := hH
        have hHr : H ≤ r := by have := HPR.out; omega
        clear hH hpH
        by_cases hsh : r < H + L
        · have hcode := HBad.out 1 (by omega) (HH.out.short (by have := HPR.out; omega) (by have := HPR.out; omega))
          omega
        · have hq3 : decide ((r : Int) - (H : Int) < (L : Int)) = false := decide_eq_false (by omega)
          have HR2 : Hid (Reach z n (k + 1) (p + (H + L))) := reach_next HR.out HH.out (by have := HPR.out; omega) (by have := HPR.out; omega)
          have hnr : Hid (n - (p + (H + L)) = r - (H + L)) := by have := HPR.out; show _ = _; omega
          have hbn : Hid (p + (H + L) ≤ n) := by have := HPR.out; show _ ≤ _; omega
          obtain ⟨b, off, rfl, hcell⟩ := HBy.out hrp
          have HX : Hid (∀ ad, (¬ c' = H + L → ad = some ⟨b, off + (H + L), none⟩) → BytesAt w1 ad (n - (p + (H + L))) (fun i => z (i + (p + (H + L))))) := by
            intro ad had hL0
            have e1 := HPR.out
            rw [had (by omega)]
            refine ⟨b, off + (H + L), rfl, fun i hi => ?_⟩
            rw [Nat.add_assoc, hcell (H + L + i) (by omega)]
            dsimp only
            rw [show H + L + i + p = i + (p + (H + L)) by omega]
          have hkc : k < cnt := reach_lt HR.out (by have := HPR.out; omega) HC.out
          have hkci : (k : Int) < (cnt : Int) := by omega
          have r0 : w1.cell? ⟨b, off, none⟩ = some (.int .u8 (z p)) := by simpa using hcell 0 hrp
          obtain ⟨f, hrow, hf⟩ := HD.out
          obtain ⟨p', s, m, hrec, hf0, hf1, _, _, hrow2, _⟩ := hf k hkc
          have hpp := hrec.reach.uniq HR.out
          subst hpp
          have hsm : s = p' + H ∧ m = L := by
            have e := hrec.span.symm.trans (head_span HH.out (by have := HPR.out; omega))
            simp only [Prod.mk.injEq] at e
            omega
          obtain ⟨rfl, rfl⟩ := hsm
          have f0 : w1.cell? ⟨g, k * 2, none⟩ = some (.int .u8 (z p')) := by rw [hrow.cell (by omega), hf0]
          have f1 : w1.cell? ⟨g, k * 2 + 1, none⟩ = some (.slice (some ⟨G k, 0, none⟩) m m) := by rw [hrow.cell (by omega), hf1]
          have HE : Hid (∀ D x ad cc, (¬ c' = H → ad = some ⟨b, off + H, none⟩) → Calls Ycom.prog 27 #[.slice (some ⟨G k, 0, none⟩) m m, .slice ad m cc] (w1.drewN (D + x)) fun e w' => e = .returned (.bool true) ∧ ∃ n, w' = w1.drewN (D + n)) := by
            intro D x ad cc had
            refine (ceq_calls _ _ m m _ _ (fun i => z (p' + H + i)) (w1.drewN (D + x)) (by omega) rfl ?_ ?_).mono (fun e w' ⟨he, q, hq⟩ => ⟨he, x + q, by rw [hq, World.drewN_drewN, Nat.add_assoc]⟩)
            · have h9 : BytesAt w1 (some ⟨G k, 0, none⟩) m (fun i => z (p' + H + i)) := by
                have := rowIs_bytes (z := fun j => z (p' + H + j)) hrow2 0 m (by omega)
                simpa using this
              exact h9
            · have h9 : BytesAt w1 ad m (fun i => z (p' + H + i)) := by
                intro hL0
                rw [had (by omega)]
                refine ⟨b, off + H, rfl, fun i hi => ?_⟩
                rw [Nat.add_assoc, hcell (H + i) (by omega)]
                dsimp only
                rw [show H + i + p' = p' + H + i by omega]
              exact h9
          clear hcell hf hrow hrow2 hrec hf0 hf1
          by_cases hcH : c' = H
          · by_cases hce : c' = H + m
            · go_wp2
              go_quiet (fail)
              go_wp2
              go_quiet ((go_at_call 27; exact HE.out _ _ _ _ (fun h => absurd hcH h)))
              go_wp2
              go_roundw
              case rel => exact ⟨k + 1, p' + (H + m), _, some ⟨b, off, none⟩, H - (H + m), hbn.out, by rw [hnr.out]; omega, by omega, by rw [hnr.out], by go_num, by omega, HX.out _ (fun h => absurd hce h), HR2.out, rfl⟩
              case measure => simp only [lenOf]; omega
            · omega
          · by_cases hce : c' = H + m
            · go_wp2
              go_quiet (fail)
              go_wp2
              go_quiet ((go_at_call 27; exact HE.out _ _ _ _ (fun _ => rfl)))
              go_wp2
              go_roundw
              case rel => exact ⟨k + 1, p' + (H + m), _, some ⟨b, off, none⟩, H + m - (H + m), hbn.out, by rw [hnr.out]; omega, by omega, by rw [hnr.out], by go_num, by omega, HX.out _ (fun h => absurd hce h), HR2.out, rfl⟩
              case measure => simp only [lenOf]; omega
            · go_wp2
              go_quiet (fail)
              go_wp2
              go_quiet ((go_at_call 27; exact HE.out _ _ _ _ (fun _ => rfl)))
              go_wp2
              go_roundw
              case rel => exact ⟨k + 1, p' + (H + m), _, some ⟨b, off + (H + m), none⟩, c' - (H + m), hbn.out, by rw [hnr.out]; omega, by omega, by rw [hnr.out], by go_num, by omega, HX.out _ (fun _ => rfl), HR2.out, rfl⟩
              case measure => simp only [lenOf]; omega
end Go.Proofs.Ymbrco.lawS930003CExact
