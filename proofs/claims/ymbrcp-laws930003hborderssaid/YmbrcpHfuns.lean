/-
  Ymbrcp: the helpers of the H laws: 'zzs930003hhead', 'zzs930003hfits', 'zzs930003hmatch'.
-/
import Derived.Test.YmbrcpEncode
namespace Go.Proofs.Ymbrcp
open Go.RowKit
set_option linter.unusedVariables false

def hd (n : Nat) : Nat := if 256 ≤ n then 4 else if 128 ≤ n then 3 else 2
theorem hd_wire (n : Nat) : n + hd n = wire n := by unfold hd wire; (repeat' split) <;> omega
theorem hd_lenF (n : Nat) : hd n = 1 + (lenF n).length := by rw [lenF_len]; unfold hd; (repeat' split) <;> omega
theorem hd_bd (n : Nat) : 2 ≤ hd n ∧ hd n ≤ 4 := by unfold hd; (repeat' split) <;> omega

set_option maxRecDepth 100000 in
theorem hhead_calls (n : Nat) (w : World) (hn : n ≤ 9223372036854775807) :
    Calls Ycpm.prog 33 #[.int .i64 n] w fun e w' => e = .returned (.int .i64 (hd n)) ∧ w' = w := by
  by_cases h1 : 256 ≤ n
  · have HE : Hid (hd n = 4) := by simp [Hid, hd, h1]
    go_enter Ycpm.func33, Ycpm.ntmps33
    go_wp2
    go_ret
    exact ⟨by rw [HE.out]; rfl, rfl⟩
  by_cases h2 : 128 ≤ n
  · have HE : Hid (hd n = 3) := by simp [Hid, hd, h1, h2]
    go_enter Ycpm.func33, Ycpm.ntmps33
    go_wp2
    go_ret
    exact ⟨by rw [HE.out]; rfl, rfl⟩
  · have HE : Hid (hd n = 2) := by simp [Hid, hd, h1, h2]
    go_enter Ycpm.func33, Ycpm.ntmps33
    go_wp2
    go_ret
    exact ⟨by rw [HE.out]; rfl, rfl⟩

set_option maxRecDepth 100000 in
set_option maxHeartbeats 1000000 in
theorem hfits_calls (a : Option Addr) (n c : Nat) (r : Recs) (w : World) (hn : n ≤ 9223372036854775807) (ha : RecsAt w a n r) (hr : ∀ i, i < n → r.L i ≤ 9223372036854775807) :
    Calls Ycpm.prog 27 #[.slice a n c] w fun e w' => ∃ b, e = .returned (.bool b) ∧ (b = true ↔ Fits r.L n) ∧ w' = w := by
  have HA : Hid (RecsAt w a n r) := ha
  have HR : Hid (∀ i, i < n → r.L i ≤ 9223372036854775807) := hr
  clear ha hr
  go_enter Ycpm.func27, Ycpm.ntmps27
  go_wp2_with fail
  go_loopw [3, 4] (fun t i wr => ∃ k : Nat, k ≤ n ∧ i = .int .i64 k ∧ t = .int .i64 (sumTo r.L k) ∧ Hid (Fits r.L k) ∧ wr = w)
    (fun _ i _ => n - (intOf i).toNat)
  case atStart => exact ⟨0, Nat.zero_le _, rfl, rfl, ⟨fun i hi => by omega, by simp [sumTo]⟩, rfl⟩
  case round =>
    obtain ⟨k, hk, rfl, rfl, hf, rfl⟩ := hrel
    by_cases hlt : k < n
    · obtain ⟨b, off, rfl, hT, hV⟩ := HA.out (by omega)
      have h2 : wr.cell? ⟨b, off + k * 2 + 1, none⟩ = some (.slice (r.A k) (r.L k) (r.C k)) := hV k hlt
      clear hT hV
      have hs1 : ((sumTo r.L k : Nat) : Int) ≤ 1048576 := by have := hf.out.2; omega
      have hL := HR.out k hlt
      by_cases hbig : 65535 < r.L k
      · have HN : Hid (¬ Fits r.L n) := fun h => by have := h.1 k hlt; omega
        have hbig2 : (65535 : Int) < (r.L k : Int) := by omega
        go_wp2
        go_ret
        exact ⟨false, rfl, by simp [HN.out], rfl⟩
      · have hbig2 : (r.L k : Int) ≤ 65535 := by omega
        have hh := hd_bd (r.L k)
        have hh2 : ((hd (r.L k) : Nat) : Int) ≤ 4 := by omega
        have HW : Hid (r.L k + hd (r.L k) = wire (r.L k)) := hd_wire _
        clear hh
        by_cases hover : 1048576 < sumTo r.L k + (r.L k + hd (r.L k))
        · have HN : Hid (¬ Fits r.L n) := fun h => by have := (h.upto (show k + 1 ≤ n by omega)).2; have := HW.out; simp only [sumTo] at *; omega
          have hover2 : (1048576 : Int) < (sumTo r.L k : Int) + ((r.L k : Int) + (hd (r.L k) : Int)) := by omega
          go_wp2_with (go_at_call 33; refine (hhead_calls _ _ hL).mono ?_; rintro e w' ⟨rfl, rfl⟩)
          go_ret
          exact ⟨false, rfl, by simp [HN.out], rfl⟩
        · have HN : Hid (Fits r.L (k + 1)) := by
            refine ⟨fun i hi => ?_, by have := HW.out; simp only [sumTo]; omega⟩
            by_cases e : i = k
            · rw [e]; omega
            · exact hf.out.1 i (by omega)
          have hover2 : (sumTo r.L k : Int) + ((r.L k : Int) + (hd (r.L k) : Int)) ≤ 1048576 := by omega
          go_wp2_with (go_at_call 33; refine (hhead_calls _ _ hL).mono ?_; rintro e w' ⟨rfl, rfl⟩)
          go_roundw
          case rel => exact ⟨k + 1, by omega, by go_num, by simp only [sumTo]; rw [← HW.out]; go_num, HN, by simp⟩
          case measure => simp [intOf] <;> omega
    · obtain rfl : k = n := by omega
      go_wp2
      go_ret
      exact ⟨true, rfl, by simp [hf.out], rfl⟩

set_option maxRecDepth 100000 in
set_option maxHeartbeats 2000000 in
/-- Where the wire form stands, it is found. -/
theorem hmatch_calls (a : Option Addr) (n c : Nat) (z : Nat → Int) (p : Nat) (t : Int) (av : Option Addr) (m cv : Nat) (zv : Nat → Int) (w : World) (hc : n ≤ c) (hn : (n : Int) ≤ 1048576) (hz : IsByte z) (ha : BytesAt w a n z) (hv : BytesAt w av m zv)
    (hp : p + hd m + m ≤ n) (hm : (m : Int) ≤ 65535) (hT : z p = t) (hH : Head z p (hd m) m) (hV : ∀ i, i < m → z (p + hd m + i) = zv i) :
    Calls Ycpm.prog 31 #[.slice a n c, .int .i64 p, .agg #[.int .u8 t, .slice av m cv]] w fun e w' => e = .returned (.int .i64 (p + hd m + m : Nat)) ∧ Below w.heap.size w w' := by
  have hb := hd_bd m
  obtain ⟨b, off, rfl, hcell⟩ := ha (by omega)
  have hbl : b < w.heap.size := World.block_lt_of_cell? _ _ (hcell p (by omega))
  have HC : Hid (∀ i, i < n → w.cell? ⟨b, off + i, none⟩ = some (.int .u8 (z i))) := hcell
  have HV : Hid (BytesAt w av m zv) := hv
  have HVE : Hid (∀ i, i < m → z (p + hd m + i) = zv i) := hV
  have c0 : w.cell? ⟨b, off + p, none⟩ = some (.int .u8 t) := by rw [hcell p (by omega), hT]
  clear hcell hv hV hT ha
  have HZ : Hid (IsByte z) := hz
  clear hz
  have drewN_add : ∀ (w : World) (a b : Nat), (w.drewN a).drewN b = w.drewN (a + b) := fun w a b => by simp [World.drewN, Nat.add_assoc]
  have hidn : Hid (∀ (w : World) (a b : Nat), (w.drewN a).drewN b = w.drewN (a + b)) := drewN_add
  clear drewN_add
  rcases hH with ⟨e, h1, h2⟩ | ⟨e, h1, h2, h3⟩ | ⟨e, h1, h2, h3⟩
  · have c1 : w.cell? ⟨b, off + (p + 1), none⟩ = some (.int .u8 (z (p + 1))) := HC.out (p + 1) (by omega)
    rw [← h2] at c1
    rw [e] at hp
    have HE : Hid (hd m = 2) := e
    have hp2 : (p : Int) + 2 + (m : Int) ≤ n := by omega
    clear h1 h2 hb e
    go_enter Ycpm.func31, Ycpm.ntmps31
    go_wp2_with (go_at_call 33; refine (hhead_calls _ _ (by omega)).mono ?_; rw [HE.out]; rintro e w' ⟨rfl, rfl⟩)
    go_quiet (fail)
    go_wp2
    go_quiet (fail)
    go_wp2
    go_loopw [9] (fun i wr => ∃ k d : Nat, k ≤ m ∧ i = .int .i64 k ∧ wr = (w.alloc (.cells #[.int .u8 t, .slice av m cv] 27)).drewN d) (fun i _ => m - (intOf i).toNat)
    case atStart => exact ⟨0, _, Nat.zero_le _, rfl, hidn.out _ _ _⟩
    case round =>
      obtain ⟨k, d, hk, rfl, rfl⟩ := hrel
      by_cases hlt : k < m
      · obtain ⟨b2, o2, rfl, hc2⟩ := HV.out (by omega)
        have g1 : w.cell? ⟨b, off + (p + 2 + k), none⟩ = some (.int .u8 (zv k)) := by rw [HC.out (p + 2 + k) (by omega), ← HVE.out k hlt, HE.out]
        have g2 : w.cell? ⟨b2, o2 + k, none⟩ = some (.int .u8 (zv k)) := hc2 k hlt
        have l2 : b2 < w.heap.size := World.block_lt_of_cell? _ _ g2
        clear hc2
        go_wp2
        go_quiet (fail)
        go_wp2
        go_roundw
        case rel => exact ⟨k + 1, _, by omega, by go_num, rfl⟩
        case measure => simp [intOf] <;> omega
      · obtain rfl : m = k := by omega
        go_wp2
        go_ret
        refine ⟨ret_int ?_, ((Below.refl _ _).alloc (Nat.le_refl _) _).trans ((below_drewN _ d).mono (by simp))⟩
        rw [HE.out]
        omega
  · have c1 : w.cell? ⟨b, off + (p + 1), none⟩ = some (.int .u8 (z (p + 1))) := HC.out (p + 1) (by omega)
    have c2 : w.cell? ⟨b, off + (p + 2), none⟩ = some (.int .u8 (z (p + 2))) := HC.out (p + 2) (by omega)
    rw [h1] at c1
    rw [← h3] at c2
    rw [e] at hp
    have HE : Hid (hd m = 3) := e
    have hp2 : (p : Int) + 3 + (m : Int) ≤ n := by omega
    clear h1 h2 h3 hb e
    go_enter Ycpm.func31, Ycpm.ntmps31
    go_wp2_with (go_at_call 33; refine (hhead_calls _ _ (by omega)).mono ?_; rw [HE.out]; rintro e w' ⟨rfl, rfl⟩)
    go_quiet (fail)
    go_wp2
    go_quiet (fail)
    go_wp2
    go_loopw [9] (fun i wr => ∃ k d : Nat, k ≤ m ∧ i = .int .i64 k ∧ wr = (w.alloc (.cells #[.int .u8 t, .slice av m cv] 27)).drewN d) (fun i _ => m - (intOf i).toNat)
    case atStart => exact ⟨0, _, Nat.zero_le _, rfl, hidn.out _ _ _⟩
    case round =>
      obtain ⟨k, d, hk, rfl, rfl⟩ := hrel
      by_cases hlt : k < m
      · obtain ⟨b2, o2, rfl, hc2⟩ := HV.out (by omega)
        have g1 : w.cell? ⟨b, off + (p + 3 + k), none⟩ = some (.int .u8 (zv k)) := by rw [HC.out (p + 3 + k) (by omega), ← HVE.out k hlt, HE.out]
        have g2 : w.cell? ⟨b2, o2 + k, none⟩ = some (.int .u8 (zv k)) := hc2 k hlt
        have l2 : b2 < w.heap.size := World.block_lt_of_cell? _ _ g2
        clear hc2
        go_wp2
        go_quiet (fail)
        go_wp2
        go_roundw
        case rel => exact ⟨k + 1, _, by omega, by go_num, rfl⟩
        case measure => simp [intOf] <;> omega
      · obtain rfl : m = k := by omega
        go_wp2
        go_ret
        refine ⟨ret_int ?_, ((Below.refl _ _).alloc (Nat.le_refl _) _).trans ((below_drewN _ d).mono (by simp))⟩
        rw [HE.out]
        omega
  · have c1 : w.cell? ⟨b, off + (p + 1), none⟩ = some (.int .u8 (z (p + 1))) := HC.out (p + 1) (by omega)
    have c2 : w.cell? ⟨b, off + (p + 2), none⟩ = some (.int .u8 (z (p + 2))) := HC.out (p + 2) (by omega)
    have c3 : w.cell? ⟨b, off + (p + 3), none⟩ = some (.int .u8 (z (p + 3))) := HC.out (p + 3) (by omega)
    rw [h1] at c1
    have z2 := HZ.out (p + 2)
    have z3 := HZ.out (p + 3)
    have h4 : z (p + 2) * 256 + z (p + 3) = (m : Int) := h3.symm
    rw [e] at hp
    have HE : Hid (hd m = 4) := e
    have hp2 : (p : Int) + 4 + (m : Int) ≤ n := by omega
    clear h1 h2 h3 hb e
    go_enter Ycpm.func31, Ycpm.ntmps31
    go_wp2_with (go_at_call 33; refine (hhead_calls _ _ (by omega)).mono ?_; rw [HE.out]; rintro e w' ⟨rfl, rfl⟩)
    go_quiet (fail)
    go_wp2
    go_quiet (fail)
    go_wp2
    go_loopw [9] (fun i wr => ∃ k d : Nat, k ≤ m ∧ i = .int .i64 k ∧ wr = (w.alloc (.cells #[.int .u8 t, .slice av m cv] 27)).drewN d) (fun i _ => m - (intOf i).toNat)
    case atStart => exact ⟨0, _, Nat.zero_le _, rfl, hidn.out _ _ _⟩
    case round =>
      obtain ⟨k, d, hk, rfl, rfl⟩ := hrel
      by_cases hlt : k < m
      · obtain ⟨b2, o2, rfl, hc2⟩ := HV.out (by omega)
        have g1 : w.cell? ⟨b, off + (p + 4 + k), none⟩ = some (.int .u8 (zv k)) := by rw [HC.out (p + 4 + k) (by omega), ← HVE.out k hlt, HE.out]
        have g2 : w.cell? ⟨b2, o2 + k, none⟩ = some (.int .u8 (zv k)) := hc2 k hlt
        have l2 : b2 < w.heap.size := World.block_lt_of_cell? _ _ g2
        clear hc2
        go_wp2
        go_quiet (fail)
        go_wp2
        go_roundw
        case rel => exact ⟨k + 1, _, by omega, by go_num, rfl⟩
        case measure => simp [intOf] <;> omega
      · obtain rfl : m = k := by omega
        go_wp2
        go_ret
        refine ⟨ret_int ?_, ((Below.refl _ _).alloc (Nat.le_refl _) _).trans ((below_drewN _ d).mono (by simp))⟩
        rw [HE.out]
        omega
end Go.Proofs.Ymbrcp
