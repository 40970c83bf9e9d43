/-
  Ymbrco: the helpers of the B law: 'zzs930003bsame.
-/
import Derived.Test.YmbrcoMem
import Derived.LaidEqlPtr
namespace Go.Proofs.Ymbrco
open Go.RowKit
set_option linter.unusedVariables false

set_option maxRecDepth 100000 in
set_option maxHeartbeats 1000000 in
/-- One and the same record is the same. -/
theorem bsame_calls (t : Int) (a : Option Addr) (m c1 c2 : Nat) (w : World) (hm : m ≤ 9223372036854775807) (ha : 0 < m → ∃ b off, a = some ⟨b, off, none⟩) :
    Calls Ycom.prog 23 #[.agg #[.int .u8 t, .slice a m c1], .agg #[.int .u8 t, .slice a m c2]] w fun e w' => e = .returned (.bool true) ∧ Below w.heap.size w w' := by
  have hq := eqlB_nil
  by_cases h0 : m = 0
  · subst h0
    clear ha
    go_enter Ycom.func23, Ycom.ntmps23
    go_wp2
    go_quiet (fail)
    go_wp2
    go_ret
    exact ⟨rfl, (((Below.refl _ _).alloc (Nat.le_refl _) _).alloc (by simp) _).trans ((below_drewN _ _).mono (by simp; omega))⟩
  · obtain ⟨b, off, rfl⟩ := ha (by omega)
    have h1 : ((m : Int) == 0) = false := by simp; omega
    have hp : 0 < m := by omega
    obtain ⟨i5, hi5, _⟩ := info_parts Ycom.info5
    have hpp : ∀ (w : World) (ad : Addr), (binOp .eql 61 (.pointer (some ad)) (.pointer (some ad))).run Ycom.prog w = .ok (.bool true) w := fun w ad => run_eql_ptr_same w ad Ycom.underlying61 hi5
    clear hi5
    have hp2 : (0 : Int) < (m : Int) := by omega
    go_enter Ycom.func23, Ycom.ntmps23
    go_wp2
    go_quiet (fail)
    go_wp2
    go_ret
    exact ⟨rfl, (((Below.refl _ _).alloc (Nat.le_refl _) _).alloc (by simp) _).trans ((below_drewN _ _).mono (by simp; omega))⟩

set_option maxRecDepth 100000 in
set_option maxHeartbeats 2000000 in
/-- Two slices that hold the same records are the same. -/
theorem ball_calls (a b : Option Addr) (n m c1 c2 : Nat) (r : Recs) (w : World) (hm : m = n) (hn : (n : Int) ≤ 1000000) (ha : RecsAt w a n r) (hb : RecsAt w b n r)
    (hv : ∀ i, i < n → r.L i ≤ 9223372036854775807 ∧ (0 < r.L i → ∃ b off, r.A i = some ⟨b, off, none⟩)) :
    Calls Ycom.prog 24 #[.slice a n c1, .slice b m c2] w fun e w' => e = .returned (.bool true) ∧ Below w.heap.size w w' := by
  subst hm
  have HA : Hid (RecsAt w a m r) := ha
  have HC : Hid (RecsAt w b m r) := hb
  have HV : Hid (∀ i, i < m → r.L i ≤ 9223372036854775807 ∧ (0 < r.L i → ∃ b off, r.A i = some ⟨b, off, none⟩)) := hv
  clear ha hb hv
  go_enter Ycom.func24, Ycom.ntmps24
  go_wp2
  go_loopw [5] (fun iv wr => ∃ k : Nat, k ≤ m ∧ iv = .int .i64 k ∧ Hid (Below w.heap.size w wr)) (fun iv _ => m - (intOf iv).toNat)
  case atStart => exact ⟨0, Nat.zero_le _, rfl, Below.refl _ _⟩
  case round =>
    obtain ⟨k, hk, rfl, HB⟩ := hrel
    by_cases hlt : k < m
    · obtain ⟨ab, off, rfl, hT, hS⟩ := HA.out (by omega)
      obtain ⟨bb, off2, rfl, hT2, hS2⟩ := HC.out (by omega)
      have hc0 := hT k hlt
      have hc1 := hS k hlt
      have hc2 := hT2 k hlt
      have hc3 := hS2 k hlt
      have t0 : wr.cell? ⟨ab, off + k * 2, none⟩ = some (.int .u8 (r.T k)) := (HB.out.cell (World.block_lt_of_cell? _ _ hc0)).trans hc0
      have t1 : wr.cell? ⟨ab, off + k * 2 + 1, none⟩ = some (.slice (r.A k) (r.L k) (r.C k)) := (HB.out.cell (World.block_lt_of_cell? _ _ hc1)).trans hc1
      have i0 : wr.cell? ⟨bb, off2 + k * 2, none⟩ = some (.int .u8 (r.T k)) := (HB.out.cell (World.block_lt_of_cell? _ _ hc2)).trans hc2
      have i1 : wr.cell? ⟨bb, off2 + k * 2 + 1, none⟩ = some (.slice (r.A k) (r.L k) (r.C k)) := (HB.out.cell (World.block_lt_of_cell? _ _ hc3)).trans hc3
      have HE : Hid (∀ wz, wr.drew = wz → Calls Ycom.prog 23 #[.agg #[.int .u8 (r.T k), .slice (r.A k) (r.L k) (r.C k)], .agg #[.int .u8 (r.T k), .slice (r.A k) (r.L k) (r.C k)]] wz fun e w' => e = .returned (.bool true) ∧ Below w.heap.size w w') := by
        rintro wz rfl
        refine (bsame_calls (r.T k) (r.A k) (r.L k) (r.C k) (r.C k) wr.drew (HV.out k hlt).1 (HV.out k hlt).2).mono ?_
        rintro e w' ⟨rfl, hb⟩
        exact ⟨rfl, HB.out.drew.trans (hb.mono HB.out.size)⟩
      clear hT hS hT2 hS2 hc0 hc1 hc2 hc3
      go_wp2
      go_region_with (go_at_call 23; refine (HE.out _ rfl).mono ?_; rintro e w5 ⟨rfl, hB5⟩; have HB5 : Hid (Below w.heap.size w w5) := hB5; clear hB5)
      all_goals
        go_wp2
        go_roundw
        case rel => exact ⟨k + 1, by omega, by go_num, HB5.out⟩
        case measure => simp [intOf] <;> omega
    · obtain rfl : m = k := by omega
      go_wp2
      go_ret
      exact ⟨rfl, HB.out⟩

set_option maxRecDepth 100000 in
set_option maxHeartbeats 2000000 in
/-- 'baim' gives the record with some type. -/
theorem baim_calls (a : Option Addr) (n c : Nat) (r : Recs) (t : Int) (ra : Option Addr) (rl rc : Nat) (pick : Int) (w : World) (hn : (n : Int) ≤ 1000000) (hp : 0 ≤ pick ∧ pick ≤ 255) (hok : RecsOk n r) (ha : RecsAt w a n r) :
    Calls Ycom.prog 21 #[.slice a n c, .agg #[.int .u8 t, .slice ra rl rc], .int .u8 pick] w fun e w' => (∃ t', Hid (t' = t ∨ ∃ i, i < n ∧ t' = r.T i) ∧ e = .returned (.agg #[.int .u8 t', .slice ra rl rc])) ∧ Below w.heap.size w w' := by
  have HA : Hid (RecsAt w a n r) := ha
  clear ha
  by_cases h1 : pick % 2 = 1
  · by_cases h2 : 0 < n
    · obtain ⟨ab, off, rfl, hT, hS⟩ := HA.out (by omega)
      obtain ⟨i, hi⟩ : ∃ i : Nat, (pick / 2) % (n : Int) = (i : Int) := ⟨((pick / 2) % (n : Int)).toNat, by have := Int.emod_nonneg (pick / 2) (show (n : Int) ≠ 0 by omega); omega⟩
      have hin : i < n := by have := Int.emod_lt_of_pos (pick / 2) (show (0 : Int) < n by omega); omega
      have t0 := hT i hin
      have hab := World.block_lt_of_cell? _ _ t0
      have hb1 : (pick % 2 == 1) = true := by simp [h1]
      have h2i : (0 : Int) < (n : Int) := by omega
      clear hT hS
      go_enter Ycom.func21, Ycom.ntmps21
      go_wp2
      exact bodyPost_ret (v := .agg #[.int .u8 (r.T i), .slice ra rl rc]) (by simp [results, Ycom.results21, go_sem]) rfl ⟨⟨_, .inr ⟨i, hin, rfl⟩, rfl⟩, ((Below.refl _ _).alloc (Nat.le_refl _) _).alloc (by simp) _⟩
    · have hb1 : (pick % 2 == 1) = true := by simp [h1]
      go_enter Ycom.func21, Ycom.ntmps21
      go_wp2
      exact bodyPost_ret (v := .agg #[.int .u8 t, .slice ra rl rc]) (by simp [results, Ycom.results21, go_sem]) rfl ⟨⟨_, .inl rfl, rfl⟩, ((Below.refl _ _).alloc (Nat.le_refl _) _).alloc (by simp) _⟩
  · have hb1 : (pick % 2 == 1) = false := by simp [h1]
    go_enter Ycom.func21, Ycom.ntmps21
    go_wp2
    exact bodyPost_ret (v := .agg #[.int .u8 t, .slice ra rl rc]) (by simp [results, Ycom.results21, go_sem]) rfl ⟨⟨_, .inl rfl, rfl⟩, ((Below.refl _ _).alloc (Nat.le_refl _) _).alloc (by simp) _⟩
end Go.Proofs.Ymbrco
