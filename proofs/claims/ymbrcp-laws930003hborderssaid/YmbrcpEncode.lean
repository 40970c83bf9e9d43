/-
  Ymbrcp: 'Encode': the records' wire forms, one behind the other.
-/
import Derived.Test.YmbrcpAppRecord
import Derived.Test.YmbrcpSizes
namespace Go.Proofs.Ymbrcp
open Go.RowKit
set_option linter.unusedVariables false

/-- The records as numbers. -/
def recL (r : Recs) (n : Nat) : List (Int × List Int) := (List.range n).map fun i => (r.T i, (List.range (r.L i)).map (r.Z i))

theorem recL_len (r : Recs) (n : Nat) : (recL r n).length = n := by simp [recL]
theorem recL_succ (r : Recs) (k : Nat) : recL r (k + 1) = recL r k ++ [(r.T k, (List.range (r.L k)).map (r.Z k))] := by simp [recL, List.range_succ]
theorem encs_succ (r : Recs) (k : Nat) : encs (recL r (k + 1)) = encs (recL r k) ++ enc (r.T k) ((List.range (r.L k)).map (r.Z k)) := by
  rw [recL_succ, encs_app]
  simp [encs]
theorem encs_len (r : Recs) : ∀ k, (encs (recL r k)).length = sumTo r.L k
  | 0 => rfl
  | k + 1 => by
    rw [encs_succ, List.length_append, encs_len r k, enc_wire]
    show _ = sumTo r.L k + wire (r.L k)
    simp [wire]

set_option maxRecDepth 100000 in
set_option maxHeartbeats 2000000 in
theorem encode_calls (a : Option Addr) (n c : Nat) (r : Recs) (w : World) (hn : n ≤ 9223372036854775807) (hok : RecsOk n r) (ha : RecsAt w a n r) (hv : ValsAt w n r) :
    Calls Ycpm.prog 26 #[.slice a n c] w fun e w' => (Fits r.L n ∧ ∃ ao N cap, e = .returned (.tuple #[.slice ao N cap, .bool true]) ∧ OwnB w' w.heap.size (.slice ao N cap) (encs (recL r n)) ∧ ao ≠ none ∧ Below w.heap.size w w') ∨
      (¬ Fits r.L n ∧ e = .returned (.tuple #[.slice none 0 0, .bool false]) ∧ Below w.heap.size w w') := by
  have HA : Hid (RecsAt w a n r) := ha
  have HV : Hid (ValsAt w n r) := hv
  have HK : Hid (RecsOk n r) := hok
  clear ha hv hok
  go_enter Ycpm.func26, Ycpm.ntmps26
  go_wp2_with fail
  refine (ts_calls a n c r w hn HA.out (fun i hi => by have := HK.out.hL i hi; have := HK.out.hC i hi; omega)).mono ?_
  rintro e w1 ⟨q, b, rfl, ht, hb1⟩
  have HB1 : Hid (Below w.heap.size w w1) := hb1
  have hs1 := hb1.size
  clear hb1
  rcases ht with ⟨rfl, hfit, rfl⟩ | ⟨rfl, hnot, rfl⟩
  · have HF : Hid (Fits r.L n) := hfit
    have hq : ((sumTo r.L n : Nat) : Int) ≤ 1048576 := by have := hfit.2; omega
    have hn2 : (n : Int) ≤ 524288 := by have := sumTo_ge r.L n; omega
    clear hfit
    go_wp2_with (at_make; refine wpList_mkBx _ _ rfl rfl _ _ rfl .i64 .i64 _ _ 0 (sumTo r.L n) rfl rfl rfl rfl (by omega) (by omega) ?_; intro w2 hrow2 hb2 hs2; have HO2 : Hid (OwnB w2 w.heap.size (.slice (some ⟨w1.heap.size, 0, none⟩) 0 (sumTo r.L n)) []) := OwnB.made hrow2 hs1 (by omega); have HB2 : Hid (Below w.heap.size w w2) := HB1.out.trans (hb2.mono hs1); clear hrow2 hb2)
    go_loopw [6, 20] (fun o i wr => ∃ k : Nat, k ≤ n ∧ i = .int .i64 k ∧ (∃ ao N cap, o = .slice ao N cap ∧ ao ≠ none ∧ (N : Int) ≤ 1048576 ∧ Hid (OwnB wr w.heap.size (.slice ao N cap) (encs (recL r k)))) ∧ Hid (Below w.heap.size w wr)) (fun _ i _ => n - (intOf i).toNat)
    case atStart => exact ⟨0, Nat.zero_le _, rfl, ⟨_, _, _, rfl, by simp, by omega, HO2.out⟩, HB2.out⟩
    case round =>
      clear HO2 HB2
      obtain ⟨k, hk, rfl, ⟨ao, N, cap, rfl, hne, hN, HO⟩, HB⟩ := hrel
      have HNE : Hid (ao ≠ none) := hne
      clear hne
      by_cases hlt : k < n
      · obtain ⟨ab, off, rfl, hT, hS⟩ := HA.out (by omega)
        have hc0 := hT k hlt
        have hc1 := hS k hlt
        have hbw := World.block_lt_of_cell? _ _ hc0
        have t0 : wr.cell? ⟨ab, off + k * 2, none⟩ = some (.int .u8 (r.T k)) := (HB.out.cell hbw).trans hc0
        have t1 : wr.cell? ⟨ab, off + k * 2 + 1, none⟩ = some (.slice (r.A k) (r.L k) (r.C k)) := (HB.out.cell (World.block_lt_of_cell? _ _ hc1)).trans hc1
        clear hT hS hc0 hc1
        have hm : ((r.L k : Nat) : Int) ≤ 65535 := by have := HF.out.1 k hlt; omega
        have hsz := HB.out.size
        go_wp2_with fail
        refine (ar_calls ao N cap _ (r.T k) (r.A k) (r.L k) (r.C k) (r.Z k) _ w.heap.size (HO.out.alloc _) (by omega) (by simp; omega) hm (HK.out.hN k hlt) (fun w' hb => (HV.out k hlt).below ((HB.out.alloc hsz _).trans hb))).mono ?_
        rintro e w4 ⟨ao4, N4, cap4, rfl, hO4, hne4, hB4⟩
        rw [← encs_succ] at hO4
        have HO4 : Hid (OwnB w4 w.heap.size (.slice ao4 N4 cap4) (encs (recL r (k + 1)))) := hO4
        have HNE4 : Hid (ao4 ≠ none) := hne4
        have HB4 : Hid (Below w.heap.size w w4) := (HB.out.alloc hsz _).trans hB4
        have hN4 : (N4 : Int) ≤ 1048576 := by
          have h := hO4.len
          rw [encs_len] at h
          have := sumTo_mono r.L (show k + 1 ≤ n by omega)
          omega
        clear hO4 hne4 hB4
        go_wp2
        go_roundw
        case rel => exact ⟨k + 1, by omega, by go_num, ⟨ao4, N4, cap4, rfl, HNE4.out, hN4, HO4.out⟩, HB4.out⟩
        case measure => simp [intOf] <;> omega
      · obtain rfl : n = k := by omega
        go_wp2
        go_ret2
        exact .inl ⟨HF.out, ao, N, cap, rfl, HO.out, HNE.out, HB.out⟩
  · have HF : Hid (¬ Fits r.L n) := hnot
    clear hnot
    go_wp2
    go_ret2
    exact .inr ⟨HF.out, rfl, HB1.out⟩
end Go.Proofs.Ymbrcp
