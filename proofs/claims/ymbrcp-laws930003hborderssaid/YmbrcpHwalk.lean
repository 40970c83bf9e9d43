/-
  Ymbrcp: 'zzs930003hwire' says true of any records.
-/
import Derived.Test.YmbrcpHfuns
namespace Go.Proofs.Ymbrcp
open Go.RowKit
set_option linter.unusedVariables false

def vals (r : Recs) (k : Nat) : List Int := (List.range (r.L k)).map (r.Z k)
theorem vals_len (r : Recs) (k : Nat) : (vals r k).length = r.L k := by simp [vals]

theorem encs_split (r : Recs) (k : Nat) : ∀ n, k < n → ∃ C, encs (recL r n) = encs (recL r k) ++ (enc (r.T k) (vals r k) ++ C)
  | 0, h => absurd h (Nat.not_lt_zero _)
  | n + 1, h => by
    by_cases e : k = n
    · subst e
      exact ⟨[], by rw [encs_succ, List.append_nil]; rfl⟩
    · obtain ⟨C, hC⟩ := encs_split r k n (by omega)
      exact ⟨C ++ enc (r.T n) (vals r n), by rw [encs_succ, hC]; simp [vals]⟩

theorem recL_bytes {r : Recs} {n : Nat} (hok : RecsOk n r) (hf : Fits r.L n) : AllB (encs (recL r n)) := by
  refine encs_bytes fun x hx => ?_
  obtain ⟨i, hi, rfl⟩ := List.mem_map.1 hx
  have hi2 : i < n := List.mem_range.1 hi
  refine ⟨hok.hT i hi2, fun y hy => ?_, ?_⟩
  · obtain ⟨j, _, rfl⟩ := List.mem_map.1 hy
    exact hok.hZ i j
  · simp
    exact hf.1 i hi2

/-- What stands at the k-th record's place. -/
theorem at_record (r : Recs) (n k : Nat) (hk : k < n) (hf : Fits r.L n) : Head (zl (encs (recL r n))) (sumTo r.L k) (hd (r.L k)) (r.L k) ∧ zl (encs (recL r n)) (sumTo r.L k) = r.T k ∧ (∀ i, i < r.L k → zl (encs (recL r n)) (sumTo r.L k + hd (r.L k) + i) = r.Z k i) ∧ sumTo r.L k + hd (r.L k) + r.L k = sumTo r.L (k + 1) := by
  obtain ⟨C, hC⟩ := encs_split r k n hk
  have hL := hf.1 k hk
  have h1 := head_enc (encs (recL r k)) C (r.T k) (vals r k) (by rw [vals_len]; exact hL)
  have h2 := head_type (encs (recL r k)) C (r.T k) (vals r k)
  have h3 := head_value (encs (recL r k)) C (r.T k) (vals r k)
  rw [← hC, encs_len, vals_len, ← hd_lenF] at h1 h3
  rw [← hC, encs_len] at h2
  refine ⟨h1, h2, fun i hi => ?_, ?_⟩
  · rw [h3 i hi]
    simp [vals, List.getD, hi]
  · have := hd_wire (r.L k)
    simp only [sumTo]
    omega

set_option maxRecDepth 100000 in
set_option maxHeartbeats 2000000 in
theorem hwire_calls (a : Option Addr) (n c : Nat) (r : Recs) (w : World) (hn : n ≤ 9223372036854775807) (hok : RecsOk n r) (ha : RecsAt w a n r) (hv : ValsAt w n r) :
    Calls Ycpm.prog 25 #[.slice a n c] w fun e w' => e = .returned (.bool true) ∧ Below w.heap.size w w' := by
  have HA : Hid (RecsAt w a n r) := ha
  have HV : Hid (ValsAt w n r) := hv
  have HK : Hid (RecsOk n r) := hok
  have hq := eqlB_nil
  clear ha hv hok
  go_enter Ycpm.func25, Ycpm.ntmps25
  go_wp2_with fail
  refine (encode_calls a n c r w hn HK.out HA.out HV.out).mono ?_
  rintro e w1 (⟨hf, ao, N, cap, rfl, hO, hne, hB⟩ | ⟨hf, rfl, hB⟩)
  · have HF : Hid (Fits r.L n) := hf
    have HO : Hid (OwnB w1 w.heap.size (.slice ao N cap) (encs (recL r n))) := hO
    have HB : Hid (Below w.heap.size w w1) := hB
    have hN : N = sumTo r.L n := by rw [← encs_len]; exact hO.len.symm
    have HN : Hid (N = sumTo r.L n) := hN
    have hN2 : (N : Int) ≤ 1048576 := by have := hf.2; omega
    have hn2 : (n : Int) ≤ 524288 := by have := sumTo_ge r.L n; have := hf.2; omega
    have hsome : ao.isNone = false := by cases ao with | none => exact absurd rfl hne | some _ => rfl
    obtain ⟨_, _, hsh, hcap, hcap2, _⟩ := hO.shape
    have hcap1 : N ≤ cap := by
      simp only [Value.slice.injEq] at hsh
      have e := hO.len
      have := hsh.2.2
      omega
    clear hf hO hB hN hne hsh hcap hcap2
    go_wp2_with fail
    refine (hfits_calls a n c r w1 hn (HA.out.below HB.out) (fun i hi => by have := HK.out.hL i hi; have := HK.out.hC i hi; omega)).mono ?_
    rintro e w2 ⟨b, rfl, hb, rfl⟩
    obtain rfl : b = true := hb.2 HF.out
    clear hb
    go_wp2
    go_loopw [5, 6] (fun p i wr => ∃ k : Nat, k ≤ n ∧ i = .int .i64 k ∧ (∃ q : Nat, p = .int .i64 q ∧ (q : Int) ≤ 1048576 ∧ Hid (q = sumTo r.L k)) ∧ Hid (Below w2.heap.size w2 wr)) (fun _ i _ => n - (intOf i).toNat)
    case atStart => exact ⟨0, Nat.zero_le _, rfl, ⟨0, rfl, by omega, rfl⟩, Below.refl _ _⟩
    case round =>
      obtain ⟨k, hk, rfl, ⟨q, rfl, hq2, HQ⟩, HR⟩ := hrel
      have HB2 : Hid (Below w.heap.size w wr) := HB.out.trans (HR.out.mono HB.out.size)
      by_cases hlt : k < n
      · obtain ⟨ab, off, rfl, hT, hS⟩ := HA.out (by omega)
        have hc0 := hT k hlt
        have hc1 := hS k hlt
        have t0 : wr.cell? ⟨ab, off + k * 2, none⟩ = some (.int .u8 (r.T k)) := (HB2.out.cell (World.block_lt_of_cell? _ _ hc0)).trans hc0
        have t1 : wr.cell? ⟨ab, off + k * 2 + 1, none⟩ = some (.slice (r.A k) (r.L k) (r.C k)) := (HB2.out.cell (World.block_lt_of_cell? _ _ hc1)).trans hc1
        obtain ⟨h1, h2, h3, h4⟩ := at_record r n k hlt HF.out
        have hmono := sumTo_mono r.L (show k + 1 ≤ n by omega)
        have HM : Hid (∀ wz : World, wr = wz → Calls Ycpm.prog 31 #[.slice ao N cap, .int .i64 q, .agg #[.int .u8 (r.T k), .slice (r.A k) (r.L k) (r.C k)]] wz fun e w' => e = .returned (.int .i64 (sumTo r.L (k + 1) : Nat)) ∧ Below wz.heap.size wz w') := by
          rintro wz rfl
          have hlen := HO.out.len
          have hbytes : BytesAt wr ao N (zl (encs (recL r n))) := by
            have h := HO.out.bytes
            rw [hlen] at h
            exact h.below HR.out
          rw [← h4]
          have hqq := HQ.out
          subst hqq
          exact hmatch_calls ao N cap _ (sumTo r.L k) (r.T k) (r.A k) (r.L k) (r.C k) (r.Z k) wr hcap1 (by omega) (zl_byte (recL_bytes HK.out HF.out)) hbytes ((HV.out k hlt).below HB2.out) (by have := HN.out; omega) (by have := HF.out.1 k hlt; omega) h2 h1 h3
        have hle : ((sumTo r.L (k + 1) : Nat) : Int) ≤ 1048576 := by have := HN.out; omega
        clear hT hS hc0 hc1 h1 h2 h3 h4 hmono
        go_wp2_with fail
        refine (HM.out _ rfl).mono ?_
        rintro e w4 ⟨rfl, hb4⟩
        have HR4 : Hid (Below w2.heap.size w2 w4) := HR.out.trans (hb4.mono HR.out.size)
        clear hb4
        go_wp2
        go_roundw
        case rel => exact ⟨k + 1, by omega, by go_num, ⟨sumTo r.L (k + 1), rfl, hle, rfl⟩, HR4.out⟩
        case measure => simp [intOf] <;> omega
      · obtain rfl : n = k := by omega
        obtain rfl : N = q := by rw [HN.out, HQ.out]
        go_wp2
        go_ret
        exact ⟨rfl, HB2.out⟩
  · have HF : Hid (¬ Fits r.L n) := hf
    have HB : Hid (Below w.heap.size w w1) := hB
    clear hf hB
    go_wp2_with fail
    refine (hfits_calls a n c r w1 hn (HA.out.below HB.out) (fun i hi => by have := HK.out.hL i hi; have := HK.out.hC i hi; omega)).mono ?_
    rintro e w2 ⟨b, rfl, hb, rfl⟩
    obtain rfl : b = false := by cases b with | false => rfl | true => exact absurd (hb.1 rfl) HF.out
    clear hb
    go_wp2
    go_ret
    exact ⟨rfl, HB.out⟩
end Go.Proofs.Ymbrcp
