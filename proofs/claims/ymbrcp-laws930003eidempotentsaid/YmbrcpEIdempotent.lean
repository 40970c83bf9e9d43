/-
  Ymbrcp: the walk of 'LawS930003EIdempotent'.
-/
import Derived.Test.YmbrcpEIdem
import Derived.Test.YmbrcpEfuns
namespace Go.Proofs.Ymbrcp.lawS930003EIdempotent
open Go.RowKit Go.Proofs.Ymbrcp
set_option linter.unusedVariables false

set_option maxRecDepth 100000 in
set_option maxHeartbeats 4000000 in
theorem walk (a : Option Addr) (n c : Nat) (z : Nat → Int) (w : World) (hl : n ≤ c) (hc : c ≤ 9223372036854775807) (_hn : a = none → n = 0 ∧ c = 0) (hz : IsByte z ∧ BytesAt w a n z) :
    Calls Ycpm.prog 5 #[.slice a n c] w fun e w' => e = .returned (.bool true) ∧ Below w.heap.size w w' := by
  obtain ⟨hzb, ha⟩ := hz
  by_cases hbig : 1024 < n
  · clear ha hzb _hn
    go_enter Ycpm.func5, Ycpm.ntmps5
    go_wp2
    go_ret
    exact ⟨rfl, Below.refl _ _⟩
  have HA : Hid (BytesAt w a n z) := ha
  have HZ : Hid (IsByte z) := hzb
  clear ha hzb _hn
  go_enter Ycpm.func5, Ycpm.ntmps5
  go_wp2_with (at_make; refine wpList_mkRx _ _ rfl rfl _ _ rfl .i64 .i64 _ _ n n rfl rfl rfl rfl (Nat.le_refl _) (by omega) ?_; intro w1 hrow hb hs1; have HR1 : Hid (∃ f, w1.rowIs w.heap.size 27 (n * 2) f ∧ Ones f (fun i => z i % 8) 0) := ⟨_, hrow, fun i hi => absurd hi (Nat.not_lt_zero _)⟩; have HB1 : Hid (Below w.heap.size w w1) := hb; have hg1 := hrow.lt; clear hrow hb)
  go_loopw [4] (fun iv wr => ∃ k : Nat, k ≤ n ∧ iv = .int .i64 k ∧ w.heap.size < wr.heap.size ∧ Hid (∃ f, wr.rowIs w.heap.size 27 (n * 2) f ∧ Ones f (fun i => z i % 8) k) ∧ Hid (Below w.heap.size w wr)) (fun iv _ => n - (intOf iv).toNat)
  case atStart => exact ⟨0, Nat.zero_le _, rfl, hg1, HR1.out, HB1.out⟩
  case round =>
    clear HR1 HB1 hg1
    obtain ⟨k, hk, rfl, hgw, HR, HB⟩ := hrel
    by_cases hlt : k < n
    · obtain ⟨ab, off, rfl, hT⟩ := HA.out (by omega)
      have hc0 := hT k hlt
      have t0 : wr.cell? ⟨ab, off + k, none⟩ = some (.int .u8 (z k)) := (HB.out.cell (World.block_lt_of_cell? _ _ hc0)).trans hc0
      have hzk := HZ.out k
      obtain ⟨f, hf, hones⟩ := HR.out
      have HF : Hid (wr.rowIs w.heap.size 27 (n * 2) f) := hf
      have HO : Hid (Ones f (fun i => z i % 8) k) := hones
      have d0 : wr.cell? ⟨w.heap.size, k * 2, none⟩ = some (f (k * 2)) := hf.cell (by omega)
      have d1 : wr.cell? ⟨w.heap.size, k * 2 + 1, none⟩ = some (f (k * 2 + 1)) := hf.cell (by omega)
      have e0 : wr.frozen? ⟨w.heap.size, k * 2, none⟩ = false := hf.frozen _
      have e1 : wr.frozen? ⟨w.heap.size, k * 2 + 1, none⟩ = false := hf.frozen _
      have hne : ¬ w.heap.size = wr.heap.size := by omega
      clear hT hc0 hf hones HR
      go_wp2
      go_roundw
      case rel =>
        exact ⟨k + 1, by omega, by go_num, by simp; omega, ⟨_, ((HF.out.set _ _).set _ _).alloc _, HO.out.put (b := wr.heap.size) rfl rfl⟩, ((HB.out.setCell (Nat.le_refl _) _).setCell (Nat.le_refl _) _).alloc (by simp; omega) _⟩
      case measure => simp [intOf] <;> omega
    · obtain rfl : n = k := by omega
      obtain ⟨f, hf, hones⟩ := HR.out
      obtain ⟨r, hok, hat, hone⟩ := hones.recs (fun i _ => by have := HZ.out i; show 0 ≤ z i % 8 ∧ z i % 8 ≤ 255; omega) hf
      have HA1 : Hid (RecsAt wr (some ⟨w.heap.size, 0, none⟩) n r) := hat
      have HK1 : Hid (RecsOk n r) := hok
      have H1 : Hid (∀ i, i < n → r.L i = 1 ∧ r.C i = 1 ∧ ∃ b, r.A i = some ⟨b, 0, none⟩) := hone
      clear hf hones hat hok hone HR
      obtain ⟨wo, rfl⟩ : ∃ wo, wo = wr := ⟨wr, rfl⟩
      go_wp2_with (first
        | (go_at_call 15; refine (sort_calls (some ⟨wo.heap.size, 0, none⟩) n n q w1 (by omega) HK2.out HA2.out).mono ?_; rintro e w2 ⟨l2, f2, rfl, hrow2, hso2, hb2⟩; have HO2 : Hid (w2.rowIs w1.heap.size 27 (n * 2) f2) := hrow2; have HO1' : Hid (w2.rowIs wo.heap.size 27 (n * 2) f) := rowIs_below HO1.out hb2 HO1.out.lt; have HT2 : Hid (∀ p, p < n → recAt f2 q p p) := fun p hp => hso2.still HAS.out hp; have HB2 : Hid (Below w.heap.size w w2) := HB1.out.trans (hb2.mono HB1.out.size); clear hrow2 hso2 hb2)
        | (go_at_call 15; refine (sort_calls (some ⟨w.heap.size, 0, none⟩) n n r wo (by omega) HK1.out HA1.out).mono ?_; rintro e w1 ⟨l, f, rfl, hrow, hso, hb⟩; have HO1 : Hid (w1.rowIs wo.heap.size 27 (n * 2) f) := hrow; have HB1 : Hid (Below w.heap.size w w1) := HB.out.trans (hb.mono HB.out.size); obtain ⟨q, hq⟩ : ∃ q, q = r.via l := ⟨_, rfl⟩; have HT1 : Hid (∀ p, p < n → recAt f q p p) := fun p hp => hq ▸ hso.recAt hp; have HAS : Hid (∀ p p', p < p' → p' < n → q.T p ≤ q.T p') := fun p p' h1 h2 => hq ▸ hso.asc h1 h2; have HV : Hid (∀ p, p < n → q.L p ≤ 9223372036854775807 ∧ (0 < q.L p → ∃ b off, q.A p = some ⟨b, off, none⟩)) := fun p hp => hq ▸ ⟨by show r.L (l.getD p 0) ≤ _; rw [(H1.out _ (hso.get hp).2).1]; omega, fun _ => by obtain ⟨b, hb⟩ := (H1.out _ (hso.get hp).2).2.2; exact ⟨b, 0, hb⟩⟩; have HA2 : Hid (RecsAt w1 (some ⟨wo.heap.size, 0, none⟩) n q) := hq ▸ hso.viaAt hrow; have HK2 : Hid (RecsOk n q) := hq ▸ hso.viaOk HK1.out; clear hrow hso hb hq))
      clear HA1 HK1 H1 HA2 HK2 HB HB1 HO1
      go_loopw [7] (fun iv wr => ∃ k : Nat, k ≤ n ∧ iv = .int .i64 k ∧ Hid (wr.rowIs wo.heap.size 27 (n * 2) f) ∧ Hid (wr.rowIs w1.heap.size 27 (n * 2) f2) ∧ Hid (Below w.heap.size w wr)) (fun iv _ => n - (intOf iv).toNat)
      case atStart => exact ⟨0, Nat.zero_le _, rfl, HO1'.out, HO2.out, HB2.out⟩
      case round =>
        clear HO1' HO2 HB2
        obtain ⟨k, hk, rfl, HO1, HO2, HB⟩ := hrel
        by_cases hlt : k < n
        · have t0 : wr.cell? ⟨wo.heap.size, k * 2, none⟩ = some (.int .u8 (q.T k)) := by rw [HO1.out.cell (by omega), (HT1.out k hlt).1]
          have t1 : wr.cell? ⟨wo.heap.size, k * 2 + 1, none⟩ = some (.slice (q.A k) (q.L k) (q.C k)) := by rw [HO1.out.cell (by omega), (HT1.out k hlt).2]
          have i0 : wr.cell? ⟨w1.heap.size, k * 2, none⟩ = some (.int .u8 (q.T k)) := by rw [HO2.out.cell (by omega), (HT2.out k hlt).1]
          have i1 : wr.cell? ⟨w1.heap.size, k * 2 + 1, none⟩ = some (.slice (q.A k) (q.L k) (q.C k)) := by rw [HO2.out.cell (by omega), (HT2.out k hlt).2]
          have HE : Hid (∀ d, Calls Ycpm.prog 16 #[.agg #[.int .u8 (q.T k), .slice (q.A k) (q.L k) (q.C k)], .agg #[.int .u8 (q.T k), .slice (q.A k) (q.L k) (q.C k)]] (wr.drewN d) fun e w' => e = .returned (.bool true) ∧ w'.rowIs wo.heap.size 27 (n * 2) f ∧ w'.rowIs w1.heap.size 27 (n * 2) f2 ∧ Below w.heap.size w w') := by
            intro d
            have hbz : Below w.heap.size w (wr.drewN d) := HB.out.trans ((below_drewN wr d).mono HB.out.size)
            refine (esame_calls (q.T k) (q.A k) (q.L k) (q.C k) (q.C k) (wr.drewN d) (HV.out k hlt).1 (HV.out k hlt).2).mono ?_
            rintro e w' ⟨rfl, hb⟩
            have h1 : (wr.drewN d).rowIs wo.heap.size 27 (n * 2) f := HO1.out
            have h2 : (wr.drewN d).rowIs w1.heap.size 27 (n * 2) f2 := HO2.out
            exact ⟨rfl, rowIs_below h1 hb h1.lt, rowIs_below h2 hb h2.lt, hbz.trans (hb.mono hbz.size)⟩
          have hlt2 : (k : Int) < (n : Int) := by omega
          cases k with
          | zero =>
            go_wp2
            go_quiet (fail)
            go_wp2
            go_region_with (go_at_call 16; refine (HE.out _).mono ?_; rintro e w5 ⟨rfl, hI5, hO5, hB5⟩; have HI5 : Hid (w5.rowIs wo.heap.size 27 (n * 2) f) := hI5; have HO5 : Hid (w5.rowIs w1.heap.size 27 (n * 2) f2) := hO5; have HB5 : Hid (Below w.heap.size w w5) := hB5; clear hI5 hO5 hB5)
            all_goals
              go_wp2
              go_roundw
              case rel => exact ⟨1, by omega, by go_num, HI5.out, HO5.out, HB5.out⟩
              case measure => simp [intOf] <;> omega
          | succ k =>
            have y0 : wr.cell? ⟨wo.heap.size, k * 2, none⟩ = some (.int .u8 (q.T k)) := by rw [HO1.out.cell (by omega), (HT1.out k (by omega)).1]
            have hd : decide (q.T (k + 1) < q.T k) = false := decide_eq_false (by have := HAS.out k (k + 1) (by omega) hlt; omega)
            go_wp2
            go_quiet (fail)
            go_wp2
            go_region_with (go_at_call 16; refine (HE.out _).mono ?_; rintro e w5 ⟨rfl, hI5, hO5, hB5⟩; have HI5 : Hid (w5.rowIs wo.heap.size 27 (n * 2) f) := hI5; have HO5 : Hid (w5.rowIs w1.heap.size 27 (n * 2) f2) := hO5; have HB5 : Hid (Below w.heap.size w w5) := hB5; clear hI5 hO5 hB5)
            all_goals
              go_wp2
              go_roundw
              case rel => exact ⟨k + 2, by omega, by go_num, HI5.out, HO5.out, HB5.out⟩
              case measure => simp [intOf] <;> omega
        · obtain rfl : n = k := by omega
          go_wp2
          go_ret
          exact ⟨rfl, HB.out⟩
end Go.Proofs.Ymbrcp.lawS930003EIdempotent
