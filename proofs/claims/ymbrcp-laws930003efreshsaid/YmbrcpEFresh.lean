/-
  Ymbrcp: the walk of 'LawS930003EFresh'.
-/
import Derived.Test.YmbrcpSort
import Derived.Test.YmbrcpCopyR
import Derived.Test.YmbrcpEfuns
namespace Go.Proofs.Ymbrcp.lawS930003EFresh
open Go.RowKit Go.Proofs.Ymbrcp
set_option linter.unusedVariables false

theorem recCell0 (r : Recs) (i : Nat) : recCell r (i * 2) = .int .u8 (r.T i) := by simp [recCell]
theorem recCell1 (r : Recs) (i : Nat) : recCell r (i * 2 + 1) = .slice (r.A i) (r.L i) (r.C i) := by
  unfold recCell
  rw [if_neg (by omega), show (i * 2 + 1) / 2 = i by omega]

theorem recsAt_row {w : World} {g n : Nat} {r : Recs} (h : w.rowIs g 27 (n * 2) (recCell r)) : RecsAt w (some ⟨g, 0, none⟩) n r :=
  fun _ => ⟨g, 0, rfl, fun i hi => by rw [Nat.zero_add, h.cell (by omega), recCell0], fun i hi => by rw [Nat.zero_add, h.cell (by omega), recCell1]⟩

set_option maxRecDepth 100000 in
set_option maxHeartbeats 4000000 in
theorem walk (a : Option Addr) (n c : Nat) (r : Recs) (w : World) (hl : n ≤ c) (hc : c ≤ 9223372036854775807) (_hn : a = none → n = 0 ∧ c = 0) (hz : RecsOk n r ∧ RecsAt w a n r ∧ ValsAt w n r) :
    Calls Ycpm.prog 4 #[.slice a n c] w fun e w' => e = .returned (.bool true) ∧ Below w.heap.size w w' := by
  obtain ⟨hok, ha, hv⟩ := hz
  by_cases hbig : 1024 < n
  · clear ha hv hok _hn
    go_enter Ycpm.func4, Ycpm.ntmps4
    go_wp2
    go_ret
    exact ⟨rfl, Below.refl _ _⟩
  have HA : Hid (RecsAt w a n r) := ha
  have HV : Hid (∀ i, i < n → r.L i ≤ 9223372036854775807 ∧ (0 < r.L i → ∃ b off, r.A i = some ⟨b, off, none⟩)) := fun i hi => ⟨by have := hok.hL i hi; have := hok.hC i hi; omega, fun hp => by obtain ⟨b, off, e, _⟩ := hv i hi hp; exact ⟨b, off, e⟩⟩
  have HK : Hid (RecsOk n r) := hok
  clear ha hv hok _hn
  go_enter Ycpm.func4, Ycpm.ntmps4
  go_wp2_with (first
    | ((with_reducible refine wpList_here ?_); refine wpList_copyR _ rfl (.tmp 14) (.tmp 15) rfl w.heap.size n n a n c rfl rfl rfl _ r HR1.out (HA.out.below HB1.out) ?_; intro w2 hrow2 hg2 hs2; have HI : Hid (w2.rowIs w.heap.size 27 (n * 2) (recCell r)) := hrow2; have HB2 : Hid (Below w.heap.size w w2) := HB1.out.trans (below_of_grown hg2 (by omega) (Nat.le_refl _)); have hsz2 : w2.heap.size = w.heap.size + 1 := hs2.trans hs1; clear hrow2 hg2 hs2)
    | (at_make; refine wpList_mkRx _ _ rfl rfl _ _ rfl .i64 .i64 _ _ n n rfl rfl rfl rfl (Nat.le_refl _) (by omega) ?_; intro w1 hrow hb hs1; have HR1 : Hid (w1.rowIs w.heap.size 27 (n * 2) (fun j => if j % 2 = 0 then .int .u8 0 else .slice none 0 0)) := hrow; have HB1 : Hid (Below w.heap.size w w1) := hb; clear hrow hb))
  refine (sort_calls (some ⟨w.heap.size, 0, none⟩) n n r w2 (by omega) HK.out (recsAt_row HI.out)).mono ?_
  rintro e w3 ⟨l, f, rfl, hrow3, _, hb3⟩
  have HI3 : Hid (w3.rowIs w.heap.size 27 (n * 2) (recCell r)) := rowIs_below HI.out hb3 (by omega)
  have HO : Hid (∃ f, w3.rowIs (w.heap.size + 1) 27 (n * 2) f) := ⟨f, hsz2 ▸ hrow3⟩
  have HB : Hid (Below w.heap.size w w3) := HB2.out.trans (hb3.mono HB2.out.size)
  clear HI
  have HI := HI3
  clear HI3 hrow3 hb3 HB2 HR1 HB1
  go_wp2
  go_loopw [5] (fun iv wr => ∃ k : Nat, k ≤ n ∧ iv = .int .i64 k ∧ Hid (wr.rowIs w.heap.size 27 (n * 2) (recCell r)) ∧ Hid (∃ f, wr.rowIs (w.heap.size + 1) 27 (n * 2) f) ∧ Hid (Below w.heap.size w wr)) (fun iv _ => n - (intOf iv).toNat)
  case atStart => exact ⟨0, Nat.zero_le _, rfl, HI.out, HO.out, HB.out⟩
  case round =>
    clear HI HO HB
    obtain ⟨k, hk, rfl, HI, HO, HB⟩ := hrel
    by_cases hlt : k < n
    · obtain ⟨ab, off, rfl, hT, hS⟩ := HA.out (by omega)
      have hc0 := hT k hlt
      have hc1 := hS k hlt
      have t0 : wr.cell? ⟨ab, off + k * 2, none⟩ = some (.int .u8 (r.T k)) := (HB.out.cell (World.block_lt_of_cell? _ _ hc0)).trans hc0
      have t1 : wr.cell? ⟨ab, off + k * 2 + 1, none⟩ = some (.slice (r.A k) (r.L k) (r.C k)) := (HB.out.cell (World.block_lt_of_cell? _ _ hc1)).trans hc1
      have i0 : wr.cell? ⟨w.heap.size, k * 2, none⟩ = some (.int .u8 (r.T k)) := by rw [HI.out.cell (by omega), recCell0]
      have i1 : wr.cell? ⟨w.heap.size, k * 2 + 1, none⟩ = some (.slice (r.A k) (r.L k) (r.C k)) := by rw [HI.out.cell (by omega), recCell1]
      have HE : Hid (∀ wz, wr.drew = wz → Calls Ycpm.prog 16 #[.agg #[.int .u8 (r.T k), .slice (r.A k) (r.L k) (r.C k)], .agg #[.int .u8 (r.T k), .slice (r.A k) (r.L k) (r.C k)]] wz fun e w' => e = .returned (.bool true) ∧ w'.rowIs w.heap.size 27 (n * 2) (recCell r) ∧ (∃ f, w'.rowIs (w.heap.size + 1) 27 (n * 2) f) ∧ Below w.heap.size w w') := by
        rintro wz rfl
        refine (esame_calls (r.T k) (r.A k) (r.L k) (r.C k) (r.C k) wr.drew (HV.out k hlt).1 (HV.out k hlt).2).mono ?_
        rintro e w' ⟨rfl, hb⟩
        obtain ⟨f, hf⟩ := HO.out
        have hI : wr.drew.rowIs w.heap.size 27 (n * 2) (recCell r) := HI.out
        have hO : wr.drew.rowIs (w.heap.size + 1) 27 (n * 2) f := hf
        exact ⟨rfl, rowIs_below hI hb hI.lt, ⟨f, rowIs_below hO hb hO.lt⟩, HB.out.drew.trans (hb.mono HB.out.size)⟩
      clear hT hS hc0 hc1
      go_wp2
      go_region_with (go_at_call 16; refine (HE.out _ rfl).mono ?_; rintro e w5 ⟨rfl, hI5, hO5, hB5⟩; have HI5 : Hid (w5.rowIs w.heap.size 27 (n * 2) (recCell r)) := hI5; have HO5 : Hid (∃ f, w5.rowIs (w.heap.size + 1) 27 (n * 2) f) := hO5; have HB5 : Hid (Below w.heap.size w w5) := hB5; clear hI5 hO5 hB5)
      all_goals
        go_wp2
        go_roundw
        case rel => exact ⟨k + 1, by omega, by go_num, HI5.out, HO5.out, HB5.out⟩
        case measure => simp [intOf] <;> omega
    · obtain rfl : n = k := by omega
      go_wp2
      go_loopw [6] (fun iv wr => ∃ k : Nat, k ≤ n ∧ iv = .int .i64 k ∧ Hid (wr.rowIs w.heap.size 27 (n * 2) (recCell r)) ∧ Hid (∃ f, wr.rowIs (w.heap.size + 1) 27 (n * 2) f) ∧ Hid (Below w.heap.size w wr)) (fun iv _ => n - (intOf iv).toNat)
      case atStart => exact ⟨0, Nat.zero_le _, rfl, HI.out, HO.out, HB.out⟩
      case round =>
        clear HI HO HB
        obtain ⟨k, hk, rfl, HI, HO, HB⟩ := hrel
        by_cases hlt : k < n
        · obtain ⟨ab, off, rfl, hT, hS⟩ := HA.out (by omega)
          have hc0 := hT k hlt
          have t0 : wr.cell? ⟨ab, off + k * 2, none⟩ = some (.int .u8 (r.T k)) := (HB.out.cell (World.block_lt_of_cell? _ _ hc0)).trans hc0
          have hTk := HK.out.hT k hlt
          obtain ⟨f, hf⟩ := HO.out
          have d0 : wr.cell? ⟨(w.heap.size + 1), k * 2, none⟩ = some (f (k * 2)) := hf.cell (by omega)
          have d1 : wr.cell? ⟨(w.heap.size + 1), k * 2 + 1, none⟩ = some (f (k * 2 + 1)) := hf.cell (by omega)
          have e0 : wr.frozen? ⟨(w.heap.size + 1), k * 2, none⟩ = false := hf.frozen _
          have e1 : wr.frozen? ⟨(w.heap.size + 1), k * 2 + 1, none⟩ = false := hf.frozen _
          have HF : Hid (wr.rowIs (w.heap.size + 1) 27 (n * 2) f) := hf
          have hne : ¬ w.heap.size = (w.heap.size + 1) := by omega
          clear hT hS hc0 hf
          go_wp2
          go_roundw
          case rel => exact ⟨k + 1, by omega, by go_num, HI.out.of_block (by rw [Below.heap_setCell _ _ _ _ hne, Below.heap_setCell _ _ _ _ hne]), ⟨_, (HF.out.set _ _).set _ _⟩, (HB.out.setCell (by simp) _).setCell (by simp) _⟩
          case measure => simp [intOf] <;> omega
        · obtain rfl : n = k := by omega
          go_wp2
          go_loopw [7] (fun iv wr => ∃ k : Nat, k ≤ n ∧ iv = .int .i64 k ∧ Hid (wr.rowIs w.heap.size 27 (n * 2) (recCell r)) ∧ Hid (∃ f, wr.rowIs (w.heap.size + 1) 27 (n * 2) f) ∧ Hid (Below w.heap.size w wr)) (fun iv _ => n - (intOf iv).toNat)
          case atStart => exact ⟨0, Nat.zero_le _, rfl, HI.out, HO.out, HB.out⟩
          case round =>
            clear HI HO HB
            obtain ⟨k, hk, rfl, HI, HO, HB⟩ := hrel
            by_cases hlt : k < n
            · obtain ⟨ab, off, rfl, hT, hS⟩ := HA.out (by omega)
              have hc0 := hT k hlt
              have hc1 := hS k hlt
              have t0 : wr.cell? ⟨ab, off + k * 2, none⟩ = some (.int .u8 (r.T k)) := (HB.out.cell (World.block_lt_of_cell? _ _ hc0)).trans hc0
              have t1 : wr.cell? ⟨ab, off + k * 2 + 1, none⟩ = some (.slice (r.A k) (r.L k) (r.C k)) := (HB.out.cell (World.block_lt_of_cell? _ _ hc1)).trans hc1
              have i0 : wr.cell? ⟨w.heap.size, k * 2, none⟩ = some (.int .u8 (r.T k)) := by rw [HI.out.cell (by omega), recCell0]
              have i1 : wr.cell? ⟨w.heap.size, k * 2 + 1, none⟩ = some (.slice (r.A k) (r.L k) (r.C k)) := by rw [HI.out.cell (by omega), recCell1]
              have HE : Hid (∀ wz, wr.drew = wz → Calls Ycpm.prog 16 #[.agg #[.int .u8 (r.T k), .slice (r.A k) (r.L k) (r.C k)], .agg #[.int .u8 (r.T k), .slice (r.A k) (r.L k) (r.C k)]] wz fun e w' => e = .returned (.bool true) ∧ w'.rowIs w.heap.size 27 (n * 2) (recCell r) ∧ (∃ f, w'.rowIs (w.heap.size + 1) 27 (n * 2) f) ∧ Below w.heap.size w w') := by
                rintro wz rfl
                refine (esame_calls (r.T k) (r.A k) (r.L k) (r.C k) (r.C k) wr.drew (HV.out k hlt).1 (HV.out k hlt).2).mono ?_
                rintro e w' ⟨rfl, hb⟩
                obtain ⟨f, hf⟩ := HO.out
                have hI : wr.drew.rowIs w.heap.size 27 (n * 2) (recCell r) := HI.out
                have hO : wr.drew.rowIs (w.heap.size + 1) 27 (n * 2) f := hf
                exact ⟨rfl, rowIs_below hI hb hI.lt, ⟨f, rowIs_below hO hb hO.lt⟩, HB.out.drew.trans (hb.mono HB.out.size)⟩
              clear hT hS hc0 hc1
              go_wp2
              go_region_with (go_at_call 16; refine (HE.out _ rfl).mono ?_; rintro e w5 ⟨rfl, hI5, hO5, hB5⟩; have HI5 : Hid (w5.rowIs w.heap.size 27 (n * 2) (recCell r)) := hI5; have HO5 : Hid (∃ f, w5.rowIs (w.heap.size + 1) 27 (n * 2) f) := hO5; have HB5 : Hid (Below w.heap.size w w5) := hB5; clear hI5 hO5 hB5)
              all_goals
                go_wp2
                go_roundw
                case rel => exact ⟨k + 1, by omega, by go_num, HI5.out, HO5.out, HB5.out⟩
                case measure => simp [intOf] <;> omega
            · obtain rfl : n = k := by omega
              go_wp2
              go_ret
              exact ⟨rfl, HB.out⟩
end Go.Proofs.Ymbrcp.lawS930003EFresh
