/-
  Ymbrcp: the walk of 'LawS930003FLimit'.
-/
import Derived.Test.YmbrcpAppRec
import Derived.Test.YmbrcpSizes
namespace Go.Proofs.Ymbrcp.lawS930003FLimit
open Go.RowKit Go.Proofs.Ymbrcp
set_option linter.unusedVariables false

/-- The lengths of the records that are built. -/
def len (z : Nat → Int) (n : Nat) (last : Nat) (i : Nat) : Nat := if i < n then (z i % 128).toNat else if i < n + 15 then 65532 else last

theorem below_drew {B : Nat} {w w1 : World} (h : Below B w w1) : Below B w w1.drew := h.drew
theorem wire_long {m : Nat} (h : 256 ≤ m) : wire m = m + 4 := by unfold wire; rw [if_neg (by omega), if_neg (by omega)]
theorem sumTo_congr {L M : Nat → Nat} : ∀ {n : Nat}, (∀ i, i < n → L i = M i) → sumTo L n = sumTo M n
  | 0, _ => rfl
  | n + 1, h => by
    show sumTo L n + wire (L n) = sumTo M n + wire (M n)
    rw [sumTo_congr (fun i hi => h i (by omega)), h n (by omega)]

theorem rowIs_drew {w : World} {g t n : Nat} {f : Nat → Value} (h : w.rowIs g t n f) : w.drew.rowIs g t n f := h

set_option maxRecDepth 100000 in
set_option maxHeartbeats 4000000 in
theorem walk (a : Option Addr) (n c : Nat) (z : Nat → Int) (x : Int) (w : World) (hl : n ≤ c) (hc : c ≤ 9223372036854775807) (hn : a = none → n = 0 ∧ c = 0) (hz : IsByte z ∧ BytesAt w a n z) (hx : 0 ≤ x ∧ x ≤ 255) :
    Calls Ycpm.prog 7 #[.slice a n c, .int .u8 x] w fun e w' => e = .returned (.bool true) ∧ Below w.heap.size w w' := by
  by_cases hbig : 400 < n
  · clear hn hz
    go_enter Ycpm.func7, Ycpm.ntmps7
    go_wp2
    go_ret
    exact ⟨rfl, Below.refl _ _⟩
  have HZ : Hid (IsByte z ∧ BytesAt w a n z) := hz
  clear hn hz
  obtain ⟨y, hy⟩ : ∃ y : Nat, x % 3 = (y : Int) := ⟨(x % 3).toNat, by omega⟩
  have hy2 : (y : Int) ≤ 2 := by omega
  obtain ⟨last, HLast⟩ : ∃ last : Nat, Hid (last = 65531 - sumTo (len z n 0) n + y) := ⟨_, rfl⟩
  obtain ⟨L, HL⟩ : ∃ L, Hid (L = len z n last) := ⟨_, rfl⟩
  go_enter Ycpm.func7, Ycpm.ntmps7
  go_wp2_with (first
    | (at_make; refine wpList_mkRx _ (w.heap.size + 1) hs1 rfl _ _ rfl .i64 .i64 _ _ 0 (n + 16) rfl rfl rfl (by omega) (by omega) (by omega) ?_; intro w2 hrow hb hs2; have HR : Hid (Built w2 (w.heap.size + 1) (n + 16) 0 L) := Built.start hrow; have HB : Hid (Below w.heap.size w w2) := HB1.out.trans (hb.mono (by omega)); clear hrow hb)
    | (at_make; refine wpList_mkBx _ _ rfl rfl _ _ rfl .i64 .i64 _ _ 65536 65536 rfl rfl (by omega) (by omega) (by omega) (by omega) ?_; intro w1 hrow hb hs1; have HB1 : Hid (Below w.heap.size w w1) := hb; clear hrow hb))
  go_loopw [6, 7, 8] (fun rs sm i wr => ∃ k S : Nat, k ≤ n ∧ i = .int .i64 k ∧ sm = .int .i64 S ∧ rs = .slice (some ⟨w.heap.size + 1, 0, none⟩) k (n + 16) ∧ Hid (S = sumTo L k) ∧ (S : Int) ≤ 129 * (k : Int) ∧ Hid (Built wr (w.heap.size + 1) (n + 16) k L) ∧ Hid (Below w.heap.size w wr)) (fun _ _ i _ => n - (intOf i).toNat)
  case atStart => exact ⟨0, 0, Nat.zero_le _, rfl, rfl, rfl, rfl, by omega, HR.out, HB.out⟩
  case round =>
    clear HR HB
    obtain ⟨k, S, hk, rfl, rfl, rfl, HS, hS, HR, HB⟩ := hrel
    by_cases hlt : k < n
    · obtain ⟨b, off, rfl, hcell⟩ := HZ.out.2 (by omega)
      have hzk := HZ.out.1 k
      obtain ⟨v, hv⟩ : ∃ v : Int, z k = v := ⟨_, rfl⟩
      obtain ⟨m, hm⟩ : ∃ m : Nat, v % 128 = (m : Int) := ⟨(v % 128).toNat, by omega⟩
      have hm2 : (m : Int) ≤ 127 := by omega
      have hm3 : m ≤ 65536 := by omega
      have hm4 : (m : Int) ≤ 65536 := by omega
      have hm5 : ¬ (m : Int) < 0 := by omega
      have c1 : wr.cell? ⟨b, off + k, none⟩ = some (.int .u8 (z k)) := (HB.out.cell (World.block_lt_of_cell? _ _ (hcell k hlt))).trans (hcell k hlt)
      have HLk : Hid (m = L k) := by show _ = _; rw [HL.out]; simp [len, hlt, hv, hm]
      rw [hv] at c1 hzk
      have hbl : b < wr.heap.size := World.block_lt_of_cell? _ _ c1
      have HWi : Hid (wire m = m + 2) := by show _ = _; unfold wire; rw [if_pos (by omega)]
      clear hcell hv
      obtain ⟨f, hrow, hf⟩ := HR.out
      have HF : Hid (wr.rowIs (w.heap.size + 1) 27 ((n + 16) * 2) f) := hrow
      have HF2 : Hid (∀ i, i < k → ∃ t a c, f (i * 2) = .int .u8 t ∧ f (i * 2 + 1) = .slice a (L i) c) := hf
      have hsz := hrow.lt
      have FIN : Hid (∀ w1 w3 : World, w1.grownBy w3 (some (w.heap.size + 1)) → Below w.heap.size w w1 → w.heap.size ≤ w1.heap.size → Below w.heap.size w w3) := fun w1 w3 hg hb hs => hb.trans (below_of_grown hg hs (by omega))
      clear hrow hf HR
      go_wp2_with fail
      go_region_law (refine step_appR rfl (.tmp 34) (.tmp 43) rfl (w.heap.size + 1) k (n + 16) (by simp [Act.eval]) f (rowIs_drew (HF.out.alloc _)) wr.heap.size 1 (by simp [Act.eval]) (.int .u8 v) (.slice (some ⟨w.heap.size, 0, none⟩) m 65536) (by simp) (by simp) rfl rfl (by omega) ?_; intro w3 hrow3 hg3 hs3; have HR3 : Hid (Built w3 (w.heap.size + 1) (n + 16) (k + 1) L) := Built.step HF2.out HLk.out hrow3; have HB3 : Hid (Below w.heap.size w w3) := FIN.out _ _ hg3 (below_drew (HB.out.alloc HB.out.size _)) (by have := HB.out.size; simp; omega); clear hrow3 hg3)
      all_goals
        go_wp2
        go_roundw
        case rel => exact ⟨k + 1, S + (m + 2), by omega, by go_num, by go_num, rfl, by show _ = sumTo L k + wire (L k); rw [HS.out, ← HLk.out, HWi.out], by omega, HR3.out, HB3.out⟩
        case measure => simp [intOf] <;> omega
    · obtain rfl : n = k := by omega
      have hlast : (65531 : Int) - (S : Int) + (y : Int) = (last : Int) := by
        have h1 := HLast.out
        have h2 : sumTo (len z n 0) n = S := by
          rw [HS.out, HL.out]
          exact sumTo_congr (fun i hi => by simp [len, hi])
        rw [h2] at h1
        omega
      have hlast1 : (256 : Int) ≤ last := by omega
      have hlast2 : (last : Int) ≤ 65536 := by omega
      have HLl : Hid (∀ i, n ≤ i → i < n + 15 → L i = 65532) := by
        intro i h1 h2
        rw [HL.out]
        unfold len
        rw [if_neg (by omega), if_pos (by omega)]
      have HLn : Hid (L (n + 15) = last) := by
        show _ = _
        rw [HL.out]
        unfold len
        rw [if_neg (by omega), if_neg (by omega)]
      go_wp2
      go_loopw [6, 10] (fun rs i wr => ∃ k : Nat, k ≤ 15 ∧ i = .int .i64 k ∧ (∃ q, q = n + k ∧ rs = .slice (some ⟨w.heap.size + 1, 0, none⟩) q (n + 16)) ∧ Hid (sumTo L (n + k) = S + 65536 * k) ∧ Hid (Built wr (w.heap.size + 1) (n + 16) (n + k) L) ∧ Hid (Below w.heap.size w wr)) (fun _ i _ => 15 - (intOf i).toNat)
      case atStart => exact ⟨0, Nat.zero_le _, rfl, ⟨n, rfl, rfl⟩, by show _ = _; rw [HS.out]; rfl, HR.out, HB.out⟩
      case round =>
        clear HR HB HS
        obtain ⟨k, hk, rfl, ⟨q, hq, rfl⟩, HS, HR, HB⟩ := hrel
        obtain ⟨f, hrow, hf⟩ := HR.out
        rw [← hq] at hf
        have HQ : Hid (q = n + k) := hq
        have HF : Hid (wr.rowIs (w.heap.size + 1) 27 ((n + 16) * 2) f) := hrow
        have HF2 : Hid (∀ i, i < q → ∃ t a c, f (i * 2) = .int .u8 t ∧ f (i * 2 + 1) = .slice a (L i) c) := hf
        have hsz := hrow.lt
        have hqr : q + 1 ≤ n + 16 := by omega
        by_cases hlt : k < 15
        · have HLk : Hid (65532 = L q) := (HLl.out q (by omega) (by omega)).symm
          clear hrow hf HR hq
          go_wp2_with (at_builtin; refine wpList_appR _ rfl (.tmp 53) (.tmp 58) rfl (w.heap.size + 1) q (n + 16) rfl f (HF.out.alloc _) _ _ rfl (.int .u8 x) (.slice (some ⟨w.heap.size, 0, none⟩) 65532 65536) (by simp) (by simp) rfl rfl hqr ?_; intro w3 hrow3 hg3 hs3; have HR3 : Hid (Built w3 (w.heap.size + 1) (n + 16) (q + 1) L) := Built.step HF2.out HLk.out hrow3; have HB3 : Hid (Below w.heap.size w w3) := (HB.out.alloc HB.out.size _).trans (below_of_grown hg3 (by have := HB.out.size; simp; omega) (by omega)); clear hrow3 hg3)
          go_roundw
          case rel =>
            have hq := HQ.out
            refine ⟨k + 1, by omega, by go_num, ⟨q + 1, by omega, rfl⟩, ?_, by rw [show n + (k + 1) = q + 1 by omega]; exact HR3.out, HB3.out⟩
            have h := HS.out
            show sumTo L (n + k + 1) = _
            rw [← hq] at h ⊢
            show sumTo L q + wire (L q) = _
            rw [h, ← HLk.out, wire_long (by omega)]
            omega
          case measure => simp [intOf] <;> omega
        · obtain rfl : k = 15 := by omega
          have hs15 := HS.out
          rw [← hq] at hs15
          obtain rfl : n + 15 = q := hq.symm
          have HLk : Hid (last = L (n + 15)) := HLn.out.symm
          have HTOT : Hid (sumTo L (n + 16) = 1048575 + y) := by
            show sumTo L (n + 15) + wire (L (n + 15)) = _
            rw [hs15, HLn.out, wire_long (by omega)]
            omega
          have HT : Hid (∀ q b, TotalIs L (n + 16) q b → (y ≤ 1 → b = true ∧ q = 1048575 + (y : Int)) ∧ (y = 2 → b = false ∧ q = 0)) := by
            rintro q b (⟨rfl, hfit, rfl⟩ | ⟨rfl, hnot, rfl⟩)
            · refine ⟨fun h => ⟨rfl, by rw [HTOT.out]; omega⟩, fun h => ?_⟩
              have := hfit.2
              rw [HTOT.out] at this
              omega
            · refine ⟨fun h => absurd ?_ hnot, fun h => ⟨rfl, rfl⟩⟩
              refine ⟨fun i hi => ?_, by rw [HTOT.out]; omega⟩
              by_cases e : i < n
              · rw [HL.out]
                unfold len
                rw [if_pos e]
                omega
              · by_cases e2 : i < n + 15
                · rw [HLl.out i (by omega) e2]; omega
                · obtain rfl : i = n + 15 := by omega
                  rw [HLn.out]; omega
          have HLe : Hid (∀ i, i < n + 16 → L i ≤ 100000) := by
            intro i hi
            by_cases e : i < n
            · rw [HL.out]
              unfold len
              rw [if_pos e]
              omega
            · by_cases e2 : i < n + 15
              · rw [HLl.out i (by omega) e2]; omega
              · obtain rfl : i = n + 15 := by omega
                rw [HLn.out]; omega
          clear hrow hf HR hq HS hs15
          go_wp2_with (at_builtin; refine wpList_appR _ rfl (.tmp 63) (.tmp 71) rfl (w.heap.size + 1) (n + 15) (n + 16) rfl f (HF.out.alloc _) _ _ rfl (.int .u8 1) (.slice (some ⟨w.heap.size, 0, none⟩) last 65536) (by simp) (by simp) rfl rfl hqr ?_; intro w3 hrow3 hg3 hs3; have HR3 : Hid (Built w3 (w.heap.size + 1) (n + 16) (n + 15 + 1) L) := Built.step HF2.out HLk.out hrow3; have HB3 : Hid (Below w.heap.size w w3) := (HB.out.alloc HB.out.size _).trans (below_of_grown hg3 (by have := HB.out.size; simp; omega) (by omega)); clear hrow3 hg3)
          obtain ⟨r, hr, hrL⟩ := HR3.out.recs (by omega)
          have HRR : Hid (RecsAt w3 (some ⟨w.heap.size + 1, 0, none⟩) (n + 16) r) := hr
          have HRL : Hid (r.L = L) := hrL
          clear hr hrL
          refine (ts_calls _ (n + 16) _ r w3 (by omega) HRR.out (fun i hi => by rw [HRL.out]; have := HLe.out i hi; omega)).mono ?_
          rintro e w5 ⟨q, b, rfl, ht, hb5⟩
          rw [HRL.out] at ht
          have HT2 := HT.out q b ht
          have HB5 : Hid (Below w.heap.size w w5) := HB3.out.trans (hb5.mono HB3.out.size)
          clear ht hb5
          by_cases hlg : y ≤ 1
          · obtain ⟨rfl, rfl⟩ := HT2.1 hlg
            have hne : ((y : Int) == 2) = false := by simp; omega
            clear HT2
            go_wp2
            go_ret
            exact ⟨rfl, HB5.out⟩
          · obtain ⟨rfl, rfl⟩ := HT2.2 (by omega)
            have hne : ((y : Int) == 2) = true := by simp; omega
            clear HT2
            go_wp2
            go_ret
            exact ⟨rfl, HB5.out⟩
end Go.Proofs.Ymbrcp.lawS930003FLimit
