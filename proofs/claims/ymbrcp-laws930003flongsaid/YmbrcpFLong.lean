/-
  Ymbrcp: the walk of 'LawS930003FLong'.
-/
import Derived.Test.YmbrcpAppRec
import Derived.Test.YmbrcpFwire
namespace Go.Proofs.Ymbrcp.lawS930003FLong
open Go.RowKit Go.Proofs.Ymbrcp
set_option linter.unusedVariables false

/-- The lengths of the records that are built. -/
def len (z1 z2 : Nat → Int) (n1 long : Nat) (i : Nat) : Nat := if i < n1 then (z1 i).toNat else if i = n1 then long else (z2 (i - (n1 + 1))).toNat

theorem wire_small {m : Nat} (h : m ≤ 255) : wire m ≤ 300 := by have := wire_ge m; omega

set_option maxRecDepth 100000 in
set_option maxHeartbeats 4000000 in
theorem walk (a : Option Addr) (n c : Nat) (z : Nat → Int) (a2 : Option Addr) (n2 c2 : Nat) (z2 : Nat → Int) (x : Int) (w : World) (hl : n ≤ c) (hc : c ≤ 9223372036854775807) (hn : a = none → n = 0 ∧ c = 0) (hz : IsByte z ∧ BytesAt w a n z)
    (hl2 : n2 ≤ c2) (hc2 : c2 ≤ 9223372036854775807) (hn2 : a2 = none → n2 = 0 ∧ c2 = 0) (hz2 : IsByte z2 ∧ BytesAt w a2 n2 z2) (hx : 0 ≤ x ∧ x ≤ 255) :
    Calls Ycpm.prog 8 #[.slice a n c, .slice a2 n2 c2, .int .u8 x] w fun e w' => e = .returned (.bool true) ∧ Below w.heap.size w w' := by
  by_cases hbig : 1024 < n
  · clear hn hz hn2 hz2
    go_enter Ycpm.func8, Ycpm.ntmps8
    go_wp2
    go_ret
    exact ⟨rfl, Below.refl _ _⟩
  by_cases hbig2 : 1024 < n2
  · clear hn hz hn2 hz2
    go_enter Ycpm.func8, Ycpm.ntmps8
    go_wp2
    go_ret
    exact ⟨rfl, Below.refl _ _⟩
  have HZ : Hid (IsByte z ∧ BytesAt w a n z) := hz
  have HZ2 : Hid (IsByte z2 ∧ BytesAt w a2 n2 z2) := hz2
  clear hn hz hn2 hz2
  obtain ⟨y, hy⟩ : ∃ y : Nat, x % 8 = (y : Int) := ⟨(x % 8).toNat, by omega⟩
  have hy2 : (y : Int) ≤ 7 := by omega
  obtain ⟨long, HLong⟩ : ∃ long : Nat, Hid (long = 65532 + y) := ⟨_, rfl⟩
  have hlong : (65532 : Int) + (y : Int) = (long : Int) := by have := HLong.out; omega
  have hlong1 : (65532 : Int) ≤ long := by omega
  have hlong2 : (long : Int) ≤ 65539 := by omega
  obtain ⟨L, HL⟩ : ∃ L, Hid (L = len z z2 n long) := ⟨_, rfl⟩
  go_enter Ycpm.func8, Ycpm.ntmps8
  go_wp2_with (first
    | (at_make; refine wpList_mkRx _ (w.heap.size + 1) hs1 rfl _ _ rfl .i64 .i64 _ _ 0 (n + n2 + 1) rfl rfl rfl (by omega) (by omega) (by omega) ?_; intro w2 hrow hb hs2; have HR : Hid (Built w2 (w.heap.size + 1) (n + n2 + 1) 0 L) := Built.start hrow; have HB : Hid (Below w.heap.size w w2) := HB1.out.trans (hb.mono (by omega)); clear hrow hb)
    | (at_make; refine wpList_mkBx _ _ rfl rfl _ _ rfl .i64 .i64 _ _ 65540 65540 rfl rfl (by omega) (by omega) (by omega) (by omega) ?_; intro w1 hrow hb hs1; have HB1 : Hid (Below w.heap.size w w1) := hb; clear hrow hb))
  go_loopw [8, 9, 10] (fun rs sm i wr => ∃ k S : Nat, k ≤ n ∧ i = .int .i64 k ∧ sm = .int .i64 S ∧ rs = .slice (some ⟨w.heap.size + 1, 0, none⟩) k (n + n2 + 1) ∧ Hid (S = sumTo L k) ∧ (S : Int) ≤ 300 * (k : Int) ∧ Hid (Built wr (w.heap.size + 1) (n + n2 + 1) k L) ∧ Hid (Below w.heap.size w wr)) (fun _ _ i _ => n - (intOf i).toNat)
  case atStart => exact ⟨0, 0, Nat.zero_le _, rfl, rfl, rfl, rfl, by omega, HR.out, HB.out⟩
  case round =>
    clear HR HB
    obtain ⟨k, S, hk, rfl, rfl, rfl, HS, hS, HR, HB⟩ := hrel
    by_cases hlt : k < n
    · obtain ⟨b, off, rfl, hcell⟩ := HZ.out.2 (by omega)
      have hzk := HZ.out.1 k
      obtain ⟨m, hm⟩ : ∃ m : Nat, z k = (m : Int) := ⟨(z k).toNat, by omega⟩
      have hm2 : (m : Int) ≤ 255 := by omega
      have c1 : wr.cell? ⟨b, off + k, none⟩ = some (.int .u8 (z k)) := (HB.out.cell (World.block_lt_of_cell? _ _ (hcell k hlt))).trans (hcell k hlt)
      have HLk : Hid (m = L k) := by show _ = _; rw [HL.out]; simp [len, hlt, hm]
      rw [hm] at c1
      clear hcell hzk
      obtain ⟨f, hrow, hf⟩ := HR.out
      have HF : Hid (wr.rowIs (w.heap.size + 1) 27 ((n + n2 + 1) * 2) f) := hrow
      have HF2 : Hid (∀ i, i < k → ∃ t a c, f (i * 2) = .int .u8 t ∧ f (i * 2 + 1) = .slice a (L i) c) := hf
      have hsz := hrow.lt
      have hW : ((wire m : Nat) : Int) ≤ 300 := by have := wire_small (m := m) (by omega); omega
      clear hrow hf HR
      go_wp2_with (first
        | (at_builtin; refine wpList_appR _ rfl (.tmp 44) (.tmp 50) rfl (w.heap.size + 1) k (n + n2 + 1) rfl f (HF.out.alloc _) _ _ rfl (.int .u8 x) (.slice (some ⟨w.heap.size, 0, none⟩) m 65540) (by simp) (by simp) rfl rfl (by omega) ?_; intro w3 hrow3 hg3 hs3; have HR3 : Hid (Built w3 (w.heap.size + 1) (n + n2 + 1) (k + 1) L) := Built.step HF2.out HLk.out hrow3; have HB3 : Hid (Below w.heap.size w w3) := (HB.out.alloc HB.out.size _).trans (below_of_grown hg3 (by have := HB.out.size; simp; omega) (by omega)); clear hrow3 hg3)
        | (go_at_call 19; refine (fwire_calls m _ (by omega)).mono ?_; rintro e w4 ⟨rfl, rfl⟩))
      go_roundw
      case rel => exact ⟨k + 1, S + wire m, by omega, by go_num, by go_num, rfl, by show _ = _; rw [HS.out, HLk.out]; rfl, by omega, HR3.out, HB3.out⟩
      case measure => simp [intOf] <;> omega
    · obtain rfl : n = k := by omega
      obtain ⟨f, hrow, hf⟩ := HR.out
      have HF : Hid (wr.rowIs (w.heap.size + 1) 27 ((n + n2 + 1) * 2) f) := hrow
      have HF2 : Hid (∀ i, i < n → ∃ t a c, f (i * 2) = .int .u8 t ∧ f (i * 2 + 1) = .slice a (L i) c) := hf
      have hsz := hrow.lt
      have HLk : Hid (long = L n) := by show _ = _; rw [HL.out]; simp [len]
      clear hrow hf HR
      go_wp2_with (at_builtin; refine wpList_appR _ rfl (.tmp 60) (.tmp 65) rfl (w.heap.size + 1) n (n + n2 + 1) rfl f (HF.out.alloc _) _ _ rfl (.int .u8 7) (.slice (some ⟨w.heap.size, 0, none⟩) long 65540) (by simp) (by simp) rfl rfl (by omega) ?_; intro w3 hrow3 hg3 hs3; have HR3 : Hid (Built w3 (w.heap.size + 1) (n + n2 + 1) (n + 1) L) := Built.step HF2.out HLk.out hrow3; have HB3 : Hid (Below w.heap.size w w3) := (HB.out.alloc HB.out.size _).trans (below_of_grown hg3 (by have := HB.out.size; simp; omega) (by omega)); clear hrow3 hg3)
      go_loopw [8, 9, 13] (fun rs sm i wr => ∃ k S : Nat, k ≤ n2 ∧ i = .int .i64 k ∧ sm = .int .i64 S ∧ (∃ q, q = n + 1 + k ∧ rs = .slice (some ⟨w.heap.size + 1, 0, none⟩) q (n + n2 + 1)) ∧ Hid (S + wire long = sumTo L (n + 1 + k)) ∧ (S : Int) ≤ 300 * (n : Int) + 300 * (k : Int) ∧ Hid (Built wr (w.heap.size + 1) (n + n2 + 1) (n + 1 + k) L) ∧ Hid (Below w.heap.size w wr)) (fun _ _ i _ => n2 - (intOf i).toNat)
      case atStart => exact ⟨0, S, Nat.zero_le _, rfl, rfl, ⟨n + 1, rfl, rfl⟩, by show _ = _; rw [HS.out, HLk.out]; rfl, by omega, HR3.out, HB3.out⟩
      case round =>
        clear HR3 HB3 HB HF HF2 HS HLk
        obtain ⟨k, S, hk, rfl, rfl, ⟨q, hq, rfl⟩, HS, hS, HR, HB⟩ := hrel
        have HQ : Hid (q = n + 1 + k) := hq
        have hq2 : q < n + n2 + 1 ∨ q = n + n2 + 1 := by omega
        by_cases hlt : k < n2
        · obtain ⟨b, off, rfl, hcell⟩ := HZ2.out.2 (by omega)
          have hzk := HZ2.out.1 k
          obtain ⟨m, hm⟩ : ∃ m : Nat, z2 k = (m : Int) := ⟨(z2 k).toNat, by omega⟩
          have hm2 : (m : Int) ≤ 255 := by omega
          have c1 : wr.cell? ⟨b, off + k, none⟩ = some (.int .u8 (z2 k)) := (HB.out.cell (World.block_lt_of_cell? _ _ (hcell k hlt))).trans (hcell k hlt)
          have HLk : Hid (m = L q) := by
            show _ = _
            rw [HL.out, hq]
            unfold len
            rw [if_neg (by omega), if_neg (by omega), Nat.add_sub_cancel_left, hm]
            omega
          rw [hm] at c1
          obtain ⟨f, hrow, hf⟩ := HR.out
          rw [← hq] at hf
          have HF : Hid (wr.rowIs (w.heap.size + 1) 27 ((n + n2 + 1) * 2) f) := hrow
          have HF2 : Hid (∀ i, i < q → ∃ t a c, f (i * 2) = .int .u8 t ∧ f (i * 2 + 1) = .slice a (L i) c) := hf
          have hsz := hrow.lt
          have hW : ((wire m : Nat) : Int) ≤ 300 := by have := wire_small (m := m) (by omega); omega
          have hqr : q + 1 ≤ n + n2 + 1 := by omega
          clear hrow hf HR hcell hzk hq hq2
          go_wp2_with (first
            | (at_builtin; refine wpList_appR _ rfl (.tmp 78) (.tmp 84) rfl (w.heap.size + 1) q (n + n2 + 1) rfl f (HF.out.alloc _) _ _ rfl (.int .u8 x) (.slice (some ⟨w.heap.size, 0, none⟩) m 65540) (by simp) (by simp) rfl rfl hqr ?_; intro w3 hrow3 hg3 hs3; have HR3 : Hid (Built w3 (w.heap.size + 1) (n + n2 + 1) (q + 1) L) := Built.step HF2.out HLk.out hrow3; have HB3 : Hid (Below w.heap.size w w3) := (HB.out.alloc HB.out.size _).trans (below_of_grown hg3 (by have := HB.out.size; simp; omega) (by omega)); clear hrow3 hg3)
            | (go_at_call 19; refine (fwire_calls m _ (by omega)).mono ?_; rintro e w4 ⟨rfl, rfl⟩))
          go_roundw
          case rel =>
            have hq := HQ.out
            refine ⟨k + 1, S + wire m, by omega, by go_num, by go_num, ⟨q + 1, by omega, rfl⟩, ?_, by omega, by rw [show n + 1 + (k + 1) = q + 1 by omega]; exact HR3.out, HB3.out⟩
            have h := HS.out
            show _ = sumTo L (n + 1 + k + 1)
            rw [← hq] at h ⊢
            rw [show S + wire m + wire long = S + wire long + wire m by omega, h, HLk.out]
            rfl
          case measure => simp [intOf] <;> omega
        · obtain rfl : n2 = k := by omega
          obtain rfl : n + n2 + 1 = q := by omega
          obtain ⟨r, hr, hrL⟩ := HR.out.recs (by omega)
          rw [show n + 1 + n2 = n + n2 + 1 by omega] at hr
          have HRR : Hid (RecsAt wr (some ⟨w.heap.size + 1, 0, none⟩) (n + n2 + 1) r) := hr
          have HRL : Hid (r.L = L) := hrL
          have HLe : Hid (∀ i, i ≠ n → L i ≤ 255) := by
            intro i hi
            rw [HL.out]
            unfold len
            split
            · have := HZ.out.1 i; omega
            · have := HZ2.out.1 (i - (n + 1)); omega
          have HLn : Hid (L n = long) := by show _ = _; rw [HL.out]; simp [len]
          have HT : Hid (∀ q b, TotalIs L (n + n2 + 1) q b → (long ≤ 65535 → b = true ∧ q = (S : Int) + (long : Int) + 4) ∧ (65535 < long → b = false ∧ q = 0)) := by
            rintro q b (⟨rfl, hfit, rfl⟩ | ⟨rfl, hnot, rfl⟩)
            · refine ⟨fun h => ⟨rfl, ?_⟩, fun h => ?_⟩
              · have h2 := HS.out
                rw [show n + 1 + n2 = n + n2 + 1 by omega] at h2
                rw [← h2]
                have : wire long = long + 4 := by unfold wire; rw [if_neg (by omega), if_neg (by omega)]
                omega
              · have := hfit.1 n (by omega)
                rw [HLn.out] at this
                omega
            · refine ⟨fun h => absurd ?_ hnot, fun h => ⟨rfl, rfl⟩⟩
              refine ⟨fun i hi => ?_, ?_⟩
              · by_cases e : i = n
                · rw [e, HLn.out]; exact h
                · have := HLe.out i e; omega
              · have h2 := HS.out
                rw [show n + 1 + n2 = n + n2 + 1 by omega] at h2
                rw [← h2]
                have := wire_ge long
                omega
          clear hr hrL HR HQ hq hq2
          go_wp2_with fail
          refine (ts_calls _ (n + n2 + 1) _ r wr (by omega) HRR.out (fun i hi => by rw [HRL.out]; by_cases e : i = n; (rw [e, HLn.out]; omega); (have := HLe.out i e; omega))).mono ?_
          rintro e w5 ⟨q, b, rfl, ht, hb5⟩
          rw [HRL.out] at ht
          have HT2 := HT.out q b ht
          have HB5 : Hid (Below w.heap.size w w5) := HB.out.trans (hb5.mono HB.out.size)
          clear ht hb5
          by_cases hlg : long ≤ 65535
          · obtain ⟨rfl, rfl⟩ := HT2.1 hlg
            clear HT2
            go_wp2
            go_ret
            exact ⟨rfl, HB5.out⟩
          · obtain ⟨rfl, rfl⟩ := HT2.2 (by omega)
            clear HT2
            go_wp2
            go_ret
            exact ⟨rfl, HB5.out⟩
end Go.Proofs.Ymbrcp.lawS930003FLong
