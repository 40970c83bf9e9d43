/-
  Ymbrcp: the walk of 'LawS930003HRound'.
-/
import Derived.Test.YmbrcpHwalk
import Derived.Test.YmbrcpDecode
namespace Go.Proofs.Ymbrcp.lawS930003HRound
open Go.RowKit Go.Proofs.Ymbrcp
set_option linter.unusedVariables false

theorem drewN_plus (w : World) (a b : Nat) : (w.drewN a).drewN b = w.drewN (a + b) := by simp [World.drewN, Nat.add_assoc]

theorem head_span {z : Nat → Int} {n p h L : Nat} (H : Head z p h L) (hn : p + h + L ≤ n) : span z n p = (((p + h : Nat) : Int), ((p + h + L : Nat) : Int), 0) := by
  rcases H with ⟨rfl, h1, h2⟩ | ⟨rfl, h1, h2, h3⟩ | ⟨rfl, h1, h2, h3⟩
  · rw [span_at z n p (by omega), if_pos h1, if_neg (by omega)]
    simp only [Prod.mk.injEq, and_true]
    omega
  · rw [span_at z n p (by omega), if_neg (by omega), if_pos h1, if_neg (by omega), if_neg h2, if_neg (by omega)]
    simp only [Prod.mk.injEq, and_true]
    omega
  · rw [span_at z n p (by omega), if_neg (by omega), if_neg (by omega), if_pos h1, if_neg (by omega), if_neg h2, if_neg (by omega)]
    simp only [Prod.mk.injEq, and_true]
    omega

theorem rec_at (r : Recs) (n : Nat) (hf : Fits r.L n) : ∀ k, k < n → IsRec (zl (encs (recL r n))) (sumTo r.L n) k (sumTo r.L k) (sumTo r.L k + hd (r.L k)) (r.L k)
  | k, hk => by
    obtain ⟨h1, h2, h3, h4⟩ := at_record r n k hk hf
    have hm := sumTo_mono r.L (show k + 1 ≤ n by omega)
    have hb := hd_bd (r.L k)
    have hs := head_span h1 (n := sumTo r.L n) (by omega)
    refine ⟨?_, by omega, hs, by omega, hf.1 k hk⟩
    match k, hk with
    | 0, _ => rfl
    | k + 1, hk =>
      have g := rec_at r n hf k (by omega)
      obtain ⟨_, _, _, g4⟩ := at_record r n k (by omega) hf
      refine ⟨sumTo r.L k, g.reach, g.lt, by rw [g.span], ?_⟩
      rw [g.span]
      show ((sumTo r.L k + hd (r.L k) + r.L k : Nat) : Int) = _
      rw [g4]

theorem check_recs (r : Recs) (n : Nat) (hf : Fits r.L n) : IsCheck (zl (encs (recL r n))) (sumTo r.L n) n (sumTo r.L n) 0 := by
  have h := check_encs (recL r n) [] 0 (by
    intro x hx
    obtain ⟨i, hi, rfl⟩ := List.mem_map.1 hx
    simp
    exact hf.1 i (List.mem_range.1 hi)) (.inl ⟨rfl, rfl⟩)
  rw [List.append_nil, recL_len, encs_len] at h
  exact h

/-- What came back lies so. -/
structure BackAt (w : World) (g n : Nat) (r : Recs) (G : Nat → Nat) : Prop where
  c0 : ∀ i, i < n → w.cell? ⟨g, i * 2, none⟩ = some (.int .u8 (r.T i))
  c1 : ∀ i, i < n → w.cell? ⟨g, i * 2 + 1, none⟩ = some (.slice (some ⟨G i, 0, none⟩) (r.L i) (r.L i))
  cv : ∀ i, i < n → ∀ j, j < r.L i → w.cell? ⟨G i, j, none⟩ = some (.int .u8 (r.Z i j))

theorem back_of {w : World} {base g n : Nat} {r : Recs} {G : Nat → Nat} (hf : Fits r.L n) (h : DecAt w base g n n (zl (encs (recL r n))) (sumTo r.L n) G) : BackAt w g n r G := by
  obtain ⟨f, hrow, hi⟩ := h
  have each : ∀ i, i < n → f (i * 2) = .int .u8 (r.T i) ∧ f (i * 2 + 1) = .slice (some ⟨G i, 0, none⟩) (r.L i) (r.L i) ∧ w.rowIs (G i) 5 (r.L i) (fun j => .int .u8 (zl (encs (recL r n)) (sumTo r.L i + hd (r.L i) + j))) := by
    intro i hin
    obtain ⟨p, s, m, h1, h2, h3, h4, h5, h6, h7⟩ := hi i hin
    obtain ⟨rfl, rfl, rfl⟩ := h1.uniq (rec_at r n hf i hin)
    rw [(at_record r n i hin hf).2.1] at h2
    exact ⟨h2, h3, h6⟩
  refine ⟨fun i hin => ?_, fun i hin => ?_, fun i hin j hj => ?_⟩
  · rw [hrow.cell (by omega), (each i hin).1]
  · rw [hrow.cell (by omega), (each i hin).2.1]
  · rw [(each i hin).2.2.cell hj, (at_record r n i hin hf).2.2.1 j hj]

set_option maxRecDepth 100000 in
set_option maxHeartbeats 4000000 in
theorem walk (a : Option Addr) (n c : Nat) (r : Recs) (w : World) (hl : n ≤ c) (hc : c ≤ 9223372036854775807) (_hn : a = none → n = 0 ∧ c = 0) (hz : RecsOk n r ∧ RecsAt w a n r ∧ ValsAt w n r) :
    Calls Ycpm.prog 14 #[.slice a n c] w fun e w' => e = .returned (.bool true) ∧ Below w.heap.size w w' := by
  obtain ⟨hok, ha, hv⟩ := hz
  have HA : Hid (RecsAt w a n r) := ha
  have HV : Hid (ValsAt w n r) := hv
  have HK : Hid (RecsOk n r) := hok
  have hq := eqlB_nil
  clear ha hv hok _hn
  go_enter Ycpm.func14, Ycpm.ntmps14
  go_wp2_with fail
  refine (encode_calls a n c r w (by omega) HK.out HA.out HV.out).mono ?_
  rintro e w1 (⟨hf, ao, N, cap, rfl, hO, hne, hB⟩ | ⟨hf, rfl, hB⟩)
  · have HF : Hid (Fits r.L n) := hf
    have hN : N = sumTo r.L n := by rw [← encs_len]; exact hO.len.symm
    have HN : Hid (N = sumTo r.L n) := hN
    have hN2 : (N : Int) ≤ 1048576 := by have := hf.2; omega
    have hn2 : (n : Int) ≤ 524288 := by have := sumTo_ge r.L n; have := hf.2; omega
    obtain ⟨_, _, hsh, hcap, hcap2, _⟩ := hO.shape
    have hcap1 : N ≤ cap ∧ cap ≤ 9223372036854775807 := by
      simp only [Value.slice.injEq] at hsh
      have e := hO.len
      have := hsh.2.2
      omega
    have HD : Hid (Calls Ycpm.prog 28 #[.slice ao N cap] w1 fun e w' => ∃ g G, e = .returned (.tuple #[.slice (some ⟨g, 0, none⟩) n n, .int .i64 0]) ∧ BackAt w' g n r G ∧ Below w1.heap.size w1 w') := by
      have hbytes : BytesAt w1 ao N (zl (encs (recL r n))) := by
        have h := hO.bytes
        rw [hO.len] at h
        exact h
      refine (decode_calls ao N cap _ w1 hcap1.1 hcap1.2 hN2 (zl_byte (recL_bytes HK.out hf)) hbytes).mono ?_
      rintro e w' ⟨cnt, p, code, hck, hb, hr⟩
      rw [hN] at hck hr
      obtain ⟨rfl, rfl, rfl⟩ := hck.uniq (check_recs r n hf)
      rcases hr with ⟨h0, _⟩ | ⟨_, g, G, rfl, hg, hd⟩
      · exact absurd rfl h0
      · exact ⟨g, G, rfl, back_of hf hd, hb⟩
    have HB : Hid (Below w.heap.size w w1) := hB
    clear hf hO hB hN hne hsh hcap hcap2
    go_wp2_with fail
    refine HD.out.mono ?_
    rintro e w2 ⟨g, G, rfl, hback, hb2⟩
    have HBK : Hid (BackAt w2 g n r G) := hback
    have HB2 : Hid (Below w.heap.size w w2) := HB.out.trans (hb2.mono HB.out.size)
    clear hback hb2
    go_wp2
    go_loopw [7] (fun i wr => ∃ k d : Nat, k ≤ n ∧ i = .int .i64 k ∧ wr = w2.drewN d) (fun i _ => n - (intOf i).toNat)
    case atStart => exact ⟨0, 0, Nat.zero_le _, rfl, rfl⟩
    case round =>
      obtain ⟨k, d, hk, rfl, rfl⟩ := hrel
      by_cases hlt : k < n
      · obtain ⟨ab, off, rfl, hT, hS⟩ := HA.out (by omega)
        have hc0 := hT k hlt
        have hc1 := hS k hlt
        have t0 : w2.cell? ⟨ab, off + k * 2, none⟩ = some (.int .u8 (r.T k)) := (HB2.out.cell (World.block_lt_of_cell? _ _ hc0)).trans hc0
        have t1 : w2.cell? ⟨ab, off + k * 2 + 1, none⟩ = some (.slice (r.A k) (r.L k) (r.C k)) := (HB2.out.cell (World.block_lt_of_cell? _ _ hc1)).trans hc1
        have b0 := HBK.out.c0 k hlt
        have b1 := HBK.out.c1 k hlt
        have hLk : ((r.L k : Nat) : Int) ≤ 65535 := by have := HF.out.1 k hlt; omega
        clear hT hS hc0 hc1
        go_wp2
        go_quiet (fail)
        go_wp2
        go_loopw [8] (fun i wq => ∃ j d : Nat, j ≤ r.L k ∧ i = .int .i64 j ∧ wq = w2.drewN d) (fun i _ => r.L k - (intOf i).toNat)
        case atStart => exact ⟨0, _, Nat.zero_le _, rfl, drewN_plus w2 _ _⟩
        case round =>
          obtain ⟨j, d2, hj, rfl, rfl⟩ := hrel
          by_cases hjl : j < r.L k
          · obtain ⟨b3, o3, h3, hc3⟩ := (HV.out k hlt).below HB2.out (by omega)
            have g1 : w2.cell? ⟨b3, o3 + j, none⟩ = some (.int .u8 (r.Z k j)) := hc3 j hjl
            have g2 := HBK.out.cv k hlt j hjl
            rw [h3] at t1
            clear hc3
            go_wp2
            go_quiet (fail)
            go_wp2
            go_roundw
            case rel => exact ⟨j + 1, _, by omega, by go_num, rfl⟩
            case measure => simp [intOf] <;> omega
          · obtain rfl : j = r.L k := by omega
            go_wp2
            go_roundw
            case rel => exact ⟨k + 1, _, by omega, by go_num, rfl⟩
            case measure => simp [intOf] <;> omega
      · obtain rfl : n = k := by omega
        go_wp2
        go_ret
        exact ⟨rfl, HB2.out.trans ((below_drewN w2 d).mono HB2.out.size)⟩
  · have HF : Hid (¬ Fits r.L n) := hf
    have HB : Hid (Below w.heap.size w w1) := hB
    clear hf hB
    have HH : Hid (Calls Ycpm.prog 27 #[.slice a n c] w1 fun e w' => e = .returned (.bool false) ∧ w' = w1) := by
      refine (hfits_calls a n c r w1 (by omega) (HA.out.below HB.out) (fun i hi => by have := HK.out.hL i hi; have := HK.out.hC i hi; omega)).mono ?_
      rintro e w2 ⟨b, rfl, hb, rfl⟩
      obtain rfl : b = false := by cases b with | false => rfl | true => exact absurd (hb.1 rfl) HF.out
      exact ⟨rfl, rfl⟩
    go_wp2_with (go_at_call 27; refine HH.out.mono ?_; rintro e w2 ⟨rfl, rfl⟩)
    go_ret
    exact ⟨rfl, HB.out⟩
end Go.Proofs.Ymbrcp.lawS930003HRound
