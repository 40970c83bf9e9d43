/-
  Ymbrcp: the walk of 'LawS930003GFresh'.
-/
import Derived.Test.YmbrcpGCut
namespace Go.Proofs.Ymbrcp.lawS930003GFresh
open Go.RowKit Go.Proofs.Ymbrcp
open Go.Proofs.Ymbrcp.lawS930003GCut (lst_bytes)
set_option linter.unusedVariables false

theorem head_span {z : Nat → Int} {n p h L : Nat} (H : Head z p h L) (hn : p + h + L ≤ n) : span z n p = (((p + h : Nat) : Int), ((p + h + L : Nat) : Int), 0) := by
  rcases H with ⟨rfl, h1, h2⟩ | ⟨rfl, h1, h2, h3⟩ | ⟨rfl, h1, h2, h3⟩
  · rw [span_at z n p (by omega), if_pos h1, if_neg (by omega)]
    simp only [Prod.mk.injEq, and_true]
    omega
  · rw [span_at z n p (by omega), if_neg (by omega), if_pos h1, if_neg (by omega), if_neg h2, if_neg (by omega)]
    simp only [Prod.mk.injEq, and_true]
    omega
  · rw [span_at z n p (by omega), if_neg (by omega), if_neg (by omega), if_pos h1, if_neg (by omega), if_neg h2, if_neg (by omega)]
    simp only [Prod.mk.injEq, and_true]
    omega

set_option maxRecDepth 100000 in
set_option maxHeartbeats 4000000 in
theorem walk (a : Option Addr) (n c : Nat) (z : Nat → Int) (a2 : Option Addr) (n2 c2 : Nat) (z2 : Nat → Int) (t s k x : Int) (w : World) (hl : n ≤ c) (hc : c ≤ 9223372036854775807) (hn : a = none → n = 0 ∧ c = 0) (hz : IsByte z ∧ BytesAt w a n z)
    (hl2 : n2 ≤ c2) (hc2 : c2 ≤ 9223372036854775807) (hn2 : a2 = none → n2 = 0 ∧ c2 = 0) (hz2 : IsByte z2 ∧ BytesAt w a2 n2 z2) (ht : 0 ≤ t ∧ t ≤ 255) (hs : 0 ≤ s ∧ s ≤ 255) (hk : 0 ≤ k ∧ k ≤ 255) (hx : 0 ≤ x ∧ x ≤ 65535) :
    Calls Ycpm.prog 10 #[.slice a n c, .slice a2 n2 c2, .int .u8 t, .int .u8 s, .int .u8 k, .int .u16 x] w fun e w' => e = .returned (.bool true) ∧ Below w.heap.size w w' := by
  by_cases hbig : 4096 < n
  · clear hn hz hn2 hz2
    go_enter Ycpm.func10, Ycpm.ntmps10
    go_wp2
    go_ret
    exact ⟨rfl, Below.refl _ _⟩
  by_cases hbig2 : 4096 < n2
  · clear hn hz hn2 hz2
    go_enter Ycpm.func10, Ycpm.ntmps10
    go_wp2
    go_ret
    exact ⟨rfl, Below.refl _ _⟩
  have HN : Hid (a = none → n = 0 ∧ c = 0) := hn
  have HN2 : Hid (a2 = none → n2 = 0 ∧ c2 = 0) := hn2
  have HZ : Hid (IsByte z ∧ BytesAt w a n z) := hz
  have HZ2 : Hid (IsByte z2 ∧ BytesAt w a2 n2 z2) := hz2
  have HG : Hid (∀ i, 0 ≤ gat s i ∧ gat s i ≤ 255) := gat_byte s
  clear hn hn2 hz hz2
  go_enter Ycpm.func10, Ycpm.ntmps10
  go_wp2_with fail
  refine (gsize_calls k x w hk hx).mono ?_
  rintro e w1 ⟨m, rfl, hm, rfl⟩
  go_wp2_with fail
  refine (gbuild_calls a n c z t s m _ HN.out HZ.out.2 (by omega) ht hs hm).mono ?_
  rintro e w2 ⟨ao, N, cap, st, rfl, hst, hO, hB⟩
  have HST : Hid (st = (n : Int) + (1 + (lenF m).length : Nat)) := hst
  have HO : Hid (OwnB w2 w1.heap.size (.slice ao N cap) (lst n z ++ enc t (gval s m))) := hO
  have HB : Hid (Below w1.heap.size w1 w2) := hB
  have hlen := hO.len
  rw [List.length_append, lst_len] at hlen
  have hE : (enc t (gval s m)).length = 1 + (lenF m).length + m := by rw [enc_len, gval_len]
  have hLF : (lenF m).length ≤ 3 := by rw [lenF_len]; split <;> (try split) <;> omega
  have hN1 : (n : Int) + 1 ≤ N := by omega
  have hN2 : (N : Int) ≤ 70000 := by omega
  have hz2 : w1.heap.size ≤ w2.heap.size := hB.size
  have HL : Hid (N = n + (1 + (lenF m).length + m)) := by show _ = _; omega
  clear hO hB hlen hst hE hLF
  go_wp2_with (at_builtin; refine wpList_appB _ rfl (.tmp 40) (.tmp 41) rfl w1.heap.size ao N cap _ rfl HO.out a2 n2 c2 rfl (lst n2 z2) (lst_len _ _) (listAt_of (HZ2.out.2.below HB.out)) HN2.out (by omega) hz2 ?_; intro ao3 cap3 w3 hown3 hg3 hb3 hne3 hp3; have HO3 : Hid (OwnB w3 w1.heap.size (.slice ao3 (N + n2) cap3) (lst n z ++ enc t (gval s m) ++ lst n2 z2)) := hown3; have HB3 : Hid (Below w1.heap.size w1 w3) := HB.out.trans hb3; clear hown3 hg3 hb3 hne3 hp3)
  have HMSG : Hid (lst n z ++ enc t (gval s m) ++ lst n2 z2 = lst n z ++ (enc t (gval s m) ++ lst n2 z2)) := List.append_assoc _ _ _
  have HH := head_enc (lst n z) (lst n2 z2) t (gval s m) (by rw [gval_len]; omega)
  have HT := head_type (lst n z) (lst n2 z2) t (gval s m)
  have HV := head_value (lst n z) (lst n2 z2) t (gval s m)
  rw [← HMSG.out, lst_len] at HH HT HV
  rw [gval_len] at HH HV
  have HSP := head_span HH (n := N + n2) (by have := HL.out; omega)
  have HBY : AllB (lst n z ++ enc t (gval s m) ++ lst n2 z2) := ((lst_bytes HZ.out.1).app (enc_bytes ht (gval_bytes s m) (by rw [gval_len]; omega))).app (lst_bytes HZ2.out.1)
  obtain ⟨_, _, hsh, hcap, hcap2, _⟩ := HO3.out.shape
  simp only [Value.slice.injEq] at hsh
  have hlen3 := HO3.out.len
  have HAT : BytesAt w3 ao3 (N + n2) (zl (lst n z ++ enc t (gval s m) ++ lst n2 z2)) := by
    have h := HO3.out.bytes
    rw [hlen3] at h
    exact h
  obtain ⟨gb, hgb, hgb1, hgb2⟩ := HO3.out.block (by omega)
  have HRR : Hid (Calls Ycpm.prog 21 #[.slice ao3 (N + n2) cap3, .int .i64 (n : Int)] w3 fun e w' => ∃ g, e = .returned (.tuple #[.agg #[.int .u8 t, .slice (some ⟨g, 0, none⟩) m m], .int .i64 (st + m), .int .i64 0]) ∧ w3.heap.size ≤ g ∧ w'.rowIs g 5 m (fun i => .int .u8 (gat s i)) ∧ Below w3.heap.size w3 w') := by
    refine (rr_good ao3 (N + n2) cap3 _ n _ m w3 (by omega) (by omega) (zl_byte HBY) HAT HSP (by omega) (by have := HL.out; omega) (by omega)).mono ?_
    rintro e w' ⟨g, rfl, hg, hrow, hb⟩
    rw [HT]
    refine ⟨g, tup3 (by rw [HST.out]; omega) rfl, hg, hrow.congr fun i hi => ?_, hb⟩
    rw [HV i hi]
    simp [gval, List.getD, hi]
  subst hgb
  have hst1 : 0 ≤ st := by rw [HST.out]; omega
  have hst2 : st ≤ 5000 := by rw [HST.out]; have h := lenF_len m; split at h <;> (try split at h) <;> omega
  clear HH HT HV HSP HBY HAT hcap hcap2 hsh hlen3
  refine HRR.out.mono ?_
  rintro e w4 ⟨g, rfl, hg, hrow, hb⟩
  have HO4 : Hid (OwnB w4 w1.heap.size (.slice (some ⟨gb, 0, none⟩) (N + n2) cap3) (lst n z ++ enc t (gval s m) ++ lst n2 z2)) := HO3.out.below hb (Nat.le_refl _)
  have HR4 : Hid (w4.rowIs g 5 m (fun i => .int .u8 (gat s i))) := hrow
  have HB4 : Hid (Below w1.heap.size w1 w4) := HB3.out.trans (hb.mono HB3.out.size)
  have hs4 := hb.size
  have hg4 : g < w4.heap.size := hrow.lt
  clear hrow hb
  go_wp2
  go_loopw [19] (fun i wr => ∃ (k : Nat) (bs : List Int), k ≤ N + n2 ∧ i = .int .i64 k ∧ Hid (OwnB wr w1.heap.size (.slice (some ⟨gb, 0, none⟩) (N + n2) cap3) bs) ∧ Hid ((w4.alloc (.cells #[.int .u8 t, .slice (some ⟨g, 0, none⟩) m m] 27)).grownBy wr (some gb)))
    (fun i _ => N + n2 - (intOf i).toNat)
  case atStart => exact ⟨0, _, Nat.zero_le _, rfl, HO4.out.alloc _, World.grownBy.refl _ _⟩
  case round =>
    obtain ⟨k, bs, hk, rfl, HO5, HG5⟩ := hrel
    by_cases hlt : k < N + n2
    · have d1 : wr.cell? ⟨gb, k, none⟩ = some (.int .u8 (bs.getD k 0)) := HO5.out.cell hlt
      have f1 : wr.frozen? ⟨gb, k, none⟩ = false := HO5.out.frozen k
      go_wp2
      go_roundw
      case rel => exact ⟨k + 1, _, by omega, by go_num, (HO5.out.set k _).1, grown_trans HG5.out (HO5.out.set k _).2⟩
      case measure => simp [intOf] <;> omega
    · have r0 : wr.cell? ⟨w4.heap.size, 0, none⟩ = some (.int .u8 t) := HG5.out.cell (a := ⟨w4.heap.size, 0, none⟩) (by simp) (by simp; omega)
      have r1 : wr.cell? ⟨w4.heap.size, 1, none⟩ = some (.slice (some ⟨g, 0, none⟩) m m) := HG5.out.cell (a := ⟨w4.heap.size, 1, none⟩) (by simp) (by simp; omega)
      have HR5 : Hid (wr.rowIs g 5 m (fun i => .int .u8 (gat s i))) := rowIs_grown (HR4.out.alloc _) HG5.out (by omega)
      have HB5 : Hid (Below w1.heap.size w1 wr) := (HB4.out.alloc HB4.out.size _).trans (below_of_grown HG5.out (by simp; have := HB4.out.size; omega) hgb1)
      clear HO5 HG5 HO4 HR4 HB4
      go_wp2
      go_loopw [20] (fun i wq => ∃ k d : Nat, k ≤ m ∧ i = .int .i64 k ∧ wq = wr.drewN d) (fun i _ => m - (intOf i).toNat)
      case atStart => exact ⟨0, 0, Nat.zero_le _, rfl, rfl⟩
      case round =>
        obtain ⟨k, d, hk, rfl, rfl⟩ := hrel
        by_cases hlt : k < m
        · have x1 : wr.cell? ⟨g, k, none⟩ = some (.int .u8 (gat s k)) := HR5.out.cell hlt
          have l1 : (k : Int) < (m : Int) := by omega
          have hgk := HG.out k
          go_wp2
          go_quiet ((go_at_call 24; exact (gat_calls s k _ hs (by omega)).mono (fun e w' h => ⟨h.1, _, h.2⟩)))
          go_wp2
          go_roundw
          case rel => exact ⟨k + 1, _, by omega, by go_num, rfl⟩
          case measure => simp [intOf] <;> omega
        · go_wp2
          go_ret
          exact ⟨rfl, HB5.out.trans ((below_drewN wr d).mono HB5.out.size)⟩
end Go.Proofs.Ymbrcp.lawS930003GFresh
