/-
  Ymbrcp: the walk of 'LawS930003GCut'.
-/
import Derived.Test.YmbrcpGbuild
import Derived.Test.YmbrcpReadRec
namespace Go.Proofs.Ymbrcp.lawS930003GCut
open Go.RowKit Go.Proofs.Ymbrcp
set_option linter.unusedVariables false

/-- A record that is cut anywhere before its end is cut short. -/
theorem head_cut {z : Nat → Int} {n p h L : Nat} (H : Head z p h L) (hn : n < p + h + L) : (span z n p).2.2 = 1 := by
  by_cases h0 : n ≤ p
  · rw [span_out z n p (.inr (by omega))]
  by_cases h1 : n ≤ p + 1
  · rw [span_end z n p (by omega) h1]
  by_cases h2 : p + h ≤ n
  · exact H.short hn h2
  · rcases H with ⟨rfl, g1, g2⟩ | ⟨rfl, g1, g2, g3⟩ | ⟨rfl, g1, g2, g3⟩
    · omega
    · rw [span_at z n p (by omega), if_neg (by omega), if_pos g1, if_pos (by omega)]
    · rw [span_at z n p (by omega), if_neg (by omega), if_neg (by omega), if_pos g1, if_pos (by omega)]

theorem lst_bytes {n : Nat} {z : Nat → Int} (h : IsByte z) : AllB (lst n z) := by
  intro x hx
  obtain ⟨i, _, rfl⟩ := List.mem_map.1 hx
  exact h i

set_option maxRecDepth 100000 in
set_option maxHeartbeats 2000000 in
theorem walk (a : Option Addr) (n c : Nat) (z : Nat → Int) (t s k x ct : Int) (w : World) (hl : n ≤ c) (hc : c ≤ 9223372036854775807) (hn : a = none → n = 0 ∧ c = 0) (hz : IsByte z ∧ BytesAt w a n z) (ht : 0 ≤ t ∧ t ≤ 255) (hs : 0 ≤ s ∧ s ≤ 255) (hk : 0 ≤ k ∧ k ≤ 255) (hx : 0 ≤ x ∧ x ≤ 65535) (hct : 0 ≤ ct ∧ ct ≤ 65535) :
    Calls Ycpm.prog 11 #[.slice a n c, .int .u8 t, .int .u8 s, .int .u8 k, .int .u16 x, .int .u16 ct] w fun e w' => e = .returned (.bool true) ∧ Below w.heap.size w w' := by
  obtain ⟨hz1, hz2⟩ := hz
  have hnil := eqlB_nil
  by_cases hbig : 4096 < n
  · clear hn hz1 hz2
    go_enter Ycpm.func11, Ycpm.ntmps11
    go_wp2
    go_ret
    exact ⟨rfl, Below.refl _ _⟩
  have HN : Hid (a = none → n = 0 ∧ c = 0) := hn
  have HZ1 : Hid (IsByte z) := hz1
  have HZ2 : Hid (BytesAt w a n z) := hz2
  clear hn hz1 hz2
  go_enter Ycpm.func11, Ycpm.ntmps11
  go_wp2_with fail
  refine (gsize_calls k x w hk hx).mono ?_
  rintro e w1 ⟨m, rfl, hm, rfl⟩
  go_wp2_with fail
  refine (gbuild_calls a n c z t s m _ HN.out HZ2.out (by omega) ht hs hm).mono ?_
  rintro e w2 ⟨ao, N, cap, st, rfl, hst, hO, hB⟩
  clear hst
  have HO : Hid (OwnB w2 w1.heap.size (.slice ao N cap) (lst n z ++ enc t (gval s m))) := hO
  have HB : Hid (Below w1.heap.size w1 w2) := hB
  obtain ⟨_, _, hsh, hcap, hcap2, _⟩ := hO.shape
  simp only [Value.slice.injEq] at hsh
  have hlen := hO.len
  rw [List.length_append, lst_len] at hlen hsh hcap
  have hE : 2 ≤ (enc t (gval s m)).length := by have := enc_wire t (gval s m); split at this <;> (try split at this) <;> omega
  have hE2 : (enc t (gval s m)).length ≤ 65539 := by have := enc_wire t (gval s m); rw [gval_len] at this; split at this <;> (try split at this) <;> omega
  have hN1 : (n : Int) + 2 ≤ N := by omega
  have hN2 : (N : Int) ≤ 70000 := by omega
  have hNc : N ≤ cap := by omega
  have hcap3 : cap ≤ 9223372036854775807 := by omega
  obtain ⟨q, hq, hq1⟩ : ∃ q : Nat, ct % ((N : Int) - (n : Int)) = (q : Int) ∧ (q : Int) < (N : Int) - (n : Int) := by
    have h1 := Int.emod_nonneg ct (show ((N : Int) - (n : Int)) ≠ 0 by omega)
    have h2 := Int.emod_lt_of_pos ct (show 0 < ((N : Int) - (n : Int)) by omega)
    exact ⟨(ct % ((N : Int) - (n : Int))).toNat, by omega, by omega⟩
  have HH := head_enc (lst n z) [] t (gval s m) (by rw [gval_len]; omega)
  rw [List.append_nil, lst_len] at HH
  have hel := enc_len t (gval s m)
  have HSP : Hid ((span (zl (lst n z ++ enc t (gval s m))) (n + q) n).2.2 = 1) := head_cut HH (by omega)
  have HBY : Hid (AllB (lst n z ++ enc t (gval s m))) := (lst_bytes HZ1.out).app (enc_bytes ht (gval_bytes s m) (by rw [gval_len]; omega))
  have HAT : Hid (BytesAt w2 ao (n + q) (zl (lst n z ++ enc t (gval s m)))) := by
    refine BytesAt.upto (n := N) ?_ (by omega)
    have h := HO.out.bytes
    rw [HO.out.len] at h
    exact h
  have H3 : Hid (∀ c', Calls Ycpm.prog 21 #[.slice ao (n + q) c', .int .i64 (n : Int)] w2 fun e w' => e = .returned (.tuple #[.agg #[.int .u8 0, .slice none 0 0], .int .i64 (n : Int), .int .i64 1]) ∧ Below w2.heap.size w2 w') := by
    intro c'
    have h := rr_bad ao (n + q) c' _ n w2 (by omega) (zl_byte HBY.out) HAT.out (by omega) (by omega) (by rw [HSP.out]; omega)
    rw [HSP.out] at h
    exact h
  clear hO hB hlen hsh hcap hcap2 hE hE2 HH hel HAT HBY HSP
  go_wp2_with fail
  refine (H3.out _).mono ?_
  rintro e w3 ⟨rfl, hb3⟩
  have HB3 : Hid (Below w1.heap.size w1 w3) := HB.out.trans (hb3.mono HB.out.size)
  clear hb3
  go_wp2
  go_ret
  exact ⟨rfl, HB3.out.alloc HB3.out.size _⟩
end Go.Proofs.Ymbrcp.lawS930003GCut
