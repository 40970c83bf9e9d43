/-
  Ymbrcp: the walk of 'LawS930003GExact'.
-/
import Derived.Test.YmbrcpGmodel
import Derived.Test.YmbrcpReadRec
namespace Go.Proofs.Ymbrcp.lawS930003GExact
open Go.RowKit Go.Proofs.Ymbrcp
set_option linter.unusedVariables false

set_option maxRecDepth 100000 in
set_option maxHeartbeats 4000000 in
theorem walk (a : Option Addr) (n c : Nat) (z : Nat → Int) (pos : Int) (w : World) (hl : n ≤ c) (hc : c ≤ 9223372036854775807) (_hn : a = none → n = 0 ∧ c = 0) (hz : IsByte z ∧ BytesAt w a n z) (hp : -9223372036854775808 ≤ pos ∧ pos ≤ 9223372036854775807) :
    Calls Ycpm.prog 9 #[.slice a n c, .int .i64 pos] w fun e w' => e = .returned (.bool true) ∧ Below w.heap.size w w' := by
  obtain ⟨hz1, hz2⟩ := hz
  have hnil := eqlB_nil
  have H1 : Hid (Calls Ycpm.prog 20 #[.slice a n c, .int .i64 pos] w fun e w' => e = .returned (tri (gm (span z n pos))) ∧ w' = w) := gmodel_calls a n c z pos w hl hc hz1 hz2 hp.1 hp.2
  obtain ⟨⟨B1, B2⟩, B3, B4⟩ := span_bounds z n pos hz1
  by_cases hcode : (span z n pos).2.2 = 0
  · obtain ⟨g0, g1, g2, g3, g4, g5⟩ := B3 hcode
    obtain ⟨p, rfl⟩ := Int.eq_ofNat_of_zero_le g0
    obtain ⟨s, hs⟩ : ∃ s : Nat, (span z n p).1 = (s : Int) := ⟨(span z n p).1.toNat, by omega⟩
    obtain ⟨m, hm⟩ : ∃ m : Nat, (span z n p).2.1 = ((s + m : Nat) : Int) := ⟨((span z n p).2.1 - s).toNat, by omega⟩
    have hsp : span z n p = ((s : Int), ((s + m : Nat) : Int), 0) := by rw [← hs, ← hm, ← hcode]
    have hgm : gm (span z n p) = ((s : Int), (m : Int), 0) := by
      rw [hsp]
      simp [gm]
      omega
    have H2 : Hid (Calls Ycpm.prog 21 #[.slice a n c, .int .i64 (p : Int)] w fun e w' => ∃ g, e = .returned (.tuple #[.agg #[.int .u8 (z p), .slice (some ⟨g, 0, none⟩) m m], .int .i64 ((s + m : Nat) : Int), .int .i64 0]) ∧ w.heap.size ≤ g ∧ w'.rowIs g 5 m (fun i => .int .u8 (z (s + i))) ∧ Below w.heap.size w w') :=
      rr_good a n c z p s m w hl hc hz1 hz2 hsp (by omega) (by omega) (by omega)
    rw [hgm] at H1
    obtain ⟨b, off, rfl, hcell⟩ := hz2 (by omega)
    have HC : Hid (∀ i, i < n → w.cell? ⟨b, off + i, none⟩ = some (.int .u8 (z i))) := hcell
    have hpn : (p : Int) < (n : Int) := by omega
    have hsm : (s : Int) + m ≤ n := by omega
    clear hz1 hz2 _hn hp B1 B2 B3 B4 hcode g0 g1 g2 g3 g4 g5 hs hm hsp hgm hcell
    go_enter Ycpm.func9, Ycpm.ntmps9
    go_wp2_with fail
    refine H1.out.mono ?_
    rintro e w2 ⟨rfl, rfl⟩
    unfold tri
    dsimp only
    go_wp2_with fail
    refine H2.out.mono ?_
    rintro e w3 ⟨g, rfl, hg, hrow, hb⟩
    have HR : Hid (w3.rowIs g 5 m (fun i => .int .u8 (z (s + i)))) := hrow
    have hlt3 : g < w3.heap.size := hrow.lt
    have hbw : b < w2.heap.size := World.block_lt_of_cell? _ _ (HC.out p (by omega))
    have hsz := hb.size
    have hbw3 : b < w3.heap.size := by omega
    have c0 : w3.cell? ⟨b, off + p, none⟩ = some (.int .u8 (z p)) := (hb.cell (p := ⟨b, off + p, none⟩) hbw).trans (HC.out p (by omega))
    have HB : Hid (Below w2.heap.size w2 w3) := hb
    clear hrow hb
    go_wp2
    go_quiet (fail)
    go_wp2
    go_loopw [11] (fun i wr => ∃ k d : Nat, k ≤ m ∧ i = .int .i64 k ∧ wr = (w3.alloc (.cells #[.int .u8 (z p), .slice (some ⟨g, 0, none⟩) m m] 27)).drewN d) (fun i _ => m - (intOf i).toNat)
    case atStart => exact ⟨0, _, Nat.zero_le _, rfl, rfl⟩
    case round =>
      obtain ⟨k, d, hk, rfl, rfl⟩ := hrel
      by_cases hlt : k < m
      · have x1 : w3.cell? ⟨g, k, none⟩ = some (.int .u8 (z (s + k))) := HR.out.cell hlt
        have x2 : w3.cell? ⟨b, off + (s + k), none⟩ = some (.int .u8 (z (s + k))) := (HB.out.cell (p := ⟨b, off + (s + k), none⟩) hbw).trans (HC.out (s + k) (by omega))
        have l1 : (k : Int) < (m : Int) := by omega
        have l2 : (s : Int) + (k : Int) < (n : Int) := by omega
        go_wp2
        go_quiet (fail)
        go_wp2
        go_roundw
        case rel => exact ⟨k + 1, _, by omega, by go_num, rfl⟩
        case measure => simp [intOf] <;> omega
      · go_wp2
        go_ret
        exact ⟨rfl, (HB.out.alloc hsz _).trans ((below_drewN _ d).mono (by simp; omega))⟩
  · have hgm : gm (span z n pos) = (0, 0, (span z n pos).2.2) := by simp [gm, hcode]
    have H2 : Hid (Calls Ycpm.prog 21 #[.slice a n c, .int .i64 pos] w fun e w' => e = .returned (.tuple #[.agg #[.int .u8 0, .slice none 0 0], .int .i64 pos, .int .i64 (span z n pos).2.2]) ∧ Below w.heap.size w w') :=
      rr_bad a n c z pos w (by omega) hz1 hz2 hp.1 hp.2 hcode
    rw [hgm] at H1
    clear hgm hz1 hz2 _hn B3 B4
    generalize (span z n pos).2.2 = s3 at *
    have hcb : (s3 != 0) = true := by simpa using hcode
    clear hcode
    go_enter Ycpm.func9, Ycpm.ntmps9
    go_wp2_with fail
    refine H1.out.mono ?_
    rintro e w2 ⟨rfl, rfl⟩
    unfold tri
    dsimp only
    go_wp2_with fail
    refine H2.out.mono ?_
    rintro e w3 ⟨rfl, hb⟩
    go_wp2
    go_ret
    exact ⟨rfl, hb.alloc hb.size _⟩
end Go.Proofs.Ymbrcp.lawS930003GExact
