/-
  Ymbrcq: the walk of 'LawS930003LWire'.
-/
import Derived.Test.YmbrcqLlen
import Derived.Test.YmbrcqSizes
import Derived.Test.YmbrcqReadRec
namespace Go.Proofs.Ymbrcq.lawS930003LWire
open Go.RowKit Go.Proofs.Ymbrcq
set_option linter.unusedVariables false

/-- The bytes as they are laid: at p the four numbers, else nothing. -/
def zz (p : Nat) (x0 x1 x2 x3 : Int) : Nat → Int := fun i => if i = p then x0 else if i = p + 1 then x1 else if i = p + 2 then x2 else if i = p + 3 then x3 else 0

theorem zz_byte {p : Nat} {x0 x1 x2 x3 : Int} (h0 : 0 ≤ x0 ∧ x0 ≤ 255) (h1 : 0 ≤ x1 ∧ x1 ≤ 255) (h2 : 0 ≤ x2 ∧ x2 ≤ 255) (h3 : 0 ≤ x3 ∧ x3 ≤ 255) : IsByte (zz p x0 x1 x2 x3) := by
  intro i
  unfold zz
  repeat' split
  all_goals omega

theorem zz0 {p : Nat} {x0 x1 x2 x3 : Int} : zz p x0 x1 x2 x3 p = x0 := by simp [zz]
theorem zz1 {p : Nat} {x0 x1 x2 x3 : Int} : zz p x0 x1 x2 x3 (p + 1) = x1 := by simp [zz]
theorem zz2 {p : Nat} {x0 x1 x2 x3 : Int} : zz p x0 x1 x2 x3 (p + 2) = x2 := by simp [zz]
theorem zz3 {p : Nat} {x0 x1 x2 x3 : Int} : zz p x0 x1 x2 x3 (p + 3) = x3 := by simp [zz]

theorem cut (z : Nat → Int) (hz : IsByte z) (p s m N : Nat) (hN : s + m ≤ N) (h : span z N p = ((s : Int), ((s + m : Nat) : Int), 0)) (hp : p < N) : span z (s + m - 1) p = ((p : Int), (p : Int), 1) := by
  have hb := span_bounds z N p hz
  rw [h] at hb
  have h2 := hb.2.1 rfl
  dsimp only at h2
  by_cases h1 : p + 1 < N
  · rw [span_at z N p h1] at h
    by_cases hq : s + m - 1 ≤ p + 1
    · by_cases hq2 : p < s + m - 1
      · rw [span_end z _ p (by omega) (by omega)]
      · exact span_out z _ _ (.inr (by omega))
    rw [span_at z _ p (by omega)]
    have b1 := hz (p + 1)
    have b2 := hz (p + 2)
    have b3 := hz (p + 3)
    by_cases c1 : z (p + 1) < 128
    · rw [if_pos c1] at h ⊢
      by_cases c2 : (N : Int) < (p : Int) + 2 + z (p + 1)
      · rw [if_pos c2] at h; simp at h
      · rw [if_neg c2] at h
        simp only [Prod.mk.injEq] at h
        rw [if_pos (by omega)]
    rw [if_neg c1] at h ⊢
    by_cases c3 : z (p + 1) = 129
    · rw [if_pos c3] at h ⊢
      by_cases c4 : N < p + 3
      · rw [if_pos c4] at h; simp at h
      rw [if_neg c4] at h
      by_cases c5 : z (p + 2) < 128
      · rw [if_pos c5] at h; simp at h
      rw [if_neg c5] at h
      by_cases c6 : (N : Int) < (p : Int) + 3 + z (p + 2)
      · rw [if_pos c6] at h; simp at h
      rw [if_neg c6] at h
      simp only [Prod.mk.injEq] at h
      by_cases c7 : s + m - 1 < p + 3
      · rw [if_pos c7]
      · rw [if_neg c7, if_neg c5, if_pos (by omega)]
    rw [if_neg c3] at h ⊢
    by_cases c8 : z (p + 1) = 130
    · rw [if_pos c8] at h ⊢
      by_cases c4 : N < p + 4
      · rw [if_pos c4] at h; simp at h
      rw [if_neg c4] at h
      by_cases c5 : z (p + 2) * 256 + z (p + 3) < 256
      · rw [if_pos c5] at h; simp at h
      rw [if_neg c5] at h
      by_cases c6 : (N : Int) < (p : Int) + 4 + (z (p + 2) * 256 + z (p + 3))
      · rw [if_pos c6] at h; simp at h
      rw [if_neg c6] at h
      simp only [Prod.mk.injEq] at h
      by_cases c7 : s + m - 1 < p + 4
      · rw [if_pos c7]
      · rw [if_neg c7, if_neg c5, if_pos (by omega)]
    · rw [if_neg c8] at h
      simp at h
  · omega

set_option maxHeartbeats 4000000 in
theorem walk (t e o bf af : Int) (w : World) (ht : 0 ≤ t ∧ t ≤ 255) (he : 0 ≤ e ∧ e ≤ 255) (ho : 0 ≤ o ∧ o ≤ 65535) (hbf : 0 ≤ bf ∧ bf ≤ 255) (haf : 0 ≤ af ∧ af ≤ 255) :
    Calls Ycqm.prog 13 #[.int .u8 t, .int .u8 e, .int .u16 o, .int .u8 bf, .int .u8 af] w fun e w' => e = .returned (.bool true) ∧ Below w.heap.size w w' := by
  obtain ⟨p, hp, hp3⟩ : ∃ p : Nat, bf % 4 = (p : Int) ∧ (p : Int) ≤ 3 := ⟨(bf % 4).toNat, by omega, by omega⟩
  obtain ⟨q, hq, hq3⟩ : ∃ q : Nat, af % 4 = (q : Int) ∧ (q : Int) ≤ 3 := ⟨(af % 4).toNat, by omega, by omega⟩
  go_enter Ycqm.func13, Ycqm.ntmps13
  go_wp2_with fail
  refine (llen_calls e o w he ho).mono ?_
  rintro e' w' ⟨m0, rfl, hm0, rfl⟩
  obtain ⟨n, hn, hn1⟩ : ∃ n : Nat, (m0 : Int) % 65536 = (n : Int) ∧ (n : Int) ≤ 65535 := ⟨((m0 : Int) % 65536).toNat, by omega, by omega⟩
  clear hm0
  by_cases h1 : n < 128
  · have hok : rok n = true := by simp [rok]; omega
    have hrs : rsize n = (n : Int) + 2 := by unfold rsize wire; rw [if_neg (by omega), if_pos h1]; omega
    have HSP : Hid (span (zz p t (n : Int) 0 0) (p + 2 + n + q) p = (((p + 2 : Nat) : Int), ((p + 2 + n : Nat) : Int), 0)) := by
      show _ = _
      rw [span_at _ _ _ (by omega), zz1, zz2, zz3]
      rw [if_pos (by omega), if_neg (by omega)]
      simp only [Prod.mk.injEq, and_true]
      omega
    have HZ : Hid (IsByte (zz p t (n : Int) 0 0)) := zz_byte ht (by omega) (by omega) (by omega)
    have HCUT : Hid (span (zz p t (n : Int) 0 0) (p + 1 + n) p = ((p : Int), (p : Int), 1)) := by
      have := cut _ HZ.out p (p + 2) n _ (by omega) HSP.out (by omega)
      rwa [show p + 2 + n - 1 = p + 1 + n by omega] at this
    go_wp2_with (at_make; refine wpList_mkBx _ _ rfl rfl _ _ rfl .i64 .i64 _ _ (p + 2 + n + q) (p + 2 + n + q) rfl rfl (by omega) (by omega) (Nat.le_refl _) (by omega) ?_; intro w1 hrow hb1 hs1; have hbase := hrow.lt; have d0 : w1.cell? ⟨w'.heap.size, p, none⟩ = some (.int .u8 0) := hrow.cell (by omega); have f0 : w1.frozen? ⟨w'.heap.size, p, none⟩ = false := hrow.frozen _; have d1 : w1.cell? ⟨w'.heap.size, p + 1, none⟩ = some (.int .u8 0) := hrow.cell (by omega); have f1 : w1.frozen? ⟨w'.heap.size, p + 1, none⟩ = false := hrow.frozen _)
    have HR : Hid (World.rowIs ((w1.setCell ⟨w'.heap.size, p, none⟩ (.int .u8 t)).setCell ⟨w'.heap.size, p + 1, none⟩ (.int .u8 (n : Int))) w'.heap.size 5 (p + 2 + n + q) (fun i => .int .u8 (zz p t (n : Int) 0 0 i))) := by
      refine ((hrow.set p _).set (p + 1) _).congr fun i _ => ?_
      unfold zz
      repeat' split
      all_goals first | rfl | omega
    have HB : Hid (Below w'.heap.size w' ((w1.setCell ⟨w'.heap.size, p, none⟩ (.int .u8 t)).setCell ⟨w'.heap.size, p + 1, none⟩ (.int .u8 (n : Int)))) := ((hb1.setCell (Nat.le_refl _) _).setCell (Nat.le_refl _) _)
    clear hrow hb1 d0 f0 d1 f1
    generalize ((w1.setCell ⟨w'.heap.size, p, none⟩ (.int .u8 t)).setCell ⟨w'.heap.size, p + 1, none⟩ (.int .u8 (n : Int))) = W at *
    refine (rr_good _ _ _ _ p (p + 2) n W (Nat.le_refl _) (by omega) HZ.out (rowIs_bytes0 HR.out _ (Nat.le_refl _)) HSP.out (by omega) (by omega) (by omega)).mono ?_
    rintro e2 w2 ⟨g, rfl, hg, hrow2, hb2⟩
    rw [zz0]
    have HB2 : Hid (Below w'.heap.size w' w2) := HB.out.trans (hb2.mono HB.out.size)
    have HR2 : Hid (w2.rowIs w'.heap.size 5 (p + 2 + n + q) (fun i => .int .u8 (zz p t (n : Int) 0 0 i))) := rowIs_below HR.out hb2 HR.out.lt
    have hlt2 : w'.heap.size < w2.heap.size := HR2.out.lt
    clear hb2 hrow2 hg HB HR
    go_wp2_with fail
    refine (rs_calls t _ n n _ (by omega)).mono ?_
    rintro e3 w3 ⟨rfl, hb3⟩
    have HB3 : Hid (Below w'.heap.size w' w3) := (HB2.out.alloc (Nat.le_of_lt hlt2) _).trans (hb3.mono (by simp; omega))
    have HR3 : Hid (w3.rowIs w'.heap.size 5 (p + 2 + n + q) (fun i => .int .u8 (zz p t (n : Int) 0 0 i))) := rowIs_below (HR2.out.alloc _) hb3 (by simp; omega)
    have hlt3 : w'.heap.size < w3.heap.size := HR3.out.lt
    clear hb3 HB2 HR2
    have HBAD : Hid (Calls Ycqm.prog 25 #[.slice (some ⟨w'.heap.size, 0, none⟩) (p + 1 + n) (p + 2 + n + q), .int .i64 (p : Int)] w3 fun e w4 => e = .returned (.tuple #[.agg #[.int .u8 0, .slice none 0 0], .int .i64 (p : Int), .int .i64 1]) ∧ Below w3.heap.size w3 w4) := by
      have := rr_bad (some ⟨w'.heap.size, 0, none⟩) (p + 1 + n) (p + 2 + n + q) (zz p t (n : Int) 0 0) p w3 (by omega) HZ.out (rowIs_bytes0 HR3.out _ (by omega)) (by omega) (by omega) (by rw [HCUT.out]; simp)
      rw [HCUT.out] at this
      exact this
    go_wp2_with fail
    refine HBAD.out.mono ?_
    rintro e4 w4 ⟨rfl, hb4⟩
    have HB4 : Hid (Below w'.heap.size w' w4) := HB3.out.trans (hb4.mono (Nat.le_of_lt hlt3))
    clear hb4 HB3 HR3
    go_wp2
    go_ret
    exact ⟨rfl, HB4.out.alloc HB4.out.size _⟩
  by_cases h2 : n < 256
  · have hok : rok n = true := by simp [rok]; omega
    have hrs : rsize n = (n : Int) + 3 := by unfold rsize wire; rw [if_neg (by omega), if_neg h1, if_pos h2]; omega
    have HSP : Hid (span (zz p t 129 (n : Int) 0) (p + 3 + n + q) p = (((p + 3 : Nat) : Int), ((p + 3 + n : Nat) : Int), 0)) := by
      show _ = _
      rw [span_at _ _ _ (by omega), zz1, zz2, zz3]
      rw [if_neg (by omega), if_pos rfl, if_neg (by omega), if_neg (by omega), if_neg (by omega)]
      simp only [Prod.mk.injEq, and_true]
      omega
    have HZ : Hid (IsByte (zz p t 129 (n : Int) 0)) := zz_byte ht (by omega) (by omega) (by omega)
    have HCUT : Hid (span (zz p t 129 (n : Int) 0) (p + 2 + n) p = ((p : Int), (p : Int), 1)) := by
      have := cut _ HZ.out p (p + 3) n _ (by omega) HSP.out (by omega)
      rwa [show p + 3 + n - 1 = p + 2 + n by omega] at this
    go_wp2_with (at_make; refine wpList_mkBx _ _ rfl rfl _ _ rfl .i64 .i64 _ _ (p + 3 + n + q) (p + 3 + n + q) rfl rfl (by omega) (by omega) (Nat.le_refl _) (by omega) ?_; intro w1 hrow hb1 hs1; have hbase := hrow.lt; have d0 : w1.cell? ⟨w'.heap.size, p, none⟩ = some (.int .u8 0) := hrow.cell (by omega); have f0 : w1.frozen? ⟨w'.heap.size, p, none⟩ = false := hrow.frozen _; have d1 : w1.cell? ⟨w'.heap.size, p + 1, none⟩ = some (.int .u8 0) := hrow.cell (by omega); have f1 : w1.frozen? ⟨w'.heap.size, p + 1, none⟩ = false := hrow.frozen _; have d2 : w1.cell? ⟨w'.heap.size, p + 2, none⟩ = some (.int .u8 0) := hrow.cell (by omega); have f2 : w1.frozen? ⟨w'.heap.size, p + 2, none⟩ = false := hrow.frozen _)
    have HR : Hid (World.rowIs (((w1.setCell ⟨w'.heap.size, p, none⟩ (.int .u8 t)).setCell ⟨w'.heap.size, p + 1, none⟩ (.int .u8 129)).setCell ⟨w'.heap.size, p + 2, none⟩ (.int .u8 (n : Int))) w'.heap.size 5 (p + 3 + n + q) (fun i => .int .u8 (zz p t 129 (n : Int) 0 i))) := by
      refine (((hrow.set p _).set (p + 1) _).set (p + 2) _).congr fun i _ => ?_
      unfold zz
      repeat' split
      all_goals first | rfl | omega
    have HB : Hid (Below w'.heap.size w' (((w1.setCell ⟨w'.heap.size, p, none⟩ (.int .u8 t)).setCell ⟨w'.heap.size, p + 1, none⟩ (.int .u8 129)).setCell ⟨w'.heap.size, p + 2, none⟩ (.int .u8 (n : Int)))) := (((hb1.setCell (Nat.le_refl _) _).setCell (Nat.le_refl _) _).setCell (Nat.le_refl _) _)
    clear hrow hb1 d0 f0 d1 f1 d2 f2
    generalize (((w1.setCell ⟨w'.heap.size, p, none⟩ (.int .u8 t)).setCell ⟨w'.heap.size, p + 1, none⟩ (.int .u8 129)).setCell ⟨w'.heap.size, p + 2, none⟩ (.int .u8 (n : Int))) = W at *
    refine (rr_good _ _ _ _ p (p + 3) n W (Nat.le_refl _) (by omega) HZ.out (rowIs_bytes0 HR.out _ (Nat.le_refl _)) HSP.out (by omega) (by omega) (by omega)).mono ?_
    rintro e2 w2 ⟨g, rfl, hg, hrow2, hb2⟩
    rw [zz0]
    have HB2 : Hid (Below w'.heap.size w' w2) := HB.out.trans (hb2.mono HB.out.size)
    have HR2 : Hid (w2.rowIs w'.heap.size 5 (p + 3 + n + q) (fun i => .int .u8 (zz p t 129 (n : Int) 0 i))) := rowIs_below HR.out hb2 HR.out.lt
    have hlt2 : w'.heap.size < w2.heap.size := HR2.out.lt
    clear hb2 hrow2 hg HB HR
    go_wp2_with fail
    refine (rs_calls t _ n n _ (by omega)).mono ?_
    rintro e3 w3 ⟨rfl, hb3⟩
    have HB3 : Hid (Below w'.heap.size w' w3) := (HB2.out.alloc (Nat.le_of_lt hlt2) _).trans (hb3.mono (by simp; omega))
    have HR3 : Hid (w3.rowIs w'.heap.size 5 (p + 3 + n + q) (fun i => .int .u8 (zz p t 129 (n : Int) 0 i))) := rowIs_below (HR2.out.alloc _) hb3 (by simp; omega)
    have hlt3 : w'.heap.size < w3.heap.size := HR3.out.lt
    clear hb3 HB2 HR2
    have HBAD : Hid (Calls Ycqm.prog 25 #[.slice (some ⟨w'.heap.size, 0, none⟩) (p + 2 + n) (p + 3 + n + q), .int .i64 (p : Int)] w3 fun e w4 => e = .returned (.tuple #[.agg #[.int .u8 0, .slice none 0 0], .int .i64 (p : Int), .int .i64 1]) ∧ Below w3.heap.size w3 w4) := by
      have := rr_bad (some ⟨w'.heap.size, 0, none⟩) (p + 2 + n) (p + 3 + n + q) (zz p t 129 (n : Int) 0) p w3 (by omega) HZ.out (rowIs_bytes0 HR3.out _ (by omega)) (by omega) (by omega) (by rw [HCUT.out]; simp)
      rw [HCUT.out] at this
      exact this
    go_wp2_with fail
    refine HBAD.out.mono ?_
    rintro e4 w4 ⟨rfl, hb4⟩
    have HB4 : Hid (Below w'.heap.size w' w4) := HB3.out.trans (hb4.mono (Nat.le_of_lt hlt3))
    clear hb4 HB3 HR3
    go_wp2
    go_ret
    exact ⟨rfl, HB4.out.alloc HB4.out.size _⟩
  · have hok : rok n = true := by simp [rok]; omega
    have hrs : rsize n = (n : Int) + 4 := by unfold rsize wire; rw [if_neg (by omega), if_neg h1, if_neg h2]; omega
    have HSP : Hid (span (zz p t 130 ((n : Int) / 256) ((n : Int) % 256)) (p + 4 + n + q) p = (((p + 4 : Nat) : Int), ((p + 4 + n : Nat) : Int), 0)) := by
      show _ = _
      rw [span_at _ _ _ (by omega), zz1, zz2, zz3]
      rw [if_neg (by omega), if_neg (by omega), if_pos rfl, if_neg (by omega), if_neg (by omega), if_neg (by omega)]
      simp only [Prod.mk.injEq, and_true]
      omega
    have HZ : Hid (IsByte (zz p t 130 ((n : Int) / 256) ((n : Int) % 256))) := zz_byte ht (by omega) (by omega) (by omega)
    have HCUT : Hid (span (zz p t 130 ((n : Int) / 256) ((n : Int) % 256)) (p + 3 + n) p = ((p : Int), (p : Int), 1)) := by
      have := cut _ HZ.out p (p + 4) n _ (by omega) HSP.out (by omega)
      rwa [show p + 4 + n - 1 = p + 3 + n by omega] at this
    go_wp2_with (at_make; refine wpList_mkBx _ _ rfl rfl _ _ rfl .i64 .i64 _ _ (p + 4 + n + q) (p + 4 + n + q) rfl rfl (by omega) (by omega) (Nat.le_refl _) (by omega) ?_; intro w1 hrow hb1 hs1; have hbase := hrow.lt; have d0 : w1.cell? ⟨w'.heap.size, p, none⟩ = some (.int .u8 0) := hrow.cell (by omega); have f0 : w1.frozen? ⟨w'.heap.size, p, none⟩ = false := hrow.frozen _; have d1 : w1.cell? ⟨w'.heap.size, p + 1, none⟩ = some (.int .u8 0) := hrow.cell (by omega); have f1 : w1.frozen? ⟨w'.heap.size, p + 1, none⟩ = false := hrow.frozen _; have d2 : w1.cell? ⟨w'.heap.size, p + 2, none⟩ = some (.int .u8 0) := hrow.cell (by omega); have f2 : w1.frozen? ⟨w'.heap.size, p + 2, none⟩ = false := hrow.frozen _; have d3 : w1.cell? ⟨w'.heap.size, p + 3, none⟩ = some (.int .u8 0) := hrow.cell (by omega); have f3 : w1.frozen? ⟨w'.heap.size, p + 3, none⟩ = false := hrow.frozen _)
    have HR : Hid (World.rowIs ((((w1.setCell ⟨w'.heap.size, p, none⟩ (.int .u8 t)).setCell ⟨w'.heap.size, p + 1, none⟩ (.int .u8 130)).setCell ⟨w'.heap.size, p + 2, none⟩ (.int .u8 ((n : Int) / 256))).setCell ⟨w'.heap.size, p + 3, none⟩ (.int .u8 ((n : Int) % 256))) w'.heap.size 5 (p + 4 + n + q) (fun i => .int .u8 (zz p t 130 ((n : Int) / 256) ((n : Int) % 256) i))) := by
      refine ((((hrow.set p _).set (p + 1) _).set (p + 2) _).set (p + 3) _).congr fun i _ => ?_
      unfold zz
      repeat' split
      all_goals first | rfl | omega
    have HB : Hid (Below w'.heap.size w' ((((w1.setCell ⟨w'.heap.size, p, none⟩ (.int .u8 t)).setCell ⟨w'.heap.size, p + 1, none⟩ (.int .u8 130)).setCell ⟨w'.heap.size, p + 2, none⟩ (.int .u8 ((n : Int) / 256))).setCell ⟨w'.heap.size, p + 3, none⟩ (.int .u8 ((n : Int) % 256)))) := ((((hb1.setCell (Nat.le_refl _) _).setCell (Nat.le_refl _) _).setCell (Nat.le_refl _) _).setCell (Nat.le_refl _) _)
    clear hrow hb1 d0 f0 d1 f1 d2 f2 d3 f3
    generalize ((((w1.setCell ⟨w'.heap.size, p, none⟩ (.int .u8 t)).setCell ⟨w'.heap.size, p + 1, none⟩ (.int .u8 130)).setCell ⟨w'.heap.size, p + 2, none⟩ (.int .u8 ((n : Int) / 256))).setCell ⟨w'.heap.size, p + 3, none⟩ (.int .u8 ((n : Int) % 256))) = W at *
    refine (rr_good _ _ _ _ p (p + 4) n W (Nat.le_refl _) (by omega) HZ.out (rowIs_bytes0 HR.out _ (Nat.le_refl _)) HSP.out (by omega) (by omega) (by omega)).mono ?_
    rintro e2 w2 ⟨g, rfl, hg, hrow2, hb2⟩
    rw [zz0]
    have HB2 : Hid (Below w'.heap.size w' w2) := HB.out.trans (hb2.mono HB.out.size)
    have HR2 : Hid (w2.rowIs w'.heap.size 5 (p + 4 + n + q) (fun i => .int .u8 (zz p t 130 ((n : Int) / 256) ((n : Int) % 256) i))) := rowIs_below HR.out hb2 HR.out.lt
    have hlt2 : w'.heap.size < w2.heap.size := HR2.out.lt
    clear hb2 hrow2 hg HB HR
    go_wp2_with fail
    refine (rs_calls t _ n n _ (by omega)).mono ?_
    rintro e3 w3 ⟨rfl, hb3⟩
    have HB3 : Hid (Below w'.heap.size w' w3) := (HB2.out.alloc (Nat.le_of_lt hlt2) _).trans (hb3.mono (by simp; omega))
    have HR3 : Hid (w3.rowIs w'.heap.size 5 (p + 4 + n + q) (fun i => .int .u8 (zz p t 130 ((n : Int) / 256) ((n : Int) % 256) i))) := rowIs_below (HR2.out.alloc _) hb3 (by simp; omega)
    have hlt3 : w'.heap.size < w3.heap.size := HR3.out.lt
    clear hb3 HB2 HR2
    have HBAD : Hid (Calls Ycqm.prog 25 #[.slice (some ⟨w'.heap.size, 0, none⟩) (p + 3 + n) (p + 4 + n + q), .int .i64 (p : Int)] w3 fun e w4 => e = .returned (.tuple #[.agg #[.int .u8 0, .slice none 0 0], .int .i64 (p : Int), .int .i64 1]) ∧ Below w3.heap.size w3 w4) := by
      have := rr_bad (some ⟨w'.heap.size, 0, none⟩) (p + 3 + n) (p + 4 + n + q) (zz p t 130 ((n : Int) / 256) ((n : Int) % 256)) p w3 (by omega) HZ.out (rowIs_bytes0 HR3.out _ (by omega)) (by omega) (by omega) (by rw [HCUT.out]; simp)
      rw [HCUT.out] at this
      exact this
    go_wp2_with fail
    refine HBAD.out.mono ?_
    rintro e4 w4 ⟨rfl, hb4⟩
    have HB4 : Hid (Below w'.heap.size w' w4) := HB3.out.trans (hb4.mono (Nat.le_of_lt hlt3))
    clear hb4 HB3 HR3
    go_wp2
    go_ret
    exact ⟨rfl, HB4.out.alloc HB4.out.size _⟩
end Go.Proofs.Ymbrcq.lawS930003LWire
