/-
  Ymbrcq: 'ReadRecord': the record at a position, its value in a new row.
-/
import Derived.Test.YmbrcqSpan
import Derived.Test.YmbrcqMem
namespace Go.Proofs.Ymbrcq
open Go.RowKit
set_option linter.unusedVariables false

theorem bcells {B : Nat} {W w1 : World} (hb : Below B W w1) : (∀ b o, b < B → w1.cell? ⟨b, o, none⟩ = W.cell? ⟨b, o, none⟩) ∧ (∀ b o, b < B → w1.frozen? ⟨b, o, none⟩ = W.frozen? ⟨b, o, none⟩) :=
  ⟨fun b o h => hb.cell (p := ⟨b, o, none⟩) h, fun b o h => hb.frozen (p := ⟨b, o, none⟩) h⟩

theorem below_alloc_drewN (w : World) (o : Obj) (k : Nat) : Below w.heap.size w ((w.alloc o).drewN k) := ((Below.refl _ _).alloc (Nat.le_refl _) o).trans ((below_drewN _ k).mono (by simp))

theorem tup3 {v : Value} {a b c d : Int} (h : a = b) (h' : c = d) : Ending.returned (.tuple #[v, .int .i64 a, .int .i64 c]) = .returned (.tuple #[v, .int .i64 b, .int .i64 d]) := by rw [h, h']

set_option maxHeartbeats 1000000 in
theorem rr_bad (a : Option Addr) (n c : Nat) (z : Nat → Int) (pos : Int) (w : World) (hn : n ≤ 9223372036854775807) (hz : IsByte z) (ha : BytesAt w a n z) (hp0 : -9223372036854775808 ≤ pos) (hp1 : pos ≤ 9223372036854775807) (hbad : (span z n pos).2.2 ≠ 0) :
    Calls Ycqm.prog 25 #[.slice a n c, .int .i64 pos] w fun e w' => e = .returned (.tuple #[.agg #[.int .u8 0, .slice none 0 0], .int .i64 pos, .int .i64 (span z n pos).2.2]) ∧ Below w.heap.size w w' := by
  have HS : Hid (∀ o, Calls Ycqm.prog 28 #[.slice a n c, .int .i64 pos] (w.alloc o) fun e w' => e = .returned (tri (span z n pos)) ∧ ∃ k, w' = (w.alloc o).drewN k) := fun o => span_calls a n c z pos _ hn hz (ha.below ((Below.refl _ _).alloc (Nat.le_refl _) _)) hp0 hp1
  obtain ⟨⟨B1, B2⟩, _, B3⟩ := span_bounds z n pos hz
  have B4 := B3 hbad
  clear B3 ha hz
  generalize span z n pos = s at *
  obtain ⟨s1, s2, s3⟩ := s
  dsimp only at *
  have hb : (s3 != 0) = true := by simpa using hbad
  clear hbad B4
  go_enter Ycqm.func25, Ycqm.ntmps25
  go_wp2_with fail
  refine (HS.out _).mono ?_
  rintro e w' ⟨rfl, k, rfl⟩
  unfold tri
  dsimp only
  go_wp2
  exact bodyPost_ret (v := .tuple #[.agg #[.int .u8 0, .slice none 0 0], .int .i64 pos, .int .i64 s3]) (by simp [results, Ycqm.results25, go_sem]) rfl ⟨rfl, ((below_alloc_drewN w _ k).setCell (Nat.le_refl _) _).setCell (Nat.le_refl _) _⟩

set_option maxHeartbeats 1000000 in
theorem rr_good (a : Option Addr) (n c : Nat) (z : Nat → Int) (p s m : Nat) (w : World) (hc : n ≤ c) (hn : c ≤ 9223372036854775807) (hz : IsByte z) (ha : BytesAt w a n z) (hsp : span z n p = ((s : Int), ((s + m : Nat) : Int), 0)) (hp : p < n) (hsm : s + m ≤ n) (hm : m ≤ 65535) :
    Calls Ycqm.prog 25 #[.slice a n c, .int .i64 (p : Int)] w fun e w' => ∃ g, e = .returned (.tuple #[.agg #[.int .u8 (z p), .slice (some ⟨g, 0, none⟩) m m], .int .i64 ((s + m : Nat) : Int), .int .i64 0]) ∧ w.heap.size ≤ g ∧ w'.rowIs g 5 m (fun i => .int .u8 (z (s + i))) ∧ Below w.heap.size w w' := by
  have HS : Hid (∀ o, Calls Ycqm.prog 28 #[.slice a n c, .int .i64 (p : Int)] (w.alloc o) fun e w' => e = .returned (tri (span z n p)) ∧ ∃ k, w' = (w.alloc o).drewN k) := fun o => span_calls a n c z p _ (by omega) hz (ha.below ((Below.refl _ _).alloc (Nat.le_refl _) _)) (by omega) (by omega)
  rw [hsp] at HS
  clear hsp hz
  have HA : Hid (BytesAt w a n z) := ha
  obtain ⟨b, off, rfl, hcell⟩ := ha (by omega)
  have hbw : b < w.heap.size := World.block_lt_of_cell? _ _ (hcell p hp)
  have c0 : w.cell? ⟨b, off + p, none⟩ = some (.int .u8 (z p)) := hcell p hp
  clear hcell
  go_enter Ycqm.func25, Ycqm.ntmps25
  go_wp2_with fail
  refine (HS.out _).mono ?_
  rintro e w' ⟨rfl, k, rfl⟩
  unfold tri
  dsimp only
  have HB : Hid (∀ o w1 ad, Below (w.heap.size + 1) ((w.alloc o).drewN k) w1 → (¬ c = s → ad = some ⟨b, off + s, none⟩) → BytesAt w1 ad m (fun i => z (s + i))) := by
    intro o w1 ad hb hs hm0
    rw [hs (by omega)]
    have hb2 : Below w.heap.size w w1 := ((Below.refl _ _).alloc (Nat.le_refl _) o).trans (((below_drewN _ k).mono (by simp)).trans (hb.mono (by omega)))
    obtain ⟨b', off', e, hcl⟩ := (HA.out.below hb2) (by omega)
    simp only [Option.some.injEq, Addr.mk.injEq, and_true] at e
    obtain ⟨rfl, rfl⟩ := e
    exact ⟨b, off + s, rfl, fun i hi => by rw [Nat.add_assoc]; exact hcl (s + i) (by omega)⟩
  have HC0 : Hid (∀ o w1, Below (w.heap.size + 1) ((w.alloc o).drewN k) w1 → w1.cell? ⟨b, off + p, none⟩ = some (.int .u8 (z p))) := by
    intro o w1 hb
    have hb2 : Below w.heap.size w w1 := ((Below.refl _ _).alloc (Nat.le_refl _) o).trans (((below_drewN _ k).mono (by simp)).trans (hb.mono (by omega)))
    exact (hb2.cell (p := ⟨b, off + p, none⟩) hbw).trans c0
  have HR : Hid (∀ w1 w2, Below (w.heap.size + 1) ((w.alloc (.cells #[.int .u8 0, .slice none 0 0] 25)).drewN k) w1 → w1.grownBy w2 (some (w.heap.size + 1)) → w1.heap.size = w.heap.size + 1 + 1 →
      w2.cell? ⟨b, off + p, none⟩ = some (.int .u8 (z p)) ∧ w2.cell? ⟨w.heap.size, 0, none⟩ = some (.int .u8 0) ∧ w2.cell? ⟨w.heap.size, 1, none⟩ = some (.slice none 0 0) ∧ w2.frozen? ⟨w.heap.size, 0, none⟩ = false ∧ w2.frozen? ⟨w.heap.size, 1, none⟩ = false ∧ Below w.heap.size w w2) := by
    intro w1 w2 hb hg hs
    have hb2 : Below (w.heap.size + 1) ((w.alloc (.cells #[.int .u8 0, .slice none 0 0] 25)).drewN k) w2 := hb.grown hg (by omega) (fun q hq => by cases hq; exact Nat.le_refl _)
    refine ⟨HC0.out _ _ hb2, ?_, ?_, ?_, ?_, ((Below.refl _ _).alloc (Nat.le_refl _) _).trans (((below_drewN _ k).mono (by simp)).trans (hb2.mono (by omega)))⟩
    · rw [hb2.cell (p := ⟨w.heap.size, 0, none⟩) (by simp)]; simp
    · rw [hb2.cell (p := ⟨w.heap.size, 1, none⟩) (by simp)]; simp
    · rw [hb2.frozen (p := ⟨w.heap.size, 0, none⟩) (by simp)]; simp
    · rw [hb2.frozen (p := ⟨w.heap.size, 1, none⟩) (by simp)]; simp
  clear c0
  have fin : ∀ (W : World) (hr : W.rowIs (w.heap.size + 1) 5 m (fun i => .int .u8 (z (s + i)))) (hb : Below w.heap.size w W) (u0 u1 : Value), ((W.setCell ⟨w.heap.size, 0, none⟩ u0).setCell ⟨w.heap.size, 1, none⟩ u1).rowIs (w.heap.size + 1) 5 m (fun i => .int .u8 (z (s + i))) ∧ Below w.heap.size w ((W.setCell ⟨w.heap.size, 0, none⟩ u0).setCell ⟨w.heap.size, 1, none⟩ u1) := by
    intro W hr hb u0 u1
    exact ⟨(hr.setOther (by simp) _).setOther (by simp) _, (hb.setCell (Nat.le_refl _) _).setCell (Nat.le_refl _) _⟩
  have FIN := (show Hid _ from fin)
  clear fin
  by_cases hcs : c = s
  · go_wp2_with (first
      | (at_make; refine wpList_mkBx _ (w.heap.size + 1) (by simp [World.drewN]) rfl _ _ rfl .i64 .i64 _ _ m m rfl rfl (by omega) (by omega) (Nat.le_refl _) (by omega) ?_; intro w1 hrow hb1 hs1)
      | (with_reducible refine wpList_here ?_; refine wpList_copyB _ rfl (.tmp 27) (.tmp 31) rfl (w.heap.size + 1) m m _ _ _ rfl rfl (by omega) _ (fun i => z (s + i)) hrow (HB.out _ _ _ hb1 (fun h => absurd hcs h)) ?_; intro w2 hrow2 hgr hs2; obtain ⟨c2, r0, r1, x0, x1, hbw2⟩ := HR.out _ _ hb1 hgr hs1))
    have hfin := FIN.out w2 hrow2 hbw2 (.int .u8 (z p)) (.slice (some ⟨w.heap.size + 1, 0, none⟩) m m)
    exact bodyPost_ret (v := .tuple #[.agg #[.int .u8 (z p), .slice (some ⟨w.heap.size + 1, 0, none⟩) m m], .int .i64 ((s : Int) + (m : Int)),   .int .i64 0]) (by simp [results, Ycqm.results25, go_sem, r0, r1]) rfl ⟨w.heap.size + 1, tup3 (by simp) rfl, by omega, hfin.1, hfin.2⟩
  · go_wp2_with (first
      | (at_make; refine wpList_mkBx _ (w.heap.size + 1) (by simp [World.drewN]) rfl _ _ rfl .i64 .i64 _ _ m m rfl rfl (by omega) (by omega) (Nat.le_refl _) (by omega) ?_; intro w1 hrow hb1 hs1)
      | (with_reducible refine wpList_here ?_; refine wpList_copyB _ rfl (.tmp 27) (.tmp 31) rfl (w.heap.size + 1) m m _ _ _ rfl rfl (by omega) _ (fun i => z (s + i)) hrow (HB.out _ _ _ hb1 (fun h => rfl)) ?_; intro w2 hrow2 hgr hs2; obtain ⟨c2, r0, r1, x0, x1, hbw2⟩ := HR.out _ _ hb1 hgr hs1))
    have hfin := FIN.out w2 hrow2 hbw2 (.int .u8 (z p)) (.slice (some ⟨w.heap.size + 1, 0, none⟩) m m)
    exact bodyPost_ret (v := .tuple #[.agg #[.int .u8 (z p), .slice (some ⟨w.heap.size + 1, 0, none⟩) m m], .int .i64 ((s : Int) + (m : Int)),   .int .i64 0]) (by simp [results, Ycqm.results25, go_sem, r0, r1]) rfl ⟨w.heap.size + 1, tup3 (by simp) rfl, by omega, hfin.1, hfin.2⟩
end Go.Proofs.Ymbrcq
