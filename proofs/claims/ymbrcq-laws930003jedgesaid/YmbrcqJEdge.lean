/-
  Ymbrcq: the walk of 'LawS930003JEdge'.
-/
import Derived.Test.YmbrcqFind
namespace Go.Proofs.Ymbrcq.lawS930003JEdge
open Go.RowKit Go.Proofs.Ymbrcq
set_option linter.unusedVariables false

def zz (t x : Int) : Nat → Int := fun i => if i = 0 then t else if i = 1 then x else 0
theorem zz_byte {t x : Int} (ht : 0 ≤ t ∧ t ≤ 255) (hx : 0 ≤ x ∧ x ≤ 127) : IsByte (zz t x) := by
  intro i
  unfold zz
  repeat' split
  all_goals omega
theorem good (t : Int) (x n : Nat) (hx : x ≤ 127) (hn : 200 ≤ n) : FindGood (zz t x) n t 2 x := by
  refine ⟨0, 0, rfl, by omega, rfl, ?_, by omega, by omega⟩
  have h1 : zz t x (0 + 1) = (x : Int) := rfl
  rw [span_at _ _ _ (by omega), h1, if_pos (by omega), if_neg (by omega)]
  simp only [Prod.mk.injEq, and_true]
  omega

set_option maxHeartbeats 2000000 in
theorem walk (t sz ov : Int) (w : World) (ht : 0 ≤ t ∧ t ≤ 255) (hsz : 0 ≤ sz ∧ sz ≤ 255) (hov : 0 ≤ ov ∧ ov ≤ 255) :
    Calls Ycqm.prog 8 #[.int .u8 t, .int .u8 sz, .int .u8 ov] w fun e w' => e = .returned (.bool true) ∧ Below w.heap.size w w' := by
  obtain ⟨x, hx, hx7⟩ : ∃ x : Nat, sz % 128 = (x : Int) ∧ (x : Int) ≤ 127 := ⟨(sz % 128).toNat, by omega, by omega⟩
  obtain ⟨e, he, he4⟩ : ∃ e : Nat, ov % 3 = (e : Int) ∧ (e : Int) ≤ 2 := ⟨(ov % 3).toNat, by omega, by omega⟩
  obtain ⟨N, hN1, hN2⟩ : ∃ N : Nat, (1048575 : Int) + e ≤ N ∧ (N : Int) ≤ 1048575 + e := ⟨1048575 + e, by omega, by omega⟩
  have hnil := eqlB_nil
  go_enter Ycqm.func8, Ycqm.ntmps8
  go_wp2_with (at_make; refine wpList_mkBx _ _ rfl rfl _ _ rfl .i64 .i64 _ _ N N rfl rfl (by omega) (by omega) (Nat.le_refl _) (by omega) ?_; intro w1 hrow hb1 hs1; have hbase := hrow.lt; have d0 : w1.cell? ⟨w.heap.size, 0, none⟩ = some (.int .u8 0) := hrow.cell (by omega); have f0 : w1.frozen? ⟨w.heap.size, 0, none⟩ = false := hrow.frozen _; have d1 : w1.cell? ⟨w.heap.size, 1, none⟩ = some (.int .u8 0) := hrow.cell (by omega); have f1 : w1.frozen? ⟨w.heap.size, 1, none⟩ = false := hrow.frozen _)
  have HR : Hid (((w1.setCell ⟨w.heap.size, 0, none⟩ (.int .u8 t)).setCell ⟨w.heap.size, 1, none⟩ (.int .u8 x)).rowIs w.heap.size 5 N (fun i => .int .u8 (zz t x i))) := by
    refine ((hrow.set 0 _).set 1 _).congr fun i _ => ?_
    unfold zz
    repeat' split
    all_goals first | rfl | omega
  have HB : Hid (Below w.heap.size w ((w1.setCell ⟨w.heap.size, 0, none⟩ (.int .u8 t)).setCell ⟨w.heap.size, 1, none⟩ (.int .u8 x))) := (hb1.setCell (Nat.le_refl _) _).setCell (Nat.le_refl _) _
  clear hrow hb1 d0 f0 d1 f1
  generalize (w1.setCell ⟨w.heap.size, 0, none⟩ (.int .u8 t)).setCell ⟨w.heap.size, 1, none⟩ (.int .u8 x) = W at *
  by_cases hbig : e = 2
  · subst hbig
    refine (find_long _ N N t W (by omega) (by omega)).mono ?_
    rintro e2 w2 ⟨rfl, hb2⟩
    have HB2 : Hid (Below w.heap.size w w2) := HB.out.trans (hb2.mono HB.out.size)
    clear hb2
    go_wp2
    go_ret
    exact ⟨rfl, HB2.out.alloc HB2.out.size _⟩
  · have heb : ((e : Int) == 2) = false := by simp; omega
    refine (find_calls _ N N (zz t x) t W (by omega) (Nat.le_refl _) (by omega) (zz_byte ht (by omega)) (rowIs_bytes0 HR.out N (Nat.le_refl _))).mono ?_
    rintro e2 w2 (⟨code, rfl, hbad, _⟩ | ⟨s, m, g, rfl, hg, _, _, hb2⟩)
    · exact absurd (good t x N (by omega) (by omega)) (fun h => hbad.not_good h)
    · obtain ⟨rfl, rfl⟩ := hg.uniq (good t x N (by omega) (by omega))
      have HB2 : Hid (Below w.heap.size w w2) := HB.out.trans (hb2.mono HB.out.size)
      clear hb2 hg
      go_wp2
      go_ret
      exact ⟨rfl, HB2.out.alloc HB2.out.size _⟩
end Go.Proofs.Ymbrcq.lawS930003JEdge
