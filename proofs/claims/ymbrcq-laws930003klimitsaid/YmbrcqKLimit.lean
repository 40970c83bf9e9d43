/-
  Ymbrcq: the walk of 'LawS930003KLimit'.
-/
import Derived.Test.YmbrcqCheck
import Derived.Test.YmbrcqMem
namespace Go.Proofs.Ymbrcq.lawS930003KLimit
open Go.RowKit Go.Proofs.Ymbrcq
set_option linter.unusedVariables false

def zz (k : Nat) : Nat → Int := fun i => if i = 2 * k + 1 then 255 else 0
theorem zz_byte (k : Nat) : IsByte (zz k) := by
  intro i
  unfold zz
  split <;> omega
theorem reach (k n : Nat) (hn : 2 * k + 2 ≤ n) : ∀ j, j ≤ k → Reach (zz k) n j (2 * j)
  | 0, _ => rfl
  | j + 1, h => by
    have hz : zz k (2 * j + 1) = 0 := by unfold zz; rw [if_neg (by omega)]
    have hs : span (zz k) n ((2 * j : Nat) : Int) = (((2 * j : Nat) : Int) + 2, ((2 * j : Nat) : Int) + 2 + 0, 0) := by
      rw [span_at _ _ _ (by omega), hz, if_pos (by omega), if_neg (by omega)]
    refine ⟨2 * j, reach k n hn j (by omega), by omega, ?_, ?_⟩
    · rw [hs]
    · rw [hs]; dsimp only; omega
theorem isCheck (k n : Nat) (hn : 2 * k + 2 ≤ n) : IsCheck (zz k) n k (2 * k) 2 := by
  have hz : zz k (2 * k + 1) = 255 := by unfold zz; rw [if_pos rfl]
  have hs : span (zz k) n ((2 * k : Nat) : Int) = (((2 * k : Nat) : Int), ((2 * k : Nat) : Int), 2) := by
    rw [span_at _ _ _ (by omega), hz, if_neg (by omega), if_neg (by omega), if_neg (by omega)]
  refine ⟨reach k n hn k (Nat.le_refl _), .inr ⟨by omega, ?_, by omega⟩⟩
  rw [hs]

set_option maxHeartbeats 2000000 in
theorem walk (k d : Int) (w : World) (hk : 0 ≤ k ∧ k ≤ 255) (hd : 0 ≤ d ∧ d ≤ 255) :
    Calls Ycqm.prog 11 #[.int .u8 k, .int .u8 d] w fun e w' => e = .returned (.bool true) ∧ Below w.heap.size w w' := by
  obtain ⟨k, rfl⟩ := Int.eq_ofNat_of_zero_le hk.1
  obtain ⟨e, he, he4⟩ : ∃ e : Nat, d % 5 = (e : Int) ∧ (e : Int) ≤ 4 := ⟨(d % 5).toNat, by omega, by omega⟩
  obtain ⟨N, hN1, hN2⟩ : ∃ N : Nat, (1048574 : Int) + e ≤ N ∧ (N : Int) ≤ 1048574 + e := ⟨1048574 + e, by omega, by omega⟩
  go_enter Ycqm.func11, Ycqm.ntmps11
  go_wp2_with (at_make; refine wpList_mkBx _ _ rfl rfl _ _ rfl .i64 .i64 _ _ N N rfl rfl (by omega) (by omega) (Nat.le_refl _) (by omega) ?_; intro w1 hrow hb1 hs1; have hbase := hrow.lt; have d1 : w1.cell? ⟨w.heap.size, 2 * k + 1, none⟩ = some (.int .u8 0) := hrow.cell (by omega); have f1 : w1.frozen? ⟨w.heap.size, 2 * k + 1, none⟩ = false := hrow.frozen _)
  have HR : Hid ((w1.setCell ⟨w.heap.size, 2 * k + 1, none⟩ (.int .u8 255)).rowIs w.heap.size 5 N (fun i => .int .u8 (zz k i))) := by
    refine (hrow.set (2 * k + 1) _).congr fun i _ => ?_
    unfold zz
    split <;> rfl
  have HB : Hid (Below w.heap.size w (w1.setCell ⟨w.heap.size, 2 * k + 1, none⟩ (.int .u8 255))) := hb1.setCell (Nat.le_refl _) _
  clear hrow hb1 d1 f1
  generalize w1.setCell ⟨w.heap.size, 2 * k + 1, none⟩ (.int .u8 255) = W at *
  by_cases hbig : (2 : Int) < e
  · refine (check_long _ N N W (by omega) (by omega)).mono ?_
    rintro e2 w2 ⟨rfl, rfl⟩
    go_wp2
    go_ret
    exact ⟨rfl, HB.out⟩
  · refine (check_calls _ N N (zz k) W (by omega) (zz_byte k) (rowIs_bytes0 HR.out N (Nat.le_refl _))).mono ?_
    rintro e2 w2 ⟨cnt, p, code, rfl, hc, q, rfl⟩
    obtain ⟨rfl, rfl, rfl⟩ := hc.uniq (isCheck k N (by omega))
    go_wp2
    go_ret
    exact ⟨ret_bool (by simp), HB.out.trans ((below_drewN W q).mono HB.out.size)⟩
end Go.Proofs.Ymbrcq.lawS930003KLimit
