/-
  Ymbrcq: the walk of 'LawS930003LExact'.
-/
import Derived.Test.YmbrcqLlen
import Derived.Test.YmbrcqSizes
import Derived.Test.YmbrcqMem
namespace Go.Proofs.Ymbrcq.lawS930003LExact
open Go.RowKit Go.Proofs.Ymbrcq
set_option linter.unusedVariables false

set_option maxHeartbeats 1000000 in
theorem walk (t e o : Int) (w : World) (ht : 0 ≤ t ∧ t ≤ 255) (he : 0 ≤ e ∧ e ≤ 255) (ho : 0 ≤ o ∧ o ≤ 65535) :
    Calls Ycqm.prog 12 #[.int .u8 t, .int .u8 e, .int .u16 o] w fun e w' => e = .returned (.bool true) ∧ Below w.heap.size w w' := by
  go_enter Ycqm.func12, Ycqm.ntmps12
  go_wp2_with fail
  refine (llen_calls e o w he ho).mono ?_
  rintro e' w' ⟨n, rfl, hn0, rfl⟩
  have hn : (n : Int) ≤ 131069 := by omega
  clear hn0
  by_cases h0 : 65535 < n
  · have e1 : rsize n = 0 := by simp [rsize, h0]
    have e2 : rok n = false := by simp [rok]; omega
    have h0' : decide ((65536 : Int) ≤ (n : Int)) = true := decide_eq_true (by omega)
    clear h0
    try clear h0
    go_wp2_with (first | (at_make; refine wpList_mkB _ rfl _ _ rfl .i64 .i64 _ _ n n rfl rfl rfl rfl (Nat.le_refl _) (by omega) ?_; intro w1 hrow hb1 hs1) | (go_at_call 24; refine (rs_calls _ _ _ _ _ (by omega)).mono ?_; rintro e w2 ⟨rfl, hb2⟩))
    go_ret
    exact ⟨rfl, hb1.trans (hb2.mono (by omega))⟩
  have e2 : rok n = true := by simp [rok]; omega
  have h0' : decide ((65536 : Int) ≤ (n : Int)) = false := decide_eq_false (by omega)
  by_cases h1 : n < 128
  · have e1 : rsize n = (n : Int) + 2 := by simp [rsize, wire, h0, h1]
    try clear h0
    go_wp2_with (first | (at_make; refine wpList_mkB _ rfl _ _ rfl .i64 .i64 _ _ n n rfl rfl rfl rfl (Nat.le_refl _) (by omega) ?_; intro w1 hrow hb1 hs1) | (go_at_call 24; refine (rs_calls _ _ _ _ _ (by omega)).mono ?_; rintro e w2 ⟨rfl, hb2⟩))
    go_ret
    exact ⟨ret_bool (by simp; omega), hb1.trans (hb2.mono (by omega))⟩
  by_cases h2 : n < 256
  · have e1 : rsize n = (n : Int) + 3 := by simp [rsize, wire, h0, h1, h2]
    try clear h0
    go_wp2_with (first | (at_make; refine wpList_mkB _ rfl _ _ rfl .i64 .i64 _ _ n n rfl rfl rfl rfl (Nat.le_refl _) (by omega) ?_; intro w1 hrow hb1 hs1) | (go_at_call 24; refine (rs_calls _ _ _ _ _ (by omega)).mono ?_; rintro e w2 ⟨rfl, hb2⟩))
    go_ret
    exact ⟨ret_bool (by simp; omega), hb1.trans (hb2.mono (by omega))⟩
  · have e1 : rsize n = (n : Int) + 4 := by simp [rsize, wire, h0, h1, h2]
    try clear h0
    go_wp2_with (first | (at_make; refine wpList_mkB _ rfl _ _ rfl .i64 .i64 _ _ n n rfl rfl rfl rfl (Nat.le_refl _) (by omega) ?_; intro w1 hrow hb1 hs1) | (go_at_call 24; refine (rs_calls _ _ _ _ _ (by omega)).mono ?_; rintro e w2 ⟨rfl, hb2⟩))
    go_ret
    exact ⟨ret_bool (by simp; omega), hb1.trans (hb2.mono (by omega))⟩
end Go.Proofs.Ymbrcq.lawS930003LExact
