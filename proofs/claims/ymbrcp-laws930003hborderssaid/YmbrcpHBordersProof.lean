/-
  The row's step for 'Rows.LawS930003HBordersSaid', written by a program of this seat's prover after the shell that the seat was given. The walk lies in YmbrcpHBorders.lean.
-/
import Derived.Test.YmbrcpHBorders
namespace Go.Proofs.Ymbrcp.lawS930003HBorders
open Go.ChangeShapes Go.WideShapes Go.ChangeAt Go.RowKit Go.Proofs.Ymbrcp
set_option linter.unusedVariables false

set_option maxRecDepth 100000 in
theorem lifted (os : Os) (started : os.Started) (H : Type) (enc : TypeId × Value → H) :
    ReturnsInHanded {} Ycpm.checked os 13 .any (Rows.lawS930003HBordersSpec.pre6 enc Ycpm.prog Ycpm.f13 Rows.lawS930003HBordersRow.domain false) (Rows.lawS930003HBordersSpec.post enc Ycpm.prog Ycpm.f13 false true false false) := by
  refine returnsInHanded_of_change (C := Ycpm.checked) own started (by kernel_rfl) Ycpm.func13
    (ChangeSpec.witness6 (enc := enc) (C := Ycpm.checked) false ⟨#[], #[.slice none 0 0, .int .u8 0, .bool false], []⟩ 8 (by kernel_rfl) (by kernel_rfl) (by kernel_rfl) (by kernel_rfl)) ?_
  intro W base args ds gs before hval0 hW hcnd _
  have hval : ∀ (j : Nat) t v, Ycpm.f13.params[j]? = some t → args[j]? = some v → Value.okWide Ycpm.prog W .any base t v := hval0
  have hW' := hW
  obtain ⟨p, q, hA0, hV, rfl, hfz, hnd⟩ := hW
  have hA : DataW.TrodAll enc Ycpm.prog W 0 (fun _ => true) true Ycpm.f13.params.toList args.toList ds p := hA0
  rw [Ycpm.params13] at hA hval
  obtain ⟨v0, vs0, d0, ds0, p0, q0, hargs, rfl, rfl, h0, r0⟩ := trodAll_cons hA
  obtain ⟨v1, vs1, d1, ds1, p1, q1, rfl, rfl, rfl, h1, r1⟩ := trodAll_cons r0
  obtain ⟨v2, vs2, d2, ds2, p2, q2, rfl, rfl, rfl, h2, r2⟩ := trodAll_cons r1
  obtain ⟨rfl, rfl, rfl⟩ := trodAll_nil r2
  obtain rfl : args = #[v0, v1, v2] := by cases args; simp_all
  obtain ⟨rfl, rfl⟩ := trodVars_none hV
  obtain ⟨a0, len0, cap0, rfl⟩ := okWide_slice Ycpm.underlying48 (hval 0 48 v0 rfl rfl)
  have k0 := h0
  have lt0 : ∀ x ∈ p0, x.block < W.heap.size := by obtain ⟨m, hm⟩ := k0; exact DataW.trod_lt m _ _ _ hm
  obtain ⟨fuel0, hf0⟩ := h0
  obtain ⟨hl0, hc0, hn0, z0, hz0⟩ := open_picks hf0
  obtain ⟨a1, rfl, rfl, rfl, w1⟩ := open_int Ycpm.underlying5 (hval 1 5 v1 rfl rfl) h1
  obtain ⟨a2, rfl, rfl, rfl⟩ := open_bool Ycpm.underlying4 (hval 2 4 v2 rfl rfl) h2
  clear hA0 hval0
  refine (walk a0 len0 cap0 z0 a1 a2 W hl0 hc0 hn0 hz0 (bounds_u8 w1)).mono fun e W' ⟨he, bel⟩ => ?_
  subst he
  exact ⟨_, rfl, _, _, _, [], _, [], hW', trodAll_mk1 (shut_bool Ycpm.underlying4 _), (trodAll_cons_mk (Below.trod laidOut (by kernel_rfl) (of_decide_eq_true (by kernel_rfl)) k0 bel lt0) (trodAll_cons_mk (shut_int Ycpm.underlying5 w1) (trodAll_cons_mk (shut_bool Ycpm.underlying4 _) trodAll_mk0))), rfl, bel.frame _, fun h => by cases h⟩

theorem over : Rows.lawS930003HBordersRow.holds Ycpm.pinned (OpenSpec.ofChange Rows.lawS930003HBordersSpec) :=
  OpenClaim.holds_of_wide 13 Ycpm.f13 rfl rfl rfl rfl rfl rfl rfl ⟨rfl, rfl, rfl, rfl, rfl⟩ rfl rfl rfl rfl rfl (by kernel_rfl) Ycpm.func13 (by kernel_rfl)
    (of_decide_eq_true (by kernel_rfl)) (by unfold Func.isWrapper; first | (rw [if_pos (by decide +kernel)]; kernel_rfl) | (rw [if_neg (by decide +kernel)]; exact ⟨rfl, rfl⟩))
    (fun os started H enc _ => lifted os started H enc)

/-- THE STATEMENT -/
theorem proved : Rows.LawS930003HBordersSaid := over
end Go.Proofs.Ymbrcp.lawS930003HBorders
