/-
  The row's step for 'Rows.LawS930003JBuiltSaid', written by a program of this seat's prover after the shell that the seat was given. The walk lies in YmbrcqJBuilt.lean.
-/
import Derived.Test.YmbrcqJBuilt
namespace Go.Proofs.Ymbrcq.lawS930003JBuilt
open Go.ChangeShapes Go.WideShapes Go.ChangeAt Go.RowKit Go.Proofs.Ymbrcq
set_option linter.unusedVariables false

set_option maxRecDepth 100000 in
theorem lifted (os : Os) (started : os.Started) (H : Type) (enc : TypeId × Value → H) :
    ReturnsInHanded {} Ycqm.checked os 7 .any (Rows.lawS930003JBuiltSpec.pre6 enc Ycqm.prog Ycqm.f7 Rows.lawS930003JBuiltRow.domain false) (Rows.lawS930003JBuiltSpec.post enc Ycqm.prog Ycqm.f7 false true false false) := by
  refine returnsInHanded_of_change (C := Ycqm.checked) own started (by kernel_rfl) Ycqm.func7
    (ChangeSpec.witness6 (enc := enc) (C := Ycqm.checked) false ⟨#[], #[.slice none 0 0, .int .u8 0, .int .u8 0], []⟩ 8 (by kernel_rfl) (by kernel_rfl) (by kernel_rfl) (by kernel_rfl)) ?_
  intro W base args ds gs before hval0 hW hcnd _
  have hval : ∀ (j : Nat) t v, Ycqm.f7.params[j]? = some t → args[j]? = some v → Value.okWide Ycqm.prog W .any base t v := hval0
  have hW' := hW
  obtain ⟨p, q, hA0, hV, rfl, hfz, hnd⟩ := hW
  have hA : DataW.TrodAll enc Ycqm.prog W 0 (fun _ => true) true Ycqm.f7.params.toList args.toList ds p := hA0
  rw [Ycqm.params7] at hA hval
  obtain ⟨v0, vs0, d0, ds0, p0, q0, hargs, rfl, rfl, h0, r0⟩ := trodAll_cons hA
  obtain ⟨v1, vs1, d1, ds1, p1, q1, rfl, rfl, rfl, h1, r1⟩ := trodAll_cons r0
  obtain ⟨v2, vs2, d2, ds2, p2, q2, rfl, rfl, rfl, h2, r2⟩ := trodAll_cons r1
  obtain ⟨rfl, rfl, rfl⟩ := trodAll_nil r2
  obtain rfl : args = #[v0, v1, v2] := by cases args; simp_all
  obtain ⟨rfl, rfl⟩ := trodVars_none hV
  obtain ⟨a0, len0, cap0, rfl⟩ := okWide_slice Ycqm.underlying37 (hval 0 37 v0 rfl rfl)
  have k0 := h0
  have lt0 : ∀ x ∈ p0, x.block < W.heap.size := by obtain ⟨m, hm⟩ := k0; exact DataW.trod_lt m _ _ _ hm
  obtain ⟨fuel0, hf0⟩ := h0
  obtain ⟨hl0, hc0, hn0, z0, hz0⟩ := open_jrecs hf0
  obtain ⟨a1, rfl, rfl, rfl, w1⟩ := open_int Ycqm.underlying5 (hval 1 5 v1 rfl rfl) h1
  obtain ⟨a2, rfl, rfl, rfl, w2⟩ := open_int Ycqm.underlying5 (hval 2 5 v2 rfl rfl) h2
  clear hA0 hval0
  refine (walk a0 len0 cap0 z0 a1 a2 W hl0 hc0 hn0 hz0 (bounds_u8 w1) (bounds_u8 w2)).mono fun e W' ⟨he, bel⟩ => ?_
  subst he
  exact ⟨_, rfl, _, _, _, [], _, [], hW', trodAll_mk1 (shut_bool Ycqm.underlying4 _), (trodAll_cons_mk (Below.trod laidOut (by kernel_rfl) (of_decide_eq_true (by kernel_rfl)) k0 bel lt0) (trodAll_cons_mk (shut_int Ycqm.underlying5 w1) (trodAll_cons_mk (shut_int Ycqm.underlying5 w2) trodAll_mk0))), rfl, bel.frame _, fun h => by cases h⟩

theorem over : Rows.lawS930003JBuiltRow.holds Ycqm.pinned (OpenSpec.ofChange Rows.lawS930003JBuiltSpec) :=
  OpenClaim.holds_of_wide 7 Ycqm.f7 rfl rfl rfl rfl rfl rfl rfl ⟨rfl, rfl, rfl, rfl, rfl⟩ rfl rfl rfl rfl rfl (by kernel_rfl) Ycqm.func7 (by kernel_rfl)
    (of_decide_eq_true (by kernel_rfl)) (by unfold Func.isWrapper; first | (rw [if_pos (by decide +kernel)]; kernel_rfl) | (rw [if_neg (by decide +kernel)]; exact ⟨rfl, rfl⟩))
    (fun os started H enc _ => lifted os started H enc)

/-- THE STATEMENT -/
theorem proved : Rows.LawS930003JBuiltSaid := over
end Go.Proofs.Ymbrcq.lawS930003JBuilt
