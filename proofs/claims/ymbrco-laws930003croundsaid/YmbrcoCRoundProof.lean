/-
  The row's step for 'Rows.LawS930003CRoundSaid', written by a program of this seat's prover after the shell that the seat was given. The walk lies in YmbrcoCRound.lean.
-/
import Derived.Test.YmbrcoCRound
namespace Go.Proofs.Ymbrco.lawS930003CRound
open Go.ChangeShapes Go.WideShapes Go.ChangeAt Go.RowKit Go.Proofs.Ymbrco
set_option linter.unusedVariables false

set_option maxRecDepth 100000 in
theorem lifted (os : Os) (started : os.Started) (H : Type) (enc : TypeId × Value → H) :
    ReturnsInHanded {} Ycom.checked os 10 .any (Rows.lawS930003CRoundSpec.pre6 enc Ycom.prog Ycom.f10 Rows.lawS930003CRoundRow.domain false) (Rows.lawS930003CRoundSpec.post enc Ycom.prog Ycom.f10 false true false false) := by
  refine returnsInHanded_of_change (C := Ycom.checked) own started (by kernel_rfl) Ycom.func10
    (ChangeSpec.witness6 (enc := enc) (C := Ycom.checked) false ⟨#[], #[.slice none 0 0, .bool false, .int .u8 0, .int .u8 0, .int .u8 0], []⟩ 8 (by kernel_rfl) (by kernel_rfl) (by kernel_rfl) (by kernel_rfl)) ?_
  intro W base args ds gs before hval0 hW hcnd _
  have hval : ∀ (j : Nat) t v, Ycom.f10.params[j]? = some t → args[j]? = some v → Value.okWide Ycom.prog W .any base t v := hval0
  have hW' := hW
  obtain ⟨p, q, hA0, hV, rfl, hfz, hnd⟩ := hW
  have hA : DataW.TrodAll enc Ycom.prog W 0 (fun _ => true) true Ycom.f10.params.toList args.toList ds p := hA0
  rw [Ycom.params10] at hA hval
  obtain ⟨v0, vs0, d0, ds0, p0, q0, hargs, rfl, rfl, h0, r0⟩ := trodAll_cons hA
  obtain ⟨v1, vs1, d1, ds1, p1, q1, rfl, rfl, rfl, h1, r1⟩ := trodAll_cons r0
  obtain ⟨v2, vs2, d2, ds2, p2, q2, rfl, rfl, rfl, h2, r2⟩ := trodAll_cons r1
  obtain ⟨v3, vs3, d3, ds3, p3, q3, rfl, rfl, rfl, h3, r3⟩ := trodAll_cons r2
  obtain ⟨v4, vs4, d4, ds4, p4, q4, rfl, rfl, rfl, h4, r4⟩ := trodAll_cons r3
  obtain ⟨rfl, rfl, rfl⟩ := trodAll_nil r4
  obtain rfl : args = #[v0, v1, v2, v3, v4] := by cases args; simp_all
  obtain ⟨rfl, rfl⟩ := trodVars_none hV
  obtain ⟨a0, len0, cap0, rfl⟩ := okWide_slice Ycom.underlying48 (hval 0 48 v0 rfl rfl)
  have k0 := h0
  have lt0 : ∀ x ∈ p0, x.block < W.heap.size := by obtain ⟨m, hm⟩ := k0; exact DataW.trod_lt m _ _ _ hm
  obtain ⟨fuel0, hf0⟩ := h0
  obtain ⟨hl0, hc0, hn0, z0, hz0⟩ := open_items hf0
  obtain ⟨a1, rfl, rfl, rfl⟩ := open_bool Ycom.underlying4 (hval 1 4 v1 rfl rfl) h1
  obtain ⟨a2, rfl, rfl, rfl, w2⟩ := open_int Ycom.underlying5 (hval 2 5 v2 rfl rfl) h2
  obtain ⟨a3, rfl, rfl, rfl, w3⟩ := open_int Ycom.underlying5 (hval 3 5 v3 rfl rfl) h3
  obtain ⟨a4, rfl, rfl, rfl, w4⟩ := open_int Ycom.underlying5 (hval 4 5 v4 rfl rfl) h4
  clear hA0 hval0
  refine (walk a0 len0 cap0 z0 a1 a2 a3 a4 W hl0 hc0 hn0 hz0 (bounds_u8 w2) (bounds_u8 w3) (bounds_u8 w4)).mono fun e W' ⟨he, bel⟩ => ?_
  subst he
  exact ⟨_, rfl, _, _, _, [], _, [], hW', trodAll_mk1 (shut_bool Ycom.underlying4 _), (trodAll_cons_mk (Below.trod laidOut (by kernel_rfl) (of_decide_eq_true (by kernel_rfl)) k0 bel lt0) (trodAll_cons_mk (shut_bool Ycom.underlying4 _) (trodAll_cons_mk (shut_int Ycom.underlying5 w2) (trodAll_cons_mk (shut_int Ycom.underlying5 w3) (trodAll_cons_mk (shut_int Ycom.underlying5 w4) trodAll_mk0))))), rfl, bel.frame _, fun h => by cases h⟩

theorem over : Rows.lawS930003CRoundRow.holds Ycom.pinned (OpenSpec.ofChange Rows.lawS930003CRoundSpec) :=
  OpenClaim.holds_of_wide 10 Ycom.f10 rfl rfl rfl rfl rfl rfl rfl ⟨rfl, rfl, rfl, rfl, rfl⟩ rfl rfl rfl rfl rfl (by kernel_rfl) Ycom.func10 (by kernel_rfl)
    (of_decide_eq_true (by kernel_rfl)) (by unfold Func.isWrapper; first | (rw [if_pos (by decide +kernel)]; kernel_rfl) | (rw [if_neg (by decide +kernel)]; exact ⟨rfl, rfl⟩))
    (fun os started H enc _ => lifted os started H enc)

/-- THE STATEMENT -/
theorem proved : Rows.LawS930003CRoundSaid := over
end Go.Proofs.Ymbrco.lawS930003CRound
