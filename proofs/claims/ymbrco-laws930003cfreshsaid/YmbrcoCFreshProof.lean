/-
  The row's step for 'Rows.LawS930003CFreshSaid', written by a program of this seat's prover after the shell that the seat was given. The walk lies in YmbrcoCFresh.lean.
-/
import Derived.Test.YmbrcoCFresh
namespace Go.Proofs.Ymbrco.lawS930003CFresh
open Go.ChangeShapes Go.WideShapes Go.ChangeAt Go.RowKit Go.Proofs.Ymbrco
set_option linter.unusedVariables false

set_option maxRecDepth 100000 in
theorem lifted (os : Os) (started : os.Started) (H : Type) (enc : TypeId × Value → H) :
    ReturnsInHanded {} Ycom.checked os 11 .any (Rows.lawS930003CFreshSpec.pre6 enc Ycom.prog Ycom.f11 Rows.lawS930003CFreshRow.domain false) (Rows.lawS930003CFreshSpec.post enc Ycom.prog Ycom.f11 false true false false) := by
  refine returnsInHanded_of_change (C := Ycom.checked) own started (by kernel_rfl) Ycom.func11
    (ChangeSpec.witness6 (enc := enc) (C := Ycom.checked) false ⟨#[], #[.slice none 0 0], []⟩ 8 (by kernel_rfl) (by kernel_rfl) (by kernel_rfl) (by kernel_rfl)) ?_
  intro W base args ds gs before hval0 hW hcnd _
  have hval : ∀ (j : Nat) t v, Ycom.f11.params[j]? = some t → args[j]? = some v → Value.okWide Ycom.prog W .any base t v := hval0
  have hW' := hW
  obtain ⟨p, q, hA0, hV, rfl, hfz, hnd⟩ := hW
  have hA : DataW.TrodAll enc Ycom.prog W 0 (fun _ => true) true Ycom.f11.params.toList args.toList ds p := hA0
  rw [Ycom.params11] at hA hval
  obtain ⟨v0, vs0, d0, ds0, p0, q0, hargs, rfl, rfl, h0, r0⟩ := trodAll_cons hA
  obtain ⟨rfl, rfl, rfl⟩ := trodAll_nil r0
  obtain rfl : args = #[v0] := by cases args; simp_all
  obtain ⟨rfl, rfl⟩ := trodVars_none hV
  obtain ⟨a0, len0, cap0, rfl⟩ := okWide_slice Ycom.underlying53 (hval 0 53 v0 rfl rfl)
  have k0 := h0
  have lt0 : ∀ x ∈ p0, x.block < W.heap.size := by obtain ⟨m, hm⟩ := k0; exact DataW.trod_lt m _ _ _ hm
  obtain ⟨fuel0, hf0⟩ := h0
  obtain ⟨hl0, hc0, hn0, z0, hz0⟩ := open_vals hf0
  clear hA0 hval0
  refine (walk a0 len0 cap0 z0 W hl0 hc0 hn0 hz0).mono fun e W' ⟨he, bel⟩ => ?_
  subst he
  exact ⟨_, rfl, _, _, _, [], _, [], hW', trodAll_mk1 (shut_bool Ycom.underlying4 _), (trodAll_cons_mk (Below.trod laidOut (by kernel_rfl) (of_decide_eq_true (by kernel_rfl)) k0 bel lt0) trodAll_mk0), rfl, bel.frame _, fun h => by cases h⟩

theorem over : Rows.lawS930003CFreshRow.holds Ycom.pinned (OpenSpec.ofChange Rows.lawS930003CFreshSpec) :=
  OpenClaim.holds_of_wide 11 Ycom.f11 rfl rfl rfl rfl rfl rfl rfl ⟨rfl, rfl, rfl, rfl, rfl⟩ rfl rfl rfl rfl rfl (by kernel_rfl) Ycom.func11 (by kernel_rfl)
    (of_decide_eq_true (by kernel_rfl)) (by unfold Func.isWrapper; first | (rw [if_pos (by decide +kernel)]; kernel_rfl) | (rw [if_neg (by decide +kernel)]; exact ⟨rfl, rfl⟩))
    (fun os started H enc _ => lifted os started H enc)

/-- THE STATEMENT -/
theorem proved : Rows.LawS930003CFreshSaid := over
end Go.Proofs.Ymbrco.lawS930003CFresh
