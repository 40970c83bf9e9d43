/-
  Ymbrco: a region that draws its order, its calls making memory of their own: one walk over a class of worlds.
-/
import Derived.Test.YmbrcoMem
namespace Go.Proofs.Ymbrco
open Go.RowKit
set_option linter.unusedVariables false

/-- A world of the class. -/
structure GW (G : World → Prop) where
  w : World
  ok : G w

theorem wp_region_class {P : Program} {id : Nat} {Q : Exit → Act → World → Prop} {a : Act} {w : World} {l : List Oper} {G : World → Prop} (hm : P.follows .mixedOrders = true) (hB : Region.lexB .any l.toArray = true)
    (hG : G (w.drewN 1)) (h : wpQuiet P l.toArray (fun w' => ∃ s : GW G, w' = s.w) (fun a' => ∀ s : GW G, Q .normal a' s.w) l a) : (Code.region id l.toArray true).wp P Q a w := by
  refine wp_region_quiet (C := fun w' => ∃ s : GW G, w' = s.w) hm hB ⟨⟨_, hG⟩, rfl⟩ ?_
  have key : (fun a' => ∀ w', (∃ s : GW G, w' = s.w) → Q .normal a' w') = (fun a' => ∀ s : GW G, Q .normal a' s.w) := by
    funext a'
    exact propext ⟨fun h s => h _ ⟨s, rfl⟩, fun h w' ⟨s, e⟩ => e ▸ h s⟩
  rw [key]
  exact h
end Go.Proofs.Ymbrco
