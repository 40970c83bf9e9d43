/-
  No cell of these rows narrows 'for every input' (looked for: loops, veiled, ifaces, maps, wideKeys, modest, calm, conditions, laid).
  DERIVED. THE GIVEN ROWS OF THIS SEAT. 12 by the template 'for every input the law returns true; each argument reads behind the call as it read before'; 0 by the template 'total and deterministic' (their statements: YmbrcoTotals.lean).
  GIVEN WITH THE SEED: the statements are not yours to turn. If you find one false, say at which input.
  Laid BY PROGRAM, IN A SANDBOX (cutbox-rows.mjs): the forced cells as the released guide's own fill.sh prints them over the translation bf489761b8130877… (all of the seat's roots in one cut). By AI agents, Wed Nov 11 2026. No macro, syntax, notation, axiom, sorry.
-/
import Derived.Test.YmbrcoChecked
import GoSem.Claim
import GoSem.ClaimJoined
import GoSem.ClaimMapViews
import Derived.JoinedTies
import Derived.KernelRfl
namespace Go.Proofs.Ymbrco
/- THE CELL 'sum', in the pinned program and in every row, IS THE sha256 OF THE DUMP (.gsa) THAT YmbrcoProg.lean LOADS. Nothing in Lean hashes anything: it is a label: what it is worth is what the hold of that sum in a sandbox is worth. -/
noncomputable def Ycom.pinned : Pinned := { name := "ymbrco", sum := "bf489761b8130877ecbbc8bac4c7ee23dabc31fbf6c3c209bcc4bb5ba5f7aa8a", checked := Ycom.checked }
namespace Rows
def none {H : Type} : Left H := { results := [], args := [] }

/-- 'tlv.LawS930003AExact': WHATEVER THE INPUT: true; the input reads as it did. -/
def lawS930003AExactSpec : ChangeSpec := { name := "lawS930003AExact", fn := fun _ => fun
  | [d1, d2, d3] => { results := [.lit (.bool true)], args := [d1, d2, d3] }
  | _ => none }
def lawS930003AExactRow : OpenClaim := { program := "ymbrco", sum := "bf489761b8130877ecbbc8bac4c7ee23dabc31fbf6c3c209bcc4bb5ba5f7aa8a", func := "example.com/own/tlv.LawS930003AExact", spec := "lawS930003AExact", apart := false }
def LawS930003AExactSaid : Prop := lawS930003AExactRow.holds Ycom.pinned (OpenSpec.ofChange lawS930003AExactSpec)

/-- ITS FALSE NEIGHBOUR: 'it returns false'. Refute it at one input. -/
def lawS930003AExactWrong : ChangeSpec := { name := "lawS930003AExact", fn := fun _ => fun
  | [d1, d2, d3] => { results := [.lit (.bool false)], args := [d1, d2, d3] }
  | _ => none }
def LawS930003AExactWrongFalsely : Prop := lawS930003AExactRow.holds Ycom.pinned (OpenSpec.ofChange lawS930003AExactWrong)

/-- 'tlv.LawS930003AInPlace': WHATEVER THE INPUT: true; the input reads as it did. -/
def lawS930003AInPlaceSpec : ChangeSpec := { name := "lawS930003AInPlace", fn := fun _ => fun
  | [d1, d2, d3, d4, d5] => { results := [.lit (.bool true)], args := [d1, d2, d3, d4, d5] }
  | _ => none }
def lawS930003AInPlaceRow : OpenClaim := { program := "ymbrco", sum := "bf489761b8130877ecbbc8bac4c7ee23dabc31fbf6c3c209bcc4bb5ba5f7aa8a", func := "example.com/own/tlv.LawS930003AInPlace", spec := "lawS930003AInPlace", apart := false }
def LawS930003AInPlaceSaid : Prop := lawS930003AInPlaceRow.holds Ycom.pinned (OpenSpec.ofChange lawS930003AInPlaceSpec)

/-- ITS FALSE NEIGHBOUR: 'it returns false'. Refute it at one input. -/
def lawS930003AInPlaceWrong : ChangeSpec := { name := "lawS930003AInPlace", fn := fun _ => fun
  | [d1, d2, d3, d4, d5] => { results := [.lit (.bool false)], args := [d1, d2, d3, d4, d5] }
  | _ => none }
def LawS930003AInPlaceWrongFalsely : Prop := lawS930003AInPlaceRow.holds Ycom.pinned (OpenSpec.ofChange lawS930003AInPlaceWrong)

/-- 'tlv.LawS930003AOrder': WHATEVER THE INPUT: true; the input reads as it did. -/
def lawS930003AOrderSpec : ChangeSpec := { name := "lawS930003AOrder", fn := fun _ => fun
  | [d1, d2, d3, d4] => { results := [.lit (.bool true)], args := [d1, d2, d3, d4] }
  | _ => none }
def lawS930003AOrderRow : OpenClaim := { program := "ymbrco", sum := "bf489761b8130877ecbbc8bac4c7ee23dabc31fbf6c3c209bcc4bb5ba5f7aa8a", func := "example.com/own/tlv.LawS930003AOrder", spec := "lawS930003AOrder", apart := false }
def LawS930003AOrderSaid : Prop := lawS930003AOrderRow.holds Ycom.pinned (OpenSpec.ofChange lawS930003AOrderSpec)

/-- ITS FALSE NEIGHBOUR: 'it returns false'. Refute it at one input. -/
def lawS930003AOrderWrong : ChangeSpec := { name := "lawS930003AOrder", fn := fun _ => fun
  | [d1, d2, d3, d4] => { results := [.lit (.bool false)], args := [d1, d2, d3, d4] }
  | _ => none }
def LawS930003AOrderWrongFalsely : Prop := lawS930003AOrderRow.holds Ycom.pinned (OpenSpec.ofChange lawS930003AOrderWrong)

/-- 'tlv.LawS930003BExact': WHATEVER THE INPUT: true; the input reads as it did. -/
def lawS930003BExactSpec : ChangeSpec := { name := "lawS930003BExact", fn := fun _ => fun
  | [d1, d2, d3] => { results := [.lit (.bool true)], args := [d1, d2, d3] }
  | _ => none }
def lawS930003BExactRow : OpenClaim := { program := "ymbrco", sum := "bf489761b8130877ecbbc8bac4c7ee23dabc31fbf6c3c209bcc4bb5ba5f7aa8a", func := "example.com/own/tlv.LawS930003BExact", spec := "lawS930003BExact", apart := false }
def LawS930003BExactSaid : Prop := lawS930003BExactRow.holds Ycom.pinned (OpenSpec.ofChange lawS930003BExactSpec)

/-- ITS FALSE NEIGHBOUR: 'it returns false'. Refute it at one input. -/
def lawS930003BExactWrong : ChangeSpec := { name := "lawS930003BExact", fn := fun _ => fun
  | [d1, d2, d3] => { results := [.lit (.bool false)], args := [d1, d2, d3] }
  | _ => none }
def LawS930003BExactWrongFalsely : Prop := lawS930003BExactRow.holds Ycom.pinned (OpenSpec.ofChange lawS930003BExactWrong)

/-- 'tlv.LawS930003BOverwrite': WHATEVER THE INPUT: true; the input reads as it did. -/
def lawS930003BOverwriteSpec : ChangeSpec := { name := "lawS930003BOverwrite", fn := fun _ => fun
  | [d1, d2, d3, d4] => { results := [.lit (.bool true)], args := [d1, d2, d3, d4] }
  | _ => none }
def lawS930003BOverwriteRow : OpenClaim := { program := "ymbrco", sum := "bf489761b8130877ecbbc8bac4c7ee23dabc31fbf6c3c209bcc4bb5ba5f7aa8a", func := "example.com/own/tlv.LawS930003BOverwrite", spec := "lawS930003BOverwrite", apart := false }
def LawS930003BOverwriteSaid : Prop := lawS930003BOverwriteRow.holds Ycom.pinned (OpenSpec.ofChange lawS930003BOverwriteSpec)

/-- ITS FALSE NEIGHBOUR: 'it returns false'. Refute it at one input. -/
def lawS930003BOverwriteWrong : ChangeSpec := { name := "lawS930003BOverwrite", fn := fun _ => fun
  | [d1, d2, d3, d4] => { results := [.lit (.bool false)], args := [d1, d2, d3, d4] }
  | _ => none }
def LawS930003BOverwriteWrongFalsely : Prop := lawS930003BOverwriteRow.holds Ycom.pinned (OpenSpec.ofChange lawS930003BOverwriteWrong)

/-- 'tlv.LawS930003BFresh': WHATEVER THE INPUT: true; the input reads as it did. -/
def lawS930003BFreshSpec : ChangeSpec := { name := "lawS930003BFresh", fn := fun _ => fun
  | [d1, d2, d3] => { results := [.lit (.bool true)], args := [d1, d2, d3] }
  | _ => none }
def lawS930003BFreshRow : OpenClaim := { program := "ymbrco", sum := "bf489761b8130877ecbbc8bac4c7ee23dabc31fbf6c3c209bcc4bb5ba5f7aa8a", func := "example.com/own/tlv.LawS930003BFresh", spec := "lawS930003BFresh", apart := false }
def LawS930003BFreshSaid : Prop := lawS930003BFreshRow.holds Ycom.pinned (OpenSpec.ofChange lawS930003BFreshSpec)

/-- ITS FALSE NEIGHBOUR: 'it returns false'. Refute it at one input. -/
def lawS930003BFreshWrong : ChangeSpec := { name := "lawS930003BFresh", fn := fun _ => fun
  | [d1, d2, d3] => { results := [.lit (.bool false)], args := [d1, d2, d3] }
  | _ => none }
def LawS930003BFreshWrongFalsely : Prop := lawS930003BFreshRow.holds Ycom.pinned (OpenSpec.ofChange lawS930003BFreshWrong)

/-- 'tlv.LawS930003CExact': WHATEVER THE INPUT: true; the input reads as it did. -/
def lawS930003CExactSpec : ChangeSpec := { name := "lawS930003CExact", fn := fun _ => fun
  | [d] => { results := [.lit (.bool true)], args := [d] }
  | _ => none }
def lawS930003CExactRow : OpenClaim := { program := "ymbrco", sum := "bf489761b8130877ecbbc8bac4c7ee23dabc31fbf6c3c209bcc4bb5ba5f7aa8a", func := "example.com/own/tlv.LawS930003CExact", spec := "lawS930003CExact", apart := false }
def LawS930003CExactSaid : Prop := lawS930003CExactRow.holds Ycom.pinned (OpenSpec.ofChange lawS930003CExactSpec)

/-- ITS FALSE NEIGHBOUR: 'it returns false'. Refute it at one input. -/
def lawS930003CExactWrong : ChangeSpec := { name := "lawS930003CExact", fn := fun _ => fun
  | [d] => { results := [.lit (.bool false)], args := [d] }
  | _ => none }
def LawS930003CExactWrongFalsely : Prop := lawS930003CExactRow.holds Ycom.pinned (OpenSpec.ofChange lawS930003CExactWrong)

/-- 'tlv.LawS930003CRound': WHATEVER THE INPUT: true; the input reads as it did. -/
def lawS930003CRoundSpec : ChangeSpec := { name := "lawS930003CRound", fn := fun _ => fun
  | [d1, d2, d3, d4, d5] => { results := [.lit (.bool true)], args := [d1, d2, d3, d4, d5] }
  | _ => none }
def lawS930003CRoundRow : OpenClaim := { program := "ymbrco", sum := "bf489761b8130877ecbbc8bac4c7ee23dabc31fbf6c3c209bcc4bb5ba5f7aa8a", func := "example.com/own/tlv.LawS930003CRound", spec := "lawS930003CRound", apart := false }
def LawS930003CRoundSaid : Prop := lawS930003CRoundRow.holds Ycom.pinned (OpenSpec.ofChange lawS930003CRoundSpec)

/-- ITS FALSE NEIGHBOUR: 'it returns false'. Refute it at one input. -/
def lawS930003CRoundWrong : ChangeSpec := { name := "lawS930003CRound", fn := fun _ => fun
  | [d1, d2, d3, d4, d5] => { results := [.lit (.bool false)], args := [d1, d2, d3, d4, d5] }
  | _ => none }
def LawS930003CRoundWrongFalsely : Prop := lawS930003CRoundRow.holds Ycom.pinned (OpenSpec.ofChange lawS930003CRoundWrong)

/-- 'tlv.LawS930003CFresh': WHATEVER THE INPUT: true; the input reads as it did. -/
def lawS930003CFreshSpec : ChangeSpec := { name := "lawS930003CFresh", fn := fun _ => fun
  | [d] => { results := [.lit (.bool true)], args := [d] }
  | _ => none }
def lawS930003CFreshRow : OpenClaim := { program := "ymbrco", sum := "bf489761b8130877ecbbc8bac4c7ee23dabc31fbf6c3c209bcc4bb5ba5f7aa8a", func := "example.com/own/tlv.LawS930003CFresh", spec := "lawS930003CFresh", apart := false }
def LawS930003CFreshSaid : Prop := lawS930003CFreshRow.holds Ycom.pinned (OpenSpec.ofChange lawS930003CFreshSpec)

/-- ITS FALSE NEIGHBOUR: 'it returns false'. Refute it at one input. -/
def lawS930003CFreshWrong : ChangeSpec := { name := "lawS930003CFresh", fn := fun _ => fun
  | [d] => { results := [.lit (.bool false)], args := [d] }
  | _ => none }
def LawS930003CFreshWrongFalsely : Prop := lawS930003CFreshRow.holds Ycom.pinned (OpenSpec.ofChange lawS930003CFreshWrong)

/-- 'tlv.LawS930003DExact': WHATEVER THE INPUT: true; the input reads as it did. -/
def lawS930003DExactSpec : ChangeSpec := { name := "lawS930003DExact", fn := fun _ => fun
  | [d1, d2] => { results := [.lit (.bool true)], args := [d1, d2] }
  | _ => none }
def lawS930003DExactRow : OpenClaim := { program := "ymbrco", sum := "bf489761b8130877ecbbc8bac4c7ee23dabc31fbf6c3c209bcc4bb5ba5f7aa8a", func := "example.com/own/tlv.LawS930003DExact", spec := "lawS930003DExact", apart := false }
def LawS930003DExactSaid : Prop := lawS930003DExactRow.holds Ycom.pinned (OpenSpec.ofChange lawS930003DExactSpec)

/-- ITS FALSE NEIGHBOUR: 'it returns false'. Refute it at one input. -/
def lawS930003DExactWrong : ChangeSpec := { name := "lawS930003DExact", fn := fun _ => fun
  | [d1, d2] => { results := [.lit (.bool false)], args := [d1, d2] }
  | _ => none }
def LawS930003DExactWrongFalsely : Prop := lawS930003DExactRow.holds Ycom.pinned (OpenSpec.ofChange lawS930003DExactWrong)

/-- 'tlv.LawS930003DBuilt': WHATEVER THE INPUT: true; the input reads as it did. -/
def lawS930003DBuiltSpec : ChangeSpec := { name := "lawS930003DBuilt", fn := fun _ => fun
  | [d1, d2, d3, d4, d5, d6] => { results := [.lit (.bool true)], args := [d1, d2, d3, d4, d5, d6] }
  | _ => none }
def lawS930003DBuiltRow : OpenClaim := { program := "ymbrco", sum := "bf489761b8130877ecbbc8bac4c7ee23dabc31fbf6c3c209bcc4bb5ba5f7aa8a", func := "example.com/own/tlv.LawS930003DBuilt", spec := "lawS930003DBuilt", apart := false }
def LawS930003DBuiltSaid : Prop := lawS930003DBuiltRow.holds Ycom.pinned (OpenSpec.ofChange lawS930003DBuiltSpec)

/-- ITS FALSE NEIGHBOUR: 'it returns false'. Refute it at one input. -/
def lawS930003DBuiltWrong : ChangeSpec := { name := "lawS930003DBuilt", fn := fun _ => fun
  | [d1, d2, d3, d4, d5, d6] => { results := [.lit (.bool false)], args := [d1, d2, d3, d4, d5, d6] }
  | _ => none }
def LawS930003DBuiltWrongFalsely : Prop := lawS930003DBuiltRow.holds Ycom.pinned (OpenSpec.ofChange lawS930003DBuiltWrong)

/-- 'tlv.LawS930003DShift': WHATEVER THE INPUT: true; the input reads as it did. -/
def lawS930003DShiftSpec : ChangeSpec := { name := "lawS930003DShift", fn := fun _ => fun
  | [d1, d2] => { results := [.lit (.bool true)], args := [d1, d2] }
  | _ => none }
def lawS930003DShiftRow : OpenClaim := { program := "ymbrco", sum := "bf489761b8130877ecbbc8bac4c7ee23dabc31fbf6c3c209bcc4bb5ba5f7aa8a", func := "example.com/own/tlv.LawS930003DShift", spec := "lawS930003DShift", apart := false }
def LawS930003DShiftSaid : Prop := lawS930003DShiftRow.holds Ycom.pinned (OpenSpec.ofChange lawS930003DShiftSpec)

/-- ITS FALSE NEIGHBOUR: 'it returns false'. Refute it at one input. -/
def lawS930003DShiftWrong : ChangeSpec := { name := "lawS930003DShift", fn := fun _ => fun
  | [d1, d2] => { results := [.lit (.bool false)], args := [d1, d2] }
  | _ => none }
def LawS930003DShiftWrongFalsely : Prop := lawS930003DShiftRow.holds Ycom.pinned (OpenSpec.ofChange lawS930003DShiftWrong)

end Rows
end Go.Proofs.Ymbrco
