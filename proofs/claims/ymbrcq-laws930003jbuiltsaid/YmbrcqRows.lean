/-
  No cell of these rows narrows 'for every input' (looked for: loops, veiled, ifaces, maps, wideKeys, modest, calm, conditions, laid).
  DERIVED. THE GIVEN ROWS OF THIS SEAT. 12 by the template 'for every input the law returns true; each argument reads behind the call as it read before'; 0 by the template 'total and deterministic' (their statements: YmbrcqTotals.lean).
  GIVEN WITH THE SEED: the statements are not yours to turn. If you find one false, say at which input.
  Laid BY PROGRAM, IN A SANDBOX (cutbox-rows.mjs): the forced cells as the released guide's own fill.sh prints them over the translation 3f525b55f83cdd3a… (all of the seat's roots in one cut). By AI agents, Wed Nov 11 2026. No macro, syntax, notation, axiom, sorry.
-/
import Derived.Test.YmbrcqChecked
import GoSem.Claim
import GoSem.ClaimJoined
import GoSem.ClaimMapViews
import Derived.JoinedTies
import Derived.KernelRfl
namespace Go.Proofs.Ymbrcq
/- THE CELL 'sum', in the pinned program and in every row, IS THE sha256 OF THE DUMP (.gsa) THAT YmbrcqProg.lean LOADS. Nothing in Lean hashes anything: it is a label: what it is worth is what the hold of that sum in a sandbox is worth. -/
noncomputable def Ycqm.pinned : Pinned := { name := "ymbrcq", sum := "3f525b55f83cdd3a5066be29d7bf70b72ebc00002ca0fc54bf853f68c0f083c4", checked := Ycqm.checked }
namespace Rows
def none {H : Type} : Left H := { results := [], args := [] }

/-- 'tlv.LawS930003IExact': WHATEVER THE INPUT: true; the input reads as it did. -/
def lawS930003IExactSpec : ChangeSpec := { name := "lawS930003IExact", fn := fun _ => fun
  | [d1, d2] => { results := [.lit (.bool true)], args := [d1, d2] }
  | _ => none }
def lawS930003IExactRow : OpenClaim := { program := "ymbrcq", sum := "3f525b55f83cdd3a5066be29d7bf70b72ebc00002ca0fc54bf853f68c0f083c4", func := "example.com/own/tlv.LawS930003IExact", spec := "lawS930003IExact", apart := false }
def LawS930003IExactSaid : Prop := lawS930003IExactRow.holds Ycqm.pinned (OpenSpec.ofChange lawS930003IExactSpec)

/-- ITS FALSE NEIGHBOUR: 'it returns false'. Refute it at one input. -/
def lawS930003IExactWrong : ChangeSpec := { name := "lawS930003IExact", fn := fun _ => fun
  | [d1, d2] => { results := [.lit (.bool false)], args := [d1, d2] }
  | _ => none }
def LawS930003IExactWrongFalsely : Prop := lawS930003IExactRow.holds Ycqm.pinned (OpenSpec.ofChange lawS930003IExactWrong)

/-- 'tlv.LawS930003IPresent': WHATEVER THE INPUT: true; the input reads as it did. -/
def lawS930003IPresentSpec : ChangeSpec := { name := "lawS930003IPresent", fn := fun _ => fun
  | [d1, d2, d3] => { results := [.lit (.bool true)], args := [d1, d2, d3] }
  | _ => none }
def lawS930003IPresentRow : OpenClaim := { program := "ymbrcq", sum := "3f525b55f83cdd3a5066be29d7bf70b72ebc00002ca0fc54bf853f68c0f083c4", func := "example.com/own/tlv.LawS930003IPresent", spec := "lawS930003IPresent", apart := false }
def LawS930003IPresentSaid : Prop := lawS930003IPresentRow.holds Ycqm.pinned (OpenSpec.ofChange lawS930003IPresentSpec)

/-- ITS FALSE NEIGHBOUR: 'it returns false'. Refute it at one input. -/
def lawS930003IPresentWrong : ChangeSpec := { name := "lawS930003IPresent", fn := fun _ => fun
  | [d1, d2, d3] => { results := [.lit (.bool false)], args := [d1, d2, d3] }
  | _ => none }
def LawS930003IPresentWrongFalsely : Prop := lawS930003IPresentRow.holds Ycqm.pinned (OpenSpec.ofChange lawS930003IPresentWrong)

/-- 'tlv.LawS930003ISplit': WHATEVER THE INPUT: true; the input reads as it did. -/
def lawS930003ISplitSpec : ChangeSpec := { name := "lawS930003ISplit", fn := fun _ => fun
  | [d1, d2, d3] => { results := [.lit (.bool true)], args := [d1, d2, d3] }
  | _ => none }
def lawS930003ISplitRow : OpenClaim := { program := "ymbrcq", sum := "3f525b55f83cdd3a5066be29d7bf70b72ebc00002ca0fc54bf853f68c0f083c4", func := "example.com/own/tlv.LawS930003ISplit", spec := "lawS930003ISplit", apart := false }
def LawS930003ISplitSaid : Prop := lawS930003ISplitRow.holds Ycqm.pinned (OpenSpec.ofChange lawS930003ISplitSpec)

/-- ITS FALSE NEIGHBOUR: 'it returns false'. Refute it at one input. -/
def lawS930003ISplitWrong : ChangeSpec := { name := "lawS930003ISplit", fn := fun _ => fun
  | [d1, d2, d3] => { results := [.lit (.bool false)], args := [d1, d2, d3] }
  | _ => none }
def LawS930003ISplitWrongFalsely : Prop := lawS930003ISplitRow.holds Ycqm.pinned (OpenSpec.ofChange lawS930003ISplitWrong)

/-- 'tlv.LawS930003JSpec': WHATEVER THE INPUT: true; the input reads as it did. -/
def lawS930003JSpecSpec : ChangeSpec := { name := "lawS930003JSpec", fn := fun _ => fun
  | [d1, d2] => { results := [.lit (.bool true)], args := [d1, d2] }
  | _ => none }
def lawS930003JSpecRow : OpenClaim := { program := "ymbrcq", sum := "3f525b55f83cdd3a5066be29d7bf70b72ebc00002ca0fc54bf853f68c0f083c4", func := "example.com/own/tlv.LawS930003JSpec", spec := "lawS930003JSpec", apart := false }
def LawS930003JSpecSaid : Prop := lawS930003JSpecRow.holds Ycqm.pinned (OpenSpec.ofChange lawS930003JSpecSpec)

/-- ITS FALSE NEIGHBOUR: 'it returns false'. Refute it at one input. -/
def lawS930003JSpecWrong : ChangeSpec := { name := "lawS930003JSpec", fn := fun _ => fun
  | [d1, d2] => { results := [.lit (.bool false)], args := [d1, d2] }
  | _ => none }
def LawS930003JSpecWrongFalsely : Prop := lawS930003JSpecRow.holds Ycqm.pinned (OpenSpec.ofChange lawS930003JSpecWrong)

/-- 'tlv.LawS930003JBuilt': WHATEVER THE INPUT: true; the input reads as it did. -/
def lawS930003JBuiltSpec : ChangeSpec := { name := "lawS930003JBuilt", fn := fun _ => fun
  | [d1, d2, d3] => { results := [.lit (.bool true)], args := [d1, d2, d3] }
  | _ => none }
def lawS930003JBuiltRow : OpenClaim := { program := "ymbrcq", sum := "3f525b55f83cdd3a5066be29d7bf70b72ebc00002ca0fc54bf853f68c0f083c4", func := "example.com/own/tlv.LawS930003JBuilt", spec := "lawS930003JBuilt", apart := false }
def LawS930003JBuiltSaid : Prop := lawS930003JBuiltRow.holds Ycqm.pinned (OpenSpec.ofChange lawS930003JBuiltSpec)

/-- ITS FALSE NEIGHBOUR: 'it returns false'. Refute it at one input. -/
def lawS930003JBuiltWrong : ChangeSpec := { name := "lawS930003JBuilt", fn := fun _ => fun
  | [d1, d2, d3] => { results := [.lit (.bool false)], args := [d1, d2, d3] }
  | _ => none }
def LawS930003JBuiltWrongFalsely : Prop := lawS930003JBuiltRow.holds Ycqm.pinned (OpenSpec.ofChange lawS930003JBuiltWrong)

/-- 'tlv.LawS930003JEdge': WHATEVER THE INPUT: true; the input reads as it did. -/
def lawS930003JEdgeSpec : ChangeSpec := { name := "lawS930003JEdge", fn := fun _ => fun
  | [d1, d2, d3] => { results := [.lit (.bool true)], args := [d1, d2, d3] }
  | _ => none }
def lawS930003JEdgeRow : OpenClaim := { program := "ymbrcq", sum := "3f525b55f83cdd3a5066be29d7bf70b72ebc00002ca0fc54bf853f68c0f083c4", func := "example.com/own/tlv.LawS930003JEdge", spec := "lawS930003JEdge", apart := false }
def LawS930003JEdgeSaid : Prop := lawS930003JEdgeRow.holds Ycqm.pinned (OpenSpec.ofChange lawS930003JEdgeSpec)

/-- ITS FALSE NEIGHBOUR: 'it returns false'. Refute it at one input. -/
def lawS930003JEdgeWrong : ChangeSpec := { name := "lawS930003JEdge", fn := fun _ => fun
  | [d1, d2, d3] => { results := [.lit (.bool false)], args := [d1, d2, d3] }
  | _ => none }
def LawS930003JEdgeWrongFalsely : Prop := lawS930003JEdgeRow.holds Ycqm.pinned (OpenSpec.ofChange lawS930003JEdgeWrong)

/-- 'tlv.LawS930003KAutomaton': WHATEVER THE INPUT: true; the input reads as it did. -/
def lawS930003KAutomatonSpec : ChangeSpec := { name := "lawS930003KAutomaton", fn := fun _ => fun
  | [d] => { results := [.lit (.bool true)], args := [d] }
  | _ => none }
def lawS930003KAutomatonRow : OpenClaim := { program := "ymbrcq", sum := "3f525b55f83cdd3a5066be29d7bf70b72ebc00002ca0fc54bf853f68c0f083c4", func := "example.com/own/tlv.LawS930003KAutomaton", spec := "lawS930003KAutomaton", apart := false }
def LawS930003KAutomatonSaid : Prop := lawS930003KAutomatonRow.holds Ycqm.pinned (OpenSpec.ofChange lawS930003KAutomatonSpec)

/-- ITS FALSE NEIGHBOUR: 'it returns false'. Refute it at one input. -/
def lawS930003KAutomatonWrong : ChangeSpec := { name := "lawS930003KAutomaton", fn := fun _ => fun
  | [d] => { results := [.lit (.bool false)], args := [d] }
  | _ => none }
def LawS930003KAutomatonWrongFalsely : Prop := lawS930003KAutomatonRow.holds Ycqm.pinned (OpenSpec.ofChange lawS930003KAutomatonWrong)

/-- 'tlv.LawS930003KBuilt': WHATEVER THE INPUT: true; the input reads as it did. -/
def lawS930003KBuiltSpec : ChangeSpec := { name := "lawS930003KBuilt", fn := fun _ => fun
  | [d1, d2, d3, d4] => { results := [.lit (.bool true)], args := [d1, d2, d3, d4] }
  | _ => none }
def lawS930003KBuiltRow : OpenClaim := { program := "ymbrcq", sum := "3f525b55f83cdd3a5066be29d7bf70b72ebc00002ca0fc54bf853f68c0f083c4", func := "example.com/own/tlv.LawS930003KBuilt", spec := "lawS930003KBuilt", apart := false }
def LawS930003KBuiltSaid : Prop := lawS930003KBuiltRow.holds Ycqm.pinned (OpenSpec.ofChange lawS930003KBuiltSpec)

/-- ITS FALSE NEIGHBOUR: 'it returns false'. Refute it at one input. -/
def lawS930003KBuiltWrong : ChangeSpec := { name := "lawS930003KBuilt", fn := fun _ => fun
  | [d1, d2, d3, d4] => { results := [.lit (.bool false)], args := [d1, d2, d3, d4] }
  | _ => none }
def LawS930003KBuiltWrongFalsely : Prop := lawS930003KBuiltRow.holds Ycqm.pinned (OpenSpec.ofChange lawS930003KBuiltWrong)

/-- 'tlv.LawS930003KLimit': WHATEVER THE INPUT: true; the input reads as it did. -/
def lawS930003KLimitSpec : ChangeSpec := { name := "lawS930003KLimit", fn := fun _ => fun
  | [d1, d2] => { results := [.lit (.bool true)], args := [d1, d2] }
  | _ => none }
def lawS930003KLimitRow : OpenClaim := { program := "ymbrcq", sum := "3f525b55f83cdd3a5066be29d7bf70b72ebc00002ca0fc54bf853f68c0f083c4", func := "example.com/own/tlv.LawS930003KLimit", spec := "lawS930003KLimit", apart := false }
def LawS930003KLimitSaid : Prop := lawS930003KLimitRow.holds Ycqm.pinned (OpenSpec.ofChange lawS930003KLimitSpec)

/-- ITS FALSE NEIGHBOUR: 'it returns false'. Refute it at one input. -/
def lawS930003KLimitWrong : ChangeSpec := { name := "lawS930003KLimit", fn := fun _ => fun
  | [d1, d2] => { results := [.lit (.bool false)], args := [d1, d2] }
  | _ => none }
def LawS930003KLimitWrongFalsely : Prop := lawS930003KLimitRow.holds Ycqm.pinned (OpenSpec.ofChange lawS930003KLimitWrong)

/-- 'tlv.LawS930003LExact': WHATEVER THE INPUT: true; the input reads as it did. -/
def lawS930003LExactSpec : ChangeSpec := { name := "lawS930003LExact", fn := fun _ => fun
  | [d1, d2, d3] => { results := [.lit (.bool true)], args := [d1, d2, d3] }
  | _ => none }
def lawS930003LExactRow : OpenClaim := { program := "ymbrcq", sum := "3f525b55f83cdd3a5066be29d7bf70b72ebc00002ca0fc54bf853f68c0f083c4", func := "example.com/own/tlv.LawS930003LExact", spec := "lawS930003LExact", apart := false }
def LawS930003LExactSaid : Prop := lawS930003LExactRow.holds Ycqm.pinned (OpenSpec.ofChange lawS930003LExactSpec)

/-- ITS FALSE NEIGHBOUR: 'it returns false'. Refute it at one input. -/
def lawS930003LExactWrong : ChangeSpec := { name := "lawS930003LExact", fn := fun _ => fun
  | [d1, d2, d3] => { results := [.lit (.bool false)], args := [d1, d2, d3] }
  | _ => none }
def LawS930003LExactWrongFalsely : Prop := lawS930003LExactRow.holds Ycqm.pinned (OpenSpec.ofChange lawS930003LExactWrong)

/-- 'tlv.LawS930003LWire': WHATEVER THE INPUT: true; the input reads as it did. -/
def lawS930003LWireSpec : ChangeSpec := { name := "lawS930003LWire", fn := fun _ => fun
  | [d1, d2, d3, d4, d5] => { results := [.lit (.bool true)], args := [d1, d2, d3, d4, d5] }
  | _ => none }
def lawS930003LWireRow : OpenClaim := { program := "ymbrcq", sum := "3f525b55f83cdd3a5066be29d7bf70b72ebc00002ca0fc54bf853f68c0f083c4", func := "example.com/own/tlv.LawS930003LWire", spec := "lawS930003LWire", apart := false }
def LawS930003LWireSaid : Prop := lawS930003LWireRow.holds Ycqm.pinned (OpenSpec.ofChange lawS930003LWireSpec)

/-- ITS FALSE NEIGHBOUR: 'it returns false'. Refute it at one input. -/
def lawS930003LWireWrong : ChangeSpec := { name := "lawS930003LWire", fn := fun _ => fun
  | [d1, d2, d3, d4, d5] => { results := [.lit (.bool false)], args := [d1, d2, d3, d4, d5] }
  | _ => none }
def LawS930003LWireWrongFalsely : Prop := lawS930003LWireRow.holds Ycqm.pinned (OpenSpec.ofChange lawS930003LWireWrong)

/-- 'tlv.LawS930003LTotal': WHATEVER THE INPUT: true; the input reads as it did. -/
def lawS930003LTotalSpec : ChangeSpec := { name := "lawS930003LTotal", fn := fun _ => fun
  | [d1, d2] => { results := [.lit (.bool true)], args := [d1, d2] }
  | _ => none }
def lawS930003LTotalRow : OpenClaim := { program := "ymbrcq", sum := "3f525b55f83cdd3a5066be29d7bf70b72ebc00002ca0fc54bf853f68c0f083c4", func := "example.com/own/tlv.LawS930003LTotal", spec := "lawS930003LTotal", apart := false }
def LawS930003LTotalSaid : Prop := lawS930003LTotalRow.holds Ycqm.pinned (OpenSpec.ofChange lawS930003LTotalSpec)

/-- ITS FALSE NEIGHBOUR: 'it returns false'. Refute it at one input. -/
def lawS930003LTotalWrong : ChangeSpec := { name := "lawS930003LTotal", fn := fun _ => fun
  | [d1, d2] => { results := [.lit (.bool false)], args := [d1, d2] }
  | _ => none }
def LawS930003LTotalWrongFalsely : Prop := lawS930003LTotalRow.holds Ycqm.pinned (OpenSpec.ofChange lawS930003LTotalWrong)

end Rows
end Go.Proofs.Ymbrcq
