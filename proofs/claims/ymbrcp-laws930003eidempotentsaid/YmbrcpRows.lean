/-
  No cell of these rows narrows 'for every input' (looked for: loops, veiled, ifaces, maps, wideKeys, modest, calm, conditions, laid).
  DERIVED. THE GIVEN ROWS OF THIS SEAT. 12 by the template 'for every input the law returns true; each argument reads behind the call as it read before'; 0 by the template 'total and deterministic' (their statements: YmbrcpTotals.lean).
  GIVEN WITH THE SEED: the statements are not yours to turn. If you find one false, say at which input.
  Laid BY PROGRAM, IN A SANDBOX (cutbox-rows.mjs): the forced cells as the released guide's own fill.sh prints them over the translation 7d815d27c41db475… (all of the seat's roots in one cut). By AI agents, Wed Nov 11 2026. No macro, syntax, notation, axiom, sorry.
-/
import Derived.Test.YmbrcpChecked
import GoSem.Claim
import GoSem.ClaimJoined
import GoSem.ClaimMapViews
import Derived.JoinedTies
import Derived.KernelRfl
namespace Go.Proofs.Ymbrcp
/- THE CELL 'sum', in the pinned program and in every row, IS THE sha256 OF THE DUMP (.gsa) THAT YmbrcpProg.lean LOADS. Nothing in Lean hashes anything: it is a label: what it is worth is what the hold of that sum in a sandbox is worth. -/
noncomputable def Ycpm.pinned : Pinned := { name := "ymbrcp", sum := "7d815d27c41db475e3f1bc048d671b62a3aa0f4e24133cc6de31b104fa8fe5f3", checked := Ycpm.checked }
namespace Rows
def none {H : Type} : Left H := { results := [], args := [] }

/-- 'tlv.LawS930003EExact': WHATEVER THE INPUT: true; the input reads as it did. -/
def lawS930003EExactSpec : ChangeSpec := { name := "lawS930003EExact", fn := fun _ => fun
  | [d] => { results := [.lit (.bool true)], args := [d] }
  | _ => none }
def lawS930003EExactRow : OpenClaim := { program := "ymbrcp", sum := "7d815d27c41db475e3f1bc048d671b62a3aa0f4e24133cc6de31b104fa8fe5f3", func := "example.com/own/tlv.LawS930003EExact", spec := "lawS930003EExact", apart := false }
def LawS930003EExactSaid : Prop := lawS930003EExactRow.holds Ycpm.pinned (OpenSpec.ofChange lawS930003EExactSpec)

/-- ITS FALSE NEIGHBOUR: 'it returns false'. Refute it at one input. -/
def lawS930003EExactWrong : ChangeSpec := { name := "lawS930003EExact", fn := fun _ => fun
  | [d] => { results := [.lit (.bool false)], args := [d] }
  | _ => none }
def LawS930003EExactWrongFalsely : Prop := lawS930003EExactRow.holds Ycpm.pinned (OpenSpec.ofChange lawS930003EExactWrong)

/-- 'tlv.LawS930003EFresh': WHATEVER THE INPUT: true; the input reads as it did. -/
def lawS930003EFreshSpec : ChangeSpec := { name := "lawS930003EFresh", fn := fun _ => fun
  | [d] => { results := [.lit (.bool true)], args := [d] }
  | _ => none }
def lawS930003EFreshRow : OpenClaim := { program := "ymbrcp", sum := "7d815d27c41db475e3f1bc048d671b62a3aa0f4e24133cc6de31b104fa8fe5f3", func := "example.com/own/tlv.LawS930003EFresh", spec := "lawS930003EFresh", apart := false }
def LawS930003EFreshSaid : Prop := lawS930003EFreshRow.holds Ycpm.pinned (OpenSpec.ofChange lawS930003EFreshSpec)

/-- ITS FALSE NEIGHBOUR: 'it returns false'. Refute it at one input. -/
def lawS930003EFreshWrong : ChangeSpec := { name := "lawS930003EFresh", fn := fun _ => fun
  | [d] => { results := [.lit (.bool false)], args := [d] }
  | _ => none }
def LawS930003EFreshWrongFalsely : Prop := lawS930003EFreshRow.holds Ycpm.pinned (OpenSpec.ofChange lawS930003EFreshWrong)

/-- 'tlv.LawS930003EIdempotent': WHATEVER THE INPUT: true; the input reads as it did. -/
def lawS930003EIdempotentSpec : ChangeSpec := { name := "lawS930003EIdempotent", fn := fun _ => fun
  | [d] => { results := [.lit (.bool true)], args := [d] }
  | _ => none }
def lawS930003EIdempotentRow : OpenClaim := { program := "ymbrcp", sum := "7d815d27c41db475e3f1bc048d671b62a3aa0f4e24133cc6de31b104fa8fe5f3", func := "example.com/own/tlv.LawS930003EIdempotent", spec := "lawS930003EIdempotent", apart := false }
def LawS930003EIdempotentSaid : Prop := lawS930003EIdempotentRow.holds Ycpm.pinned (OpenSpec.ofChange lawS930003EIdempotentSpec)

/-- ITS FALSE NEIGHBOUR: 'it returns false'. Refute it at one input. -/
def lawS930003EIdempotentWrong : ChangeSpec := { name := "lawS930003EIdempotent", fn := fun _ => fun
  | [d] => { results := [.lit (.bool false)], args := [d] }
  | _ => none }
def LawS930003EIdempotentWrongFalsely : Prop := lawS930003EIdempotentRow.holds Ycpm.pinned (OpenSpec.ofChange lawS930003EIdempotentWrong)

/-- 'tlv.LawS930003FExact': WHATEVER THE INPUT: true; the input reads as it did. -/
def lawS930003FExactSpec : ChangeSpec := { name := "lawS930003FExact", fn := fun _ => fun
  | [d] => { results := [.lit (.bool true)], args := [d] }
  | _ => none }
def lawS930003FExactRow : OpenClaim := { program := "ymbrcp", sum := "7d815d27c41db475e3f1bc048d671b62a3aa0f4e24133cc6de31b104fa8fe5f3", func := "example.com/own/tlv.LawS930003FExact", spec := "lawS930003FExact", apart := false }
def LawS930003FExactSaid : Prop := lawS930003FExactRow.holds Ycpm.pinned (OpenSpec.ofChange lawS930003FExactSpec)

/-- ITS FALSE NEIGHBOUR: 'it returns false'. Refute it at one input. -/
def lawS930003FExactWrong : ChangeSpec := { name := "lawS930003FExact", fn := fun _ => fun
  | [d] => { results := [.lit (.bool false)], args := [d] }
  | _ => none }
def LawS930003FExactWrongFalsely : Prop := lawS930003FExactRow.holds Ycpm.pinned (OpenSpec.ofChange lawS930003FExactWrong)

/-- 'tlv.LawS930003FLimit': WHATEVER THE INPUT: true; the input reads as it did. -/
def lawS930003FLimitSpec : ChangeSpec := { name := "lawS930003FLimit", fn := fun _ => fun
  | [d1, d2] => { results := [.lit (.bool true)], args := [d1, d2] }
  | _ => none }
def lawS930003FLimitRow : OpenClaim := { program := "ymbrcp", sum := "7d815d27c41db475e3f1bc048d671b62a3aa0f4e24133cc6de31b104fa8fe5f3", func := "example.com/own/tlv.LawS930003FLimit", spec := "lawS930003FLimit", apart := false }
def LawS930003FLimitSaid : Prop := lawS930003FLimitRow.holds Ycpm.pinned (OpenSpec.ofChange lawS930003FLimitSpec)

/-- ITS FALSE NEIGHBOUR: 'it returns false'. Refute it at one input. -/
def lawS930003FLimitWrong : ChangeSpec := { name := "lawS930003FLimit", fn := fun _ => fun
  | [d1, d2] => { results := [.lit (.bool false)], args := [d1, d2] }
  | _ => none }
def LawS930003FLimitWrongFalsely : Prop := lawS930003FLimitRow.holds Ycpm.pinned (OpenSpec.ofChange lawS930003FLimitWrong)

/-- 'tlv.LawS930003FLong': WHATEVER THE INPUT: true; the input reads as it did. -/
def lawS930003FLongSpec : ChangeSpec := { name := "lawS930003FLong", fn := fun _ => fun
  | [d1, d2, d3] => { results := [.lit (.bool true)], args := [d1, d2, d3] }
  | _ => none }
def lawS930003FLongRow : OpenClaim := { program := "ymbrcp", sum := "7d815d27c41db475e3f1bc048d671b62a3aa0f4e24133cc6de31b104fa8fe5f3", func := "example.com/own/tlv.LawS930003FLong", spec := "lawS930003FLong", apart := false }
def LawS930003FLongSaid : Prop := lawS930003FLongRow.holds Ycpm.pinned (OpenSpec.ofChange lawS930003FLongSpec)

/-- ITS FALSE NEIGHBOUR: 'it returns false'. Refute it at one input. -/
def lawS930003FLongWrong : ChangeSpec := { name := "lawS930003FLong", fn := fun _ => fun
  | [d1, d2, d3] => { results := [.lit (.bool false)], args := [d1, d2, d3] }
  | _ => none }
def LawS930003FLongWrongFalsely : Prop := lawS930003FLongRow.holds Ycpm.pinned (OpenSpec.ofChange lawS930003FLongWrong)

/-- 'tlv.LawS930003GExact': WHATEVER THE INPUT: true; the input reads as it did. -/
def lawS930003GExactSpec : ChangeSpec := { name := "lawS930003GExact", fn := fun _ => fun
  | [d1, d2] => { results := [.lit (.bool true)], args := [d1, d2] }
  | _ => none }
def lawS930003GExactRow : OpenClaim := { program := "ymbrcp", sum := "7d815d27c41db475e3f1bc048d671b62a3aa0f4e24133cc6de31b104fa8fe5f3", func := "example.com/own/tlv.LawS930003GExact", spec := "lawS930003GExact", apart := false }
def LawS930003GExactSaid : Prop := lawS930003GExactRow.holds Ycpm.pinned (OpenSpec.ofChange lawS930003GExactSpec)

/-- ITS FALSE NEIGHBOUR: 'it returns false'. Refute it at one input. -/
def lawS930003GExactWrong : ChangeSpec := { name := "lawS930003GExact", fn := fun _ => fun
  | [d1, d2] => { results := [.lit (.bool false)], args := [d1, d2] }
  | _ => none }
def LawS930003GExactWrongFalsely : Prop := lawS930003GExactRow.holds Ycpm.pinned (OpenSpec.ofChange lawS930003GExactWrong)

/-- 'tlv.LawS930003GFresh': WHATEVER THE INPUT: true; the input reads as it did. -/
def lawS930003GFreshSpec : ChangeSpec := { name := "lawS930003GFresh", fn := fun _ => fun
  | [d1, d2, d3, d4, d5, d6] => { results := [.lit (.bool true)], args := [d1, d2, d3, d4, d5, d6] }
  | _ => none }
def lawS930003GFreshRow : OpenClaim := { program := "ymbrcp", sum := "7d815d27c41db475e3f1bc048d671b62a3aa0f4e24133cc6de31b104fa8fe5f3", func := "example.com/own/tlv.LawS930003GFresh", spec := "lawS930003GFresh", apart := false }
def LawS930003GFreshSaid : Prop := lawS930003GFreshRow.holds Ycpm.pinned (OpenSpec.ofChange lawS930003GFreshSpec)

/-- ITS FALSE NEIGHBOUR: 'it returns false'. Refute it at one input. -/
def lawS930003GFreshWrong : ChangeSpec := { name := "lawS930003GFresh", fn := fun _ => fun
  | [d1, d2, d3, d4, d5, d6] => { results := [.lit (.bool false)], args := [d1, d2, d3, d4, d5, d6] }
  | _ => none }
def LawS930003GFreshWrongFalsely : Prop := lawS930003GFreshRow.holds Ycpm.pinned (OpenSpec.ofChange lawS930003GFreshWrong)

/-- 'tlv.LawS930003GCut': WHATEVER THE INPUT: true; the input reads as it did. -/
def lawS930003GCutSpec : ChangeSpec := { name := "lawS930003GCut", fn := fun _ => fun
  | [d1, d2, d3, d4, d5, d6] => { results := [.lit (.bool true)], args := [d1, d2, d3, d4, d5, d6] }
  | _ => none }
def lawS930003GCutRow : OpenClaim := { program := "ymbrcp", sum := "7d815d27c41db475e3f1bc048d671b62a3aa0f4e24133cc6de31b104fa8fe5f3", func := "example.com/own/tlv.LawS930003GCut", spec := "lawS930003GCut", apart := false }
def LawS930003GCutSaid : Prop := lawS930003GCutRow.holds Ycpm.pinned (OpenSpec.ofChange lawS930003GCutSpec)

/-- ITS FALSE NEIGHBOUR: 'it returns false'. Refute it at one input. -/
def lawS930003GCutWrong : ChangeSpec := { name := "lawS930003GCut", fn := fun _ => fun
  | [d1, d2, d3, d4, d5, d6] => { results := [.lit (.bool false)], args := [d1, d2, d3, d4, d5, d6] }
  | _ => none }
def LawS930003GCutWrongFalsely : Prop := lawS930003GCutRow.holds Ycpm.pinned (OpenSpec.ofChange lawS930003GCutWrong)

/-- 'tlv.LawS930003HWire': WHATEVER THE INPUT: true; the input reads as it did. -/
def lawS930003HWireSpec : ChangeSpec := { name := "lawS930003HWire", fn := fun _ => fun
  | [d] => { results := [.lit (.bool true)], args := [d] }
  | _ => none }
def lawS930003HWireRow : OpenClaim := { program := "ymbrcp", sum := "7d815d27c41db475e3f1bc048d671b62a3aa0f4e24133cc6de31b104fa8fe5f3", func := "example.com/own/tlv.LawS930003HWire", spec := "lawS930003HWire", apart := false }
def LawS930003HWireSaid : Prop := lawS930003HWireRow.holds Ycpm.pinned (OpenSpec.ofChange lawS930003HWireSpec)

/-- ITS FALSE NEIGHBOUR: 'it returns false'. Refute it at one input. -/
def lawS930003HWireWrong : ChangeSpec := { name := "lawS930003HWire", fn := fun _ => fun
  | [d] => { results := [.lit (.bool false)], args := [d] }
  | _ => none }
def LawS930003HWireWrongFalsely : Prop := lawS930003HWireRow.holds Ycpm.pinned (OpenSpec.ofChange lawS930003HWireWrong)

/-- 'tlv.LawS930003HBorders': WHATEVER THE INPUT: true; the input reads as it did. -/
def lawS930003HBordersSpec : ChangeSpec := { name := "lawS930003HBorders", fn := fun _ => fun
  | [d1, d2, d3] => { results := [.lit (.bool true)], args := [d1, d2, d3] }
  | _ => none }
def lawS930003HBordersRow : OpenClaim := { program := "ymbrcp", sum := "7d815d27c41db475e3f1bc048d671b62a3aa0f4e24133cc6de31b104fa8fe5f3", func := "example.com/own/tlv.LawS930003HBorders", spec := "lawS930003HBorders", apart := false }
def LawS930003HBordersSaid : Prop := lawS930003HBordersRow.holds Ycpm.pinned (OpenSpec.ofChange lawS930003HBordersSpec)

/-- ITS FALSE NEIGHBOUR: 'it returns false'. Refute it at one input. -/
def lawS930003HBordersWrong : ChangeSpec := { name := "lawS930003HBorders", fn := fun _ => fun
  | [d1, d2, d3] => { results := [.lit (.bool false)], args := [d1, d2, d3] }
  | _ => none }
def LawS930003HBordersWrongFalsely : Prop := lawS930003HBordersRow.holds Ycpm.pinned (OpenSpec.ofChange lawS930003HBordersWrong)

/-- 'tlv.LawS930003HRound': WHATEVER THE INPUT: true; the input reads as it did. -/
def lawS930003HRoundSpec : ChangeSpec := { name := "lawS930003HRound", fn := fun _ => fun
  | [d] => { results := [.lit (.bool true)], args := [d] }
  | _ => none }
def lawS930003HRoundRow : OpenClaim := { program := "ymbrcp", sum := "7d815d27c41db475e3f1bc048d671b62a3aa0f4e24133cc6de31b104fa8fe5f3", func := "example.com/own/tlv.LawS930003HRound", spec := "lawS930003HRound", apart := false }
def LawS930003HRoundSaid : Prop := lawS930003HRoundRow.holds Ycpm.pinned (OpenSpec.ofChange lawS930003HRoundSpec)

/-- ITS FALSE NEIGHBOUR: 'it returns false'. Refute it at one input. -/
def lawS930003HRoundWrong : ChangeSpec := { name := "lawS930003HRound", fn := fun _ => fun
  | [d] => { results := [.lit (.bool false)], args := [d] }
  | _ => none }
def LawS930003HRoundWrongFalsely : Prop := lawS930003HRoundRow.holds Ycpm.pinned (OpenSpec.ofChange lawS930003HRoundWrong)

end Rows
end Go.Proofs.Ymbrcp
