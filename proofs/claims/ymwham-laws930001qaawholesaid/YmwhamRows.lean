/-
  No cell of these rows narrows 'for every input' (looked for: loops, veiled, ifaces, maps, wideKeys, modest, calm, conditions, laid).
  DERIVED. THE GIVEN ROWS OF THIS SEAT. 4 by the template 'for every input the law returns true; each argument reads behind the call as it read before'; 0 by the template 'total and deterministic' (their statements: YmwhamTotals.lean).
  GIVEN WITH THE SEED: the statements are not yours to turn. If you find one false, say at which input.
  Laid BY PROGRAM, IN A SANDBOX (cutbox-rows.mjs): the forced cells as the released guide's own fill.sh prints them over the translation 4a42db4dbc078a66… (all of the seat's roots in one cut). By AI agents, Wed Nov 11 2026. No macro, syntax, notation, axiom, sorry.
-/
import Derived.Test.YmwhamChecked
import GoSem.Claim
import GoSem.ClaimJoined
import GoSem.ClaimMapViews
import Derived.JoinedTies
import Derived.KernelRfl
namespace Go.Proofs.Ymwham
/- THE CELL 'sum', in the pinned program and in every row, IS THE sha256 OF THE DUMP (.gsa) THAT YmwhamProg.lean LOADS. Nothing in Lean hashes anything: it is a label: what it is worth is what the hold of that sum in a sandbox is worth. -/
noncomputable def Yamv.pinned : Pinned := { name := "ymwham", sum := "4a42db4dbc078a66830a6e066f76ee1e68a65cfd277256603ec84fe7d4ac0e0f", checked := Yamv.checked }
namespace Rows
def none {H : Type} : Left H := { results := [], args := [] }

/-- 'varint.LawS930001QACWhole': WHATEVER THE INPUT: true; the input reads as it did. -/
def lawS930001QACWholeSpec : ChangeSpec := { name := "lawS930001QACWhole", fn := fun _ => fun
  | [d] => { results := [.lit (.bool true)], args := [d] }
  | _ => none }
def lawS930001QACWholeRow : OpenClaim := { program := "ymwham", sum := "4a42db4dbc078a66830a6e066f76ee1e68a65cfd277256603ec84fe7d4ac0e0f", func := "example.com/own/varint.LawS930001QACWhole", spec := "lawS930001QACWhole", apart := false }
def LawS930001QACWholeSaid : Prop := lawS930001QACWholeRow.holds Yamv.pinned (OpenSpec.ofChange lawS930001QACWholeSpec)

/-- ITS FALSE NEIGHBOUR: 'it returns false'. Refute it at one input. -/
def lawS930001QACWholeWrong : ChangeSpec := { name := "lawS930001QACWhole", fn := fun _ => fun
  | [d] => { results := [.lit (.bool false)], args := [d] }
  | _ => none }
def LawS930001QACWholeWrongFalsely : Prop := lawS930001QACWholeRow.holds Yamv.pinned (OpenSpec.ofChange lawS930001QACWholeWrong)

/-- 'varint.LawS930001QABWhole': WHATEVER THE INPUT: true; the input reads as it did. -/
def lawS930001QABWholeSpec : ChangeSpec := { name := "lawS930001QABWhole", fn := fun _ => fun
  | [d] => { results := [.lit (.bool true)], args := [d] }
  | _ => none }
def lawS930001QABWholeRow : OpenClaim := { program := "ymwham", sum := "4a42db4dbc078a66830a6e066f76ee1e68a65cfd277256603ec84fe7d4ac0e0f", func := "example.com/own/varint.LawS930001QABWhole", spec := "lawS930001QABWhole", apart := false }
def LawS930001QABWholeSaid : Prop := lawS930001QABWholeRow.holds Yamv.pinned (OpenSpec.ofChange lawS930001QABWholeSpec)

/-- ITS FALSE NEIGHBOUR: 'it returns false'. Refute it at one input. -/
def lawS930001QABWholeWrong : ChangeSpec := { name := "lawS930001QABWhole", fn := fun _ => fun
  | [d] => { results := [.lit (.bool false)], args := [d] }
  | _ => none }
def LawS930001QABWholeWrongFalsely : Prop := lawS930001QABWholeRow.holds Yamv.pinned (OpenSpec.ofChange lawS930001QABWholeWrong)

/-- 'varint.LawS930001QAAWhole': WHATEVER THE INPUT: true; the input reads as it did. -/
def lawS930001QAAWholeSpec : ChangeSpec := { name := "lawS930001QAAWhole", fn := fun _ => fun
  | [d] => { results := [.lit (.bool true)], args := [d] }
  | _ => none }
def lawS930001QAAWholeRow : OpenClaim := { program := "ymwham", sum := "4a42db4dbc078a66830a6e066f76ee1e68a65cfd277256603ec84fe7d4ac0e0f", func := "example.com/own/varint.LawS930001QAAWhole", spec := "lawS930001QAAWhole", apart := false }
def LawS930001QAAWholeSaid : Prop := lawS930001QAAWholeRow.holds Yamv.pinned (OpenSpec.ofChange lawS930001QAAWholeSpec)

/-- ITS FALSE NEIGHBOUR: 'it returns false'. Refute it at one input. -/
def lawS930001QAAWholeWrong : ChangeSpec := { name := "lawS930001QAAWhole", fn := fun _ => fun
  | [d] => { results := [.lit (.bool false)], args := [d] }
  | _ => none }
def LawS930001QAAWholeWrongFalsely : Prop := lawS930001QAAWholeRow.holds Yamv.pinned (OpenSpec.ofChange lawS930001QAAWholeWrong)

/-- 'varint.LawS930001QADWhole': WHATEVER THE INPUT: true; the input reads as it did. -/
def lawS930001QADWholeSpec : ChangeSpec := { name := "lawS930001QADWhole", fn := fun _ => fun
  | [d1, d2] => { results := [.lit (.bool true)], args := [d1, d2] }
  | _ => none }
def lawS930001QADWholeRow : OpenClaim := { program := "ymwham", sum := "4a42db4dbc078a66830a6e066f76ee1e68a65cfd277256603ec84fe7d4ac0e0f", func := "example.com/own/varint.LawS930001QADWhole", spec := "lawS930001QADWhole", apart := false }
def LawS930001QADWholeSaid : Prop := lawS930001QADWholeRow.holds Yamv.pinned (OpenSpec.ofChange lawS930001QADWholeSpec)

/-- ITS FALSE NEIGHBOUR: 'it returns false'. Refute it at one input. -/
def lawS930001QADWholeWrong : ChangeSpec := { name := "lawS930001QADWhole", fn := fun _ => fun
  | [d1, d2] => { results := [.lit (.bool false)], args := [d1, d2] }
  | _ => none }
def LawS930001QADWholeWrongFalsely : Prop := lawS930001QADWholeRow.holds Yamv.pinned (OpenSpec.ofChange lawS930001QADWholeWrong)

end Rows
end Go.Proofs.Ymwham
