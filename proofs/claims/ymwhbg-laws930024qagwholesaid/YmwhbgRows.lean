/-
  No cell of these rows narrows 'for every input' (looked for: loops, veiled, ifaces, maps, wideKeys, modest, calm, conditions, laid).
  DERIVED. THE GIVEN ROWS OF THIS SEAT. 7 by the template 'for every input the law returns true; each argument reads behind the call as it read before'; 0 by the template 'total and deterministic' (their statements: YmwhbgTotals.lean).
  GIVEN WITH THE SEED: the statements are not yours to turn. If you find one false, say at which input.
  Laid BY PROGRAM, IN A SANDBOX (cutbox-rows.mjs): the forced cells as the released guide's own fill.sh prints them over the translation 960337b099738ef1… (all of the seat's roots in one cut). By AI agents, Wed Nov 11 2026. No macro, syntax, notation, axiom, sorry.
-/
import Derived.Test.YmwhbgChecked
import GoSem.Claim
import GoSem.ClaimJoined
import GoSem.ClaimMapViews
import Derived.JoinedTies
import Derived.KernelRfl
namespace Go.Proofs.Ymwhbg
/- THE CELL 'sum', in the pinned program and in every row, IS THE sha256 OF THE DUMP (.gsa) THAT YmwhbgProg.lean LOADS. Nothing in Lean hashes anything: it is a label: what it is worth is what the hold of that sum in a sandbox is worth. -/
noncomputable def Ybgv.pinned : Pinned := { name := "ymwhbg", sum := "960337b099738ef133a4338a0671740f93c4b13cf50444f87b4d8694d1f492d3", checked := Ybgv.checked }
namespace Rows
def none {H : Type} : Left H := { results := [], args := [] }

/-- 'lru.LawS930024QABWhole': WHATEVER THE INPUT: true; the input reads as it did. -/
def lawS930024QABWholeSpec : ChangeSpec := { name := "lawS930024QABWhole", fn := fun _ => fun
  | [d1, d2, d3] => { results := [.lit (.bool true)], args := [d1, d2, d3] }
  | _ => none }
def lawS930024QABWholeRow : OpenClaim := { program := "ymwhbg", sum := "960337b099738ef133a4338a0671740f93c4b13cf50444f87b4d8694d1f492d3", func := "example.com/own/lru.LawS930024QABWhole", spec := "lawS930024QABWhole", apart := false }
def LawS930024QABWholeSaid : Prop := lawS930024QABWholeRow.holds Ybgv.pinned (OpenSpec.ofChange lawS930024QABWholeSpec)

/-- ITS FALSE NEIGHBOUR: 'it returns false'. Refute it at one input. -/
def lawS930024QABWholeWrong : ChangeSpec := { name := "lawS930024QABWhole", fn := fun _ => fun
  | [d1, d2, d3] => { results := [.lit (.bool false)], args := [d1, d2, d3] }
  | _ => none }
def LawS930024QABWholeWrongFalsely : Prop := lawS930024QABWholeRow.holds Ybgv.pinned (OpenSpec.ofChange lawS930024QABWholeWrong)

/-- 'lru.LawS930024QAAWhole': WHATEVER THE INPUT: true; the input reads as it did. -/
def lawS930024QAAWholeSpec : ChangeSpec := { name := "lawS930024QAAWhole", fn := fun _ => fun
  | [d1, d2] => { results := [.lit (.bool true)], args := [d1, d2] }
  | _ => none }
def lawS930024QAAWholeRow : OpenClaim := { program := "ymwhbg", sum := "960337b099738ef133a4338a0671740f93c4b13cf50444f87b4d8694d1f492d3", func := "example.com/own/lru.LawS930024QAAWhole", spec := "lawS930024QAAWhole", apart := false }
def LawS930024QAAWholeSaid : Prop := lawS930024QAAWholeRow.holds Ybgv.pinned (OpenSpec.ofChange lawS930024QAAWholeSpec)

/-- ITS FALSE NEIGHBOUR: 'it returns false'. Refute it at one input. -/
def lawS930024QAAWholeWrong : ChangeSpec := { name := "lawS930024QAAWhole", fn := fun _ => fun
  | [d1, d2] => { results := [.lit (.bool false)], args := [d1, d2] }
  | _ => none }
def LawS930024QAAWholeWrongFalsely : Prop := lawS930024QAAWholeRow.holds Ybgv.pinned (OpenSpec.ofChange lawS930024QAAWholeWrong)

/-- 'lru.LawS930024QAEWhole': WHATEVER THE INPUT: true; the input reads as it did. -/
def lawS930024QAEWholeSpec : ChangeSpec := { name := "lawS930024QAEWhole", fn := fun _ => fun
  | [d1, d2] => { results := [.lit (.bool true)], args := [d1, d2] }
  | _ => none }
def lawS930024QAEWholeRow : OpenClaim := { program := "ymwhbg", sum := "960337b099738ef133a4338a0671740f93c4b13cf50444f87b4d8694d1f492d3", func := "example.com/own/lru.LawS930024QAEWhole", spec := "lawS930024QAEWhole", apart := false }
def LawS930024QAEWholeSaid : Prop := lawS930024QAEWholeRow.holds Ybgv.pinned (OpenSpec.ofChange lawS930024QAEWholeSpec)

/-- ITS FALSE NEIGHBOUR: 'it returns false'. Refute it at one input. -/
def lawS930024QAEWholeWrong : ChangeSpec := { name := "lawS930024QAEWhole", fn := fun _ => fun
  | [d1, d2] => { results := [.lit (.bool false)], args := [d1, d2] }
  | _ => none }
def LawS930024QAEWholeWrongFalsely : Prop := lawS930024QAEWholeRow.holds Ybgv.pinned (OpenSpec.ofChange lawS930024QAEWholeWrong)

/-- 'lru.LawS930024QAFWhole': WHATEVER THE INPUT: true; the input reads as it did. -/
def lawS930024QAFWholeSpec : ChangeSpec := { name := "lawS930024QAFWhole", fn := fun _ => fun
  | [d1, d2, d3] => { results := [.lit (.bool true)], args := [d1, d2, d3] }
  | _ => none }
def lawS930024QAFWholeRow : OpenClaim := { program := "ymwhbg", sum := "960337b099738ef133a4338a0671740f93c4b13cf50444f87b4d8694d1f492d3", func := "example.com/own/lru.LawS930024QAFWhole", spec := "lawS930024QAFWhole", apart := false }
def LawS930024QAFWholeSaid : Prop := lawS930024QAFWholeRow.holds Ybgv.pinned (OpenSpec.ofChange lawS930024QAFWholeSpec)

/-- ITS FALSE NEIGHBOUR: 'it returns false'. Refute it at one input. -/
def lawS930024QAFWholeWrong : ChangeSpec := { name := "lawS930024QAFWhole", fn := fun _ => fun
  | [d1, d2, d3] => { results := [.lit (.bool false)], args := [d1, d2, d3] }
  | _ => none }
def LawS930024QAFWholeWrongFalsely : Prop := lawS930024QAFWholeRow.holds Ybgv.pinned (OpenSpec.ofChange lawS930024QAFWholeWrong)

/-- 'lru.LawS930024QACWhole': WHATEVER THE INPUT: true; the input reads as it did. -/
def lawS930024QACWholeSpec : ChangeSpec := { name := "lawS930024QACWhole", fn := fun _ => fun
  | [d1, d2, d3] => { results := [.lit (.bool true)], args := [d1, d2, d3] }
  | _ => none }
def lawS930024QACWholeRow : OpenClaim := { program := "ymwhbg", sum := "960337b099738ef133a4338a0671740f93c4b13cf50444f87b4d8694d1f492d3", func := "example.com/own/lru.LawS930024QACWhole", spec := "lawS930024QACWhole", apart := false }
def LawS930024QACWholeSaid : Prop := lawS930024QACWholeRow.holds Ybgv.pinned (OpenSpec.ofChange lawS930024QACWholeSpec)

/-- ITS FALSE NEIGHBOUR: 'it returns false'. Refute it at one input. -/
def lawS930024QACWholeWrong : ChangeSpec := { name := "lawS930024QACWhole", fn := fun _ => fun
  | [d1, d2, d3] => { results := [.lit (.bool false)], args := [d1, d2, d3] }
  | _ => none }
def LawS930024QACWholeWrongFalsely : Prop := lawS930024QACWholeRow.holds Ybgv.pinned (OpenSpec.ofChange lawS930024QACWholeWrong)

/-- 'lru.LawS930024QAGWhole': WHATEVER THE INPUT: true; the input reads as it did. -/
def lawS930024QAGWholeSpec : ChangeSpec := { name := "lawS930024QAGWhole", fn := fun _ => fun
  | [d1, d2, d3, d4, d5] => { results := [.lit (.bool true)], args := [d1, d2, d3, d4, d5] }
  | _ => none }
def lawS930024QAGWholeRow : OpenClaim := { program := "ymwhbg", sum := "960337b099738ef133a4338a0671740f93c4b13cf50444f87b4d8694d1f492d3", func := "example.com/own/lru.LawS930024QAGWhole", spec := "lawS930024QAGWhole", apart := false }
def LawS930024QAGWholeSaid : Prop := lawS930024QAGWholeRow.holds Ybgv.pinned (OpenSpec.ofChange lawS930024QAGWholeSpec)

/-- ITS FALSE NEIGHBOUR: 'it returns false'. Refute it at one input. -/
def lawS930024QAGWholeWrong : ChangeSpec := { name := "lawS930024QAGWhole", fn := fun _ => fun
  | [d1, d2, d3, d4, d5] => { results := [.lit (.bool false)], args := [d1, d2, d3, d4, d5] }
  | _ => none }
def LawS930024QAGWholeWrongFalsely : Prop := lawS930024QAGWholeRow.holds Ybgv.pinned (OpenSpec.ofChange lawS930024QAGWholeWrong)

/-- 'lru.LawS930024QADWhole': WHATEVER THE INPUT: true; the input reads as it did. -/
def lawS930024QADWholeSpec : ChangeSpec := { name := "lawS930024QADWhole", fn := fun _ => fun
  | [d1, d2, d3, d4] => { results := [.lit (.bool true)], args := [d1, d2, d3, d4] }
  | _ => none }
def lawS930024QADWholeRow : OpenClaim := { program := "ymwhbg", sum := "960337b099738ef133a4338a0671740f93c4b13cf50444f87b4d8694d1f492d3", func := "example.com/own/lru.LawS930024QADWhole", spec := "lawS930024QADWhole", apart := false }
def LawS930024QADWholeSaid : Prop := lawS930024QADWholeRow.holds Ybgv.pinned (OpenSpec.ofChange lawS930024QADWholeSpec)

/-- ITS FALSE NEIGHBOUR: 'it returns false'. Refute it at one input. -/
def lawS930024QADWholeWrong : ChangeSpec := { name := "lawS930024QADWhole", fn := fun _ => fun
  | [d1, d2, d3, d4] => { results := [.lit (.bool false)], args := [d1, d2, d3, d4] }
  | _ => none }
def LawS930024QADWholeWrongFalsely : Prop := lawS930024QADWholeRow.holds Ybgv.pinned (OpenSpec.ofChange lawS930024QADWholeWrong)

end Rows
end Go.Proofs.Ymwhbg
