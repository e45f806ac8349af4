/-
  No cell of these rows narrows 'for every input' (looked for: loops, veiled, ifaces, maps, wideKeys, modest, calm, conditions, laid).
  DERIVED. THE GIVEN ROWS OF THIS SEAT. 4 by the template 'for every input the law returns true; each argument reads behind the call as it read before'; 0 by the template 'total and deterministic' (their statements: YtoifodabfpbjlaaTotals.lean).
  GIVEN WITH THE SEED: the statements are not yours to turn. If you find one false, say at which input.
  Laid BY PROGRAM, IN A SANDBOX (cutbox-rows.mjs): the forced cells as the released guide's own fill.sh prints them over the translation f18200e731ef8a14… (all of the seat's roots in one cut). By AI agents, Wed Nov 11 2026. No macro, syntax, notation, axiom, sorry.
-/
import Derived.Test.YtoifodabfpbjlaaChecked
import GoSem.Claim
import GoSem.ClaimJoined
import GoSem.ClaimMapViews
import Derived.JoinedTies
import Derived.KernelRfl
namespace Go.Proofs.Ytoifodabfpbjlaa
/- THE CELL 'sum', in the pinned program and in every row, IS THE sha256 OF THE DUMP (.gsa) THAT YtoifodabfpbjlaaProg.lean LOADS. Nothing in Lean hashes anything: it is a label: what it is worth is what the hold of that sum in a sandbox is worth. -/
noncomputable def Try.pinned : Pinned := { name := "ytoifodabfpbjlaa", sum := "f18200e731ef8a14f8130fc12d66518258e8bc4ba43d66c01fc56f9445403948", checked := Try.checked }
namespace Rows
def none {H : Type} : Left H := { results := [], args := [] }

/-- 'pairlegallaw17.ObjectSums': WHATEVER THE INPUT: true; the input reads as it did. -/
def objectSumsSpec : ChangeSpec := { name := "objectSums", fn := fun _ => fun
  | [d] => { results := [.lit (.bool true)], args := [d] }
  | _ => none }
def objectSumsRow : OpenClaim := { program := "ytoifodabfpbjlaa", sum := "f18200e731ef8a14f8130fc12d66518258e8bc4ba43d66c01fc56f9445403948", func := "pairlegal/pairlegallaw17.ObjectSums", spec := "objectSums", apart := false }
def ObjectSumsSaid : Prop := objectSumsRow.holds Try.pinned (OpenSpec.ofChange objectSumsSpec)

/-- ITS FALSE NEIGHBOUR: 'it returns false'. Refute it at one input. -/
def objectSumsWrong : ChangeSpec := { name := "objectSums", fn := fun _ => fun
  | [d] => { results := [.lit (.bool false)], args := [d] }
  | _ => none }
def ObjectSumsWrongFalsely : Prop := objectSumsRow.holds Try.pinned (OpenSpec.ofChange objectSumsWrong)

/-- 'pairlegallaw17.ObjectTells': WHATEVER THE INPUT: true; the input reads as it did. -/
def objectTellsSpec : ChangeSpec := { name := "objectTells", fn := fun _ => fun
  | [d1, d2] => { results := [.lit (.bool true)], args := [d1, d2] }
  | _ => none }
def objectTellsRow : OpenClaim := { program := "ytoifodabfpbjlaa", sum := "f18200e731ef8a14f8130fc12d66518258e8bc4ba43d66c01fc56f9445403948", func := "pairlegal/pairlegallaw17.ObjectTells", spec := "objectTells", apart := false }
def ObjectTellsSaid : Prop := objectTellsRow.holds Try.pinned (OpenSpec.ofChange objectTellsSpec)

/-- ITS FALSE NEIGHBOUR: 'it returns false'. Refute it at one input. -/
def objectTellsWrong : ChangeSpec := { name := "objectTells", fn := fun _ => fun
  | [d1, d2] => { results := [.lit (.bool false)], args := [d1, d2] }
  | _ => none }
def ObjectTellsWrongFalsely : Prop := objectTellsRow.holds Try.pinned (OpenSpec.ofChange objectTellsWrong)

/-- 'pairlegallaw17.ObjectTurns': WHATEVER THE INPUT: true; the input reads as it did. -/
def objectTurnsSpec : ChangeSpec := { name := "objectTurns", fn := fun _ => fun
  | [d1, d2] => { results := [.lit (.bool true)], args := [d1, d2] }
  | _ => none }
def objectTurnsRow : OpenClaim := { program := "ytoifodabfpbjlaa", sum := "f18200e731ef8a14f8130fc12d66518258e8bc4ba43d66c01fc56f9445403948", func := "pairlegal/pairlegallaw17.ObjectTurns", spec := "objectTurns", apart := false }
def ObjectTurnsSaid : Prop := objectTurnsRow.holds Try.pinned (OpenSpec.ofChange objectTurnsSpec)

/-- ITS FALSE NEIGHBOUR: 'it returns false'. Refute it at one input. -/
def objectTurnsWrong : ChangeSpec := { name := "objectTurns", fn := fun _ => fun
  | [d1, d2] => { results := [.lit (.bool false)], args := [d1, d2] }
  | _ => none }
def ObjectTurnsWrongFalsely : Prop := objectTurnsRow.holds Try.pinned (OpenSpec.ofChange objectTurnsWrong)

/-- 'pairlegallaw17.ObjectGuards': WHATEVER THE INPUT: true; the input reads as it did. -/
def objectGuardsSpec : ChangeSpec := { name := "objectGuards", fn := fun _ => fun
  | [d1, d2, d3, d4] => { results := [.lit (.bool true)], args := [d1, d2, d3, d4] }
  | _ => none }
def objectGuardsRow : OpenClaim := { program := "ytoifodabfpbjlaa", sum := "f18200e731ef8a14f8130fc12d66518258e8bc4ba43d66c01fc56f9445403948", func := "pairlegal/pairlegallaw17.ObjectGuards", spec := "objectGuards", apart := false }
def ObjectGuardsSaid : Prop := objectGuardsRow.holds Try.pinned (OpenSpec.ofChange objectGuardsSpec)

/-- ITS FALSE NEIGHBOUR: 'it returns false'. Refute it at one input. -/
def objectGuardsWrong : ChangeSpec := { name := "objectGuards", fn := fun _ => fun
  | [d1, d2, d3, d4] => { results := [.lit (.bool false)], args := [d1, d2, d3, d4] }
  | _ => none }
def ObjectGuardsWrongFalsely : Prop := objectGuardsRow.holds Try.pinned (OpenSpec.ofChange objectGuardsWrong)

/- THE SECOND FORM. 'bulk': how many values and letters a reading holds, each counted each time it is reached (what is shared counts as often as it is met; a slice's spare places count too). A statement '..UptoSaid' is the law's where the arguments, and the package variables that the reading takes, are together of bulk at most 1048576: NARROWER than '..Said'. Prove '..Said' where nothing that the law and all that it calls make is longer than what came in: it says more and counts as full. Else prove '..UptoSaid'. A law counts once. -/
mutual
def uptoBulk {H : Type} : DataW H → Nat
  | .lit (.string bytes) => bytes.length + 1
  | .lit _ => 1
  | .nil => 1
  | .ptr d => uptoBulk d + 1
  | .slice elems spare => uptoBulkAll elems + uptoBulkAll spare + 1
  | .agg parts => uptoBulkAll parts + 1
  | .iface _ d => uptoBulk d + 1
  | .map entries => uptoBulkEntries entries + 1
  | .held _ => 1
def uptoBulkAll {H : Type} : List (DataW H) → Nat
  | [] => 0
  | d :: r => uptoBulk d + uptoBulkAll r
def uptoBulkEntries {H : Type} : List (Lit × DataW H) → Nat
  | [] => 0
  | x :: r => uptoBulkEntry x + uptoBulkEntries r
def uptoBulkEntry {H : Type} : Lit × DataW H → Nat
  | (.string bytes, d) => bytes.length + uptoBulk d + 1
  | (_, d) => uptoBulk d + 1
 end
def uptoSmall : (H : Type) → List (DataW H) → Bool := fun _ ds => decide (uptoBulkAll ds ≤ 1048576)
def OpenSpec.upto (s : _root_.Go.ChangeSpec) : _root_.Go.OpenSpec := { _root_.Go.OpenSpec.ofChange s with cond := some uptoSmall }

/-- 'pairlegallaw17.ObjectSums', WHERE WHAT IT READS IS OF BULK AT MOST 1048576: true; the input reads as it did. -/
def objectSumsUptoRow : OpenClaim := { program := "ytoifodabfpbjlaa", sum := "f18200e731ef8a14f8130fc12d66518258e8bc4ba43d66c01fc56f9445403948", func := "pairlegal/pairlegallaw17.ObjectSums", spec := "objectSums", apart := false, narrowed := true }
def ObjectSumsUptoSaid : Prop := objectSumsUptoRow.holds Try.pinned (OpenSpec.upto objectSumsSpec)

/-- 'pairlegallaw17.ObjectTells', WHERE WHAT IT READS IS OF BULK AT MOST 1048576: true; the input reads as it did. -/
def objectTellsUptoRow : OpenClaim := { program := "ytoifodabfpbjlaa", sum := "f18200e731ef8a14f8130fc12d66518258e8bc4ba43d66c01fc56f9445403948", func := "pairlegal/pairlegallaw17.ObjectTells", spec := "objectTells", apart := false, narrowed := true }
def ObjectTellsUptoSaid : Prop := objectTellsUptoRow.holds Try.pinned (OpenSpec.upto objectTellsSpec)

/-- 'pairlegallaw17.ObjectTurns', WHERE WHAT IT READS IS OF BULK AT MOST 1048576: true; the input reads as it did. -/
def objectTurnsUptoRow : OpenClaim := { program := "ytoifodabfpbjlaa", sum := "f18200e731ef8a14f8130fc12d66518258e8bc4ba43d66c01fc56f9445403948", func := "pairlegal/pairlegallaw17.ObjectTurns", spec := "objectTurns", apart := false, narrowed := true }
def ObjectTurnsUptoSaid : Prop := objectTurnsUptoRow.holds Try.pinned (OpenSpec.upto objectTurnsSpec)

/-- 'pairlegallaw17.ObjectGuards', WHERE WHAT IT READS IS OF BULK AT MOST 1048576: true; the input reads as it did. -/
def objectGuardsUptoRow : OpenClaim := { program := "ytoifodabfpbjlaa", sum := "f18200e731ef8a14f8130fc12d66518258e8bc4ba43d66c01fc56f9445403948", func := "pairlegal/pairlegallaw17.ObjectGuards", spec := "objectGuards", apart := false, narrowed := true }
def ObjectGuardsUptoSaid : Prop := objectGuardsUptoRow.holds Try.pinned (OpenSpec.upto objectGuardsSpec)

end Rows
end Go.Proofs.Ytoifodabfpbjlaa
