/-
  No cell of these rows narrows 'for every input' (looked for: loops, veiled, ifaces, maps, wideKeys, modest, calm, conditions, laid).
  DERIVED. THE GIVEN ROWS OF THIS SEAT. 3 by the template 'for every input the law returns true; each argument reads behind the call as it read before'; 0 by the template 'total and deterministic' (their statements: YthfgkmjbfkociaaGreatTotals.lean).
  GIVEN WITH THE SEED: the statements are not yours to turn. If you find one false, say at which input.
  Laid BY PROGRAM, IN A SANDBOX (cutbox-rows.mjs): the forced cells as the released guide's own fill.sh prints them over the translation 94f7a7edbd1afce3… (all of the seat's roots in one cut). By AI agents, Wed Nov 11 2026. No macro, syntax, notation, axiom, sorry.
-/
import Derived.Test.YthfgkmjbfkociaaGreatChecked
import GoSem.Claim
import GoSem.ClaimJoined
import GoSem.ClaimMapViews
import Derived.JoinedTies
import Derived.KernelRfl
namespace Go.Proofs.YthfgkmjbfkociaaGreat
/- THE CELL 'sum', in the pinned program and in every row, IS THE sha256 OF THE DUMP (.gsa) THAT YthfgkmjbfkociaaGreatProg.lean LOADS. Nothing in Lean hashes anything: it is a label: what it is worth is what the hold of that sum in a sandbox is worth. -/
noncomputable def Tryz.pinned : Pinned := { name := "ythfgkmjbfkociaagreat", sum := "94f7a7edbd1afce321563e7ff432dbd55ecc009cec143c4459942cdf71051532", checked := Tryz.checked }
namespace Rows
def none {H : Type} : Left H := { results := [], args := [] }

/-- 'pairlegallaw14.ShelfUpper': WHATEVER THE INPUT: true; the input reads as it did. -/
def shelfUpperSpec : ChangeSpec := { name := "shelfUpper", fn := fun _ => fun
  | [d] => { results := [.lit (.bool true)], args := [d] }
  | _ => none }
def shelfUpperRow : OpenClaim := { program := "ythfgkmjbfkociaagreat", sum := "94f7a7edbd1afce321563e7ff432dbd55ecc009cec143c4459942cdf71051532", func := "pairlegal/pairlegallaw14.ShelfUpper", spec := "shelfUpper", inPlace := ["internal/bytealg.abigen_runtime_cmpstring", "internal/bytealg.IndexByteString"], unfollowed := true, recurses := true, apart := false }
def ShelfUpperSaid : Prop := shelfUpperRow.holds Tryz.pinned (OpenSpec.ofChange shelfUpperSpec)

/-- ITS FALSE NEIGHBOUR: 'it returns false'. Refute it at one input. -/
def shelfUpperWrong : ChangeSpec := { name := "shelfUpper", fn := fun _ => fun
  | [d] => { results := [.lit (.bool false)], args := [d] }
  | _ => none }
def ShelfUpperWrongFalsely : Prop := shelfUpperRow.holds Tryz.pinned (OpenSpec.ofChange shelfUpperWrong)

/-- 'pairlegallaw14.ShelfRot13': WHATEVER THE INPUT: true; the input reads as it did. -/
def shelfRot13Spec : ChangeSpec := { name := "shelfRot13", fn := fun _ => fun
  | [d] => { results := [.lit (.bool true)], args := [d] }
  | _ => none }
def shelfRot13Row : OpenClaim := { program := "ythfgkmjbfkociaagreat", sum := "94f7a7edbd1afce321563e7ff432dbd55ecc009cec143c4459942cdf71051532", func := "pairlegal/pairlegallaw14.ShelfRot13", spec := "shelfRot13", inPlace := ["internal/bytealg.abigen_runtime_cmpstring", "internal/bytealg.IndexByteString"], unfollowed := true, recurses := true, apart := false }
def ShelfRot13Said : Prop := shelfRot13Row.holds Tryz.pinned (OpenSpec.ofChange shelfRot13Spec)

/-- ITS FALSE NEIGHBOUR: 'it returns false'. Refute it at one input. -/
def shelfRot13Wrong : ChangeSpec := { name := "shelfRot13", fn := fun _ => fun
  | [d] => { results := [.lit (.bool false)], args := [d] }
  | _ => none }
def ShelfRot13WrongFalsely : Prop := shelfRot13Row.holds Tryz.pinned (OpenSpec.ofChange shelfRot13Wrong)

/-- 'pairlegallaw14.ShelfHex': WHATEVER THE INPUT: true; the input reads as it did. -/
def shelfHexSpec : ChangeSpec := { name := "shelfHex", fn := fun _ => fun
  | [d] => { results := [.lit (.bool true)], args := [d] }
  | _ => none }
def shelfHexRow : OpenClaim := { program := "ythfgkmjbfkociaagreat", sum := "94f7a7edbd1afce321563e7ff432dbd55ecc009cec143c4459942cdf71051532", func := "pairlegal/pairlegallaw14.ShelfHex", spec := "shelfHex", inPlace := ["internal/bytealg.abigen_runtime_cmpstring", "internal/bytealg.IndexByteString"], unfollowed := true, recurses := true, apart := false }
def ShelfHexSaid : Prop := shelfHexRow.holds Tryz.pinned (OpenSpec.ofChange shelfHexSpec)

/-- ITS FALSE NEIGHBOUR: 'it returns false'. Refute it at one input. -/
def shelfHexWrong : ChangeSpec := { name := "shelfHex", fn := fun _ => fun
  | [d] => { results := [.lit (.bool false)], args := [d] }
  | _ => none }
def ShelfHexWrongFalsely : Prop := shelfHexRow.holds Tryz.pinned (OpenSpec.ofChange shelfHexWrong)

/- THE SECOND FORM. 'bulk': how many values and letters a reading holds, each counted each time it is reached (what is shared counts as often as it is met; a slice's spare places count too). A statement '..UptoSaid' is the law's where the arguments, and the package variables that the reading takes, are together of bulk at most 1048576: NARROWER than '..Said'. Prove '..Said' where nothing that the law and all that it calls make is longer than what came in: it says more and counts as full. Else prove '..UptoSaid'. A law counts once. -/
mutual
def uptoBulk {H : Type} : DataW H → Nat
  | .lit (.string bytes) => bytes.length + 1
  | .lit _ => 1
  | .nil => 1
  | .ptr d => uptoBulk d + 1
  | .slice elems spare => uptoBulkAll elems + uptoBulkAll spare + 1
  | .agg parts => uptoBulkAll parts + 1
  | .iface _ d => uptoBulk d + 1
  | .map entries => uptoBulkEntries entries + 1
  | .held _ => 1
def uptoBulkAll {H : Type} : List (DataW H) → Nat
  | [] => 0
  | d :: r => uptoBulk d + uptoBulkAll r
def uptoBulkEntries {H : Type} : List (Lit × DataW H) → Nat
  | [] => 0
  | x :: r => uptoBulkEntry x + uptoBulkEntries r
def uptoBulkEntry {H : Type} : Lit × DataW H → Nat
  | (.string bytes, d) => bytes.length + uptoBulk d + 1
  | (_, d) => uptoBulk d + 1
 end
def uptoSmall : (H : Type) → List (DataW H) → Bool := fun _ ds => decide (uptoBulkAll ds ≤ 1048576)
def OpenSpec.upto (s : _root_.Go.ChangeSpec) : _root_.Go.OpenSpec := { _root_.Go.OpenSpec.ofChange s with cond := some uptoSmall }

/-- 'pairlegallaw14.ShelfUpper', WHERE WHAT IT READS IS OF BULK AT MOST 1048576: true; the input reads as it did. -/
def shelfUpperUptoRow : OpenClaim := { program := "ythfgkmjbfkociaagreat", sum := "94f7a7edbd1afce321563e7ff432dbd55ecc009cec143c4459942cdf71051532", func := "pairlegal/pairlegallaw14.ShelfUpper", spec := "shelfUpper", inPlace := ["internal/bytealg.abigen_runtime_cmpstring", "internal/bytealg.IndexByteString"], unfollowed := true, recurses := true, apart := false, narrowed := true }
def ShelfUpperUptoSaid : Prop := shelfUpperUptoRow.holds Tryz.pinned (OpenSpec.upto shelfUpperSpec)

/-- 'pairlegallaw14.ShelfRot13', WHERE WHAT IT READS IS OF BULK AT MOST 1048576: true; the input reads as it did. -/
def shelfRot13UptoRow : OpenClaim := { program := "ythfgkmjbfkociaagreat", sum := "94f7a7edbd1afce321563e7ff432dbd55ecc009cec143c4459942cdf71051532", func := "pairlegal/pairlegallaw14.ShelfRot13", spec := "shelfRot13", inPlace := ["internal/bytealg.abigen_runtime_cmpstring", "internal/bytealg.IndexByteString"], unfollowed := true, recurses := true, apart := false, narrowed := true }
def ShelfRot13UptoSaid : Prop := shelfRot13UptoRow.holds Tryz.pinned (OpenSpec.upto shelfRot13Spec)

/-- 'pairlegallaw14.ShelfHex', WHERE WHAT IT READS IS OF BULK AT MOST 1048576: true; the input reads as it did. -/
def shelfHexUptoRow : OpenClaim := { program := "ythfgkmjbfkociaagreat", sum := "94f7a7edbd1afce321563e7ff432dbd55ecc009cec143c4459942cdf71051532", func := "pairlegal/pairlegallaw14.ShelfHex", spec := "shelfHex", inPlace := ["internal/bytealg.abigen_runtime_cmpstring", "internal/bytealg.IndexByteString"], unfollowed := true, recurses := true, apart := false, narrowed := true }
def ShelfHexUptoSaid : Prop := shelfHexUptoRow.holds Tryz.pinned (OpenSpec.upto shelfHexSpec)

end Rows
end Go.Proofs.YthfgkmjbfkociaaGreat
