/-
  No cell of these rows narrows 'for every input' (looked for: loops, veiled, ifaces, maps, wideKeys, modest, calm, conditions, laid).
  DERIVED. THE GIVEN ROWS OF THIS SEAT. 17 by the template 'for every input the law returns true; each argument reads behind the call as it read before'; 0 by the template 'total and deterministic' (their statements: YtgmmfjmdpbhjnaaGreatTotals.lean).
  GIVEN WITH THE SEED: the statements are not yours to turn. If you find one false, say at which input.
  Laid BY PROGRAM, IN A SANDBOX (cutbox-rows.mjs): the forced cells as the released guide's own fill.sh prints them over the translation 652e2f513898922d… (all of the seat's roots in one cut). By AI agents, Wed Nov 11 2026. No macro, syntax, notation, axiom, sorry.
-/
import Derived.Test.YtgmmfjmdpbhjnaaGreatChecked
import GoSem.Claim
import GoSem.ClaimJoined
import GoSem.ClaimMapViews
import Derived.JoinedTies
import Derived.KernelRfl
namespace Go.Proofs.YtgmmfjmdpbhjnaaGreat
/- THE CELL 'sum', in the pinned program and in every row, IS THE sha256 OF THE DUMP (.gsa) THAT YtgmmfjmdpbhjnaaGreatProg.lean LOADS. Nothing in Lean hashes anything: it is a label: what it is worth is what the hold of that sum in a sandbox is worth. -/
noncomputable def Tryz.pinned : Pinned := { name := "ytgmmfjmdpbhjnaagreat", sum := "652e2f513898922d15bfc439437146c7811b39e50b5c6fcd343056355988c169", checked := Tryz.checked }
namespace Rows
def none {H : Type} : Left H := { results := [], args := [] }

/-- 'pairlegallaw14.ShelfSort': WHATEVER THE INPUT: true; the input reads as it did. -/
def shelfSortSpec : ChangeSpec := { name := "shelfSort", fn := fun _ => fun
  | [d] => { results := [.lit (.bool true)], args := [d] }
  | _ => none }
def shelfSortRow : OpenClaim := { program := "ytgmmfjmdpbhjnaagreat", sum := "652e2f513898922d15bfc439437146c7811b39e50b5c6fcd343056355988c169", func := "pairlegal/pairlegallaw14.ShelfSort", spec := "shelfSort", inPlace := ["internal/bytealg.abigen_runtime_cmpstring", "internal/bytealg.IndexByteString"], unfollowed := true, recurses := true, apart := false }
def ShelfSortSaid : Prop := shelfSortRow.holds Tryz.pinned (OpenSpec.ofChange shelfSortSpec)

/-- ITS FALSE NEIGHBOUR: 'it returns false'. Refute it at one input. -/
def shelfSortWrong : ChangeSpec := { name := "shelfSort", fn := fun _ => fun
  | [d] => { results := [.lit (.bool false)], args := [d] }
  | _ => none }
def ShelfSortWrongFalsely : Prop := shelfSortRow.holds Tryz.pinned (OpenSpec.ofChange shelfSortWrong)

/-- 'pairlegallaw14.ShelfGcd': WHATEVER THE INPUT: true; the input reads as it did. -/
def shelfGcdSpec : ChangeSpec := { name := "shelfGcd", fn := fun _ => fun
  | [d1, d2, d3] => { results := [.lit (.bool true)], args := [d1, d2, d3] }
  | _ => none }
def shelfGcdRow : OpenClaim := { program := "ytgmmfjmdpbhjnaagreat", sum := "652e2f513898922d15bfc439437146c7811b39e50b5c6fcd343056355988c169", func := "pairlegal/pairlegallaw14.ShelfGcd", spec := "shelfGcd", inPlace := ["internal/bytealg.abigen_runtime_cmpstring", "internal/bytealg.IndexByteString"], unfollowed := true, recurses := true, apart := false }
def ShelfGcdSaid : Prop := shelfGcdRow.holds Tryz.pinned (OpenSpec.ofChange shelfGcdSpec)

/-- ITS FALSE NEIGHBOUR: 'it returns false'. Refute it at one input. -/
def shelfGcdWrong : ChangeSpec := { name := "shelfGcd", fn := fun _ => fun
  | [d1, d2, d3] => { results := [.lit (.bool false)], args := [d1, d2, d3] }
  | _ => none }
def ShelfGcdWrongFalsely : Prop := shelfGcdRow.holds Tryz.pinned (OpenSpec.ofChange shelfGcdWrong)

/-- 'pairlegallaw14.ShelfPower': WHATEVER THE INPUT: true; the input reads as it did. -/
def shelfPowerSpec : ChangeSpec := { name := "shelfPower", fn := fun _ => fun
  | [d1, d2] => { results := [.lit (.bool true)], args := [d1, d2] }
  | _ => none }
def shelfPowerRow : OpenClaim := { program := "ytgmmfjmdpbhjnaagreat", sum := "652e2f513898922d15bfc439437146c7811b39e50b5c6fcd343056355988c169", func := "pairlegal/pairlegallaw14.ShelfPower", spec := "shelfPower", inPlace := ["internal/bytealg.abigen_runtime_cmpstring", "internal/bytealg.IndexByteString"], unfollowed := true, recurses := true, apart := false }
def ShelfPowerSaid : Prop := shelfPowerRow.holds Tryz.pinned (OpenSpec.ofChange shelfPowerSpec)

/-- ITS FALSE NEIGHBOUR: 'it returns false'. Refute it at one input. -/
def shelfPowerWrong : ChangeSpec := { name := "shelfPower", fn := fun _ => fun
  | [d1, d2] => { results := [.lit (.bool false)], args := [d1, d2] }
  | _ => none }
def ShelfPowerWrongFalsely : Prop := shelfPowerRow.holds Tryz.pinned (OpenSpec.ofChange shelfPowerWrong)

/-- 'pairlegallaw14.ShelfFibonacci': WHATEVER THE INPUT: true; the input reads as it did. -/
def shelfFibonacciSpec : ChangeSpec := { name := "shelfFibonacci", fn := fun _ => fun
  | [d] => { results := [.lit (.bool true)], args := [d] }
  | _ => none }
def shelfFibonacciRow : OpenClaim := { program := "ytgmmfjmdpbhjnaagreat", sum := "652e2f513898922d15bfc439437146c7811b39e50b5c6fcd343056355988c169", func := "pairlegal/pairlegallaw14.ShelfFibonacci", spec := "shelfFibonacci", inPlace := ["internal/bytealg.abigen_runtime_cmpstring", "internal/bytealg.IndexByteString"], unfollowed := true, recurses := true, apart := false }
def ShelfFibonacciSaid : Prop := shelfFibonacciRow.holds Tryz.pinned (OpenSpec.ofChange shelfFibonacciSpec)

/-- ITS FALSE NEIGHBOUR: 'it returns false'. Refute it at one input. -/
def shelfFibonacciWrong : ChangeSpec := { name := "shelfFibonacci", fn := fun _ => fun
  | [d] => { results := [.lit (.bool false)], args := [d] }
  | _ => none }
def ShelfFibonacciWrongFalsely : Prop := shelfFibonacciRow.holds Tryz.pinned (OpenSpec.ofChange shelfFibonacciWrong)

/-- 'pairlegallaw14.ShelfFactorial': WHATEVER THE INPUT: true; the input reads as it did. -/
def shelfFactorialSpec : ChangeSpec := { name := "shelfFactorial", fn := fun _ => fun
  | [d] => { results := [.lit (.bool true)], args := [d] }
  | _ => none }
def shelfFactorialRow : OpenClaim := { program := "ytgmmfjmdpbhjnaagreat", sum := "652e2f513898922d15bfc439437146c7811b39e50b5c6fcd343056355988c169", func := "pairlegal/pairlegallaw14.ShelfFactorial", spec := "shelfFactorial", inPlace := ["internal/bytealg.abigen_runtime_cmpstring", "internal/bytealg.IndexByteString"], unfollowed := true, recurses := true, apart := false }
def ShelfFactorialSaid : Prop := shelfFactorialRow.holds Tryz.pinned (OpenSpec.ofChange shelfFactorialSpec)

/-- ITS FALSE NEIGHBOUR: 'it returns false'. Refute it at one input. -/
def shelfFactorialWrong : ChangeSpec := { name := "shelfFactorial", fn := fun _ => fun
  | [d] => { results := [.lit (.bool false)], args := [d] }
  | _ => none }
def ShelfFactorialWrongFalsely : Prop := shelfFactorialRow.holds Tryz.pinned (OpenSpec.ofChange shelfFactorialWrong)

/-- 'pairlegallaw14.ShelfCollatz': WHATEVER THE INPUT: true; the input reads as it did. -/
def shelfCollatzSpec : ChangeSpec := { name := "shelfCollatz", fn := fun _ => fun
  | [d] => { results := [.lit (.bool true)], args := [d] }
  | _ => none }
def shelfCollatzRow : OpenClaim := { program := "ytgmmfjmdpbhjnaagreat", sum := "652e2f513898922d15bfc439437146c7811b39e50b5c6fcd343056355988c169", func := "pairlegal/pairlegallaw14.ShelfCollatz", spec := "shelfCollatz", inPlace := ["internal/bytealg.abigen_runtime_cmpstring", "internal/bytealg.IndexByteString"], unfollowed := true, recurses := true, apart := false }
def ShelfCollatzSaid : Prop := shelfCollatzRow.holds Tryz.pinned (OpenSpec.ofChange shelfCollatzSpec)

/-- ITS FALSE NEIGHBOUR: 'it returns false'. Refute it at one input. -/
def shelfCollatzWrong : ChangeSpec := { name := "shelfCollatz", fn := fun _ => fun
  | [d] => { results := [.lit (.bool false)], args := [d] }
  | _ => none }
def ShelfCollatzWrongFalsely : Prop := shelfCollatzRow.holds Tryz.pinned (OpenSpec.ofChange shelfCollatzWrong)

/-- 'pairlegallaw14.ShelfRoot': WHATEVER THE INPUT: true; the input reads as it did. -/
def shelfRootSpec : ChangeSpec := { name := "shelfRoot", fn := fun _ => fun
  | [d] => { results := [.lit (.bool true)], args := [d] }
  | _ => none }
def shelfRootRow : OpenClaim := { program := "ytgmmfjmdpbhjnaagreat", sum := "652e2f513898922d15bfc439437146c7811b39e50b5c6fcd343056355988c169", func := "pairlegal/pairlegallaw14.ShelfRoot", spec := "shelfRoot", inPlace := ["internal/bytealg.abigen_runtime_cmpstring", "internal/bytealg.IndexByteString"], unfollowed := true, recurses := true, apart := false }
def ShelfRootSaid : Prop := shelfRootRow.holds Tryz.pinned (OpenSpec.ofChange shelfRootSpec)

/-- ITS FALSE NEIGHBOUR: 'it returns false'. Refute it at one input. -/
def shelfRootWrong : ChangeSpec := { name := "shelfRoot", fn := fun _ => fun
  | [d] => { results := [.lit (.bool false)], args := [d] }
  | _ => none }
def ShelfRootWrongFalsely : Prop := shelfRootRow.holds Tryz.pinned (OpenSpec.ofChange shelfRootWrong)

/-- 'pairlegallaw14.ShelfPrimes': WHATEVER THE INPUT: true; the input reads as it did. -/
def shelfPrimesSpec : ChangeSpec := { name := "shelfPrimes", fn := fun _ => fun
  | [d] => { results := [.lit (.bool true)], args := [d] }
  | _ => none }
def shelfPrimesRow : OpenClaim := { program := "ytgmmfjmdpbhjnaagreat", sum := "652e2f513898922d15bfc439437146c7811b39e50b5c6fcd343056355988c169", func := "pairlegal/pairlegallaw14.ShelfPrimes", spec := "shelfPrimes", inPlace := ["internal/bytealg.abigen_runtime_cmpstring", "internal/bytealg.IndexByteString"], unfollowed := true, recurses := true, apart := false }
def ShelfPrimesSaid : Prop := shelfPrimesRow.holds Tryz.pinned (OpenSpec.ofChange shelfPrimesSpec)

/-- ITS FALSE NEIGHBOUR: 'it returns false'. Refute it at one input. -/
def shelfPrimesWrong : ChangeSpec := { name := "shelfPrimes", fn := fun _ => fun
  | [d] => { results := [.lit (.bool false)], args := [d] }
  | _ => none }
def ShelfPrimesWrongFalsely : Prop := shelfPrimesRow.holds Tryz.pinned (OpenSpec.ofChange shelfPrimesWrong)

/-- 'pairlegallaw14.ShelfLuhn': WHATEVER THE INPUT: true; the input reads as it did. -/
def shelfLuhnSpec : ChangeSpec := { name := "shelfLuhn", fn := fun _ => fun
  | [d] => { results := [.lit (.bool true)], args := [d] }
  | _ => none }
def shelfLuhnRow : OpenClaim := { program := "ytgmmfjmdpbhjnaagreat", sum := "652e2f513898922d15bfc439437146c7811b39e50b5c6fcd343056355988c169", func := "pairlegal/pairlegallaw14.ShelfLuhn", spec := "shelfLuhn", inPlace := ["internal/bytealg.abigen_runtime_cmpstring", "internal/bytealg.IndexByteString"], unfollowed := true, recurses := true, apart := false }
def ShelfLuhnSaid : Prop := shelfLuhnRow.holds Tryz.pinned (OpenSpec.ofChange shelfLuhnSpec)

/-- ITS FALSE NEIGHBOUR: 'it returns false'. Refute it at one input. -/
def shelfLuhnWrong : ChangeSpec := { name := "shelfLuhn", fn := fun _ => fun
  | [d] => { results := [.lit (.bool false)], args := [d] }
  | _ => none }
def ShelfLuhnWrongFalsely : Prop := shelfLuhnRow.holds Tryz.pinned (OpenSpec.ofChange shelfLuhnWrong)

/-- 'pairlegallaw14.ShelfBase64': WHATEVER THE INPUT: true; the input reads as it did. -/
def shelfBase64Spec : ChangeSpec := { name := "shelfBase64", fn := fun _ => fun
  | [d] => { results := [.lit (.bool true)], args := [d] }
  | _ => none }
def shelfBase64Row : OpenClaim := { program := "ytgmmfjmdpbhjnaagreat", sum := "652e2f513898922d15bfc439437146c7811b39e50b5c6fcd343056355988c169", func := "pairlegal/pairlegallaw14.ShelfBase64", spec := "shelfBase64", inPlace := ["internal/bytealg.abigen_runtime_cmpstring", "internal/bytealg.IndexByteString"], unfollowed := true, recurses := true, apart := false }
def ShelfBase64Said : Prop := shelfBase64Row.holds Tryz.pinned (OpenSpec.ofChange shelfBase64Spec)

/-- ITS FALSE NEIGHBOUR: 'it returns false'. Refute it at one input. -/
def shelfBase64Wrong : ChangeSpec := { name := "shelfBase64", fn := fun _ => fun
  | [d] => { results := [.lit (.bool false)], args := [d] }
  | _ => none }
def ShelfBase64WrongFalsely : Prop := shelfBase64Row.holds Tryz.pinned (OpenSpec.ofChange shelfBase64Wrong)

/-- 'pairlegallaw14.ShelfBinary': WHATEVER THE INPUT: true; the input reads as it did. -/
def shelfBinarySpec : ChangeSpec := { name := "shelfBinary", fn := fun _ => fun
  | [d] => { results := [.lit (.bool true)], args := [d] }
  | _ => none }
def shelfBinaryRow : OpenClaim := { program := "ytgmmfjmdpbhjnaagreat", sum := "652e2f513898922d15bfc439437146c7811b39e50b5c6fcd343056355988c169", func := "pairlegal/pairlegallaw14.ShelfBinary", spec := "shelfBinary", inPlace := ["internal/bytealg.abigen_runtime_cmpstring", "internal/bytealg.IndexByteString"], unfollowed := true, recurses := true, apart := false }
def ShelfBinarySaid : Prop := shelfBinaryRow.holds Tryz.pinned (OpenSpec.ofChange shelfBinarySpec)

/-- ITS FALSE NEIGHBOUR: 'it returns false'. Refute it at one input. -/
def shelfBinaryWrong : ChangeSpec := { name := "shelfBinary", fn := fun _ => fun
  | [d] => { results := [.lit (.bool false)], args := [d] }
  | _ => none }
def ShelfBinaryWrongFalsely : Prop := shelfBinaryRow.holds Tryz.pinned (OpenSpec.ofChange shelfBinaryWrong)

/-- 'pairlegallaw14.ShelfLcm': WHATEVER THE INPUT: true; the input reads as it did. -/
def shelfLcmSpec : ChangeSpec := { name := "shelfLcm", fn := fun _ => fun
  | [d1, d2, d3] => { results := [.lit (.bool true)], args := [d1, d2, d3] }
  | _ => none }
def shelfLcmRow : OpenClaim := { program := "ytgmmfjmdpbhjnaagreat", sum := "652e2f513898922d15bfc439437146c7811b39e50b5c6fcd343056355988c169", func := "pairlegal/pairlegallaw14.ShelfLcm", spec := "shelfLcm", inPlace := ["internal/bytealg.abigen_runtime_cmpstring", "internal/bytealg.IndexByteString"], unfollowed := true, recurses := true, apart := false }
def ShelfLcmSaid : Prop := shelfLcmRow.holds Tryz.pinned (OpenSpec.ofChange shelfLcmSpec)

/-- ITS FALSE NEIGHBOUR: 'it returns false'. Refute it at one input. -/
def shelfLcmWrong : ChangeSpec := { name := "shelfLcm", fn := fun _ => fun
  | [d1, d2, d3] => { results := [.lit (.bool false)], args := [d1, d2, d3] }
  | _ => none }
def ShelfLcmWrongFalsely : Prop := shelfLcmRow.holds Tryz.pinned (OpenSpec.ofChange shelfLcmWrong)

/-- 'pairlegallaw14.ShelfModpow': WHATEVER THE INPUT: true; the input reads as it did. -/
def shelfModpowSpec : ChangeSpec := { name := "shelfModpow", fn := fun _ => fun
  | [d1, d2, d3] => { results := [.lit (.bool true)], args := [d1, d2, d3] }
  | _ => none }
def shelfModpowRow : OpenClaim := { program := "ytgmmfjmdpbhjnaagreat", sum := "652e2f513898922d15bfc439437146c7811b39e50b5c6fcd343056355988c169", func := "pairlegal/pairlegallaw14.ShelfModpow", spec := "shelfModpow", inPlace := ["internal/bytealg.abigen_runtime_cmpstring", "internal/bytealg.IndexByteString"], unfollowed := true, recurses := true, apart := false }
def ShelfModpowSaid : Prop := shelfModpowRow.holds Tryz.pinned (OpenSpec.ofChange shelfModpowSpec)

/-- ITS FALSE NEIGHBOUR: 'it returns false'. Refute it at one input. -/
def shelfModpowWrong : ChangeSpec := { name := "shelfModpow", fn := fun _ => fun
  | [d1, d2, d3] => { results := [.lit (.bool false)], args := [d1, d2, d3] }
  | _ => none }
def ShelfModpowWrongFalsely : Prop := shelfModpowRow.holds Tryz.pinned (OpenSpec.ofChange shelfModpowWrong)

/-- 'pairlegallaw14.ShelfAckermann': WHATEVER THE INPUT: true; the input reads as it did. -/
def shelfAckermannSpec : ChangeSpec := { name := "shelfAckermann", fn := fun _ => fun
  | [d1, d2] => { results := [.lit (.bool true)], args := [d1, d2] }
  | _ => none }
def shelfAckermannRow : OpenClaim := { program := "ytgmmfjmdpbhjnaagreat", sum := "652e2f513898922d15bfc439437146c7811b39e50b5c6fcd343056355988c169", func := "pairlegal/pairlegallaw14.ShelfAckermann", spec := "shelfAckermann", inPlace := ["internal/bytealg.abigen_runtime_cmpstring", "internal/bytealg.IndexByteString"], unfollowed := true, recurses := true, apart := false }
def ShelfAckermannSaid : Prop := shelfAckermannRow.holds Tryz.pinned (OpenSpec.ofChange shelfAckermannSpec)

/-- ITS FALSE NEIGHBOUR: 'it returns false'. Refute it at one input. -/
def shelfAckermannWrong : ChangeSpec := { name := "shelfAckermann", fn := fun _ => fun
  | [d1, d2] => { results := [.lit (.bool false)], args := [d1, d2] }
  | _ => none }
def ShelfAckermannWrongFalsely : Prop := shelfAckermannRow.holds Tryz.pinned (OpenSpec.ofChange shelfAckermannWrong)

/-- 'pairlegallaw14.ShelfAliquot': WHATEVER THE INPUT: true; the input reads as it did. -/
def shelfAliquotSpec : ChangeSpec := { name := "shelfAliquot", fn := fun _ => fun
  | [d] => { results := [.lit (.bool true)], args := [d] }
  | _ => none }
def shelfAliquotRow : OpenClaim := { program := "ytgmmfjmdpbhjnaagreat", sum := "652e2f513898922d15bfc439437146c7811b39e50b5c6fcd343056355988c169", func := "pairlegal/pairlegallaw14.ShelfAliquot", spec := "shelfAliquot", inPlace := ["internal/bytealg.abigen_runtime_cmpstring", "internal/bytealg.IndexByteString"], unfollowed := true, recurses := true, apart := false }
def ShelfAliquotSaid : Prop := shelfAliquotRow.holds Tryz.pinned (OpenSpec.ofChange shelfAliquotSpec)

/-- ITS FALSE NEIGHBOUR: 'it returns false'. Refute it at one input. -/
def shelfAliquotWrong : ChangeSpec := { name := "shelfAliquot", fn := fun _ => fun
  | [d] => { results := [.lit (.bool false)], args := [d] }
  | _ => none }
def ShelfAliquotWrongFalsely : Prop := shelfAliquotRow.holds Tryz.pinned (OpenSpec.ofChange shelfAliquotWrong)

/-- 'pairlegallaw14.ShelfHanoi': WHATEVER THE INPUT: true; the input reads as it did. -/
def shelfHanoiSpec : ChangeSpec := { name := "shelfHanoi", fn := fun _ => fun
  | [d] => { results := [.lit (.bool true)], args := [d] }
  | _ => none }
def shelfHanoiRow : OpenClaim := { program := "ytgmmfjmdpbhjnaagreat", sum := "652e2f513898922d15bfc439437146c7811b39e50b5c6fcd343056355988c169", func := "pairlegal/pairlegallaw14.ShelfHanoi", spec := "shelfHanoi", inPlace := ["internal/bytealg.abigen_runtime_cmpstring", "internal/bytealg.IndexByteString"], unfollowed := true, recurses := true, apart := false }
def ShelfHanoiSaid : Prop := shelfHanoiRow.holds Tryz.pinned (OpenSpec.ofChange shelfHanoiSpec)

/-- ITS FALSE NEIGHBOUR: 'it returns false'. Refute it at one input. -/
def shelfHanoiWrong : ChangeSpec := { name := "shelfHanoi", fn := fun _ => fun
  | [d] => { results := [.lit (.bool false)], args := [d] }
  | _ => none }
def ShelfHanoiWrongFalsely : Prop := shelfHanoiRow.holds Tryz.pinned (OpenSpec.ofChange shelfHanoiWrong)

/-- 'pairlegallaw14.ShelfQueens': WHATEVER THE INPUT: true; the input reads as it did. -/
def shelfQueensSpec : ChangeSpec := { name := "shelfQueens", fn := fun _ => fun
  | [d] => { results := [.lit (.bool true)], args := [d] }
  | _ => none }
def shelfQueensRow : OpenClaim := { program := "ytgmmfjmdpbhjnaagreat", sum := "652e2f513898922d15bfc439437146c7811b39e50b5c6fcd343056355988c169", func := "pairlegal/pairlegallaw14.ShelfQueens", spec := "shelfQueens", inPlace := ["internal/bytealg.abigen_runtime_cmpstring", "internal/bytealg.IndexByteString"], unfollowed := true, recurses := true, apart := false }
def ShelfQueensSaid : Prop := shelfQueensRow.holds Tryz.pinned (OpenSpec.ofChange shelfQueensSpec)

/-- ITS FALSE NEIGHBOUR: 'it returns false'. Refute it at one input. -/
def shelfQueensWrong : ChangeSpec := { name := "shelfQueens", fn := fun _ => fun
  | [d] => { results := [.lit (.bool false)], args := [d] }
  | _ => none }
def ShelfQueensWrongFalsely : Prop := shelfQueensRow.holds Tryz.pinned (OpenSpec.ofChange shelfQueensWrong)

/- THE SECOND FORM. 'bulk': how many values and letters a reading holds, each counted each time it is reached (what is shared counts as often as it is met; a slice's spare places count too). A statement '..UptoSaid' is the law's where the arguments, and the package variables that the reading takes, are together of bulk at most 1048576: NARROWER than '..Said'. Prove '..Said' where nothing that the law and all that it calls make is longer than what came in: it says more and counts as full. Else prove '..UptoSaid'. A law counts once. -/
mutual
def uptoBulk {H : Type} : DataW H → Nat
  | .lit (.string bytes) => bytes.length + 1
  | .lit _ => 1
  | .nil => 1
  | .ptr d => uptoBulk d + 1
  | .slice elems spare => uptoBulkAll elems + uptoBulkAll spare + 1
  | .agg parts => uptoBulkAll parts + 1
  | .iface _ d => uptoBulk d + 1
  | .map entries => uptoBulkEntries entries + 1
  | .held _ => 1
def uptoBulkAll {H : Type} : List (DataW H) → Nat
  | [] => 0
  | d :: r => uptoBulk d + uptoBulkAll r
def uptoBulkEntries {H : Type} : List (Lit × DataW H) → Nat
  | [] => 0
  | x :: r => uptoBulkEntry x + uptoBulkEntries r
def uptoBulkEntry {H : Type} : Lit × DataW H → Nat
  | (.string bytes, d) => bytes.length + uptoBulk d + 1
  | (_, d) => uptoBulk d + 1
 end
def uptoSmall : (H : Type) → List (DataW H) → Bool := fun _ ds => decide (uptoBulkAll ds ≤ 1048576)
def OpenSpec.upto (s : _root_.Go.ChangeSpec) : _root_.Go.OpenSpec := { _root_.Go.OpenSpec.ofChange s with cond := some uptoSmall }

/-- 'pairlegallaw14.ShelfSort', WHERE WHAT IT READS IS OF BULK AT MOST 1048576: true; the input reads as it did. -/
def shelfSortUptoRow : OpenClaim := { program := "ytgmmfjmdpbhjnaagreat", sum := "652e2f513898922d15bfc439437146c7811b39e50b5c6fcd343056355988c169", func := "pairlegal/pairlegallaw14.ShelfSort", spec := "shelfSort", inPlace := ["internal/bytealg.abigen_runtime_cmpstring", "internal/bytealg.IndexByteString"], unfollowed := true, recurses := true, apart := false, narrowed := true }
def ShelfSortUptoSaid : Prop := shelfSortUptoRow.holds Tryz.pinned (OpenSpec.upto shelfSortSpec)

/-- 'pairlegallaw14.ShelfGcd', WHERE WHAT IT READS IS OF BULK AT MOST 1048576: true; the input reads as it did. -/
def shelfGcdUptoRow : OpenClaim := { program := "ytgmmfjmdpbhjnaagreat", sum := "652e2f513898922d15bfc439437146c7811b39e50b5c6fcd343056355988c169", func := "pairlegal/pairlegallaw14.ShelfGcd", spec := "shelfGcd", inPlace := ["internal/bytealg.abigen_runtime_cmpstring", "internal/bytealg.IndexByteString"], unfollowed := true, recurses := true, apart := false, narrowed := true }
def ShelfGcdUptoSaid : Prop := shelfGcdUptoRow.holds Tryz.pinned (OpenSpec.upto shelfGcdSpec)

/-- 'pairlegallaw14.ShelfPower', WHERE WHAT IT READS IS OF BULK AT MOST 1048576: true; the input reads as it did. -/
def shelfPowerUptoRow : OpenClaim := { program := "ytgmmfjmdpbhjnaagreat", sum := "652e2f513898922d15bfc439437146c7811b39e50b5c6fcd343056355988c169", func := "pairlegal/pairlegallaw14.ShelfPower", spec := "shelfPower", inPlace := ["internal/bytealg.abigen_runtime_cmpstring", "internal/bytealg.IndexByteString"], unfollowed := true, recurses := true, apart := false, narrowed := true }
def ShelfPowerUptoSaid : Prop := shelfPowerUptoRow.holds Tryz.pinned (OpenSpec.upto shelfPowerSpec)

/-- 'pairlegallaw14.ShelfFibonacci', WHERE WHAT IT READS IS OF BULK AT MOST 1048576: true; the input reads as it did. -/
def shelfFibonacciUptoRow : OpenClaim := { program := "ytgmmfjmdpbhjnaagreat", sum := "652e2f513898922d15bfc439437146c7811b39e50b5c6fcd343056355988c169", func := "pairlegal/pairlegallaw14.ShelfFibonacci", spec := "shelfFibonacci", inPlace := ["internal/bytealg.abigen_runtime_cmpstring", "internal/bytealg.IndexByteString"], unfollowed := true, recurses := true, apart := false, narrowed := true }
def ShelfFibonacciUptoSaid : Prop := shelfFibonacciUptoRow.holds Tryz.pinned (OpenSpec.upto shelfFibonacciSpec)

/-- 'pairlegallaw14.ShelfFactorial', WHERE WHAT IT READS IS OF BULK AT MOST 1048576: true; the input reads as it did. -/
def shelfFactorialUptoRow : OpenClaim := { program := "ytgmmfjmdpbhjnaagreat", sum := "652e2f513898922d15bfc439437146c7811b39e50b5c6fcd343056355988c169", func := "pairlegal/pairlegallaw14.ShelfFactorial", spec := "shelfFactorial", inPlace := ["internal/bytealg.abigen_runtime_cmpstring", "internal/bytealg.IndexByteString"], unfollowed := true, recurses := true, apart := false, narrowed := true }
def ShelfFactorialUptoSaid : Prop := shelfFactorialUptoRow.holds Tryz.pinned (OpenSpec.upto shelfFactorialSpec)

/-- 'pairlegallaw14.ShelfCollatz', WHERE WHAT IT READS IS OF BULK AT MOST 1048576: true; the input reads as it did. -/
def shelfCollatzUptoRow : OpenClaim := { program := "ytgmmfjmdpbhjnaagreat", sum := "652e2f513898922d15bfc439437146c7811b39e50b5c6fcd343056355988c169", func := "pairlegal/pairlegallaw14.ShelfCollatz", spec := "shelfCollatz", inPlace := ["internal/bytealg.abigen_runtime_cmpstring", "internal/bytealg.IndexByteString"], unfollowed := true, recurses := true, apart := false, narrowed := true }
def ShelfCollatzUptoSaid : Prop := shelfCollatzUptoRow.holds Tryz.pinned (OpenSpec.upto shelfCollatzSpec)

/-- 'pairlegallaw14.ShelfRoot', WHERE WHAT IT READS IS OF BULK AT MOST 1048576: true; the input reads as it did. -/
def shelfRootUptoRow : OpenClaim := { program := "ytgmmfjmdpbhjnaagreat", sum := "652e2f513898922d15bfc439437146c7811b39e50b5c6fcd343056355988c169", func := "pairlegal/pairlegallaw14.ShelfRoot", spec := "shelfRoot", inPlace := ["internal/bytealg.abigen_runtime_cmpstring", "internal/bytealg.IndexByteString"], unfollowed := true, recurses := true, apart := false, narrowed := true }
def ShelfRootUptoSaid : Prop := shelfRootUptoRow.holds Tryz.pinned (OpenSpec.upto shelfRootSpec)

/-- 'pairlegallaw14.ShelfPrimes', WHERE WHAT IT READS IS OF BULK AT MOST 1048576: true; the input reads as it did. -/
def shelfPrimesUptoRow : OpenClaim := { program := "ytgmmfjmdpbhjnaagreat", sum := "652e2f513898922d15bfc439437146c7811b39e50b5c6fcd343056355988c169", func := "pairlegal/pairlegallaw14.ShelfPrimes", spec := "shelfPrimes", inPlace := ["internal/bytealg.abigen_runtime_cmpstring", "internal/bytealg.IndexByteString"], unfollowed := true, recurses := true, apart := false, narrowed := true }
def ShelfPrimesUptoSaid : Prop := shelfPrimesUptoRow.holds Tryz.pinned (OpenSpec.upto shelfPrimesSpec)

/-- 'pairlegallaw14.ShelfLuhn', WHERE WHAT IT READS IS OF BULK AT MOST 1048576: true; the input reads as it did. -/
def shelfLuhnUptoRow : OpenClaim := { program := "ytgmmfjmdpbhjnaagreat", sum := "652e2f513898922d15bfc439437146c7811b39e50b5c6fcd343056355988c169", func := "pairlegal/pairlegallaw14.ShelfLuhn", spec := "shelfLuhn", inPlace := ["internal/bytealg.abigen_runtime_cmpstring", "internal/bytealg.IndexByteString"], unfollowed := true, recurses := true, apart := false, narrowed := true }
def ShelfLuhnUptoSaid : Prop := shelfLuhnUptoRow.holds Tryz.pinned (OpenSpec.upto shelfLuhnSpec)

/-- 'pairlegallaw14.ShelfBase64', WHERE WHAT IT READS IS OF BULK AT MOST 1048576: true; the input reads as it did. -/
def shelfBase64UptoRow : OpenClaim := { program := "ytgmmfjmdpbhjnaagreat", sum := "652e2f513898922d15bfc439437146c7811b39e50b5c6fcd343056355988c169", func := "pairlegal/pairlegallaw14.ShelfBase64", spec := "shelfBase64", inPlace := ["internal/bytealg.abigen_runtime_cmpstring", "internal/bytealg.IndexByteString"], unfollowed := true, recurses := true, apart := false, narrowed := true }
def ShelfBase64UptoSaid : Prop := shelfBase64UptoRow.holds Tryz.pinned (OpenSpec.upto shelfBase64Spec)

/-- 'pairlegallaw14.ShelfBinary', WHERE WHAT IT READS IS OF BULK AT MOST 1048576: true; the input reads as it did. -/
def shelfBinaryUptoRow : OpenClaim := { program := "ytgmmfjmdpbhjnaagreat", sum := "652e2f513898922d15bfc439437146c7811b39e50b5c6fcd343056355988c169", func := "pairlegal/pairlegallaw14.ShelfBinary", spec := "shelfBinary", inPlace := ["internal/bytealg.abigen_runtime_cmpstring", "internal/bytealg.IndexByteString"], unfollowed := true, recurses := true, apart := false, narrowed := true }
def ShelfBinaryUptoSaid : Prop := shelfBinaryUptoRow.holds Tryz.pinned (OpenSpec.upto shelfBinarySpec)

/-- 'pairlegallaw14.ShelfLcm', WHERE WHAT IT READS IS OF BULK AT MOST 1048576: true; the input reads as it did. -/
def shelfLcmUptoRow : OpenClaim := { program := "ytgmmfjmdpbhjnaagreat", sum := "652e2f513898922d15bfc439437146c7811b39e50b5c6fcd343056355988c169", func := "pairlegal/pairlegallaw14.ShelfLcm", spec := "shelfLcm", inPlace := ["internal/bytealg.abigen_runtime_cmpstring", "internal/bytealg.IndexByteString"], unfollowed := true, recurses := true, apart := false, narrowed := true }
def ShelfLcmUptoSaid : Prop := shelfLcmUptoRow.holds Tryz.pinned (OpenSpec.upto shelfLcmSpec)

/-- 'pairlegallaw14.ShelfModpow', WHERE WHAT IT READS IS OF BULK AT MOST 1048576: true; the input reads as it did. -/
def shelfModpowUptoRow : OpenClaim := { program := "ytgmmfjmdpbhjnaagreat", sum := "652e2f513898922d15bfc439437146c7811b39e50b5c6fcd343056355988c169", func := "pairlegal/pairlegallaw14.ShelfModpow", spec := "shelfModpow", inPlace := ["internal/bytealg.abigen_runtime_cmpstring", "internal/bytealg.IndexByteString"], unfollowed := true, recurses := true, apart := false, narrowed := true }
def ShelfModpowUptoSaid : Prop := shelfModpowUptoRow.holds Tryz.pinned (OpenSpec.upto shelfModpowSpec)

/-- 'pairlegallaw14.ShelfAckermann', WHERE WHAT IT READS IS OF BULK AT MOST 1048576: true; the input reads as it did. -/
def shelfAckermannUptoRow : OpenClaim := { program := "ytgmmfjmdpbhjnaagreat", sum := "652e2f513898922d15bfc439437146c7811b39e50b5c6fcd343056355988c169", func := "pairlegal/pairlegallaw14.ShelfAckermann", spec := "shelfAckermann", inPlace := ["internal/bytealg.abigen_runtime_cmpstring", "internal/bytealg.IndexByteString"], unfollowed := true, recurses := true, apart := false, narrowed := true }
def ShelfAckermannUptoSaid : Prop := shelfAckermannUptoRow.holds Tryz.pinned (OpenSpec.upto shelfAckermannSpec)

/-- 'pairlegallaw14.ShelfAliquot', WHERE WHAT IT READS IS OF BULK AT MOST 1048576: true; the input reads as it did. -/
def shelfAliquotUptoRow : OpenClaim := { program := "ytgmmfjmdpbhjnaagreat", sum := "652e2f513898922d15bfc439437146c7811b39e50b5c6fcd343056355988c169", func := "pairlegal/pairlegallaw14.ShelfAliquot", spec := "shelfAliquot", inPlace := ["internal/bytealg.abigen_runtime_cmpstring", "internal/bytealg.IndexByteString"], unfollowed := true, recurses := true, apart := false, narrowed := true }
def ShelfAliquotUptoSaid : Prop := shelfAliquotUptoRow.holds Tryz.pinned (OpenSpec.upto shelfAliquotSpec)

/-- 'pairlegallaw14.ShelfHanoi', WHERE WHAT IT READS IS OF BULK AT MOST 1048576: true; the input reads as it did. -/
def shelfHanoiUptoRow : OpenClaim := { program := "ytgmmfjmdpbhjnaagreat", sum := "652e2f513898922d15bfc439437146c7811b39e50b5c6fcd343056355988c169", func := "pairlegal/pairlegallaw14.ShelfHanoi", spec := "shelfHanoi", inPlace := ["internal/bytealg.abigen_runtime_cmpstring", "internal/bytealg.IndexByteString"], unfollowed := true, recurses := true, apart := false, narrowed := true }
def ShelfHanoiUptoSaid : Prop := shelfHanoiUptoRow.holds Tryz.pinned (OpenSpec.upto shelfHanoiSpec)

/-- 'pairlegallaw14.ShelfQueens', WHERE WHAT IT READS IS OF BULK AT MOST 1048576: true; the input reads as it did. -/
def shelfQueensUptoRow : OpenClaim := { program := "ytgmmfjmdpbhjnaagreat", sum := "652e2f513898922d15bfc439437146c7811b39e50b5c6fcd343056355988c169", func := "pairlegal/pairlegallaw14.ShelfQueens", spec := "shelfQueens", inPlace := ["internal/bytealg.abigen_runtime_cmpstring", "internal/bytealg.IndexByteString"], unfollowed := true, recurses := true, apart := false, narrowed := true }
def ShelfQueensUptoSaid : Prop := shelfQueensUptoRow.holds Tryz.pinned (OpenSpec.upto shelfQueensSpec)

end Rows
end Go.Proofs.YtgmmfjmdpbhjnaaGreat
