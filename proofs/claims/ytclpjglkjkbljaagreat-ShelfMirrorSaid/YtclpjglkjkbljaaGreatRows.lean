/-
  No cell of these rows narrows 'for every input' (looked for: loops, veiled, ifaces, maps, wideKeys, modest, calm, conditions, laid).
  DERIVED. THE GIVEN ROWS OF THIS SEAT. 12 by the template 'for every input the law returns true; each argument reads behind the call as it read before'; 0 by the template 'total and deterministic' (their statements: YtclpjglkjkbljaaGreatTotals.lean).
  GIVEN WITH THE SEED: the statements are not yours to turn. If you find one false, say at which input.
  Laid BY PROGRAM, IN A SANDBOX (cutbox-rows.mjs): the forced cells as the released guide's own fill.sh prints them over the translation fa32504e27e6fcdc… (all of the seat's roots in one cut). By AI agents, Wed Nov 11 2026. No macro, syntax, notation, axiom, sorry.
-/
import Derived.Test.YtclpjglkjkbljaaGreatChecked
import GoSem.Claim
import GoSem.ClaimJoined
import GoSem.ClaimMapViews
import Derived.JoinedTies
import Derived.KernelRfl
namespace Go.Proofs.YtclpjglkjkbljaaGreat
/- THE CELL 'sum', in the pinned program and in every row, IS THE sha256 OF THE DUMP (.gsa) THAT YtclpjglkjkbljaaGreatProg.lean LOADS. Nothing in Lean hashes anything: it is a label: what it is worth is what the hold of that sum in a sandbox is worth. -/
noncomputable def Tryz.pinned : Pinned := { name := "ytclpjglkjkbljaagreat", sum := "fa32504e27e6fcdc2e3c3965309eff4e942b0959dd7774c4c453a8d17ace1cd6", checked := Tryz.checked }
namespace Rows
def none {H : Type} : Left H := { results := [], args := [] }

/-- 'pairlegallaw14.ShelfReverse': WHATEVER THE INPUT: true; the input reads as it did. -/
def shelfReverseSpec : ChangeSpec := { name := "shelfReverse", fn := fun _ => fun
  | [d] => { results := [.lit (.bool true)], args := [d] }
  | _ => none }
def shelfReverseRow : OpenClaim := { program := "ytclpjglkjkbljaagreat", sum := "fa32504e27e6fcdc2e3c3965309eff4e942b0959dd7774c4c453a8d17ace1cd6", func := "pairlegal/pairlegallaw14.ShelfReverse", spec := "shelfReverse", inPlace := ["internal/bytealg.abigen_runtime_cmpstring", "internal/bytealg.IndexByteString"], unfollowed := true, recurses := true, apart := false }
def ShelfReverseSaid : Prop := shelfReverseRow.holds Tryz.pinned (OpenSpec.ofChange shelfReverseSpec)

/-- ITS FALSE NEIGHBOUR: 'it returns false'. Refute it at one input. -/
def shelfReverseWrong : ChangeSpec := { name := "shelfReverse", fn := fun _ => fun
  | [d] => { results := [.lit (.bool false)], args := [d] }
  | _ => none }
def ShelfReverseWrongFalsely : Prop := shelfReverseRow.holds Tryz.pinned (OpenSpec.ofChange shelfReverseWrong)

/-- 'pairlegallaw14.ShelfSort': WHATEVER THE INPUT: true; the input reads as it did. -/
def shelfSortSpec : ChangeSpec := { name := "shelfSort", fn := fun _ => fun
  | [d] => { results := [.lit (.bool true)], args := [d] }
  | _ => none }
def shelfSortRow : OpenClaim := { program := "ytclpjglkjkbljaagreat", sum := "fa32504e27e6fcdc2e3c3965309eff4e942b0959dd7774c4c453a8d17ace1cd6", func := "pairlegal/pairlegallaw14.ShelfSort", spec := "shelfSort", inPlace := ["internal/bytealg.abigen_runtime_cmpstring", "internal/bytealg.IndexByteString"], unfollowed := true, recurses := true, apart := false }
def ShelfSortSaid : Prop := shelfSortRow.holds Tryz.pinned (OpenSpec.ofChange shelfSortSpec)

/-- ITS FALSE NEIGHBOUR: 'it returns false'. Refute it at one input. -/
def shelfSortWrong : ChangeSpec := { name := "shelfSort", fn := fun _ => fun
  | [d] => { results := [.lit (.bool false)], args := [d] }
  | _ => none }
def ShelfSortWrongFalsely : Prop := shelfSortRow.holds Tryz.pinned (OpenSpec.ofChange shelfSortWrong)

/-- 'pairlegallaw14.ShelfCount': WHATEVER THE INPUT: true; the input reads as it did. -/
def shelfCountSpec : ChangeSpec := { name := "shelfCount", fn := fun _ => fun
  | [d] => { results := [.lit (.bool true)], args := [d] }
  | _ => none }
def shelfCountRow : OpenClaim := { program := "ytclpjglkjkbljaagreat", sum := "fa32504e27e6fcdc2e3c3965309eff4e942b0959dd7774c4c453a8d17ace1cd6", func := "pairlegal/pairlegallaw14.ShelfCount", spec := "shelfCount", inPlace := ["internal/bytealg.abigen_runtime_cmpstring", "internal/bytealg.IndexByteString"], unfollowed := true, recurses := true, apart := false }
def ShelfCountSaid : Prop := shelfCountRow.holds Tryz.pinned (OpenSpec.ofChange shelfCountSpec)

/-- ITS FALSE NEIGHBOUR: 'it returns false'. Refute it at one input. -/
def shelfCountWrong : ChangeSpec := { name := "shelfCount", fn := fun _ => fun
  | [d] => { results := [.lit (.bool false)], args := [d] }
  | _ => none }
def ShelfCountWrongFalsely : Prop := shelfCountRow.holds Tryz.pinned (OpenSpec.ofChange shelfCountWrong)

/-- 'pairlegallaw14.ShelfOnes': WHATEVER THE INPUT: true; the input reads as it did. -/
def shelfOnesSpec : ChangeSpec := { name := "shelfOnes", fn := fun _ => fun
  | [d] => { results := [.lit (.bool true)], args := [d] }
  | _ => none }
def shelfOnesRow : OpenClaim := { program := "ytclpjglkjkbljaagreat", sum := "fa32504e27e6fcdc2e3c3965309eff4e942b0959dd7774c4c453a8d17ace1cd6", func := "pairlegal/pairlegallaw14.ShelfOnes", spec := "shelfOnes", inPlace := ["internal/bytealg.abigen_runtime_cmpstring", "internal/bytealg.IndexByteString"], unfollowed := true, recurses := true, apart := false }
def ShelfOnesSaid : Prop := shelfOnesRow.holds Tryz.pinned (OpenSpec.ofChange shelfOnesSpec)

/-- ITS FALSE NEIGHBOUR: 'it returns false'. Refute it at one input. -/
def shelfOnesWrong : ChangeSpec := { name := "shelfOnes", fn := fun _ => fun
  | [d] => { results := [.lit (.bool false)], args := [d] }
  | _ => none }
def ShelfOnesWrongFalsely : Prop := shelfOnesRow.holds Tryz.pinned (OpenSpec.ofChange shelfOnesWrong)

/-- 'pairlegallaw14.ShelfCrc': WHATEVER THE INPUT: true; the input reads as it did. -/
def shelfCrcSpec : ChangeSpec := { name := "shelfCrc", fn := fun _ => fun
  | [d] => { results := [.lit (.bool true)], args := [d] }
  | _ => none }
def shelfCrcRow : OpenClaim := { program := "ytclpjglkjkbljaagreat", sum := "fa32504e27e6fcdc2e3c3965309eff4e942b0959dd7774c4c453a8d17ace1cd6", func := "pairlegal/pairlegallaw14.ShelfCrc", spec := "shelfCrc", inPlace := ["internal/bytealg.abigen_runtime_cmpstring", "internal/bytealg.IndexByteString"], unfollowed := true, recurses := true, apart := false }
def ShelfCrcSaid : Prop := shelfCrcRow.holds Tryz.pinned (OpenSpec.ofChange shelfCrcSpec)

/-- ITS FALSE NEIGHBOUR: 'it returns false'. Refute it at one input. -/
def shelfCrcWrong : ChangeSpec := { name := "shelfCrc", fn := fun _ => fun
  | [d] => { results := [.lit (.bool false)], args := [d] }
  | _ => none }
def ShelfCrcWrongFalsely : Prop := shelfCrcRow.holds Tryz.pinned (OpenSpec.ofChange shelfCrcWrong)

/-- 'pairlegallaw14.ShelfAdler': WHATEVER THE INPUT: true; the input reads as it did. -/
def shelfAdlerSpec : ChangeSpec := { name := "shelfAdler", fn := fun _ => fun
  | [d] => { results := [.lit (.bool true)], args := [d] }
  | _ => none }
def shelfAdlerRow : OpenClaim := { program := "ytclpjglkjkbljaagreat", sum := "fa32504e27e6fcdc2e3c3965309eff4e942b0959dd7774c4c453a8d17ace1cd6", func := "pairlegal/pairlegallaw14.ShelfAdler", spec := "shelfAdler", inPlace := ["internal/bytealg.abigen_runtime_cmpstring", "internal/bytealg.IndexByteString"], unfollowed := true, recurses := true, apart := false }
def ShelfAdlerSaid : Prop := shelfAdlerRow.holds Tryz.pinned (OpenSpec.ofChange shelfAdlerSpec)

/-- ITS FALSE NEIGHBOUR: 'it returns false'. Refute it at one input. -/
def shelfAdlerWrong : ChangeSpec := { name := "shelfAdler", fn := fun _ => fun
  | [d] => { results := [.lit (.bool false)], args := [d] }
  | _ => none }
def ShelfAdlerWrongFalsely : Prop := shelfAdlerRow.holds Tryz.pinned (OpenSpec.ofChange shelfAdlerWrong)

/-- 'pairlegallaw14.ShelfSum': WHATEVER THE INPUT: true; the input reads as it did. -/
def shelfSumSpec : ChangeSpec := { name := "shelfSum", fn := fun _ => fun
  | [d] => { results := [.lit (.bool true)], args := [d] }
  | _ => none }
def shelfSumRow : OpenClaim := { program := "ytclpjglkjkbljaagreat", sum := "fa32504e27e6fcdc2e3c3965309eff4e942b0959dd7774c4c453a8d17ace1cd6", func := "pairlegal/pairlegallaw14.ShelfSum", spec := "shelfSum", inPlace := ["internal/bytealg.abigen_runtime_cmpstring", "internal/bytealg.IndexByteString"], unfollowed := true, recurses := true, apart := false }
def ShelfSumSaid : Prop := shelfSumRow.holds Tryz.pinned (OpenSpec.ofChange shelfSumSpec)

/-- ITS FALSE NEIGHBOUR: 'it returns false'. Refute it at one input. -/
def shelfSumWrong : ChangeSpec := { name := "shelfSum", fn := fun _ => fun
  | [d] => { results := [.lit (.bool false)], args := [d] }
  | _ => none }
def ShelfSumWrongFalsely : Prop := shelfSumRow.holds Tryz.pinned (OpenSpec.ofChange shelfSumWrong)

/-- 'pairlegallaw14.ShelfWords': WHATEVER THE INPUT: true; the input reads as it did. -/
def shelfWordsSpec : ChangeSpec := { name := "shelfWords", fn := fun _ => fun
  | [d] => { results := [.lit (.bool true)], args := [d] }
  | _ => none }
def shelfWordsRow : OpenClaim := { program := "ytclpjglkjkbljaagreat", sum := "fa32504e27e6fcdc2e3c3965309eff4e942b0959dd7774c4c453a8d17ace1cd6", func := "pairlegal/pairlegallaw14.ShelfWords", spec := "shelfWords", inPlace := ["internal/bytealg.abigen_runtime_cmpstring", "internal/bytealg.IndexByteString"], unfollowed := true, recurses := true, apart := false }
def ShelfWordsSaid : Prop := shelfWordsRow.holds Tryz.pinned (OpenSpec.ofChange shelfWordsSpec)

/-- ITS FALSE NEIGHBOUR: 'it returns false'. Refute it at one input. -/
def shelfWordsWrong : ChangeSpec := { name := "shelfWords", fn := fun _ => fun
  | [d] => { results := [.lit (.bool false)], args := [d] }
  | _ => none }
def ShelfWordsWrongFalsely : Prop := shelfWordsRow.holds Tryz.pinned (OpenSpec.ofChange shelfWordsWrong)

/-- 'pairlegallaw14.ShelfDigits': WHATEVER THE INPUT: true; the input reads as it did. -/
def shelfDigitsSpec : ChangeSpec := { name := "shelfDigits", fn := fun _ => fun
  | [d] => { results := [.lit (.bool true)], args := [d] }
  | _ => none }
def shelfDigitsRow : OpenClaim := { program := "ytclpjglkjkbljaagreat", sum := "fa32504e27e6fcdc2e3c3965309eff4e942b0959dd7774c4c453a8d17ace1cd6", func := "pairlegal/pairlegallaw14.ShelfDigits", spec := "shelfDigits", inPlace := ["internal/bytealg.abigen_runtime_cmpstring", "internal/bytealg.IndexByteString"], unfollowed := true, recurses := true, apart := false }
def ShelfDigitsSaid : Prop := shelfDigitsRow.holds Tryz.pinned (OpenSpec.ofChange shelfDigitsSpec)

/-- ITS FALSE NEIGHBOUR: 'it returns false'. Refute it at one input. -/
def shelfDigitsWrong : ChangeSpec := { name := "shelfDigits", fn := fun _ => fun
  | [d] => { results := [.lit (.bool false)], args := [d] }
  | _ => none }
def ShelfDigitsWrongFalsely : Prop := shelfDigitsRow.holds Tryz.pinned (OpenSpec.ofChange shelfDigitsWrong)

/-- 'pairlegallaw14.ShelfLuhn': WHATEVER THE INPUT: true; the input reads as it did. -/
def shelfLuhnSpec : ChangeSpec := { name := "shelfLuhn", fn := fun _ => fun
  | [d] => { results := [.lit (.bool true)], args := [d] }
  | _ => none }
def shelfLuhnRow : OpenClaim := { program := "ytclpjglkjkbljaagreat", sum := "fa32504e27e6fcdc2e3c3965309eff4e942b0959dd7774c4c453a8d17ace1cd6", func := "pairlegal/pairlegallaw14.ShelfLuhn", spec := "shelfLuhn", inPlace := ["internal/bytealg.abigen_runtime_cmpstring", "internal/bytealg.IndexByteString"], unfollowed := true, recurses := true, apart := false }
def ShelfLuhnSaid : Prop := shelfLuhnRow.holds Tryz.pinned (OpenSpec.ofChange shelfLuhnSpec)

/-- ITS FALSE NEIGHBOUR: 'it returns false'. Refute it at one input. -/
def shelfLuhnWrong : ChangeSpec := { name := "shelfLuhn", fn := fun _ => fun
  | [d] => { results := [.lit (.bool false)], args := [d] }
  | _ => none }
def ShelfLuhnWrongFalsely : Prop := shelfLuhnRow.holds Tryz.pinned (OpenSpec.ofChange shelfLuhnWrong)

/-- 'pairlegallaw14.ShelfMirror': WHATEVER THE INPUT: true; the input reads as it did. -/
def shelfMirrorSpec : ChangeSpec := { name := "shelfMirror", fn := fun _ => fun
  | [d] => { results := [.lit (.bool true)], args := [d] }
  | _ => none }
def shelfMirrorRow : OpenClaim := { program := "ytclpjglkjkbljaagreat", sum := "fa32504e27e6fcdc2e3c3965309eff4e942b0959dd7774c4c453a8d17ace1cd6", func := "pairlegal/pairlegallaw14.ShelfMirror", spec := "shelfMirror", inPlace := ["internal/bytealg.abigen_runtime_cmpstring", "internal/bytealg.IndexByteString"], unfollowed := true, recurses := true, apart := false }
def ShelfMirrorSaid : Prop := shelfMirrorRow.holds Tryz.pinned (OpenSpec.ofChange shelfMirrorSpec)

/-- ITS FALSE NEIGHBOUR: 'it returns false'. Refute it at one input. -/
def shelfMirrorWrong : ChangeSpec := { name := "shelfMirror", fn := fun _ => fun
  | [d] => { results := [.lit (.bool false)], args := [d] }
  | _ => none }
def ShelfMirrorWrongFalsely : Prop := shelfMirrorRow.holds Tryz.pinned (OpenSpec.ofChange shelfMirrorWrong)

/-- 'pairlegallaw14.ShelfBase64': WHATEVER THE INPUT: true; the input reads as it did. -/
def shelfBase64Spec : ChangeSpec := { name := "shelfBase64", fn := fun _ => fun
  | [d] => { results := [.lit (.bool true)], args := [d] }
  | _ => none }
def shelfBase64Row : OpenClaim := { program := "ytclpjglkjkbljaagreat", sum := "fa32504e27e6fcdc2e3c3965309eff4e942b0959dd7774c4c453a8d17ace1cd6", func := "pairlegal/pairlegallaw14.ShelfBase64", spec := "shelfBase64", inPlace := ["internal/bytealg.abigen_runtime_cmpstring", "internal/bytealg.IndexByteString"], unfollowed := true, recurses := true, apart := false }
def ShelfBase64Said : Prop := shelfBase64Row.holds Tryz.pinned (OpenSpec.ofChange shelfBase64Spec)

/-- ITS FALSE NEIGHBOUR: 'it returns false'. Refute it at one input. -/
def shelfBase64Wrong : ChangeSpec := { name := "shelfBase64", fn := fun _ => fun
  | [d] => { results := [.lit (.bool false)], args := [d] }
  | _ => none }
def ShelfBase64WrongFalsely : Prop := shelfBase64Row.holds Tryz.pinned (OpenSpec.ofChange shelfBase64Wrong)

/- THE SECOND FORM. 'bulk': how many values and letters a reading holds, each counted each time it is reached (what is shared counts as often as it is met; a slice's spare places count too). A statement '..UptoSaid' is the law's where the arguments, and the package variables that the reading takes, are together of bulk at most 1048576: NARROWER than '..Said'. Prove '..Said' where nothing that the law and all that it calls make is longer than what came in: it says more and counts as full. Else prove '..UptoSaid'. A law counts once. -/
mutual
def uptoBulk {H : Type} : DataW H → Nat
  | .lit (.string bytes) => bytes.length + 1
  | .lit _ => 1
  | .nil => 1
  | .ptr d => uptoBulk d + 1
  | .slice elems spare => uptoBulkAll elems + uptoBulkAll spare + 1
  | .agg parts => uptoBulkAll parts + 1
  | .iface _ d => uptoBulk d + 1
  | .map entries => uptoBulkEntries entries + 1
  | .held _ => 1
def uptoBulkAll {H : Type} : List (DataW H) → Nat
  | [] => 0
  | d :: r => uptoBulk d + uptoBulkAll r
def uptoBulkEntries {H : Type} : List (Lit × DataW H) → Nat
  | [] => 0
  | x :: r => uptoBulkEntry x + uptoBulkEntries r
def uptoBulkEntry {H : Type} : Lit × DataW H → Nat
  | (.string bytes, d) => bytes.length + uptoBulk d + 1
  | (_, d) => uptoBulk d + 1
 end
def uptoSmall : (H : Type) → List (DataW H) → Bool := fun _ ds => decide (uptoBulkAll ds ≤ 1048576)
def OpenSpec.upto (s : _root_.Go.ChangeSpec) : _root_.Go.OpenSpec := { _root_.Go.OpenSpec.ofChange s with cond := some uptoSmall }

/-- 'pairlegallaw14.ShelfReverse', WHERE WHAT IT READS IS OF BULK AT MOST 1048576: true; the input reads as it did. -/
def shelfReverseUptoRow : OpenClaim := { program := "ytclpjglkjkbljaagreat", sum := "fa32504e27e6fcdc2e3c3965309eff4e942b0959dd7774c4c453a8d17ace1cd6", func := "pairlegal/pairlegallaw14.ShelfReverse", spec := "shelfReverse", inPlace := ["internal/bytealg.abigen_runtime_cmpstring", "internal/bytealg.IndexByteString"], unfollowed := true, recurses := true, apart := false, narrowed := true }
def ShelfReverseUptoSaid : Prop := shelfReverseUptoRow.holds Tryz.pinned (OpenSpec.upto shelfReverseSpec)

/-- 'pairlegallaw14.ShelfSort', WHERE WHAT IT READS IS OF BULK AT MOST 1048576: true; the input reads as it did. -/
def shelfSortUptoRow : OpenClaim := { program := "ytclpjglkjkbljaagreat", sum := "fa32504e27e6fcdc2e3c3965309eff4e942b0959dd7774c4c453a8d17ace1cd6", func := "pairlegal/pairlegallaw14.ShelfSort", spec := "shelfSort", inPlace := ["internal/bytealg.abigen_runtime_cmpstring", "internal/bytealg.IndexByteString"], unfollowed := true, recurses := true, apart := false, narrowed := true }
def ShelfSortUptoSaid : Prop := shelfSortUptoRow.holds Tryz.pinned (OpenSpec.upto shelfSortSpec)

/-- 'pairlegallaw14.ShelfCount', WHERE WHAT IT READS IS OF BULK AT MOST 1048576: true; the input reads as it did. -/
def shelfCountUptoRow : OpenClaim := { program := "ytclpjglkjkbljaagreat", sum := "fa32504e27e6fcdc2e3c3965309eff4e942b0959dd7774c4c453a8d17ace1cd6", func := "pairlegal/pairlegallaw14.ShelfCount", spec := "shelfCount", inPlace := ["internal/bytealg.abigen_runtime_cmpstring", "internal/bytealg.IndexByteString"], unfollowed := true, recurses := true, apart := false, narrowed := true }
def ShelfCountUptoSaid : Prop := shelfCountUptoRow.holds Tryz.pinned (OpenSpec.upto shelfCountSpec)

/-- 'pairlegallaw14.ShelfOnes', WHERE WHAT IT READS IS OF BULK AT MOST 1048576: true; the input reads as it did. -/
def shelfOnesUptoRow : OpenClaim := { program := "ytclpjglkjkbljaagreat", sum := "fa32504e27e6fcdc2e3c3965309eff4e942b0959dd7774c4c453a8d17ace1cd6", func := "pairlegal/pairlegallaw14.ShelfOnes", spec := "shelfOnes", inPlace := ["internal/bytealg.abigen_runtime_cmpstring", "internal/bytealg.IndexByteString"], unfollowed := true, recurses := true, apart := false, narrowed := true }
def ShelfOnesUptoSaid : Prop := shelfOnesUptoRow.holds Tryz.pinned (OpenSpec.upto shelfOnesSpec)

/-- 'pairlegallaw14.ShelfCrc', WHERE WHAT IT READS IS OF BULK AT MOST 1048576: true; the input reads as it did. -/
def shelfCrcUptoRow : OpenClaim := { program := "ytclpjglkjkbljaagreat", sum := "fa32504e27e6fcdc2e3c3965309eff4e942b0959dd7774c4c453a8d17ace1cd6", func := "pairlegal/pairlegallaw14.ShelfCrc", spec := "shelfCrc", inPlace := ["internal/bytealg.abigen_runtime_cmpstring", "internal/bytealg.IndexByteString"], unfollowed := true, recurses := true, apart := false, narrowed := true }
def ShelfCrcUptoSaid : Prop := shelfCrcUptoRow.holds Tryz.pinned (OpenSpec.upto shelfCrcSpec)

/-- 'pairlegallaw14.ShelfAdler', WHERE WHAT IT READS IS OF BULK AT MOST 1048576: true; the input reads as it did. -/
def shelfAdlerUptoRow : OpenClaim := { program := "ytclpjglkjkbljaagreat", sum := "fa32504e27e6fcdc2e3c3965309eff4e942b0959dd7774c4c453a8d17ace1cd6", func := "pairlegal/pairlegallaw14.ShelfAdler", spec := "shelfAdler", inPlace := ["internal/bytealg.abigen_runtime_cmpstring", "internal/bytealg.IndexByteString"], unfollowed := true, recurses := true, apart := false, narrowed := true }
def ShelfAdlerUptoSaid : Prop := shelfAdlerUptoRow.holds Tryz.pinned (OpenSpec.upto shelfAdlerSpec)

/-- 'pairlegallaw14.ShelfSum', WHERE WHAT IT READS IS OF BULK AT MOST 1048576: true; the input reads as it did. -/
def shelfSumUptoRow : OpenClaim := { program := "ytclpjglkjkbljaagreat", sum := "fa32504e27e6fcdc2e3c3965309eff4e942b0959dd7774c4c453a8d17ace1cd6", func := "pairlegal/pairlegallaw14.ShelfSum", spec := "shelfSum", inPlace := ["internal/bytealg.abigen_runtime_cmpstring", "internal/bytealg.IndexByteString"], unfollowed := true, recurses := true, apart := false, narrowed := true }
def ShelfSumUptoSaid : Prop := shelfSumUptoRow.holds Tryz.pinned (OpenSpec.upto shelfSumSpec)

/-- 'pairlegallaw14.ShelfWords', WHERE WHAT IT READS IS OF BULK AT MOST 1048576: true; the input reads as it did. -/
def shelfWordsUptoRow : OpenClaim := { program := "ytclpjglkjkbljaagreat", sum := "fa32504e27e6fcdc2e3c3965309eff4e942b0959dd7774c4c453a8d17ace1cd6", func := "pairlegal/pairlegallaw14.ShelfWords", spec := "shelfWords", inPlace := ["internal/bytealg.abigen_runtime_cmpstring", "internal/bytealg.IndexByteString"], unfollowed := true, recurses := true, apart := false, narrowed := true }
def ShelfWordsUptoSaid : Prop := shelfWordsUptoRow.holds Tryz.pinned (OpenSpec.upto shelfWordsSpec)

/-- 'pairlegallaw14.ShelfDigits', WHERE WHAT IT READS IS OF BULK AT MOST 1048576: true; the input reads as it did. -/
def shelfDigitsUptoRow : OpenClaim := { program := "ytclpjglkjkbljaagreat", sum := "fa32504e27e6fcdc2e3c3965309eff4e942b0959dd7774c4c453a8d17ace1cd6", func := "pairlegal/pairlegallaw14.ShelfDigits", spec := "shelfDigits", inPlace := ["internal/bytealg.abigen_runtime_cmpstring", "internal/bytealg.IndexByteString"], unfollowed := true, recurses := true, apart := false, narrowed := true }
def ShelfDigitsUptoSaid : Prop := shelfDigitsUptoRow.holds Tryz.pinned (OpenSpec.upto shelfDigitsSpec)

/-- 'pairlegallaw14.ShelfLuhn', WHERE WHAT IT READS IS OF BULK AT MOST 1048576: true; the input reads as it did. -/
def shelfLuhnUptoRow : OpenClaim := { program := "ytclpjglkjkbljaagreat", sum := "fa32504e27e6fcdc2e3c3965309eff4e942b0959dd7774c4c453a8d17ace1cd6", func := "pairlegal/pairlegallaw14.ShelfLuhn", spec := "shelfLuhn", inPlace := ["internal/bytealg.abigen_runtime_cmpstring", "internal/bytealg.IndexByteString"], unfollowed := true, recurses := true, apart := false, narrowed := true }
def ShelfLuhnUptoSaid : Prop := shelfLuhnUptoRow.holds Tryz.pinned (OpenSpec.upto shelfLuhnSpec)

/-- 'pairlegallaw14.ShelfMirror', WHERE WHAT IT READS IS OF BULK AT MOST 1048576: true; the input reads as it did. -/
def shelfMirrorUptoRow : OpenClaim := { program := "ytclpjglkjkbljaagreat", sum := "fa32504e27e6fcdc2e3c3965309eff4e942b0959dd7774c4c453a8d17ace1cd6", func := "pairlegal/pairlegallaw14.ShelfMirror", spec := "shelfMirror", inPlace := ["internal/bytealg.abigen_runtime_cmpstring", "internal/bytealg.IndexByteString"], unfollowed := true, recurses := true, apart := false, narrowed := true }
def ShelfMirrorUptoSaid : Prop := shelfMirrorUptoRow.holds Tryz.pinned (OpenSpec.upto shelfMirrorSpec)

/-- 'pairlegallaw14.ShelfBase64', WHERE WHAT IT READS IS OF BULK AT MOST 1048576: true; the input reads as it did. -/
def shelfBase64UptoRow : OpenClaim := { program := "ytclpjglkjkbljaagreat", sum := "fa32504e27e6fcdc2e3c3965309eff4e942b0959dd7774c4c453a8d17ace1cd6", func := "pairlegal/pairlegallaw14.ShelfBase64", spec := "shelfBase64", inPlace := ["internal/bytealg.abigen_runtime_cmpstring", "internal/bytealg.IndexByteString"], unfollowed := true, recurses := true, apart := false, narrowed := true }
def ShelfBase64UptoSaid : Prop := shelfBase64UptoRow.holds Tryz.pinned (OpenSpec.upto shelfBase64Spec)

end Rows
end Go.Proofs.YtclpjglkjkbljaaGreat
