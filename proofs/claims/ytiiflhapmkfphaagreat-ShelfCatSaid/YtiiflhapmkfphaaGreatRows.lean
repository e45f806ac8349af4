/-
  No cell of these rows narrows 'for every input' (looked for: loops, veiled, ifaces, maps, wideKeys, modest, calm, conditions, laid).
  DERIVED. THE GIVEN ROWS OF THIS SEAT. 2 by the template 'for every input the law returns true; each argument reads behind the call as it read before'; 0 by the template 'total and deterministic' (their statements: YtiiflhapmkfphaaGreatTotals.lean).
  GIVEN WITH THE SEED: the statements are not yours to turn. If you find one false, say at which input.
  Laid BY PROGRAM, IN A SANDBOX (cutbox-rows.mjs): the forced cells as the released guide's own fill.sh prints them over the translation 0109cbfda202c7ec… (all of the seat's roots in one cut). By AI agents, Wed Nov 11 2026. No macro, syntax, notation, axiom, sorry.
-/
import Derived.Test.YtiiflhapmkfphaaGreatChecked
import GoSem.Claim
import GoSem.ClaimJoined
import GoSem.ClaimMapViews
import Derived.JoinedTies
import Derived.KernelRfl
namespace Go.Proofs.YtiiflhapmkfphaaGreat
/- THE CELL 'sum', in the pinned program and in every row, IS THE sha256 OF THE DUMP (.gsa) THAT YtiiflhapmkfphaaGreatProg.lean LOADS. Nothing in Lean hashes anything: it is a label: what it is worth is what the hold of that sum in a sandbox is worth. -/
noncomputable def Tryz.pinned : Pinned := { name := "ytiiflhapmkfphaagreat", sum := "0109cbfda202c7ecc6667167cfc28cf16d561997a9810ec6159568333a0f8117", checked := Tryz.checked }
namespace Rows
def none {H : Type} : Left H := { results := [], args := [] }

/-- 'pairlegallaw14.ShelfTells': WHATEVER THE INPUT: true; the input reads as it did. -/
def shelfTellsSpec : ChangeSpec := { name := "shelfTells", fn := fun _ => fun
  | [d1, d2] => { results := [.lit (.bool true)], args := [d1, d2] }
  | _ => none }
def shelfTellsRow : OpenClaim := { program := "ytiiflhapmkfphaagreat", sum := "0109cbfda202c7ecc6667167cfc28cf16d561997a9810ec6159568333a0f8117", func := "pairlegal/pairlegallaw14.ShelfTells", spec := "shelfTells", inPlace := ["internal/bytealg.abigen_runtime_cmpstring", "internal/bytealg.IndexByteString"], unfollowed := true, recurses := true, apart := false }
def ShelfTellsSaid : Prop := shelfTellsRow.holds Tryz.pinned (OpenSpec.ofChange shelfTellsSpec)

/-- ITS FALSE NEIGHBOUR: 'it returns false'. Refute it at one input. -/
def shelfTellsWrong : ChangeSpec := { name := "shelfTells", fn := fun _ => fun
  | [d1, d2] => { results := [.lit (.bool false)], args := [d1, d2] }
  | _ => none }
def ShelfTellsWrongFalsely : Prop := shelfTellsRow.holds Tryz.pinned (OpenSpec.ofChange shelfTellsWrong)

/-- 'pairlegallaw14.ShelfCat': WHATEVER THE INPUT: true; the input reads as it did. -/
def shelfCatSpec : ChangeSpec := { name := "shelfCat", fn := fun _ => fun
  | [d] => { results := [.lit (.bool true)], args := [d] }
  | _ => none }
def shelfCatRow : OpenClaim := { program := "ytiiflhapmkfphaagreat", sum := "0109cbfda202c7ecc6667167cfc28cf16d561997a9810ec6159568333a0f8117", func := "pairlegal/pairlegallaw14.ShelfCat", spec := "shelfCat", inPlace := ["internal/bytealg.abigen_runtime_cmpstring", "internal/bytealg.IndexByteString"], unfollowed := true, recurses := true, apart := false }
def ShelfCatSaid : Prop := shelfCatRow.holds Tryz.pinned (OpenSpec.ofChange shelfCatSpec)

/-- ITS FALSE NEIGHBOUR: 'it returns false'. Refute it at one input. -/
def shelfCatWrong : ChangeSpec := { name := "shelfCat", fn := fun _ => fun
  | [d] => { results := [.lit (.bool false)], args := [d] }
  | _ => none }
def ShelfCatWrongFalsely : Prop := shelfCatRow.holds Tryz.pinned (OpenSpec.ofChange shelfCatWrong)

/- THE SECOND FORM. 'bulk': how many values and letters a reading holds, each counted each time it is reached (what is shared counts as often as it is met; a slice's spare places count too). A statement '..UptoSaid' is the law's where the arguments, and the package variables that the reading takes, are together of bulk at most 1048576: NARROWER than '..Said'. Prove '..Said' where nothing that the law and all that it calls make is longer than what came in: it says more and counts as full. Else prove '..UptoSaid'. A law counts once. -/
mutual
def uptoBulk {H : Type} : DataW H → Nat
  | .lit (.string bytes) => bytes.length + 1
  | .lit _ => 1
  | .nil => 1
  | .ptr d => uptoBulk d + 1
  | .slice elems spare => uptoBulkAll elems + uptoBulkAll spare + 1
  | .agg parts => uptoBulkAll parts + 1
  | .iface _ d => uptoBulk d + 1
  | .map entries => uptoBulkEntries entries + 1
  | .held _ => 1
def uptoBulkAll {H : Type} : List (DataW H) → Nat
  | [] => 0
  | d :: r => uptoBulk d + uptoBulkAll r
def uptoBulkEntries {H : Type} : List (Lit × DataW H) → Nat
  | [] => 0
  | x :: r => uptoBulkEntry x + uptoBulkEntries r
def uptoBulkEntry {H : Type} : Lit × DataW H → Nat
  | (.string bytes, d) => bytes.length + uptoBulk d + 1
  | (_, d) => uptoBulk d + 1
 end
def uptoSmall : (H : Type) → List (DataW H) → Bool := fun _ ds => decide (uptoBulkAll ds ≤ 1048576)
def OpenSpec.upto (s : _root_.Go.ChangeSpec) : _root_.Go.OpenSpec := { _root_.Go.OpenSpec.ofChange s with cond := some uptoSmall }

/-- 'pairlegallaw14.ShelfTells', WHERE WHAT IT READS IS OF BULK AT MOST 1048576: true; the input reads as it did. -/
def shelfTellsUptoRow : OpenClaim := { program := "ytiiflhapmkfphaagreat", sum := "0109cbfda202c7ecc6667167cfc28cf16d561997a9810ec6159568333a0f8117", func := "pairlegal/pairlegallaw14.ShelfTells", spec := "shelfTells", inPlace := ["internal/bytealg.abigen_runtime_cmpstring", "internal/bytealg.IndexByteString"], unfollowed := true, recurses := true, apart := false, narrowed := true }
def ShelfTellsUptoSaid : Prop := shelfTellsUptoRow.holds Tryz.pinned (OpenSpec.upto shelfTellsSpec)

/-- 'pairlegallaw14.ShelfCat', WHERE WHAT IT READS IS OF BULK AT MOST 1048576: true; the input reads as it did. -/
def shelfCatUptoRow : OpenClaim := { program := "ytiiflhapmkfphaagreat", sum := "0109cbfda202c7ecc6667167cfc28cf16d561997a9810ec6159568333a0f8117", func := "pairlegal/pairlegallaw14.ShelfCat", spec := "shelfCat", inPlace := ["internal/bytealg.abigen_runtime_cmpstring", "internal/bytealg.IndexByteString"], unfollowed := true, recurses := true, apart := false, narrowed := true }
def ShelfCatUptoSaid : Prop := shelfCatUptoRow.holds Tryz.pinned (OpenSpec.upto shelfCatSpec)

end Rows
end Go.Proofs.YtiiflhapmkfphaaGreat
