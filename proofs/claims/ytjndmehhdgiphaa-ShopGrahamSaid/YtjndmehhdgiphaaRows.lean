/-
  No cell of these rows narrows 'for every input' (looked for: loops, veiled, ifaces, maps, wideKeys, modest, calm, conditions, laid).
  DERIVED. THE GIVEN ROWS OF THIS SEAT. 4 by the template 'for every input the law returns true; each argument reads behind the call as it read before'; 0 by the template 'total and deterministic' (their statements: YtjndmehhdgiphaaTotals.lean).
  GIVEN WITH THE SEED: the statements are not yours to turn. If you find one false, say at which input.
  Laid BY PROGRAM, IN A SANDBOX (cutbox-rows.mjs): the forced cells as the released guide's own fill.sh prints them over the translation 21f5fedb8aef3282… (all of the seat's roots in one cut). By AI agents, Wed Nov 11 2026. No macro, syntax, notation, axiom, sorry.
-/
import Derived.Test.YtjndmehhdgiphaaChecked
import GoSem.Claim
import GoSem.ClaimJoined
import GoSem.ClaimMapViews
import Derived.JoinedTies
import Derived.KernelRfl
namespace Go.Proofs.Ytjndmehhdgiphaa
/- THE CELL 'sum', in the pinned program and in every row, IS THE sha256 OF THE DUMP (.gsa) THAT YtjndmehhdgiphaaProg.lean LOADS. Nothing in Lean hashes anything: it is a label: what it is worth is what the hold of that sum in a sandbox is worth. -/
noncomputable def Try.pinned : Pinned := { name := "ytjndmehhdgiphaa", sum := "21f5fedb8aef32827d804e7129a49a6c1cbfa630f8f9ef9b03da03d5965acf6e", checked := Try.checked }
namespace Rows
def none {H : Type} : Left H := { results := [], args := [] }

/-- 'foresightkeep.ShopJohnsoned': WHATEVER THE INPUT: true; the input reads as it did. -/
def shopJohnsonedSpec : ChangeSpec := { name := "shopJohnsoned", fn := fun _ => fun
  | [d1, d2] => { results := [.lit (.bool true)], args := [d1, d2] }
  | _ => none }
def shopJohnsonedRow : OpenClaim := { program := "ytjndmehhdgiphaa", sum := "21f5fedb8aef32827d804e7129a49a6c1cbfa630f8f9ef9b03da03d5965acf6e", func := "foresight/foresightkeep.ShopJohnsoned", spec := "shopJohnsoned", unfollowed := true, recurses := true, apart := false }
def ShopJohnsonedSaid : Prop := shopJohnsonedRow.holds Try.pinned (OpenSpec.ofChange shopJohnsonedSpec)

/-- ITS FALSE NEIGHBOUR: 'it returns false'. Refute it at one input. -/
def shopJohnsonedWrong : ChangeSpec := { name := "shopJohnsoned", fn := fun _ => fun
  | [d1, d2] => { results := [.lit (.bool false)], args := [d1, d2] }
  | _ => none }
def ShopJohnsonedWrongFalsely : Prop := shopJohnsonedRow.holds Try.pinned (OpenSpec.ofChange shopJohnsonedWrong)

/-- 'foresightkeep.ShopMcNaughtoned': WHATEVER THE INPUT: true; the input reads as it did. -/
def shopMcNaughtonedSpec : ChangeSpec := { name := "shopMcNaughtoned", fn := fun _ => fun
  | [d1, d2] => { results := [.lit (.bool true)], args := [d1, d2] }
  | _ => none }
def shopMcNaughtonedRow : OpenClaim := { program := "ytjndmehhdgiphaa", sum := "21f5fedb8aef32827d804e7129a49a6c1cbfa630f8f9ef9b03da03d5965acf6e", func := "foresight/foresightkeep.ShopMcNaughtoned", spec := "shopMcNaughtoned", unfollowed := true, recurses := true, apart := false }
def ShopMcNaughtonedSaid : Prop := shopMcNaughtonedRow.holds Try.pinned (OpenSpec.ofChange shopMcNaughtonedSpec)

/-- ITS FALSE NEIGHBOUR: 'it returns false'. Refute it at one input. -/
def shopMcNaughtonedWrong : ChangeSpec := { name := "shopMcNaughtoned", fn := fun _ => fun
  | [d1, d2] => { results := [.lit (.bool false)], args := [d1, d2] }
  | _ => none }
def ShopMcNaughtonedWrongFalsely : Prop := shopMcNaughtonedRow.holds Try.pinned (OpenSpec.ofChange shopMcNaughtonedWrong)

/-- 'foresightkeep.ShopHued': WHATEVER THE INPUT: true; the input reads as it did. -/
def shopHuedSpec : ChangeSpec := { name := "shopHued", fn := fun _ => fun
  | [d1, d2] => { results := [.lit (.bool true)], args := [d1, d2] }
  | _ => none }
def shopHuedRow : OpenClaim := { program := "ytjndmehhdgiphaa", sum := "21f5fedb8aef32827d804e7129a49a6c1cbfa630f8f9ef9b03da03d5965acf6e", func := "foresight/foresightkeep.ShopHued", spec := "shopHued", unfollowed := true, recurses := true, apart := false }
def ShopHuedSaid : Prop := shopHuedRow.holds Try.pinned (OpenSpec.ofChange shopHuedSpec)

/-- ITS FALSE NEIGHBOUR: 'it returns false'. Refute it at one input. -/
def shopHuedWrong : ChangeSpec := { name := "shopHued", fn := fun _ => fun
  | [d1, d2] => { results := [.lit (.bool false)], args := [d1, d2] }
  | _ => none }
def ShopHuedWrongFalsely : Prop := shopHuedRow.holds Try.pinned (OpenSpec.ofChange shopHuedWrong)

/-- 'foresightkeep.ShopGraham': WHATEVER THE INPUT: true; the input reads as it did. -/
def shopGrahamSpec : ChangeSpec := { name := "shopGraham", fn := fun _ => fun
  | [d1, d2, d3] => { results := [.lit (.bool true)], args := [d1, d2, d3] }
  | _ => none }
def shopGrahamRow : OpenClaim := { program := "ytjndmehhdgiphaa", sum := "21f5fedb8aef32827d804e7129a49a6c1cbfa630f8f9ef9b03da03d5965acf6e", func := "foresight/foresightkeep.ShopGraham", spec := "shopGraham", unfollowed := true, recurses := true, apart := false }
def ShopGrahamSaid : Prop := shopGrahamRow.holds Try.pinned (OpenSpec.ofChange shopGrahamSpec)

/-- ITS FALSE NEIGHBOUR: 'it returns false'. Refute it at one input. -/
def shopGrahamWrong : ChangeSpec := { name := "shopGraham", fn := fun _ => fun
  | [d1, d2, d3] => { results := [.lit (.bool false)], args := [d1, d2, d3] }
  | _ => none }
def ShopGrahamWrongFalsely : Prop := shopGrahamRow.holds Try.pinned (OpenSpec.ofChange shopGrahamWrong)

/- THE SECOND FORM. 'bulk': how many values and letters a reading holds, each counted each time it is reached (what is shared counts as often as it is met; a slice's spare places count too). A statement '..UptoSaid' is the law's where the arguments, and the package variables that the reading takes, are together of bulk at most 1048576: NARROWER than '..Said'. Prove '..Said' where nothing that the law and all that it calls make is longer than what came in: it says more and counts as full. Else prove '..UptoSaid'. A law counts once. -/
mutual
def uptoBulk {H : Type} : DataW H → Nat
  | .lit (.string bytes) => bytes.length + 1
  | .lit _ => 1
  | .nil => 1
  | .ptr d => uptoBulk d + 1
  | .slice elems spare => uptoBulkAll elems + uptoBulkAll spare + 1
  | .agg parts => uptoBulkAll parts + 1
  | .iface _ d => uptoBulk d + 1
  | .map entries => uptoBulkEntries entries + 1
  | .held _ => 1
def uptoBulkAll {H : Type} : List (DataW H) → Nat
  | [] => 0
  | d :: r => uptoBulk d + uptoBulkAll r
def uptoBulkEntries {H : Type} : List (Lit × DataW H) → Nat
  | [] => 0
  | x :: r => uptoBulkEntry x + uptoBulkEntries r
def uptoBulkEntry {H : Type} : Lit × DataW H → Nat
  | (.string bytes, d) => bytes.length + uptoBulk d + 1
  | (_, d) => uptoBulk d + 1
 end
def uptoSmall : (H : Type) → List (DataW H) → Bool := fun _ ds => decide (uptoBulkAll ds ≤ 1048576)
def OpenSpec.upto (s : _root_.Go.ChangeSpec) : _root_.Go.OpenSpec := { _root_.Go.OpenSpec.ofChange s with cond := some uptoSmall }

/-- 'foresightkeep.ShopJohnsoned', WHERE WHAT IT READS IS OF BULK AT MOST 1048576: true; the input reads as it did. -/
def shopJohnsonedUptoRow : OpenClaim := { program := "ytjndmehhdgiphaa", sum := "21f5fedb8aef32827d804e7129a49a6c1cbfa630f8f9ef9b03da03d5965acf6e", func := "foresight/foresightkeep.ShopJohnsoned", spec := "shopJohnsoned", unfollowed := true, recurses := true, apart := false, narrowed := true }
def ShopJohnsonedUptoSaid : Prop := shopJohnsonedUptoRow.holds Try.pinned (OpenSpec.upto shopJohnsonedSpec)

/-- 'foresightkeep.ShopMcNaughtoned', WHERE WHAT IT READS IS OF BULK AT MOST 1048576: true; the input reads as it did. -/
def shopMcNaughtonedUptoRow : OpenClaim := { program := "ytjndmehhdgiphaa", sum := "21f5fedb8aef32827d804e7129a49a6c1cbfa630f8f9ef9b03da03d5965acf6e", func := "foresight/foresightkeep.ShopMcNaughtoned", spec := "shopMcNaughtoned", unfollowed := true, recurses := true, apart := false, narrowed := true }
def ShopMcNaughtonedUptoSaid : Prop := shopMcNaughtonedUptoRow.holds Try.pinned (OpenSpec.upto shopMcNaughtonedSpec)

/-- 'foresightkeep.ShopHued', WHERE WHAT IT READS IS OF BULK AT MOST 1048576: true; the input reads as it did. -/
def shopHuedUptoRow : OpenClaim := { program := "ytjndmehhdgiphaa", sum := "21f5fedb8aef32827d804e7129a49a6c1cbfa630f8f9ef9b03da03d5965acf6e", func := "foresight/foresightkeep.ShopHued", spec := "shopHued", unfollowed := true, recurses := true, apart := false, narrowed := true }
def ShopHuedUptoSaid : Prop := shopHuedUptoRow.holds Try.pinned (OpenSpec.upto shopHuedSpec)

/-- 'foresightkeep.ShopGraham', WHERE WHAT IT READS IS OF BULK AT MOST 1048576: true; the input reads as it did. -/
def shopGrahamUptoRow : OpenClaim := { program := "ytjndmehhdgiphaa", sum := "21f5fedb8aef32827d804e7129a49a6c1cbfa630f8f9ef9b03da03d5965acf6e", func := "foresight/foresightkeep.ShopGraham", spec := "shopGraham", unfollowed := true, recurses := true, apart := false, narrowed := true }
def ShopGrahamUptoSaid : Prop := shopGrahamUptoRow.holds Try.pinned (OpenSpec.upto shopGrahamSpec)

end Rows
end Go.Proofs.Ytjndmehhdgiphaa
