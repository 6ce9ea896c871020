/-
  No cell of these rows narrows 'for every input' (looked for: loops, veiled, ifaces, maps, wideKeys, modest, calm, conditions, laid).
  DERIVED. THE GIVEN ROWS OF THIS SEAT. 4 by the template 'for every input the law returns true; each argument reads behind the call as it read before'; 0 by the template 'total and deterministic' (their statements: YtekjddcckkelnaaTotals.lean).
  GIVEN WITH THE SEED: the statements are not yours to turn. If you find one false, say at which input.
  Laid BY PROGRAM, IN A SANDBOX (cutbox-rows.mjs): the forced cells as the released guide's own fill.sh prints them over the translation 3b7e592d0dd20f77… (all of the seat's roots in one cut). By AI agents, Wed Nov 11 2026. No macro, syntax, notation, axiom, sorry.
-/
import Derived.Test.YtekjddcckkelnaaChecked
import GoSem.Claim
import GoSem.ClaimJoined
import GoSem.ClaimMapViews
import Derived.JoinedTies
import Derived.KernelRfl
namespace Go.Proofs.Ytekjddcckkelnaa
/- THE CELL 'sum', in the pinned program and in every row, IS THE sha256 OF THE DUMP (.gsa) THAT YtekjddcckkelnaaProg.lean LOADS. Nothing in Lean hashes anything: it is a label: what it is worth is what the hold of that sum in a sandbox is worth. -/
noncomputable def Try.pinned : Pinned := { name := "ytekjddcckkelnaa", sum := "3b7e592d0dd20f7752adda81efc6a0a1cd89e31104db29c14af73b553304a1f1", checked := Try.checked }
namespace Rows
def none {H : Type} : Left H := { results := [], args := [] }

/-- 'foresightkeep.PathLittle': WHATEVER THE INPUT: true; the input reads as it did. -/
def pathLittleSpec : ChangeSpec := { name := "pathLittle", fn := fun _ => fun
  | [d1, d2] => { results := [.lit (.bool true)], args := [d1, d2] }
  | _ => none }
def pathLittleRow : OpenClaim := { program := "ytekjddcckkelnaa", sum := "3b7e592d0dd20f7752adda81efc6a0a1cd89e31104db29c14af73b553304a1f1", func := "foresight/foresightkeep.PathLittle", spec := "pathLittle", unfollowed := true, recurses := true, apart := false }
def PathLittleSaid : Prop := pathLittleRow.holds Try.pinned (OpenSpec.ofChange pathLittleSpec)

/-- ITS FALSE NEIGHBOUR: 'it returns false'. Refute it at one input. -/
def pathLittleWrong : ChangeSpec := { name := "pathLittle", fn := fun _ => fun
  | [d1, d2] => { results := [.lit (.bool false)], args := [d1, d2] }
  | _ => none }
def PathLittleWrongFalsely : Prop := pathLittleRow.holds Try.pinned (OpenSpec.ofChange pathLittleWrong)

/-- 'foresightkeep.PathShortest': WHATEVER THE INPUT: true; the input reads as it did. -/
def pathShortestSpec : ChangeSpec := { name := "pathShortest", fn := fun _ => fun
  | [d1, d2] => { results := [.lit (.bool true)], args := [d1, d2] }
  | _ => none }
def pathShortestRow : OpenClaim := { program := "ytekjddcckkelnaa", sum := "3b7e592d0dd20f7752adda81efc6a0a1cd89e31104db29c14af73b553304a1f1", func := "foresight/foresightkeep.PathShortest", spec := "pathShortest", unfollowed := true, recurses := true, apart := false }
def PathShortestSaid : Prop := pathShortestRow.holds Try.pinned (OpenSpec.ofChange pathShortestSpec)

/-- ITS FALSE NEIGHBOUR: 'it returns false'. Refute it at one input. -/
def pathShortestWrong : ChangeSpec := { name := "pathShortest", fn := fun _ => fun
  | [d1, d2] => { results := [.lit (.bool false)], args := [d1, d2] }
  | _ => none }
def PathShortestWrongFalsely : Prop := pathShortestRow.holds Try.pinned (OpenSpec.ofChange pathShortestWrong)

/-- 'foresightkeep.PathWork': WHATEVER THE INPUT: true; the input reads as it did. -/
def pathWorkSpec : ChangeSpec := { name := "pathWork", fn := fun _ => fun
  | [d1, d2, d3, d4] => { results := [.lit (.bool true)], args := [d1, d2, d3, d4] }
  | _ => none }
def pathWorkRow : OpenClaim := { program := "ytekjddcckkelnaa", sum := "3b7e592d0dd20f7752adda81efc6a0a1cd89e31104db29c14af73b553304a1f1", func := "foresight/foresightkeep.PathWork", spec := "pathWork", unfollowed := true, recurses := true, apart := false }
def PathWorkSaid : Prop := pathWorkRow.holds Try.pinned (OpenSpec.ofChange pathWorkSpec)

/-- ITS FALSE NEIGHBOUR: 'it returns false'. Refute it at one input. -/
def pathWorkWrong : ChangeSpec := { name := "pathWork", fn := fun _ => fun
  | [d1, d2, d3, d4] => { results := [.lit (.bool false)], args := [d1, d2, d3, d4] }
  | _ => none }
def PathWorkWrongFalsely : Prop := pathWorkRow.holds Try.pinned (OpenSpec.ofChange pathWorkWrong)

/-- 'foresightkeep.PathLindley': WHATEVER THE INPUT: true; the input reads as it did. -/
def pathLindleySpec : ChangeSpec := { name := "pathLindley", fn := fun _ => fun
  | [d] => { results := [.lit (.bool true)], args := [d] }
  | _ => none }
def pathLindleyRow : OpenClaim := { program := "ytekjddcckkelnaa", sum := "3b7e592d0dd20f7752adda81efc6a0a1cd89e31104db29c14af73b553304a1f1", func := "foresight/foresightkeep.PathLindley", spec := "pathLindley", unfollowed := true, recurses := true, apart := false }
def PathLindleySaid : Prop := pathLindleyRow.holds Try.pinned (OpenSpec.ofChange pathLindleySpec)

/-- ITS FALSE NEIGHBOUR: 'it returns false'. Refute it at one input. -/
def pathLindleyWrong : ChangeSpec := { name := "pathLindley", fn := fun _ => fun
  | [d] => { results := [.lit (.bool false)], args := [d] }
  | _ => none }
def PathLindleyWrongFalsely : Prop := pathLindleyRow.holds Try.pinned (OpenSpec.ofChange pathLindleyWrong)

/- THE SECOND FORM. 'bulk': how many values and letters a reading holds, each counted each time it is reached (what is shared counts as often as it is met; a slice's spare places count too). A statement '..UptoSaid' is the law's where the arguments, and the package variables that the reading takes, are together of bulk at most 1048576: NARROWER than '..Said'. Prove '..Said' where nothing that the law and all that it calls make is longer than what came in: it says more and counts as full. Else prove '..UptoSaid'. A law counts once. -/
mutual
def uptoBulk {H : Type} : DataW H → Nat
  | .lit (.string bytes) => bytes.length + 1
  | .lit _ => 1
  | .nil => 1
  | .ptr d => uptoBulk d + 1
  | .slice elems spare => uptoBulkAll elems + uptoBulkAll spare + 1
  | .agg parts => uptoBulkAll parts + 1
  | .iface _ d => uptoBulk d + 1
  | .map entries => uptoBulkEntries entries + 1
  | .held _ => 1
def uptoBulkAll {H : Type} : List (DataW H) → Nat
  | [] => 0
  | d :: r => uptoBulk d + uptoBulkAll r
def uptoBulkEntries {H : Type} : List (Lit × DataW H) → Nat
  | [] => 0
  | x :: r => uptoBulkEntry x + uptoBulkEntries r
def uptoBulkEntry {H : Type} : Lit × DataW H → Nat
  | (.string bytes, d) => bytes.length + uptoBulk d + 1
  | (_, d) => uptoBulk d + 1
 end
def uptoSmall : (H : Type) → List (DataW H) → Bool := fun _ ds => decide (uptoBulkAll ds ≤ 1048576)
def OpenSpec.upto (s : _root_.Go.ChangeSpec) : _root_.Go.OpenSpec := { _root_.Go.OpenSpec.ofChange s with cond := some uptoSmall }

/-- 'foresightkeep.PathLittle', WHERE WHAT IT READS IS OF BULK AT MOST 1048576: true; the input reads as it did. -/
def pathLittleUptoRow : OpenClaim := { program := "ytekjddcckkelnaa", sum := "3b7e592d0dd20f7752adda81efc6a0a1cd89e31104db29c14af73b553304a1f1", func := "foresight/foresightkeep.PathLittle", spec := "pathLittle", unfollowed := true, recurses := true, apart := false, narrowed := true }
def PathLittleUptoSaid : Prop := pathLittleUptoRow.holds Try.pinned (OpenSpec.upto pathLittleSpec)

/-- 'foresightkeep.PathShortest', WHERE WHAT IT READS IS OF BULK AT MOST 1048576: true; the input reads as it did. -/
def pathShortestUptoRow : OpenClaim := { program := "ytekjddcckkelnaa", sum := "3b7e592d0dd20f7752adda81efc6a0a1cd89e31104db29c14af73b553304a1f1", func := "foresight/foresightkeep.PathShortest", spec := "pathShortest", unfollowed := true, recurses := true, apart := false, narrowed := true }
def PathShortestUptoSaid : Prop := pathShortestUptoRow.holds Try.pinned (OpenSpec.upto pathShortestSpec)

/-- 'foresightkeep.PathWork', WHERE WHAT IT READS IS OF BULK AT MOST 1048576: true; the input reads as it did. -/
def pathWorkUptoRow : OpenClaim := { program := "ytekjddcckkelnaa", sum := "3b7e592d0dd20f7752adda81efc6a0a1cd89e31104db29c14af73b553304a1f1", func := "foresight/foresightkeep.PathWork", spec := "pathWork", unfollowed := true, recurses := true, apart := false, narrowed := true }
def PathWorkUptoSaid : Prop := pathWorkUptoRow.holds Try.pinned (OpenSpec.upto pathWorkSpec)

/-- 'foresightkeep.PathLindley', WHERE WHAT IT READS IS OF BULK AT MOST 1048576: true; the input reads as it did. -/
def pathLindleyUptoRow : OpenClaim := { program := "ytekjddcckkelnaa", sum := "3b7e592d0dd20f7752adda81efc6a0a1cd89e31104db29c14af73b553304a1f1", func := "foresight/foresightkeep.PathLindley", spec := "pathLindley", unfollowed := true, recurses := true, apart := false, narrowed := true }
def PathLindleyUptoSaid : Prop := pathLindleyUptoRow.holds Try.pinned (OpenSpec.upto pathLindleySpec)

end Rows
end Go.Proofs.Ytekjddcckkelnaa
