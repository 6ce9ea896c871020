/-
  No cell of these rows narrows 'for every input' (looked for: loops, veiled, ifaces, maps, wideKeys, modest, calm, conditions, laid).
  DERIVED. THE GIVEN ROWS OF THIS SEAT. 3 by the template 'for every input the law returns true; each argument reads behind the call as it read before'; 0 by the template 'total and deterministic' (their statements: YtlopcegpolpndaaTotals.lean).
  GIVEN WITH THE SEED: the statements are not yours to turn. If you find one false, say at which input.
  Laid BY PROGRAM, IN A SANDBOX (cutbox-rows.mjs): the forced cells as the released guide's own fill.sh prints them over the translation 165987ec96058627… (all of the seat's roots in one cut). By AI agents, Wed Nov 11 2026. No macro, syntax, notation, axiom, sorry.
-/
import Derived.Test.YtlopcegpolpndaaChecked
import GoSem.Claim
import GoSem.ClaimJoined
import GoSem.ClaimMapViews
import Derived.JoinedTies
import Derived.KernelRfl
namespace Go.Proofs.Ytlopcegpolpndaa
/- THE CELL 'sum', in the pinned program and in every row, IS THE sha256 OF THE DUMP (.gsa) THAT YtlopcegpolpndaaProg.lean LOADS. Nothing in Lean hashes anything: it is a label: what it is worth is what the hold of that sum in a sandbox is worth. -/
noncomputable def Try.pinned : Pinned := { name := "ytlopcegpolpndaa", sum := "165987ec96058627dc3d472e655e38dcb1e738390c8c73dbe634bbe672571ecc", checked := Try.checked }
namespace Rows
def none {H : Type} : Left H := { results := [], args := [] }

/-- 'foresightkeep.TripShortest': WHATEVER THE INPUT: true; the input reads as it did. -/
def tripShortestSpec : ChangeSpec := { name := "tripShortest", fn := fun _ => fun
  | [d1, d2] => { results := [.lit (.bool true)], args := [d1, d2] }
  | _ => none }
def tripShortestRow : OpenClaim := { program := "ytlopcegpolpndaa", sum := "165987ec96058627dc3d472e655e38dcb1e738390c8c73dbe634bbe672571ecc", func := "foresight/foresightkeep.TripShortest", spec := "tripShortest", unfollowed := true, recurses := true, apart := false }
def TripShortestSaid : Prop := tripShortestRow.holds Try.pinned (OpenSpec.ofChange tripShortestSpec)

/-- ITS FALSE NEIGHBOUR: 'it returns false'. Refute it at one input. -/
def tripShortestWrong : ChangeSpec := { name := "tripShortest", fn := fun _ => fun
  | [d1, d2] => { results := [.lit (.bool false)], args := [d1, d2] }
  | _ => none }
def TripShortestWrongFalsely : Prop := tripShortestRow.holds Try.pinned (OpenSpec.ofChange tripShortestWrong)

/-- 'foresightkeep.TripTurned': WHATEVER THE INPUT: true; the input reads as it did. -/
def tripTurnedSpec : ChangeSpec := { name := "tripTurned", fn := fun _ => fun
  | [d1, d2] => { results := [.lit (.bool true)], args := [d1, d2] }
  | _ => none }
def tripTurnedRow : OpenClaim := { program := "ytlopcegpolpndaa", sum := "165987ec96058627dc3d472e655e38dcb1e738390c8c73dbe634bbe672571ecc", func := "foresight/foresightkeep.TripTurned", spec := "tripTurned", unfollowed := true, recurses := true, apart := false }
def TripTurnedSaid : Prop := tripTurnedRow.holds Try.pinned (OpenSpec.ofChange tripTurnedSpec)

/-- ITS FALSE NEIGHBOUR: 'it returns false'. Refute it at one input. -/
def tripTurnedWrong : ChangeSpec := { name := "tripTurned", fn := fun _ => fun
  | [d1, d2] => { results := [.lit (.bool false)], args := [d1, d2] }
  | _ => none }
def TripTurnedWrongFalsely : Prop := tripTurnedRow.holds Try.pinned (OpenSpec.ofChange tripTurnedWrong)

/-- 'foresightkeep.TripSaved': WHATEVER THE INPUT: true; the input reads as it did. -/
def tripSavedSpec : ChangeSpec := { name := "tripSaved", fn := fun _ => fun
  | [d1, d2, d3] => { results := [.lit (.bool true)], args := [d1, d2, d3] }
  | _ => none }
def tripSavedRow : OpenClaim := { program := "ytlopcegpolpndaa", sum := "165987ec96058627dc3d472e655e38dcb1e738390c8c73dbe634bbe672571ecc", func := "foresight/foresightkeep.TripSaved", spec := "tripSaved", unfollowed := true, recurses := true, apart := false }
def TripSavedSaid : Prop := tripSavedRow.holds Try.pinned (OpenSpec.ofChange tripSavedSpec)

/-- ITS FALSE NEIGHBOUR: 'it returns false'. Refute it at one input. -/
def tripSavedWrong : ChangeSpec := { name := "tripSaved", fn := fun _ => fun
  | [d1, d2, d3] => { results := [.lit (.bool false)], args := [d1, d2, d3] }
  | _ => none }
def TripSavedWrongFalsely : Prop := tripSavedRow.holds Try.pinned (OpenSpec.ofChange tripSavedWrong)

/- THE SECOND FORM. 'bulk': how many values and letters a reading holds, each counted each time it is reached (what is shared counts as often as it is met; a slice's spare places count too). A statement '..UptoSaid' is the law's where the arguments, and the package variables that the reading takes, are together of bulk at most 1048576: NARROWER than '..Said'. Prove '..Said' where nothing that the law and all that it calls make is longer than what came in: it says more and counts as full. Else prove '..UptoSaid'. A law counts once. -/
mutual
def uptoBulk {H : Type} : DataW H → Nat
  | .lit (.string bytes) => bytes.length + 1
  | .lit _ => 1
  | .nil => 1
  | .ptr d => uptoBulk d + 1
  | .slice elems spare => uptoBulkAll elems + uptoBulkAll spare + 1
  | .agg parts => uptoBulkAll parts + 1
  | .iface _ d => uptoBulk d + 1
  | .map entries => uptoBulkEntries entries + 1
  | .held _ => 1
def uptoBulkAll {H : Type} : List (DataW H) → Nat
  | [] => 0
  | d :: r => uptoBulk d + uptoBulkAll r
def uptoBulkEntries {H : Type} : List (Lit × DataW H) → Nat
  | [] => 0
  | x :: r => uptoBulkEntry x + uptoBulkEntries r
def uptoBulkEntry {H : Type} : Lit × DataW H → Nat
  | (.string bytes, d) => bytes.length + uptoBulk d + 1
  | (_, d) => uptoBulk d + 1
 end
def uptoSmall : (H : Type) → List (DataW H) → Bool := fun _ ds => decide (uptoBulkAll ds ≤ 1048576)
def OpenSpec.upto (s : _root_.Go.ChangeSpec) : _root_.Go.OpenSpec := { _root_.Go.OpenSpec.ofChange s with cond := some uptoSmall }

/-- 'foresightkeep.TripShortest', WHERE WHAT IT READS IS OF BULK AT MOST 1048576: true; the input reads as it did. -/
def tripShortestUptoRow : OpenClaim := { program := "ytlopcegpolpndaa", sum := "165987ec96058627dc3d472e655e38dcb1e738390c8c73dbe634bbe672571ecc", func := "foresight/foresightkeep.TripShortest", spec := "tripShortest", unfollowed := true, recurses := true, apart := false, narrowed := true }
def TripShortestUptoSaid : Prop := tripShortestUptoRow.holds Try.pinned (OpenSpec.upto tripShortestSpec)

/-- 'foresightkeep.TripTurned', WHERE WHAT IT READS IS OF BULK AT MOST 1048576: true; the input reads as it did. -/
def tripTurnedUptoRow : OpenClaim := { program := "ytlopcegpolpndaa", sum := "165987ec96058627dc3d472e655e38dcb1e738390c8c73dbe634bbe672571ecc", func := "foresight/foresightkeep.TripTurned", spec := "tripTurned", unfollowed := true, recurses := true, apart := false, narrowed := true }
def TripTurnedUptoSaid : Prop := tripTurnedUptoRow.holds Try.pinned (OpenSpec.upto tripTurnedSpec)

/-- 'foresightkeep.TripSaved', WHERE WHAT IT READS IS OF BULK AT MOST 1048576: true; the input reads as it did. -/
def tripSavedUptoRow : OpenClaim := { program := "ytlopcegpolpndaa", sum := "165987ec96058627dc3d472e655e38dcb1e738390c8c73dbe634bbe672571ecc", func := "foresight/foresightkeep.TripSaved", spec := "tripSaved", unfollowed := true, recurses := true, apart := false, narrowed := true }
def TripSavedUptoSaid : Prop := tripSavedUptoRow.holds Try.pinned (OpenSpec.upto tripSavedSpec)

end Rows
end Go.Proofs.Ytlopcegpolpndaa
