/-
  No cell of these rows narrows 'for every input' (looked for: loops, veiled, ifaces, maps, wideKeys, modest, calm, conditions, laid).
  DERIVED. THE GIVEN ROWS OF THIS SEAT. 4 by the template 'for every input the law returns true; each argument reads behind the call as it read before'; 0 by the template 'total and deterministic' (their statements: YtimbkogdlmkdgaaTotals.lean).
  GIVEN WITH THE SEED: the statements are not yours to turn. If you find one false, say at which input.
  Laid BY PROGRAM, IN A SANDBOX (cutbox-rows.mjs): the forced cells as the released guide's own fill.sh prints them over the translation 72f088ba9cb85fc6… (all of the seat's roots in one cut). By AI agents, Wed Nov 11 2026. No macro, syntax, notation, axiom, sorry.
-/
import Derived.Test.YtimbkogdlmkdgaaChecked
import GoSem.Claim
import GoSem.ClaimJoined
import GoSem.ClaimMapViews
import Derived.JoinedTies
import Derived.KernelRfl
namespace Go.Proofs.Ytimbkogdlmkdgaa
/- THE CELL 'sum', in the pinned program and in every row, IS THE sha256 OF THE DUMP (.gsa) THAT YtimbkogdlmkdgaaProg.lean LOADS. Nothing in Lean hashes anything: it is a label: what it is worth is what the hold of that sum in a sandbox is worth. -/
noncomputable def Try.pinned : Pinned := { name := "ytimbkogdlmkdgaa", sum := "72f088ba9cb85fc64e412a0489bbe250dd01d63b7bfbdddf95ba0bc2502bfe3b", checked := Try.checked }
namespace Rows
def none {H : Type} : Left H := { results := [], args := [] }

/-- 'foresightkeep.LineSmithed': WHATEVER THE INPUT: true; the input reads as it did. -/
def lineSmithedSpec : ChangeSpec := { name := "lineSmithed", fn := fun _ => fun
  | [d1, d2] => { results := [.lit (.bool true)], args := [d1, d2] }
  | _ => none }
def lineSmithedRow : OpenClaim := { program := "ytimbkogdlmkdgaa", sum := "72f088ba9cb85fc64e412a0489bbe250dd01d63b7bfbdddf95ba0bc2502bfe3b", func := "foresight/foresightkeep.LineSmithed", spec := "lineSmithed", unfollowed := true, recurses := true, apart := false }
def LineSmithedSaid : Prop := lineSmithedRow.holds Try.pinned (OpenSpec.ofChange lineSmithedSpec)

/-- ITS FALSE NEIGHBOUR: 'it returns false'. Refute it at one input. -/
def lineSmithedWrong : ChangeSpec := { name := "lineSmithed", fn := fun _ => fun
  | [d1, d2] => { results := [.lit (.bool false)], args := [d1, d2] }
  | _ => none }
def LineSmithedWrongFalsely : Prop := lineSmithedRow.holds Try.pinned (OpenSpec.ofChange lineSmithedWrong)

/-- 'foresightkeep.LineJacksoned': WHATEVER THE INPUT: true; the input reads as it did. -/
def lineJacksonedSpec : ChangeSpec := { name := "lineJacksoned", fn := fun _ => fun
  | [d1, d2] => { results := [.lit (.bool true)], args := [d1, d2] }
  | _ => none }
def lineJacksonedRow : OpenClaim := { program := "ytimbkogdlmkdgaa", sum := "72f088ba9cb85fc64e412a0489bbe250dd01d63b7bfbdddf95ba0bc2502bfe3b", func := "foresight/foresightkeep.LineJacksoned", spec := "lineJacksoned", unfollowed := true, recurses := true, apart := false }
def LineJacksonedSaid : Prop := lineJacksonedRow.holds Try.pinned (OpenSpec.ofChange lineJacksonedSpec)

/-- ITS FALSE NEIGHBOUR: 'it returns false'. Refute it at one input. -/
def lineJacksonedWrong : ChangeSpec := { name := "lineJacksoned", fn := fun _ => fun
  | [d1, d2] => { results := [.lit (.bool false)], args := [d1, d2] }
  | _ => none }
def LineJacksonedWrongFalsely : Prop := lineJacksonedRow.holds Try.pinned (OpenSpec.ofChange lineJacksonedWrong)

/-- 'foresightkeep.LineLawlered': WHATEVER THE INPUT: true; the input reads as it did. -/
def lineLawleredSpec : ChangeSpec := { name := "lineLawlered", fn := fun _ => fun
  | [d1, d2, d3] => { results := [.lit (.bool true)], args := [d1, d2, d3] }
  | _ => none }
def lineLawleredRow : OpenClaim := { program := "ytimbkogdlmkdgaa", sum := "72f088ba9cb85fc64e412a0489bbe250dd01d63b7bfbdddf95ba0bc2502bfe3b", func := "foresight/foresightkeep.LineLawlered", spec := "lineLawlered", unfollowed := true, recurses := true, apart := false }
def LineLawleredSaid : Prop := lineLawleredRow.holds Try.pinned (OpenSpec.ofChange lineLawleredSpec)

/-- ITS FALSE NEIGHBOUR: 'it returns false'. Refute it at one input. -/
def lineLawleredWrong : ChangeSpec := { name := "lineLawlered", fn := fun _ => fun
  | [d1, d2, d3] => { results := [.lit (.bool false)], args := [d1, d2, d3] }
  | _ => none }
def LineLawleredWrongFalsely : Prop := lineLawleredRow.holds Try.pinned (OpenSpec.ofChange lineLawleredWrong)

/-- 'foresightkeep.LineMoored': WHATEVER THE INPUT: true; the input reads as it did. -/
def lineMooredSpec : ChangeSpec := { name := "lineMoored", fn := fun _ => fun
  | [d1, d2] => { results := [.lit (.bool true)], args := [d1, d2] }
  | _ => none }
def lineMooredRow : OpenClaim := { program := "ytimbkogdlmkdgaa", sum := "72f088ba9cb85fc64e412a0489bbe250dd01d63b7bfbdddf95ba0bc2502bfe3b", func := "foresight/foresightkeep.LineMoored", spec := "lineMoored", unfollowed := true, recurses := true, apart := false }
def LineMooredSaid : Prop := lineMooredRow.holds Try.pinned (OpenSpec.ofChange lineMooredSpec)

/-- ITS FALSE NEIGHBOUR: 'it returns false'. Refute it at one input. -/
def lineMooredWrong : ChangeSpec := { name := "lineMoored", fn := fun _ => fun
  | [d1, d2] => { results := [.lit (.bool false)], args := [d1, d2] }
  | _ => none }
def LineMooredWrongFalsely : Prop := lineMooredRow.holds Try.pinned (OpenSpec.ofChange lineMooredWrong)

/- THE SECOND FORM. 'bulk': how many values and letters a reading holds, each counted each time it is reached (what is shared counts as often as it is met; a slice's spare places count too). A statement '..UptoSaid' is the law's where the arguments, and the package variables that the reading takes, are together of bulk at most 1048576: NARROWER than '..Said'. Prove '..Said' where nothing that the law and all that it calls make is longer than what came in: it says more and counts as full. Else prove '..UptoSaid'. A law counts once. -/
mutual
def uptoBulk {H : Type} : DataW H → Nat
  | .lit (.string bytes) => bytes.length + 1
  | .lit _ => 1
  | .nil => 1
  | .ptr d => uptoBulk d + 1
  | .slice elems spare => uptoBulkAll elems + uptoBulkAll spare + 1
  | .agg parts => uptoBulkAll parts + 1
  | .iface _ d => uptoBulk d + 1
  | .map entries => uptoBulkEntries entries + 1
  | .held _ => 1
def uptoBulkAll {H : Type} : List (DataW H) → Nat
  | [] => 0
  | d :: r => uptoBulk d + uptoBulkAll r
def uptoBulkEntries {H : Type} : List (Lit × DataW H) → Nat
  | [] => 0
  | x :: r => uptoBulkEntry x + uptoBulkEntries r
def uptoBulkEntry {H : Type} : Lit × DataW H → Nat
  | (.string bytes, d) => bytes.length + uptoBulk d + 1
  | (_, d) => uptoBulk d + 1
 end
def uptoSmall : (H : Type) → List (DataW H) → Bool := fun _ ds => decide (uptoBulkAll ds ≤ 1048576)
def OpenSpec.upto (s : _root_.Go.ChangeSpec) : _root_.Go.OpenSpec := { _root_.Go.OpenSpec.ofChange s with cond := some uptoSmall }

/-- 'foresightkeep.LineSmithed', WHERE WHAT IT READS IS OF BULK AT MOST 1048576: true; the input reads as it did. -/
def lineSmithedUptoRow : OpenClaim := { program := "ytimbkogdlmkdgaa", sum := "72f088ba9cb85fc64e412a0489bbe250dd01d63b7bfbdddf95ba0bc2502bfe3b", func := "foresight/foresightkeep.LineSmithed", spec := "lineSmithed", unfollowed := true, recurses := true, apart := false, narrowed := true }
def LineSmithedUptoSaid : Prop := lineSmithedUptoRow.holds Try.pinned (OpenSpec.upto lineSmithedSpec)

/-- 'foresightkeep.LineJacksoned', WHERE WHAT IT READS IS OF BULK AT MOST 1048576: true; the input reads as it did. -/
def lineJacksonedUptoRow : OpenClaim := { program := "ytimbkogdlmkdgaa", sum := "72f088ba9cb85fc64e412a0489bbe250dd01d63b7bfbdddf95ba0bc2502bfe3b", func := "foresight/foresightkeep.LineJacksoned", spec := "lineJacksoned", unfollowed := true, recurses := true, apart := false, narrowed := true }
def LineJacksonedUptoSaid : Prop := lineJacksonedUptoRow.holds Try.pinned (OpenSpec.upto lineJacksonedSpec)

/-- 'foresightkeep.LineLawlered', WHERE WHAT IT READS IS OF BULK AT MOST 1048576: true; the input reads as it did. -/
def lineLawleredUptoRow : OpenClaim := { program := "ytimbkogdlmkdgaa", sum := "72f088ba9cb85fc64e412a0489bbe250dd01d63b7bfbdddf95ba0bc2502bfe3b", func := "foresight/foresightkeep.LineLawlered", spec := "lineLawlered", unfollowed := true, recurses := true, apart := false, narrowed := true }
def LineLawleredUptoSaid : Prop := lineLawleredUptoRow.holds Try.pinned (OpenSpec.upto lineLawleredSpec)

/-- 'foresightkeep.LineMoored', WHERE WHAT IT READS IS OF BULK AT MOST 1048576: true; the input reads as it did. -/
def lineMooredUptoRow : OpenClaim := { program := "ytimbkogdlmkdgaa", sum := "72f088ba9cb85fc64e412a0489bbe250dd01d63b7bfbdddf95ba0bc2502bfe3b", func := "foresight/foresightkeep.LineMoored", spec := "lineMoored", unfollowed := true, recurses := true, apart := false, narrowed := true }
def LineMooredUptoSaid : Prop := lineMooredUptoRow.holds Try.pinned (OpenSpec.upto lineMooredSpec)

end Rows
end Go.Proofs.Ytimbkogdlmkdgaa
