/-
  No cell of these rows narrows 'for every input' (looked for: loops, veiled, ifaces, maps, wideKeys, modest, calm, conditions, laid).
  DERIVED. THE GIVEN ROWS OF THIS SEAT. 5 by the template 'for every input the law returns true; each argument reads behind the call as it read before'; 0 by the template 'total and deterministic' (their statements: YtjlehbncpjccmaaTotals.lean).
  GIVEN WITH THE SEED: the statements are not yours to turn. If you find one false, say at which input.
  Laid BY PROGRAM, IN A SANDBOX (cutbox-rows.mjs): the forced cells as the released guide's own fill.sh prints them over the translation 92c4b1c091c6c495… (all of the seat's roots in one cut). By AI agents, Wed Nov 11 2026. No macro, syntax, notation, axiom, sorry.
-/
import Derived.Test.YtjlehbncpjccmaaChecked
import GoSem.Claim
import GoSem.ClaimJoined
import GoSem.ClaimMapViews
import Derived.JoinedTies
import Derived.KernelRfl
namespace Go.Proofs.Ytjlehbncpjccmaa
/- THE CELL 'sum', in the pinned program and in every row, IS THE sha256 OF THE DUMP (.gsa) THAT YtjlehbncpjccmaaProg.lean LOADS. Nothing in Lean hashes anything: it is a label: what it is worth is what the hold of that sum in a sandbox is worth. -/
noncomputable def Try.pinned : Pinned := { name := "ytjlehbncpjccmaa", sum := "92c4b1c091c6c495dc650c41eadce780b1768c11480a80661943ce2e6cb5ded2", checked := Try.checked }
namespace Rows
def none {H : Type} : Left H := { results := [], args := [] }

/-- 'skolemlaw35.PuzzleRules': WHATEVER THE INPUT: true; the input reads as it did. -/
def puzzleRulesSpec : ChangeSpec := { name := "puzzleRules", fn := fun _ => fun
  | [d1, d2, d3] => { results := [.lit (.bool true)], args := [d1, d2, d3] }
  | _ => none }
def puzzleRulesRow : OpenClaim := { program := "ytjlehbncpjccmaa", sum := "92c4b1c091c6c495dc650c41eadce780b1768c11480a80661943ce2e6cb5ded2", func := "skolem/skolemlaw35.PuzzleRules", spec := "puzzleRules", unfollowed := true, recurses := true, apart := false }
def PuzzleRulesSaid : Prop := puzzleRulesRow.holds Try.pinned (OpenSpec.ofChange puzzleRulesSpec)

/-- ITS FALSE NEIGHBOUR: 'it returns false'. Refute it at one input. -/
def puzzleRulesWrong : ChangeSpec := { name := "puzzleRules", fn := fun _ => fun
  | [d1, d2, d3] => { results := [.lit (.bool false)], args := [d1, d2, d3] }
  | _ => none }
def PuzzleRulesWrongFalsely : Prop := puzzleRulesRow.holds Try.pinned (OpenSpec.ofChange puzzleRulesWrong)

/-- 'skolemlaw35.PuzzlePlays': WHATEVER THE INPUT: true; the input reads as it did. -/
def puzzlePlaysSpec : ChangeSpec := { name := "puzzlePlays", fn := fun _ => fun
  | [d1, d2] => { results := [.lit (.bool true)], args := [d1, d2] }
  | _ => none }
def puzzlePlaysRow : OpenClaim := { program := "ytjlehbncpjccmaa", sum := "92c4b1c091c6c495dc650c41eadce780b1768c11480a80661943ce2e6cb5ded2", func := "skolem/skolemlaw35.PuzzlePlays", spec := "puzzlePlays", unfollowed := true, recurses := true, apart := false }
def PuzzlePlaysSaid : Prop := puzzlePlaysRow.holds Try.pinned (OpenSpec.ofChange puzzlePlaysSpec)

/-- ITS FALSE NEIGHBOUR: 'it returns false'. Refute it at one input. -/
def puzzlePlaysWrong : ChangeSpec := { name := "puzzlePlays", fn := fun _ => fun
  | [d1, d2] => { results := [.lit (.bool false)], args := [d1, d2] }
  | _ => none }
def PuzzlePlaysWrongFalsely : Prop := puzzlePlaysRow.holds Try.pinned (OpenSpec.ofChange puzzlePlaysWrong)

/-- 'skolemlaw35.PuzzleGuided': WHATEVER THE INPUT: true; the input reads as it did. -/
def puzzleGuidedSpec : ChangeSpec := { name := "puzzleGuided", fn := fun _ => fun
  | [d1, d2] => { results := [.lit (.bool true)], args := [d1, d2] }
  | _ => none }
def puzzleGuidedRow : OpenClaim := { program := "ytjlehbncpjccmaa", sum := "92c4b1c091c6c495dc650c41eadce780b1768c11480a80661943ce2e6cb5ded2", func := "skolem/skolemlaw35.PuzzleGuided", spec := "puzzleGuided", unfollowed := true, recurses := true, apart := false }
def PuzzleGuidedSaid : Prop := puzzleGuidedRow.holds Try.pinned (OpenSpec.ofChange puzzleGuidedSpec)

/-- ITS FALSE NEIGHBOUR: 'it returns false'. Refute it at one input. -/
def puzzleGuidedWrong : ChangeSpec := { name := "puzzleGuided", fn := fun _ => fun
  | [d1, d2] => { results := [.lit (.bool false)], args := [d1, d2] }
  | _ => none }
def PuzzleGuidedWrongFalsely : Prop := puzzleGuidedRow.holds Try.pinned (OpenSpec.ofChange puzzleGuidedWrong)

/-- 'skolemlaw35.PuzzleValues': WHATEVER THE INPUT: true; the input reads as it did. -/
def puzzleValuesSpec : ChangeSpec := { name := "puzzleValues", fn := fun _ => fun
  | [d1, d2] => { results := [.lit (.bool true)], args := [d1, d2] }
  | _ => none }
def puzzleValuesRow : OpenClaim := { program := "ytjlehbncpjccmaa", sum := "92c4b1c091c6c495dc650c41eadce780b1768c11480a80661943ce2e6cb5ded2", func := "skolem/skolemlaw35.PuzzleValues", spec := "puzzleValues", unfollowed := true, recurses := true, apart := false }
def PuzzleValuesSaid : Prop := puzzleValuesRow.holds Try.pinned (OpenSpec.ofChange puzzleValuesSpec)

/-- ITS FALSE NEIGHBOUR: 'it returns false'. Refute it at one input. -/
def puzzleValuesWrong : ChangeSpec := { name := "puzzleValues", fn := fun _ => fun
  | [d1, d2] => { results := [.lit (.bool false)], args := [d1, d2] }
  | _ => none }
def PuzzleValuesWrongFalsely : Prop := puzzleValuesRow.holds Try.pinned (OpenSpec.ofChange puzzleValuesWrong)

/-- 'skolemlaw35.PuzzleTruth': WHATEVER THE INPUT: true; the input reads as it did. -/
def puzzleTruthSpec : ChangeSpec := { name := "puzzleTruth", fn := fun _ => fun
  | [d] => { results := [.lit (.bool true)], args := [d] }
  | _ => none }
def puzzleTruthRow : OpenClaim := { program := "ytjlehbncpjccmaa", sum := "92c4b1c091c6c495dc650c41eadce780b1768c11480a80661943ce2e6cb5ded2", func := "skolem/skolemlaw35.PuzzleTruth", spec := "puzzleTruth", unfollowed := true, recurses := true, apart := false }
def PuzzleTruthSaid : Prop := puzzleTruthRow.holds Try.pinned (OpenSpec.ofChange puzzleTruthSpec)

/-- ITS FALSE NEIGHBOUR: 'it returns false'. Refute it at one input. -/
def puzzleTruthWrong : ChangeSpec := { name := "puzzleTruth", fn := fun _ => fun
  | [d] => { results := [.lit (.bool false)], args := [d] }
  | _ => none }
def PuzzleTruthWrongFalsely : Prop := puzzleTruthRow.holds Try.pinned (OpenSpec.ofChange puzzleTruthWrong)

/- THE SECOND FORM. 'bulk': how many values and letters a reading holds, each counted each time it is reached (what is shared counts as often as it is met; a slice's spare places count too). A statement '..UptoSaid' is the law's where the arguments, and the package variables that the reading takes, are together of bulk at most 1048576: NARROWER than '..Said'. Prove '..Said' where nothing that the law and all that it calls make is longer than what came in: it says more and counts as full. Else prove '..UptoSaid'. A law counts once. -/
mutual
def uptoBulk {H : Type} : DataW H → Nat
  | .lit (.string bytes) => bytes.length + 1
  | .lit _ => 1
  | .nil => 1
  | .ptr d => uptoBulk d + 1
  | .slice elems spare => uptoBulkAll elems + uptoBulkAll spare + 1
  | .agg parts => uptoBulkAll parts + 1
  | .iface _ d => uptoBulk d + 1
  | .map entries => uptoBulkEntries entries + 1
  | .held _ => 1
def uptoBulkAll {H : Type} : List (DataW H) → Nat
  | [] => 0
  | d :: r => uptoBulk d + uptoBulkAll r
def uptoBulkEntries {H : Type} : List (Lit × DataW H) → Nat
  | [] => 0
  | x :: r => uptoBulkEntry x + uptoBulkEntries r
def uptoBulkEntry {H : Type} : Lit × DataW H → Nat
  | (.string bytes, d) => bytes.length + uptoBulk d + 1
  | (_, d) => uptoBulk d + 1
 end
def uptoSmall : (H : Type) → List (DataW H) → Bool := fun _ ds => decide (uptoBulkAll ds ≤ 1048576)
def OpenSpec.upto (s : _root_.Go.ChangeSpec) : _root_.Go.OpenSpec := { _root_.Go.OpenSpec.ofChange s with cond := some uptoSmall }

/-- 'skolemlaw35.PuzzleRules', WHERE WHAT IT READS IS OF BULK AT MOST 1048576: true; the input reads as it did. -/
def puzzleRulesUptoRow : OpenClaim := { program := "ytjlehbncpjccmaa", sum := "92c4b1c091c6c495dc650c41eadce780b1768c11480a80661943ce2e6cb5ded2", func := "skolem/skolemlaw35.PuzzleRules", spec := "puzzleRules", unfollowed := true, recurses := true, apart := false, narrowed := true }
def PuzzleRulesUptoSaid : Prop := puzzleRulesUptoRow.holds Try.pinned (OpenSpec.upto puzzleRulesSpec)

/-- 'skolemlaw35.PuzzlePlays', WHERE WHAT IT READS IS OF BULK AT MOST 1048576: true; the input reads as it did. -/
def puzzlePlaysUptoRow : OpenClaim := { program := "ytjlehbncpjccmaa", sum := "92c4b1c091c6c495dc650c41eadce780b1768c11480a80661943ce2e6cb5ded2", func := "skolem/skolemlaw35.PuzzlePlays", spec := "puzzlePlays", unfollowed := true, recurses := true, apart := false, narrowed := true }
def PuzzlePlaysUptoSaid : Prop := puzzlePlaysUptoRow.holds Try.pinned (OpenSpec.upto puzzlePlaysSpec)

/-- 'skolemlaw35.PuzzleGuided', WHERE WHAT IT READS IS OF BULK AT MOST 1048576: true; the input reads as it did. -/
def puzzleGuidedUptoRow : OpenClaim := { program := "ytjlehbncpjccmaa", sum := "92c4b1c091c6c495dc650c41eadce780b1768c11480a80661943ce2e6cb5ded2", func := "skolem/skolemlaw35.PuzzleGuided", spec := "puzzleGuided", unfollowed := true, recurses := true, apart := false, narrowed := true }
def PuzzleGuidedUptoSaid : Prop := puzzleGuidedUptoRow.holds Try.pinned (OpenSpec.upto puzzleGuidedSpec)

/-- 'skolemlaw35.PuzzleValues', WHERE WHAT IT READS IS OF BULK AT MOST 1048576: true; the input reads as it did. -/
def puzzleValuesUptoRow : OpenClaim := { program := "ytjlehbncpjccmaa", sum := "92c4b1c091c6c495dc650c41eadce780b1768c11480a80661943ce2e6cb5ded2", func := "skolem/skolemlaw35.PuzzleValues", spec := "puzzleValues", unfollowed := true, recurses := true, apart := false, narrowed := true }
def PuzzleValuesUptoSaid : Prop := puzzleValuesUptoRow.holds Try.pinned (OpenSpec.upto puzzleValuesSpec)

/-- 'skolemlaw35.PuzzleTruth', WHERE WHAT IT READS IS OF BULK AT MOST 1048576: true; the input reads as it did. -/
def puzzleTruthUptoRow : OpenClaim := { program := "ytjlehbncpjccmaa", sum := "92c4b1c091c6c495dc650c41eadce780b1768c11480a80661943ce2e6cb5ded2", func := "skolem/skolemlaw35.PuzzleTruth", spec := "puzzleTruth", unfollowed := true, recurses := true, apart := false, narrowed := true }
def PuzzleTruthUptoSaid : Prop := puzzleTruthUptoRow.holds Try.pinned (OpenSpec.upto puzzleTruthSpec)

end Rows
end Go.Proofs.Ytjlehbncpjccmaa
