/-
  No cell of these rows narrows 'for every input' (looked for: loops, veiled, ifaces, maps, wideKeys, modest, calm, conditions, laid).
  DERIVED. THE GIVEN ROWS OF THIS SEAT. 9 by the template 'for every input the law returns true; each argument reads behind the call as it read before'; 0 by the template 'total and deterministic' (their statements: YtdpbcckkdccmlaaGreatTotals.lean).
  GIVEN WITH THE SEED: the statements are not yours to turn. If you find one false, say at which input.
  Laid BY PROGRAM, IN A SANDBOX (cutbox-rows.mjs): the forced cells as the released guide's own fill.sh prints them over the translation 627b964e1df01324… (all of the seat's roots in one cut). By AI agents, Wed Nov 11 2026. No macro, syntax, notation, axiom, sorry.
-/
import Derived.Test.YtdpbcckkdccmlaaGreatChecked
import GoSem.Claim
import GoSem.ClaimJoined
import GoSem.ClaimMapViews
import Derived.JoinedTies
import Derived.KernelRfl
namespace Go.Proofs.YtdpbcckkdccmlaaGreat
/- THE CELL 'sum', in the pinned program and in every row, IS THE sha256 OF THE DUMP (.gsa) THAT YtdpbcckkdccmlaaGreatProg.lean LOADS. Nothing in Lean hashes anything: it is a label: what it is worth is what the hold of that sum in a sandbox is worth. -/
noncomputable def Tryz.pinned : Pinned := { name := "ytdpbcckkdccmlaagreat", sum := "627b964e1df01324ec3919cd3e0da493a3ce6b416bc52d49d1cb6749cc2509a4", checked := Tryz.checked }
namespace Rows
def none {H : Type} : Left H := { results := [], args := [] }

/-- 'skolemlaw35.PuzzleNets': WHATEVER THE INPUT: true; the input reads as it did. -/
def puzzleNetsSpec : ChangeSpec := { name := "puzzleNets", fn := fun _ => fun
  | [d] => { results := [.lit (.bool true)], args := [d] }
  | _ => none }
def puzzleNetsRow : OpenClaim := { program := "ytdpbcckkdccmlaagreat", sum := "627b964e1df01324ec3919cd3e0da493a3ce6b416bc52d49d1cb6749cc2509a4", func := "skolem/skolemlaw35.PuzzleNets", spec := "puzzleNets", unfollowed := true, recurses := true, plainKeys := false, apart := false }
def PuzzleNetsSaid : Prop := puzzleNetsRow.holds Tryz.pinned (OpenSpec.ofChange puzzleNetsSpec)

/-- ITS FALSE NEIGHBOUR: 'it returns false'. Refute it at one input. -/
def puzzleNetsWrong : ChangeSpec := { name := "puzzleNets", fn := fun _ => fun
  | [d] => { results := [.lit (.bool false)], args := [d] }
  | _ => none }
def PuzzleNetsWrongFalsely : Prop := puzzleNetsRow.holds Tryz.pinned (OpenSpec.ofChange puzzleNetsWrong)

/-- 'skolemlaw12.EncGates': WHATEVER THE INPUT: true; the input reads as it did. -/
def encGatesSpec : ChangeSpec := { name := "encGates", fn := fun _ => fun
  | [d1, d2] => { results := [.lit (.bool true)], args := [d1, d2] }
  | _ => none }
def encGatesRow : OpenClaim := { program := "ytdpbcckkdccmlaagreat", sum := "627b964e1df01324ec3919cd3e0da493a3ce6b416bc52d49d1cb6749cc2509a4", func := "skolem/skolemlaw12.EncGates", spec := "encGates", unfollowed := true, recurses := true, plainKeys := false, apart := false }
def EncGatesSaid : Prop := encGatesRow.holds Tryz.pinned (OpenSpec.ofChange encGatesSpec)

/-- ITS FALSE NEIGHBOUR: 'it returns false'. Refute it at one input. -/
def encGatesWrong : ChangeSpec := { name := "encGates", fn := fun _ => fun
  | [d1, d2] => { results := [.lit (.bool false)], args := [d1, d2] }
  | _ => none }
def EncGatesWrongFalsely : Prop := encGatesRow.holds Tryz.pinned (OpenSpec.ofChange encGatesWrong)

/-- 'skolemlaw12.EncGraphs': WHATEVER THE INPUT: true; the input reads as it did. -/
def encGraphsSpec : ChangeSpec := { name := "encGraphs", fn := fun _ => fun
  | [d1, d2, d3] => { results := [.lit (.bool true)], args := [d1, d2, d3] }
  | _ => none }
def encGraphsRow : OpenClaim := { program := "ytdpbcckkdccmlaagreat", sum := "627b964e1df01324ec3919cd3e0da493a3ce6b416bc52d49d1cb6749cc2509a4", func := "skolem/skolemlaw12.EncGraphs", spec := "encGraphs", unfollowed := true, recurses := true, plainKeys := false, apart := false }
def EncGraphsSaid : Prop := encGraphsRow.holds Tryz.pinned (OpenSpec.ofChange encGraphsSpec)

/-- ITS FALSE NEIGHBOUR: 'it returns false'. Refute it at one input. -/
def encGraphsWrong : ChangeSpec := { name := "encGraphs", fn := fun _ => fun
  | [d1, d2, d3] => { results := [.lit (.bool false)], args := [d1, d2, d3] }
  | _ => none }
def EncGraphsWrongFalsely : Prop := encGraphsRow.holds Tryz.pinned (OpenSpec.ofChange encGraphsWrong)

/-- 'skolemlaw12.EncBacks': WHATEVER THE INPUT: true; the input reads as it did. -/
def encBacksSpec : ChangeSpec := { name := "encBacks", fn := fun _ => fun
  | [d1, d2, d3] => { results := [.lit (.bool true)], args := [d1, d2, d3] }
  | _ => none }
def encBacksRow : OpenClaim := { program := "ytdpbcckkdccmlaagreat", sum := "627b964e1df01324ec3919cd3e0da493a3ce6b416bc52d49d1cb6749cc2509a4", func := "skolem/skolemlaw12.EncBacks", spec := "encBacks", unfollowed := true, recurses := true, plainKeys := false, apart := false }
def EncBacksSaid : Prop := encBacksRow.holds Tryz.pinned (OpenSpec.ofChange encBacksSpec)

/-- ITS FALSE NEIGHBOUR: 'it returns false'. Refute it at one input. -/
def encBacksWrong : ChangeSpec := { name := "encBacks", fn := fun _ => fun
  | [d1, d2, d3] => { results := [.lit (.bool false)], args := [d1, d2, d3] }
  | _ => none }
def EncBacksWrongFalsely : Prop := encBacksRow.holds Tryz.pinned (OpenSpec.ofChange encBacksWrong)

/-- 'skolemlaw12.EncNets': WHATEVER THE INPUT: true; the input reads as it did. -/
def encNetsSpec : ChangeSpec := { name := "encNets", fn := fun _ => fun
  | [d] => { results := [.lit (.bool true)], args := [d] }
  | _ => none }
def encNetsRow : OpenClaim := { program := "ytdpbcckkdccmlaagreat", sum := "627b964e1df01324ec3919cd3e0da493a3ce6b416bc52d49d1cb6749cc2509a4", func := "skolem/skolemlaw12.EncNets", spec := "encNets", unfollowed := true, recurses := true, plainKeys := false, apart := false }
def EncNetsSaid : Prop := encNetsRow.holds Tryz.pinned (OpenSpec.ofChange encNetsSpec)

/-- ITS FALSE NEIGHBOUR: 'it returns false'. Refute it at one input. -/
def encNetsWrong : ChangeSpec := { name := "encNets", fn := fun _ => fun
  | [d] => { results := [.lit (.bool false)], args := [d] }
  | _ => none }
def EncNetsWrongFalsely : Prop := encNetsRow.holds Tryz.pinned (OpenSpec.ofChange encNetsWrong)

/-- 'skolemlaw12.EncKnown': WHATEVER THE INPUT: true; the input reads as it did. -/
def encKnownSpec : ChangeSpec := { name := "encKnown", fn := fun _ => fun
  | [] => { results := [.lit (.bool true)], args := [] }
  | _ => none }
def encKnownRow : OpenClaim := { program := "ytdpbcckkdccmlaagreat", sum := "627b964e1df01324ec3919cd3e0da493a3ce6b416bc52d49d1cb6749cc2509a4", func := "skolem/skolemlaw12.EncKnown", spec := "encKnown", unfollowed := true, recurses := true, plainKeys := false, apart := false }
def EncKnownSaid : Prop := encKnownRow.holds Tryz.pinned (OpenSpec.ofChange encKnownSpec)

/-- ITS FALSE NEIGHBOUR: 'it returns false'. Refute it at one input. -/
def encKnownWrong : ChangeSpec := { name := "encKnown", fn := fun _ => fun
  | [] => { results := [.lit (.bool false)], args := [] }
  | _ => none }
def EncKnownWrongFalsely : Prop := encKnownRow.holds Tryz.pinned (OpenSpec.ofChange encKnownWrong)

/-- 'skolemlaw12.EncNodes': WHATEVER THE INPUT: true; the input reads as it did. -/
def encNodesSpec : ChangeSpec := { name := "encNodes", fn := fun _ => fun
  | [d1, d2, d3, d4] => { results := [.lit (.bool true)], args := [d1, d2, d3, d4] }
  | _ => none }
def encNodesRow : OpenClaim := { program := "ytdpbcckkdccmlaagreat", sum := "627b964e1df01324ec3919cd3e0da493a3ce6b416bc52d49d1cb6749cc2509a4", func := "skolem/skolemlaw12.EncNodes", spec := "encNodes", unfollowed := true, recurses := true, plainKeys := false, apart := false }
def EncNodesSaid : Prop := encNodesRow.holds Tryz.pinned (OpenSpec.ofChange encNodesSpec)

/-- ITS FALSE NEIGHBOUR: 'it returns false'. Refute it at one input. -/
def encNodesWrong : ChangeSpec := { name := "encNodes", fn := fun _ => fun
  | [d1, d2, d3, d4] => { results := [.lit (.bool false)], args := [d1, d2, d3, d4] }
  | _ => none }
def EncNodesWrongFalsely : Prop := encNodesRow.holds Tryz.pinned (OpenSpec.ofChange encNodesWrong)

/-- 'skolemlaw12.EncDefines': WHATEVER THE INPUT: true; the input reads as it did. -/
def encDefinesSpec : ChangeSpec := { name := "encDefines", fn := fun _ => fun
  | [d1, d2] => { results := [.lit (.bool true)], args := [d1, d2] }
  | _ => none }
def encDefinesRow : OpenClaim := { program := "ytdpbcckkdccmlaagreat", sum := "627b964e1df01324ec3919cd3e0da493a3ce6b416bc52d49d1cb6749cc2509a4", func := "skolem/skolemlaw12.EncDefines", spec := "encDefines", unfollowed := true, recurses := true, plainKeys := false, apart := false }
def EncDefinesSaid : Prop := encDefinesRow.holds Tryz.pinned (OpenSpec.ofChange encDefinesSpec)

/-- ITS FALSE NEIGHBOUR: 'it returns false'. Refute it at one input. -/
def encDefinesWrong : ChangeSpec := { name := "encDefines", fn := fun _ => fun
  | [d1, d2] => { results := [.lit (.bool false)], args := [d1, d2] }
  | _ => none }
def EncDefinesWrongFalsely : Prop := encDefinesRow.holds Tryz.pinned (OpenSpec.ofChange encDefinesWrong)

/-- 'skolemlaw12.EncRound': WHATEVER THE INPUT: true; the input reads as it did. -/
def encRoundSpec : ChangeSpec := { name := "encRound", fn := fun _ => fun
  | [d1, d2] => { results := [.lit (.bool true)], args := [d1, d2] }
  | _ => none }
def encRoundRow : OpenClaim := { program := "ytdpbcckkdccmlaagreat", sum := "627b964e1df01324ec3919cd3e0da493a3ce6b416bc52d49d1cb6749cc2509a4", func := "skolem/skolemlaw12.EncRound", spec := "encRound", unfollowed := true, recurses := true, plainKeys := false, apart := false }
def EncRoundSaid : Prop := encRoundRow.holds Tryz.pinned (OpenSpec.ofChange encRoundSpec)

/-- ITS FALSE NEIGHBOUR: 'it returns false'. Refute it at one input. -/
def encRoundWrong : ChangeSpec := { name := "encRound", fn := fun _ => fun
  | [d1, d2] => { results := [.lit (.bool false)], args := [d1, d2] }
  | _ => none }
def EncRoundWrongFalsely : Prop := encRoundRow.holds Tryz.pinned (OpenSpec.ofChange encRoundWrong)

/- THE SECOND FORM. 'bulk': how many values and letters a reading holds, each counted each time it is reached (what is shared counts as often as it is met; a slice's spare places count too). A statement '..UptoSaid' is the law's where the arguments, and the package variables that the reading takes, are together of bulk at most 1048576: NARROWER than '..Said'. Prove '..Said' where nothing that the law and all that it calls make is longer than what came in: it says more and counts as full. Else prove '..UptoSaid'. A law counts once. -/
mutual
def uptoBulk {H : Type} : DataW H → Nat
  | .lit (.string bytes) => bytes.length + 1
  | .lit _ => 1
  | .nil => 1
  | .ptr d => uptoBulk d + 1
  | .slice elems spare => uptoBulkAll elems + uptoBulkAll spare + 1
  | .agg parts => uptoBulkAll parts + 1
  | .iface _ d => uptoBulk d + 1
  | .map entries => uptoBulkEntries entries + 1
  | .held _ => 1
def uptoBulkAll {H : Type} : List (DataW H) → Nat
  | [] => 0
  | d :: r => uptoBulk d + uptoBulkAll r
def uptoBulkEntries {H : Type} : List (Lit × DataW H) → Nat
  | [] => 0
  | x :: r => uptoBulkEntry x + uptoBulkEntries r
def uptoBulkEntry {H : Type} : Lit × DataW H → Nat
  | (.string bytes, d) => bytes.length + uptoBulk d + 1
  | (_, d) => uptoBulk d + 1
 end
def uptoSmall : (H : Type) → List (DataW H) → Bool := fun _ ds => decide (uptoBulkAll ds ≤ 1048576)
def OpenSpec.upto (s : _root_.Go.ChangeSpec) : _root_.Go.OpenSpec := { _root_.Go.OpenSpec.ofChange s with cond := some uptoSmall }

/-- 'skolemlaw35.PuzzleNets', WHERE WHAT IT READS IS OF BULK AT MOST 1048576: true; the input reads as it did. -/
def puzzleNetsUptoRow : OpenClaim := { program := "ytdpbcckkdccmlaagreat", sum := "627b964e1df01324ec3919cd3e0da493a3ce6b416bc52d49d1cb6749cc2509a4", func := "skolem/skolemlaw35.PuzzleNets", spec := "puzzleNets", unfollowed := true, recurses := true, plainKeys := false, apart := false, narrowed := true }
def PuzzleNetsUptoSaid : Prop := puzzleNetsUptoRow.holds Tryz.pinned (OpenSpec.upto puzzleNetsSpec)

/-- 'skolemlaw12.EncGates', WHERE WHAT IT READS IS OF BULK AT MOST 1048576: true; the input reads as it did. -/
def encGatesUptoRow : OpenClaim := { program := "ytdpbcckkdccmlaagreat", sum := "627b964e1df01324ec3919cd3e0da493a3ce6b416bc52d49d1cb6749cc2509a4", func := "skolem/skolemlaw12.EncGates", spec := "encGates", unfollowed := true, recurses := true, plainKeys := false, apart := false, narrowed := true }
def EncGatesUptoSaid : Prop := encGatesUptoRow.holds Tryz.pinned (OpenSpec.upto encGatesSpec)

/-- 'skolemlaw12.EncGraphs', WHERE WHAT IT READS IS OF BULK AT MOST 1048576: true; the input reads as it did. -/
def encGraphsUptoRow : OpenClaim := { program := "ytdpbcckkdccmlaagreat", sum := "627b964e1df01324ec3919cd3e0da493a3ce6b416bc52d49d1cb6749cc2509a4", func := "skolem/skolemlaw12.EncGraphs", spec := "encGraphs", unfollowed := true, recurses := true, plainKeys := false, apart := false, narrowed := true }
def EncGraphsUptoSaid : Prop := encGraphsUptoRow.holds Tryz.pinned (OpenSpec.upto encGraphsSpec)

/-- 'skolemlaw12.EncBacks', WHERE WHAT IT READS IS OF BULK AT MOST 1048576: true; the input reads as it did. -/
def encBacksUptoRow : OpenClaim := { program := "ytdpbcckkdccmlaagreat", sum := "627b964e1df01324ec3919cd3e0da493a3ce6b416bc52d49d1cb6749cc2509a4", func := "skolem/skolemlaw12.EncBacks", spec := "encBacks", unfollowed := true, recurses := true, plainKeys := false, apart := false, narrowed := true }
def EncBacksUptoSaid : Prop := encBacksUptoRow.holds Tryz.pinned (OpenSpec.upto encBacksSpec)

/-- 'skolemlaw12.EncNets', WHERE WHAT IT READS IS OF BULK AT MOST 1048576: true; the input reads as it did. -/
def encNetsUptoRow : OpenClaim := { program := "ytdpbcckkdccmlaagreat", sum := "627b964e1df01324ec3919cd3e0da493a3ce6b416bc52d49d1cb6749cc2509a4", func := "skolem/skolemlaw12.EncNets", spec := "encNets", unfollowed := true, recurses := true, plainKeys := false, apart := false, narrowed := true }
def EncNetsUptoSaid : Prop := encNetsUptoRow.holds Tryz.pinned (OpenSpec.upto encNetsSpec)

/-- 'skolemlaw12.EncKnown', WHERE WHAT IT READS IS OF BULK AT MOST 1048576: true; the input reads as it did. -/
def encKnownUptoRow : OpenClaim := { program := "ytdpbcckkdccmlaagreat", sum := "627b964e1df01324ec3919cd3e0da493a3ce6b416bc52d49d1cb6749cc2509a4", func := "skolem/skolemlaw12.EncKnown", spec := "encKnown", unfollowed := true, recurses := true, plainKeys := false, apart := false, narrowed := true }
def EncKnownUptoSaid : Prop := encKnownUptoRow.holds Tryz.pinned (OpenSpec.upto encKnownSpec)

/-- 'skolemlaw12.EncNodes', WHERE WHAT IT READS IS OF BULK AT MOST 1048576: true; the input reads as it did. -/
def encNodesUptoRow : OpenClaim := { program := "ytdpbcckkdccmlaagreat", sum := "627b964e1df01324ec3919cd3e0da493a3ce6b416bc52d49d1cb6749cc2509a4", func := "skolem/skolemlaw12.EncNodes", spec := "encNodes", unfollowed := true, recurses := true, plainKeys := false, apart := false, narrowed := true }
def EncNodesUptoSaid : Prop := encNodesUptoRow.holds Tryz.pinned (OpenSpec.upto encNodesSpec)

/-- 'skolemlaw12.EncDefines', WHERE WHAT IT READS IS OF BULK AT MOST 1048576: true; the input reads as it did. -/
def encDefinesUptoRow : OpenClaim := { program := "ytdpbcckkdccmlaagreat", sum := "627b964e1df01324ec3919cd3e0da493a3ce6b416bc52d49d1cb6749cc2509a4", func := "skolem/skolemlaw12.EncDefines", spec := "encDefines", unfollowed := true, recurses := true, plainKeys := false, apart := false, narrowed := true }
def EncDefinesUptoSaid : Prop := encDefinesUptoRow.holds Tryz.pinned (OpenSpec.upto encDefinesSpec)

/-- 'skolemlaw12.EncRound', WHERE WHAT IT READS IS OF BULK AT MOST 1048576: true; the input reads as it did. -/
def encRoundUptoRow : OpenClaim := { program := "ytdpbcckkdccmlaagreat", sum := "627b964e1df01324ec3919cd3e0da493a3ce6b416bc52d49d1cb6749cc2509a4", func := "skolem/skolemlaw12.EncRound", spec := "encRound", unfollowed := true, recurses := true, plainKeys := false, apart := false, narrowed := true }
def EncRoundUptoSaid : Prop := encRoundUptoRow.holds Tryz.pinned (OpenSpec.upto encRoundSpec)

end Rows
end Go.Proofs.YtdpbcckkdccmlaaGreat
