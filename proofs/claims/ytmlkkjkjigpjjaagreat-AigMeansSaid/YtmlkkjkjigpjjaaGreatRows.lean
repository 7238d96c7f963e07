/-
  No cell of these rows narrows 'for every input' (looked for: loops, veiled, ifaces, maps, wideKeys, modest, calm, conditions, laid).
  DERIVED. THE GIVEN ROWS OF THIS SEAT. 7 by the template 'for every input the law returns true; each argument reads behind the call as it read before'; 0 by the template 'total and deterministic' (their statements: YtmlkkjkjigpjjaaGreatTotals.lean).
  GIVEN WITH THE SEED: the statements are not yours to turn. If you find one false, say at which input.
  Laid BY PROGRAM, IN A SANDBOX (cutbox-rows.mjs): the forced cells as the released guide's own fill.sh prints them over the translation 34e928c36ef36bcd… (all of the seat's roots in one cut). By AI agents, Wed Nov 11 2026. No macro, syntax, notation, axiom, sorry.
-/
import Derived.Test.YtmlkkjkjigpjjaaGreatChecked
import GoSem.Claim
import GoSem.ClaimJoined
import GoSem.ClaimMapViews
import Derived.JoinedTies
import Derived.KernelRfl
namespace Go.Proofs.YtmlkkjkjigpjjaaGreat
/- THE CELL 'sum', in the pinned program and in every row, IS THE sha256 OF THE DUMP (.gsa) THAT YtmlkkjkjigpjjaaGreatProg.lean LOADS. Nothing in Lean hashes anything: it is a label: what it is worth is what the hold of that sum in a sandbox is worth. -/
noncomputable def Tryz.pinned : Pinned := { name := "ytmlkkjkjigpjjaagreat", sum := "34e928c36ef36bcd42c33618bcbbe926cc8270d93616aa9d71fedb6a1731675a", checked := Tryz.checked }
namespace Rows
def none {H : Type} : Left H := { results := [], args := [] }

/-- 'skolemlaw06.AigCones': WHATEVER THE INPUT: true; the input reads as it did. -/
def aigConesSpec : ChangeSpec := { name := "aigCones", fn := fun _ => fun
  | [d1, d2, d3] => { results := [.lit (.bool true)], args := [d1, d2, d3] }
  | _ => none }
def aigConesRow : OpenClaim := { program := "ytmlkkjkjigpjjaagreat", sum := "34e928c36ef36bcd42c33618bcbbe926cc8270d93616aa9d71fedb6a1731675a", func := "skolem/skolemlaw06.AigCones", spec := "aigCones", unfollowed := true, recurses := true, plainKeys := false, apart := false }
def AigConesSaid : Prop := aigConesRow.holds Tryz.pinned (OpenSpec.ofChange aigConesSpec)

/-- ITS FALSE NEIGHBOUR: 'it returns false'. Refute it at one input. -/
def aigConesWrong : ChangeSpec := { name := "aigCones", fn := fun _ => fun
  | [d1, d2, d3] => { results := [.lit (.bool false)], args := [d1, d2, d3] }
  | _ => none }
def AigConesWrongFalsely : Prop := aigConesRow.holds Tryz.pinned (OpenSpec.ofChange aigConesWrong)

/-- 'skolemlaw06.AigMays': WHATEVER THE INPUT: true; the input reads as it did. -/
def aigMaysSpec : ChangeSpec := { name := "aigMays", fn := fun _ => fun
  | [d1, d2, d3] => { results := [.lit (.bool true)], args := [d1, d2, d3] }
  | _ => none }
def aigMaysRow : OpenClaim := { program := "ytmlkkjkjigpjjaagreat", sum := "34e928c36ef36bcd42c33618bcbbe926cc8270d93616aa9d71fedb6a1731675a", func := "skolem/skolemlaw06.AigMays", spec := "aigMays", unfollowed := true, recurses := true, plainKeys := false, apart := false }
def AigMaysSaid : Prop := aigMaysRow.holds Tryz.pinned (OpenSpec.ofChange aigMaysSpec)

/-- ITS FALSE NEIGHBOUR: 'it returns false'. Refute it at one input. -/
def aigMaysWrong : ChangeSpec := { name := "aigMays", fn := fun _ => fun
  | [d1, d2, d3] => { results := [.lit (.bool false)], args := [d1, d2, d3] }
  | _ => none }
def AigMaysWrongFalsely : Prop := aigMaysRow.holds Tryz.pinned (OpenSpec.ofChange aigMaysWrong)

/-- 'skolemlaw06.AigMakes': WHATEVER THE INPUT: true; the input reads as it did. -/
def aigMakesSpec : ChangeSpec := { name := "aigMakes", fn := fun _ => fun
  | [d1, d2, d3, d4] => { results := [.lit (.bool true)], args := [d1, d2, d3, d4] }
  | _ => none }
def aigMakesRow : OpenClaim := { program := "ytmlkkjkjigpjjaagreat", sum := "34e928c36ef36bcd42c33618bcbbe926cc8270d93616aa9d71fedb6a1731675a", func := "skolem/skolemlaw06.AigMakes", spec := "aigMakes", unfollowed := true, recurses := true, plainKeys := false, apart := false }
def AigMakesSaid : Prop := aigMakesRow.holds Tryz.pinned (OpenSpec.ofChange aigMakesSpec)

/-- ITS FALSE NEIGHBOUR: 'it returns false'. Refute it at one input. -/
def aigMakesWrong : ChangeSpec := { name := "aigMakes", fn := fun _ => fun
  | [d1, d2, d3, d4] => { results := [.lit (.bool false)], args := [d1, d2, d3, d4] }
  | _ => none }
def AigMakesWrongFalsely : Prop := aigMakesRow.holds Tryz.pinned (OpenSpec.ofChange aigMakesWrong)

/-- 'skolemlaw06.AigComposes': WHATEVER THE INPUT: true; the input reads as it did. -/
def aigComposesSpec : ChangeSpec := { name := "aigComposes", fn := fun _ => fun
  | [d1, d2, d3, d4, d5] => { results := [.lit (.bool true)], args := [d1, d2, d3, d4, d5] }
  | _ => none }
def aigComposesRow : OpenClaim := { program := "ytmlkkjkjigpjjaagreat", sum := "34e928c36ef36bcd42c33618bcbbe926cc8270d93616aa9d71fedb6a1731675a", func := "skolem/skolemlaw06.AigComposes", spec := "aigComposes", unfollowed := true, recurses := true, plainKeys := false, apart := false }
def AigComposesSaid : Prop := aigComposesRow.holds Tryz.pinned (OpenSpec.ofChange aigComposesSpec)

/-- ITS FALSE NEIGHBOUR: 'it returns false'. Refute it at one input. -/
def aigComposesWrong : ChangeSpec := { name := "aigComposes", fn := fun _ => fun
  | [d1, d2, d3, d4, d5] => { results := [.lit (.bool false)], args := [d1, d2, d3, d4, d5] }
  | _ => none }
def AigComposesWrongFalsely : Prop := aigComposesRow.holds Tryz.pinned (OpenSpec.ofChange aigComposesWrong)

/-- 'skolemlaw06.AigValues': WHATEVER THE INPUT: true; the input reads as it did. -/
def aigValuesSpec : ChangeSpec := { name := "aigValues", fn := fun _ => fun
  | [d1, d2, d3, d4] => { results := [.lit (.bool true)], args := [d1, d2, d3, d4] }
  | _ => none }
def aigValuesRow : OpenClaim := { program := "ytmlkkjkjigpjjaagreat", sum := "34e928c36ef36bcd42c33618bcbbe926cc8270d93616aa9d71fedb6a1731675a", func := "skolem/skolemlaw06.AigValues", spec := "aigValues", unfollowed := true, recurses := true, plainKeys := false, apart := false }
def AigValuesSaid : Prop := aigValuesRow.holds Tryz.pinned (OpenSpec.ofChange aigValuesSpec)

/-- ITS FALSE NEIGHBOUR: 'it returns false'. Refute it at one input. -/
def aigValuesWrong : ChangeSpec := { name := "aigValues", fn := fun _ => fun
  | [d1, d2, d3, d4] => { results := [.lit (.bool false)], args := [d1, d2, d3, d4] }
  | _ => none }
def AigValuesWrongFalsely : Prop := aigValuesRow.holds Tryz.pinned (OpenSpec.ofChange aigValuesWrong)

/-- 'skolemlaw06.AigRound': WHATEVER THE INPUT: true; the input reads as it did. -/
def aigRoundSpec : ChangeSpec := { name := "aigRound", fn := fun _ => fun
  | [d1, d2] => { results := [.lit (.bool true)], args := [d1, d2] }
  | _ => none }
def aigRoundRow : OpenClaim := { program := "ytmlkkjkjigpjjaagreat", sum := "34e928c36ef36bcd42c33618bcbbe926cc8270d93616aa9d71fedb6a1731675a", func := "skolem/skolemlaw06.AigRound", spec := "aigRound", unfollowed := true, recurses := true, plainKeys := false, apart := false }
def AigRoundSaid : Prop := aigRoundRow.holds Tryz.pinned (OpenSpec.ofChange aigRoundSpec)

/-- ITS FALSE NEIGHBOUR: 'it returns false'. Refute it at one input. -/
def aigRoundWrong : ChangeSpec := { name := "aigRound", fn := fun _ => fun
  | [d1, d2] => { results := [.lit (.bool false)], args := [d1, d2] }
  | _ => none }
def AigRoundWrongFalsely : Prop := aigRoundRow.holds Tryz.pinned (OpenSpec.ofChange aigRoundWrong)

/-- 'skolemlaw06.AigMeans': WHATEVER THE INPUT: true; the input reads as it did. -/
def aigMeansSpec : ChangeSpec := { name := "aigMeans", fn := fun _ => fun
  | [d1, d2, d3, d4, d5, d6] => { results := [.lit (.bool true)], args := [d1, d2, d3, d4, d5, d6] }
  | _ => none }
def aigMeansRow : OpenClaim := { program := "ytmlkkjkjigpjjaagreat", sum := "34e928c36ef36bcd42c33618bcbbe926cc8270d93616aa9d71fedb6a1731675a", func := "skolem/skolemlaw06.AigMeans", spec := "aigMeans", unfollowed := true, recurses := true, plainKeys := false, apart := false }
def AigMeansSaid : Prop := aigMeansRow.holds Tryz.pinned (OpenSpec.ofChange aigMeansSpec)

/-- ITS FALSE NEIGHBOUR: 'it returns false'. Refute it at one input. -/
def aigMeansWrong : ChangeSpec := { name := "aigMeans", fn := fun _ => fun
  | [d1, d2, d3, d4, d5, d6] => { results := [.lit (.bool false)], args := [d1, d2, d3, d4, d5, d6] }
  | _ => none }
def AigMeansWrongFalsely : Prop := aigMeansRow.holds Tryz.pinned (OpenSpec.ofChange aigMeansWrong)

/- THE SECOND FORM. 'bulk': how many values and letters a reading holds, each counted each time it is reached (what is shared counts as often as it is met; a slice's spare places count too). A statement '..UptoSaid' is the law's where the arguments, and the package variables that the reading takes, are together of bulk at most 1048576: NARROWER than '..Said'. Prove '..Said' where nothing that the law and all that it calls make is longer than what came in: it says more and counts as full. Else prove '..UptoSaid'. A law counts once. -/
mutual
def uptoBulk {H : Type} : DataW H → Nat
  | .lit (.string bytes) => bytes.length + 1
  | .lit _ => 1
  | .nil => 1
  | .ptr d => uptoBulk d + 1
  | .slice elems spare => uptoBulkAll elems + uptoBulkAll spare + 1
  | .agg parts => uptoBulkAll parts + 1
  | .iface _ d => uptoBulk d + 1
  | .map entries => uptoBulkEntries entries + 1
  | .held _ => 1
def uptoBulkAll {H : Type} : List (DataW H) → Nat
  | [] => 0
  | d :: r => uptoBulk d + uptoBulkAll r
def uptoBulkEntries {H : Type} : List (Lit × DataW H) → Nat
  | [] => 0
  | x :: r => uptoBulkEntry x + uptoBulkEntries r
def uptoBulkEntry {H : Type} : Lit × DataW H → Nat
  | (.string bytes, d) => bytes.length + uptoBulk d + 1
  | (_, d) => uptoBulk d + 1
 end
def uptoSmall : (H : Type) → List (DataW H) → Bool := fun _ ds => decide (uptoBulkAll ds ≤ 1048576)
def OpenSpec.upto (s : _root_.Go.ChangeSpec) : _root_.Go.OpenSpec := { _root_.Go.OpenSpec.ofChange s with cond := some uptoSmall }

/-- 'skolemlaw06.AigCones', WHERE WHAT IT READS IS OF BULK AT MOST 1048576: true; the input reads as it did. -/
def aigConesUptoRow : OpenClaim := { program := "ytmlkkjkjigpjjaagreat", sum := "34e928c36ef36bcd42c33618bcbbe926cc8270d93616aa9d71fedb6a1731675a", func := "skolem/skolemlaw06.AigCones", spec := "aigCones", unfollowed := true, recurses := true, plainKeys := false, apart := false, narrowed := true }
def AigConesUptoSaid : Prop := aigConesUptoRow.holds Tryz.pinned (OpenSpec.upto aigConesSpec)

/-- 'skolemlaw06.AigMays', WHERE WHAT IT READS IS OF BULK AT MOST 1048576: true; the input reads as it did. -/
def aigMaysUptoRow : OpenClaim := { program := "ytmlkkjkjigpjjaagreat", sum := "34e928c36ef36bcd42c33618bcbbe926cc8270d93616aa9d71fedb6a1731675a", func := "skolem/skolemlaw06.AigMays", spec := "aigMays", unfollowed := true, recurses := true, plainKeys := false, apart := false, narrowed := true }
def AigMaysUptoSaid : Prop := aigMaysUptoRow.holds Tryz.pinned (OpenSpec.upto aigMaysSpec)

/-- 'skolemlaw06.AigMakes', WHERE WHAT IT READS IS OF BULK AT MOST 1048576: true; the input reads as it did. -/
def aigMakesUptoRow : OpenClaim := { program := "ytmlkkjkjigpjjaagreat", sum := "34e928c36ef36bcd42c33618bcbbe926cc8270d93616aa9d71fedb6a1731675a", func := "skolem/skolemlaw06.AigMakes", spec := "aigMakes", unfollowed := true, recurses := true, plainKeys := false, apart := false, narrowed := true }
def AigMakesUptoSaid : Prop := aigMakesUptoRow.holds Tryz.pinned (OpenSpec.upto aigMakesSpec)

/-- 'skolemlaw06.AigComposes', WHERE WHAT IT READS IS OF BULK AT MOST 1048576: true; the input reads as it did. -/
def aigComposesUptoRow : OpenClaim := { program := "ytmlkkjkjigpjjaagreat", sum := "34e928c36ef36bcd42c33618bcbbe926cc8270d93616aa9d71fedb6a1731675a", func := "skolem/skolemlaw06.AigComposes", spec := "aigComposes", unfollowed := true, recurses := true, plainKeys := false, apart := false, narrowed := true }
def AigComposesUptoSaid : Prop := aigComposesUptoRow.holds Tryz.pinned (OpenSpec.upto aigComposesSpec)

/-- 'skolemlaw06.AigValues', WHERE WHAT IT READS IS OF BULK AT MOST 1048576: true; the input reads as it did. -/
def aigValuesUptoRow : OpenClaim := { program := "ytmlkkjkjigpjjaagreat", sum := "34e928c36ef36bcd42c33618bcbbe926cc8270d93616aa9d71fedb6a1731675a", func := "skolem/skolemlaw06.AigValues", spec := "aigValues", unfollowed := true, recurses := true, plainKeys := false, apart := false, narrowed := true }
def AigValuesUptoSaid : Prop := aigValuesUptoRow.holds Tryz.pinned (OpenSpec.upto aigValuesSpec)

/-- 'skolemlaw06.AigRound', WHERE WHAT IT READS IS OF BULK AT MOST 1048576: true; the input reads as it did. -/
def aigRoundUptoRow : OpenClaim := { program := "ytmlkkjkjigpjjaagreat", sum := "34e928c36ef36bcd42c33618bcbbe926cc8270d93616aa9d71fedb6a1731675a", func := "skolem/skolemlaw06.AigRound", spec := "aigRound", unfollowed := true, recurses := true, plainKeys := false, apart := false, narrowed := true }
def AigRoundUptoSaid : Prop := aigRoundUptoRow.holds Tryz.pinned (OpenSpec.upto aigRoundSpec)

/-- 'skolemlaw06.AigMeans', WHERE WHAT IT READS IS OF BULK AT MOST 1048576: true; the input reads as it did. -/
def aigMeansUptoRow : OpenClaim := { program := "ytmlkkjkjigpjjaagreat", sum := "34e928c36ef36bcd42c33618bcbbe926cc8270d93616aa9d71fedb6a1731675a", func := "skolem/skolemlaw06.AigMeans", spec := "aigMeans", unfollowed := true, recurses := true, plainKeys := false, apart := false, narrowed := true }
def AigMeansUptoSaid : Prop := aigMeansUptoRow.holds Tryz.pinned (OpenSpec.upto aigMeansSpec)

end Rows
end Go.Proofs.YtmlkkjkjigpjjaaGreat
