/-
  No cell of these rows narrows 'for every input' (looked for: loops, veiled, ifaces, maps, wideKeys, modest, calm, conditions, laid).
  DERIVED. THE GIVEN ROWS OF THIS SEAT. 4 by the template 'for every input the law returns true; each argument reads behind the call as it read before'; 0 by the template 'total and deterministic' (their statements: YtgmmhhbmnfnloaaTotals.lean).
  GIVEN WITH THE SEED: the statements are not yours to turn. If you find one false, say at which input.
  Laid BY PROGRAM, IN A SANDBOX (cutbox-rows.mjs): the forced cells as the released guide's own fill.sh prints them over the translation fe04fcd739dc0679… (all of the seat's roots in one cut). By AI agents, Wed Nov 11 2026. No macro, syntax, notation, axiom, sorry.
-/
import Derived.Test.YtgmmhhbmnfnloaaChecked
import GoSem.Claim
import GoSem.ClaimJoined
import GoSem.ClaimMapViews
import Derived.JoinedTies
import Derived.KernelRfl
namespace Go.Proofs.Ytgmmhhbmnfnloaa
/- THE CELL 'sum', in the pinned program and in every row, IS THE sha256 OF THE DUMP (.gsa) THAT YtgmmhhbmnfnloaaProg.lean LOADS. Nothing in Lean hashes anything: it is a label: what it is worth is what the hold of that sum in a sandbox is worth. -/
noncomputable def Try.pinned : Pinned := { name := "ytgmmhhbmnfnloaa", sum := "fe04fcd739dc067904afc004686f08eb9451080282198aed596bdd9e3581af8d", checked := Try.checked }
namespace Rows
def none {H : Type} : Left H := { results := [], args := [] }

/-- 'skolemlaw03.PrefixMakes': WHATEVER THE INPUT: true; the input reads as it did. -/
def prefixMakesSpec : ChangeSpec := { name := "prefixMakes", fn := fun _ => fun
  | [d1, d2, d3] => { results := [.lit (.bool true)], args := [d1, d2, d3] }
  | _ => none }
def prefixMakesRow : OpenClaim := { program := "ytgmmhhbmnfnloaa", sum := "fe04fcd739dc067904afc004686f08eb9451080282198aed596bdd9e3581af8d", func := "skolem/skolemlaw03.PrefixMakes", spec := "prefixMakes", inPlace := ["slices.overlaps[skolem/api.Block]"], unfollowed := true, recurses := true, apart := false }
def PrefixMakesSaid : Prop := prefixMakesRow.holds Try.pinned (OpenSpec.ofChange prefixMakesSpec)

/-- ITS FALSE NEIGHBOUR: 'it returns false'. Refute it at one input. -/
def prefixMakesWrong : ChangeSpec := { name := "prefixMakes", fn := fun _ => fun
  | [d1, d2, d3] => { results := [.lit (.bool false)], args := [d1, d2, d3] }
  | _ => none }
def PrefixMakesWrongFalsely : Prop := prefixMakesRow.holds Try.pinned (OpenSpec.ofChange prefixMakesWrong)

/-- 'skolemlaw03.PrefixSides': WHATEVER THE INPUT: true; the input reads as it did. -/
def prefixSidesSpec : ChangeSpec := { name := "prefixSides", fn := fun _ => fun
  | [d1, d2, d3] => { results := [.lit (.bool true)], args := [d1, d2, d3] }
  | _ => none }
def prefixSidesRow : OpenClaim := { program := "ytgmmhhbmnfnloaa", sum := "fe04fcd739dc067904afc004686f08eb9451080282198aed596bdd9e3581af8d", func := "skolem/skolemlaw03.PrefixSides", spec := "prefixSides", inPlace := ["slices.overlaps[skolem/api.Block]"], unfollowed := true, recurses := true, apart := false }
def PrefixSidesSaid : Prop := prefixSidesRow.holds Try.pinned (OpenSpec.ofChange prefixSidesSpec)

/-- ITS FALSE NEIGHBOUR: 'it returns false'. Refute it at one input. -/
def prefixSidesWrong : ChangeSpec := { name := "prefixSides", fn := fun _ => fun
  | [d1, d2, d3] => { results := [.lit (.bool false)], args := [d1, d2, d3] }
  | _ => none }
def PrefixSidesWrongFalsely : Prop := prefixSidesRow.holds Try.pinned (OpenSpec.ofChange prefixSidesWrong)

/-- 'skolemlaw03.PrefixReduces': WHATEVER THE INPUT: true; the input reads as it did. -/
def prefixReducesSpec : ChangeSpec := { name := "prefixReduces", fn := fun _ => fun
  | [d1, d2, d3] => { results := [.lit (.bool true)], args := [d1, d2, d3] }
  | _ => none }
def prefixReducesRow : OpenClaim := { program := "ytgmmhhbmnfnloaa", sum := "fe04fcd739dc067904afc004686f08eb9451080282198aed596bdd9e3581af8d", func := "skolem/skolemlaw03.PrefixReduces", spec := "prefixReduces", inPlace := ["slices.overlaps[skolem/api.Block]"], unfollowed := true, recurses := true, apart := false }
def PrefixReducesSaid : Prop := prefixReducesRow.holds Try.pinned (OpenSpec.ofChange prefixReducesSpec)

/-- ITS FALSE NEIGHBOUR: 'it returns false'. Refute it at one input. -/
def prefixReducesWrong : ChangeSpec := { name := "prefixReduces", fn := fun _ => fun
  | [d1, d2, d3] => { results := [.lit (.bool false)], args := [d1, d2, d3] }
  | _ => none }
def PrefixReducesWrongFalsely : Prop := prefixReducesRow.holds Try.pinned (OpenSpec.ofChange prefixReducesWrong)

/-- 'skolemlaw03.PrefixSames': WHATEVER THE INPUT: true; the input reads as it did. -/
def prefixSamesSpec : ChangeSpec := { name := "prefixSames", fn := fun _ => fun
  | [d1, d2] => { results := [.lit (.bool true)], args := [d1, d2] }
  | _ => none }
def prefixSamesRow : OpenClaim := { program := "ytgmmhhbmnfnloaa", sum := "fe04fcd739dc067904afc004686f08eb9451080282198aed596bdd9e3581af8d", func := "skolem/skolemlaw03.PrefixSames", spec := "prefixSames", inPlace := ["slices.overlaps[skolem/api.Block]"], unfollowed := true, recurses := true, apart := false }
def PrefixSamesSaid : Prop := prefixSamesRow.holds Try.pinned (OpenSpec.ofChange prefixSamesSpec)

/-- ITS FALSE NEIGHBOUR: 'it returns false'. Refute it at one input. -/
def prefixSamesWrong : ChangeSpec := { name := "prefixSames", fn := fun _ => fun
  | [d1, d2] => { results := [.lit (.bool false)], args := [d1, d2] }
  | _ => none }
def PrefixSamesWrongFalsely : Prop := prefixSamesRow.holds Try.pinned (OpenSpec.ofChange prefixSamesWrong)

/- THE SECOND FORM. 'bulk': how many values and letters a reading holds, each counted each time it is reached (what is shared counts as often as it is met; a slice's spare places count too). A statement '..UptoSaid' is the law's where the arguments, and the package variables that the reading takes, are together of bulk at most 1048576: NARROWER than '..Said'. Prove '..Said' where nothing that the law and all that it calls make is longer than what came in: it says more and counts as full. Else prove '..UptoSaid'. A law counts once. -/
mutual
def uptoBulk {H : Type} : DataW H → Nat
  | .lit (.string bytes) => bytes.length + 1
  | .lit _ => 1
  | .nil => 1
  | .ptr d => uptoBulk d + 1
  | .slice elems spare => uptoBulkAll elems + uptoBulkAll spare + 1
  | .agg parts => uptoBulkAll parts + 1
  | .iface _ d => uptoBulk d + 1
  | .map entries => uptoBulkEntries entries + 1
  | .held _ => 1
def uptoBulkAll {H : Type} : List (DataW H) → Nat
  | [] => 0
  | d :: r => uptoBulk d + uptoBulkAll r
def uptoBulkEntries {H : Type} : List (Lit × DataW H) → Nat
  | [] => 0
  | x :: r => uptoBulkEntry x + uptoBulkEntries r
def uptoBulkEntry {H : Type} : Lit × DataW H → Nat
  | (.string bytes, d) => bytes.length + uptoBulk d + 1
  | (_, d) => uptoBulk d + 1
 end
def uptoSmall : (H : Type) → List (DataW H) → Bool := fun _ ds => decide (uptoBulkAll ds ≤ 1048576)
def OpenSpec.upto (s : _root_.Go.ChangeSpec) : _root_.Go.OpenSpec := { _root_.Go.OpenSpec.ofChange s with cond := some uptoSmall }

/-- 'skolemlaw03.PrefixMakes', WHERE WHAT IT READS IS OF BULK AT MOST 1048576: true; the input reads as it did. -/
def prefixMakesUptoRow : OpenClaim := { program := "ytgmmhhbmnfnloaa", sum := "fe04fcd739dc067904afc004686f08eb9451080282198aed596bdd9e3581af8d", func := "skolem/skolemlaw03.PrefixMakes", spec := "prefixMakes", inPlace := ["slices.overlaps[skolem/api.Block]"], unfollowed := true, recurses := true, apart := false, narrowed := true }
def PrefixMakesUptoSaid : Prop := prefixMakesUptoRow.holds Try.pinned (OpenSpec.upto prefixMakesSpec)

/-- 'skolemlaw03.PrefixSides', WHERE WHAT IT READS IS OF BULK AT MOST 1048576: true; the input reads as it did. -/
def prefixSidesUptoRow : OpenClaim := { program := "ytgmmhhbmnfnloaa", sum := "fe04fcd739dc067904afc004686f08eb9451080282198aed596bdd9e3581af8d", func := "skolem/skolemlaw03.PrefixSides", spec := "prefixSides", inPlace := ["slices.overlaps[skolem/api.Block]"], unfollowed := true, recurses := true, apart := false, narrowed := true }
def PrefixSidesUptoSaid : Prop := prefixSidesUptoRow.holds Try.pinned (OpenSpec.upto prefixSidesSpec)

/-- 'skolemlaw03.PrefixReduces', WHERE WHAT IT READS IS OF BULK AT MOST 1048576: true; the input reads as it did. -/
def prefixReducesUptoRow : OpenClaim := { program := "ytgmmhhbmnfnloaa", sum := "fe04fcd739dc067904afc004686f08eb9451080282198aed596bdd9e3581af8d", func := "skolem/skolemlaw03.PrefixReduces", spec := "prefixReduces", inPlace := ["slices.overlaps[skolem/api.Block]"], unfollowed := true, recurses := true, apart := false, narrowed := true }
def PrefixReducesUptoSaid : Prop := prefixReducesUptoRow.holds Try.pinned (OpenSpec.upto prefixReducesSpec)

/-- 'skolemlaw03.PrefixSames', WHERE WHAT IT READS IS OF BULK AT MOST 1048576: true; the input reads as it did. -/
def prefixSamesUptoRow : OpenClaim := { program := "ytgmmhhbmnfnloaa", sum := "fe04fcd739dc067904afc004686f08eb9451080282198aed596bdd9e3581af8d", func := "skolem/skolemlaw03.PrefixSames", spec := "prefixSames", inPlace := ["slices.overlaps[skolem/api.Block]"], unfollowed := true, recurses := true, apart := false, narrowed := true }
def PrefixSamesUptoSaid : Prop := prefixSamesUptoRow.holds Try.pinned (OpenSpec.upto prefixSamesSpec)

end Rows
end Go.Proofs.Ytgmmhhbmnfnloaa
