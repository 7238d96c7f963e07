/-
  No cell of these rows narrows 'for every input' (looked for: loops, veiled, ifaces, maps, wideKeys, modest, calm, conditions, laid).
  DERIVED. THE GIVEN ROWS OF THIS SEAT. 4 by the template 'for every input the law returns true; each argument reads behind the call as it read before'; 0 by the template 'total and deterministic' (their statements: YtgmmhhbmnfnloaaGreatTotals.lean).
  GIVEN WITH THE SEED: the statements are not yours to turn. If you find one false, say at which input.
  Laid BY PROGRAM, IN A SANDBOX (cutbox-rows.mjs): the forced cells as the released guide's own fill.sh prints them over the translation 2f95a22af706d1a6… (all of the seat's roots in one cut). By AI agents, Wed Nov 11 2026. No macro, syntax, notation, axiom, sorry.
-/
import Derived.Test.YtgmmhhbmnfnloaaGreatChecked
import GoSem.Claim
import GoSem.ClaimJoined
import GoSem.ClaimMapViews
import Derived.JoinedTies
import Derived.KernelRfl
namespace Go.Proofs.YtgmmhhbmnfnloaaGreat
/- THE CELL 'sum', in the pinned program and in every row, IS THE sha256 OF THE DUMP (.gsa) THAT YtgmmhhbmnfnloaaGreatProg.lean LOADS. Nothing in Lean hashes anything: it is a label: what it is worth is what the hold of that sum in a sandbox is worth. -/
noncomputable def Tryz.pinned : Pinned := { name := "ytgmmhhbmnfnloaagreat", sum := "2f95a22af706d1a6cf3a1650252dc46abb71ba644fd9e3ffb363162c53a379cf", checked := Tryz.checked }
namespace Rows
def none {H : Type} : Left H := { results := [], args := [] }

/-- 'skolemlaw03.PrefixMays': WHATEVER THE INPUT: true; the input reads as it did. -/
def prefixMaysSpec : ChangeSpec := { name := "prefixMays", fn := fun _ => fun
  | [d1, d2, d3] => { results := [.lit (.bool true)], args := [d1, d2, d3] }
  | _ => none }
def prefixMaysRow : OpenClaim := { program := "ytgmmhhbmnfnloaagreat", sum := "2f95a22af706d1a6cf3a1650252dc46abb71ba644fd9e3ffb363162c53a379cf", func := "skolem/skolemlaw03.PrefixMays", spec := "prefixMays", inPlace := ["slices.overlaps[skolem/api.Block]"], unfollowed := true, recurses := true, apart := false }
def PrefixMaysSaid : Prop := prefixMaysRow.holds Tryz.pinned (OpenSpec.ofChange prefixMaysSpec)

/-- ITS FALSE NEIGHBOUR: 'it returns false'. Refute it at one input. -/
def prefixMaysWrong : ChangeSpec := { name := "prefixMays", fn := fun _ => fun
  | [d1, d2, d3] => { results := [.lit (.bool false)], args := [d1, d2, d3] }
  | _ => none }
def PrefixMaysWrongFalsely : Prop := prefixMaysRow.holds Tryz.pinned (OpenSpec.ofChange prefixMaysWrong)

/-- 'skolemlaw03.PrefixBack': WHATEVER THE INPUT: true; the input reads as it did. -/
def prefixBackSpec : ChangeSpec := { name := "prefixBack", fn := fun _ => fun
  | [d] => { results := [.lit (.bool true)], args := [d] }
  | _ => none }
def prefixBackRow : OpenClaim := { program := "ytgmmhhbmnfnloaagreat", sum := "2f95a22af706d1a6cf3a1650252dc46abb71ba644fd9e3ffb363162c53a379cf", func := "skolem/skolemlaw03.PrefixBack", spec := "prefixBack", inPlace := ["slices.overlaps[skolem/api.Block]"], unfollowed := true, recurses := true, apart := false }
def PrefixBackSaid : Prop := prefixBackRow.holds Tryz.pinned (OpenSpec.ofChange prefixBackSpec)

/-- ITS FALSE NEIGHBOUR: 'it returns false'. Refute it at one input. -/
def prefixBackWrong : ChangeSpec := { name := "prefixBack", fn := fun _ => fun
  | [d] => { results := [.lit (.bool false)], args := [d] }
  | _ => none }
def PrefixBackWrongFalsely : Prop := prefixBackRow.holds Tryz.pinned (OpenSpec.ofChange prefixBackWrong)

/-- 'skolemlaw03.PrefixChains': WHATEVER THE INPUT: true; the input reads as it did. -/
def prefixChainsSpec : ChangeSpec := { name := "prefixChains", fn := fun _ => fun
  | [d] => { results := [.lit (.bool true)], args := [d] }
  | _ => none }
def prefixChainsRow : OpenClaim := { program := "ytgmmhhbmnfnloaagreat", sum := "2f95a22af706d1a6cf3a1650252dc46abb71ba644fd9e3ffb363162c53a379cf", func := "skolem/skolemlaw03.PrefixChains", spec := "prefixChains", inPlace := ["slices.overlaps[skolem/api.Block]"], unfollowed := true, recurses := true, apart := false }
def PrefixChainsSaid : Prop := prefixChainsRow.holds Tryz.pinned (OpenSpec.ofChange prefixChainsSpec)

/-- ITS FALSE NEIGHBOUR: 'it returns false'. Refute it at one input. -/
def prefixChainsWrong : ChangeSpec := { name := "prefixChains", fn := fun _ => fun
  | [d] => { results := [.lit (.bool false)], args := [d] }
  | _ => none }
def PrefixChainsWrongFalsely : Prop := prefixChainsRow.holds Tryz.pinned (OpenSpec.ofChange prefixChainsWrong)

/-- 'skolemlaw03.PrefixTurns': WHATEVER THE INPUT: true; the input reads as it did. -/
def prefixTurnsSpec : ChangeSpec := { name := "prefixTurns", fn := fun _ => fun
  | [d1, d2, d3] => { results := [.lit (.bool true)], args := [d1, d2, d3] }
  | _ => none }
def prefixTurnsRow : OpenClaim := { program := "ytgmmhhbmnfnloaagreat", sum := "2f95a22af706d1a6cf3a1650252dc46abb71ba644fd9e3ffb363162c53a379cf", func := "skolem/skolemlaw03.PrefixTurns", spec := "prefixTurns", inPlace := ["slices.overlaps[skolem/api.Block]"], unfollowed := true, recurses := true, apart := false }
def PrefixTurnsSaid : Prop := prefixTurnsRow.holds Tryz.pinned (OpenSpec.ofChange prefixTurnsSpec)

/-- ITS FALSE NEIGHBOUR: 'it returns false'. Refute it at one input. -/
def prefixTurnsWrong : ChangeSpec := { name := "prefixTurns", fn := fun _ => fun
  | [d1, d2, d3] => { results := [.lit (.bool false)], args := [d1, d2, d3] }
  | _ => none }
def PrefixTurnsWrongFalsely : Prop := prefixTurnsRow.holds Tryz.pinned (OpenSpec.ofChange prefixTurnsWrong)

/- THE SECOND FORM. 'bulk': how many values and letters a reading holds, each counted each time it is reached (what is shared counts as often as it is met; a slice's spare places count too). A statement '..UptoSaid' is the law's where the arguments, and the package variables that the reading takes, are together of bulk at most 1048576: NARROWER than '..Said'. Prove '..Said' where nothing that the law and all that it calls make is longer than what came in: it says more and counts as full. Else prove '..UptoSaid'. A law counts once. -/
mutual
def uptoBulk {H : Type} : DataW H → Nat
  | .lit (.string bytes) => bytes.length + 1
  | .lit _ => 1
  | .nil => 1
  | .ptr d => uptoBulk d + 1
  | .slice elems spare => uptoBulkAll elems + uptoBulkAll spare + 1
  | .agg parts => uptoBulkAll parts + 1
  | .iface _ d => uptoBulk d + 1
  | .map entries => uptoBulkEntries entries + 1
  | .held _ => 1
def uptoBulkAll {H : Type} : List (DataW H) → Nat
  | [] => 0
  | d :: r => uptoBulk d + uptoBulkAll r
def uptoBulkEntries {H : Type} : List (Lit × DataW H) → Nat
  | [] => 0
  | x :: r => uptoBulkEntry x + uptoBulkEntries r
def uptoBulkEntry {H : Type} : Lit × DataW H → Nat
  | (.string bytes, d) => bytes.length + uptoBulk d + 1
  | (_, d) => uptoBulk d + 1
 end
def uptoSmall : (H : Type) → List (DataW H) → Bool := fun _ ds => decide (uptoBulkAll ds ≤ 1048576)
def OpenSpec.upto (s : _root_.Go.ChangeSpec) : _root_.Go.OpenSpec := { _root_.Go.OpenSpec.ofChange s with cond := some uptoSmall }

/-- 'skolemlaw03.PrefixMays', WHERE WHAT IT READS IS OF BULK AT MOST 1048576: true; the input reads as it did. -/
def prefixMaysUptoRow : OpenClaim := { program := "ytgmmhhbmnfnloaagreat", sum := "2f95a22af706d1a6cf3a1650252dc46abb71ba644fd9e3ffb363162c53a379cf", func := "skolem/skolemlaw03.PrefixMays", spec := "prefixMays", inPlace := ["slices.overlaps[skolem/api.Block]"], unfollowed := true, recurses := true, apart := false, narrowed := true }
def PrefixMaysUptoSaid : Prop := prefixMaysUptoRow.holds Tryz.pinned (OpenSpec.upto prefixMaysSpec)

/-- 'skolemlaw03.PrefixBack', WHERE WHAT IT READS IS OF BULK AT MOST 1048576: true; the input reads as it did. -/
def prefixBackUptoRow : OpenClaim := { program := "ytgmmhhbmnfnloaagreat", sum := "2f95a22af706d1a6cf3a1650252dc46abb71ba644fd9e3ffb363162c53a379cf", func := "skolem/skolemlaw03.PrefixBack", spec := "prefixBack", inPlace := ["slices.overlaps[skolem/api.Block]"], unfollowed := true, recurses := true, apart := false, narrowed := true }
def PrefixBackUptoSaid : Prop := prefixBackUptoRow.holds Tryz.pinned (OpenSpec.upto prefixBackSpec)

/-- 'skolemlaw03.PrefixChains', WHERE WHAT IT READS IS OF BULK AT MOST 1048576: true; the input reads as it did. -/
def prefixChainsUptoRow : OpenClaim := { program := "ytgmmhhbmnfnloaagreat", sum := "2f95a22af706d1a6cf3a1650252dc46abb71ba644fd9e3ffb363162c53a379cf", func := "skolem/skolemlaw03.PrefixChains", spec := "prefixChains", inPlace := ["slices.overlaps[skolem/api.Block]"], unfollowed := true, recurses := true, apart := false, narrowed := true }
def PrefixChainsUptoSaid : Prop := prefixChainsUptoRow.holds Tryz.pinned (OpenSpec.upto prefixChainsSpec)

/-- 'skolemlaw03.PrefixTurns', WHERE WHAT IT READS IS OF BULK AT MOST 1048576: true; the input reads as it did. -/
def prefixTurnsUptoRow : OpenClaim := { program := "ytgmmhhbmnfnloaagreat", sum := "2f95a22af706d1a6cf3a1650252dc46abb71ba644fd9e3ffb363162c53a379cf", func := "skolem/skolemlaw03.PrefixTurns", spec := "prefixTurns", inPlace := ["slices.overlaps[skolem/api.Block]"], unfollowed := true, recurses := true, apart := false, narrowed := true }
def PrefixTurnsUptoSaid : Prop := prefixTurnsUptoRow.holds Tryz.pinned (OpenSpec.upto prefixTurnsSpec)

end Rows
end Go.Proofs.YtgmmhhbmnfnloaaGreat
