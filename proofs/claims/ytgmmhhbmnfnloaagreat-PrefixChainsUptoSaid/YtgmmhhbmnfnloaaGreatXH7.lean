/-
  Proved: if Linear returns a prefix it is valid and its Dqbf with the same clauses is the same, otherwise two rows depend on variables of which neither list is part of the other one; where what is read is of bulk at most 1048576.
  Part 7 of 9. Conditions: none. A verified frame that runs compiled texts over a ghost heap, the contracts of the functions that the statement reaches, and the plain law.
-/
import Derived.Test.YtgmmhhbmnfnloaaGreatXH6
import Derived.Test.YtgmmhhbmnfnloaaGreatProg
import Derived.KernelRfl
namespace Go.Gh
open Go.Proofs
abbrev F_skolemlaw03_PrefixChains : Nat := 5
abbrev F_prefix_Dqbf : Nat := 19
abbrev F_prefix_Linear : Nat := 20
abbrev F_prefix_copied : Nat := 59
abbrev F_slices_SortFunc_api_Dep_api_Dep : Nat := 60
abbrev F_prefix_Dqbf_1 : Nat := 61
abbrev F_cmp_Compare_int : Nat := 62
abbrev F_slices_Clone_api_Dep_api_Dep : Nat := 63
abbrev F_slices_SortStableFunc_api_Dep_api_Dep : Nat := 64
abbrev F_prefix_Linear_1 : Nat := 65
abbrev F_prefix_Linear_2 : Nat := 66
abbrev F_prefix_Linear_2_1 : Nat := 69
abbrev F_prefix_part : Nat := 70
abbrev F_cmp_isNaN_int : Nat := 96
abbrev F_slices_stableCmpFunc_api_Dep : Nat := 97
abbrev F_slices_BinarySearch_int_int : Nat := 98
abbrev F_slices_insertionSortCmpFunc_api_Dep : Nat := 105
abbrev F_slices_symMergeCmpFunc_api_Dep : Nat := 115
abbrev F_cmp_Less_int : Nat := 116
abbrev F_slices_isNaN_int : Nat := 117
abbrev F_slices_rotateCmpFunc_api_Dep : Nat := 133
abbrev F_slices_swapRangeCmpFunc_api_Dep : Nat := 139
noncomputable abbrev G_slices_SortStableFunc_api_Dep_api_Dep : GFun := ⟨9, [], (.region [⟨0, ⟨(some 4), none, (.pure .id), [(.tmp 0)]⟩, []⟩, ⟨0, ⟨(some 5), none, (.pure .id), [(.tmp 0)]⟩, []⟩, ⟨0, ⟨(some 6), none, (.pure .len), [(.tmp 5)]⟩, []⟩, ⟨0, ⟨(some 7), none, (.pure .id), [(.tmp 1)]⟩, []⟩, ⟨0, ⟨(some 8), none, (.call F_slices_stableCmpFunc_api_Dep), [(.tmp 4), (.tmp 6), (.tmp 7)]⟩, []⟩])⟩
theorem c_slices_SortStableFunc_api_Dep_api_Dep : compF Tryz.prog Tryz.f64 = some G_slices_SortStableFunc_api_Dep_api_Dep := by kernel_rfl
theorem gc_slices_SortStableFunc_api_Dep_api_Dep {args : List DV} {σ : GS} {Post : DV → GS → Prop} (h : @exB Tryz.prog ⟨G_slices_SortStableFunc_api_Dep_api_Dep.body⟩ (genv0 args G_slices_SortStableFunc_api_Dep_api_Dep.ntmps) σ ⟨@gretB G_slices_SortStableFunc_api_Dep_api_Dep.results ⟨Post⟩⟩) : GCall Tryz.prog F_slices_SortStableFunc_api_Dep_api_Dep args σ Post := gcall_ofB seatfollows Tryz.func64 (by kernel_rfl) c_slices_SortStableFunc_api_Dep_api_Dep h
noncomputable abbrev G_slices_stableCmpFunc_api_Dep : GFun := ⟨63, [], (.seq (.region [⟨0, ⟨(some 6), none, (.pure .id), [(.const (.int .i64 20))]⟩, []⟩]) (.seq (.region [⟨0, ⟨(some 10), none, (.pure .id), [(.tmp 6)]⟩, []⟩, ⟨0, ⟨(some 7), none, (.pure .id), [(.const (.int .i64 0))]⟩, []⟩, ⟨0, ⟨(some 8), none, (.pure .id), [(.tmp 10)]⟩, []⟩]) (.seq (.block 0 (.loop (.seq (.seq (.region [⟨0, ⟨(some 11), none, (.pure .id), [(.tmp 8)]⟩, []⟩, ⟨0, ⟨(some 12), none, (.pure .id), [(.tmp 1)]⟩, []⟩, ⟨0, ⟨(some 13), none, (.pure (.bin .leq .none)), [(.tmp 11), (.tmp 12)]⟩, []⟩]) (.cond (.tmp 13) .skip (.exit 0))) (.block 1 (.seq (.region [⟨0, ⟨(some 14), none, (.pure .id), [(.tmp 0)]⟩, []⟩, ⟨0, ⟨(some 15), none, (.pure .id), [(.tmp 7)]⟩, []⟩, ⟨0, ⟨(some 16), none, (.pure .id), [(.tmp 8)]⟩, []⟩, ⟨0, ⟨(some 17), none, (.pure .id), [(.tmp 2)]⟩, []⟩, ⟨0, ⟨(some 18), none, (.call F_slices_insertionSortCmpFunc_api_Dep), [(.tmp 14), (.tmp 15), (.tmp 16), (.tmp 17)]⟩, []⟩]) (.seq (.region [⟨0, ⟨(some 19), none, (.pure .id), [(.tmp 8)]⟩, []⟩, ⟨0, ⟨(some 7), none, (.pure .id), [(.tmp 19)]⟩, []⟩]) (.region [⟨0, ⟨(some 20), none, (.pure .id), [(.tmp 8)]⟩, []⟩, ⟨0, ⟨(some 21), none, (.pure .id), [(.tmp 6)]⟩, []⟩, ⟨0, ⟨(some 22), none, (.pure (.bin .add .none)), [(.tmp 20), (.tmp 21)]⟩, []⟩, ⟨0, ⟨(some 8), none, (.pure .id), [(.tmp 22)]⟩, []⟩]))))))) (.seq (.region [⟨0, ⟨(some 23), none, (.pure .id), [(.tmp 0)]⟩, []⟩, ⟨0, ⟨(some 24), none, (.pure .id), [(.tmp 7)]⟩, []⟩, ⟨0, ⟨(some 25), none, (.pure .id), [(.tmp 1)]⟩, []⟩, ⟨0, ⟨(some 26), none, (.pure .id), [(.tmp 2)]⟩, []⟩, ⟨0, ⟨(some 27), none, (.call F_slices_insertionSortCmpFunc_api_Dep), [(.tmp 23), (.tmp 24), (.tmp 25), (.tmp 26)]⟩, []⟩]) (.block 2 (.loop (.seq (.seq (.region [⟨0, ⟨(some 28), none, (.pure .id), [(.tmp 6)]⟩, []⟩, ⟨0, ⟨(some 29), none, (.pure .id), [(.tmp 1)]⟩, []⟩, ⟨0, ⟨(some 30), none, (.pure (.bin .lss .none)), [(.tmp 28), (.tmp 29)]⟩, []⟩]) (.cond (.tmp 30) .skip (.exit 2))) (.block 3 (.seq (.region [⟨0, ⟨(some 31), none, (.pure .id), [(.tmp 6)]⟩, []⟩, ⟨0, ⟨(some 32), none, (.pure (.bin .mul .none)), [(.const (.int .i64 2)), (.tmp 31)]⟩, []⟩, ⟨0, ⟨(some 7), none, (.pure .id), [(.const (.int .i64 0))]⟩, []⟩, ⟨0, ⟨(some 8), none, (.pure .id), [(.tmp 32)]⟩, []⟩]) (.seq (.block 4 (.loop (.seq (.seq (.region [⟨0, ⟨(some 33), none, (.pure .id), [(.tmp 8)]⟩, []⟩, ⟨0, ⟨(some 34), none, (.pure .id), [(.tmp 1)]⟩, []⟩, ⟨0, ⟨(some 35), none, (.pure (.bin .leq .none)), [(.tmp 33), (.tmp 34)]⟩, []⟩]) (.cond (.tmp 35) .skip (.exit 4))) (.block 5 (.seq (.region [⟨0, ⟨(some 36), none, (.pure .id), [(.tmp 0)]⟩, []⟩, ⟨0, ⟨(some 37), none, (.pure .id), [(.tmp 7)]⟩, []⟩, ⟨0, ⟨(some 38), none, (.pure .id), [(.tmp 7)]⟩, []⟩, ⟨0, ⟨(some 39), none, (.pure .id), [(.tmp 6)]⟩, []⟩, ⟨0, ⟨(some 40), none, (.pure (.bin .add .none)), [(.tmp 38), (.tmp 39)]⟩, []⟩, ⟨0, ⟨(some 41), none, (.pure .id), [(.tmp 8)]⟩, []⟩, ⟨0, ⟨(some 42), none, (.pure .id), [(.tmp 2)]⟩, []⟩, ⟨0, ⟨(some 43), none, (.call F_slices_symMergeCmpFunc_api_Dep), [(.tmp 36), (.tmp 37), (.tmp 40), (.tmp 41), (.tmp 42)]⟩, []⟩]) (.seq (.region [⟨0, ⟨(some 44), none, (.pure .id), [(.tmp 8)]⟩, []⟩, ⟨0, ⟨(some 7), none, (.pure .id), [(.tmp 44)]⟩, []⟩]) (.region [⟨0, ⟨(some 45), none, (.pure .id), [(.tmp 8)]⟩, []⟩, ⟨0, ⟨(some 46), none, (.pure .id), [(.tmp 6)]⟩, []⟩, ⟨0, ⟨(some 47), none, (.pure (.bin .mul .none)), [(.const (.int .i64 2)), (.tmp 46)]⟩, []⟩, ⟨0, ⟨(some 48), none, (.pure (.bin .add .none)), [(.tmp 45), (.tmp 47)]⟩, []⟩, ⟨0, ⟨(some 8), none, (.pure .id), [(.tmp 48)]⟩, []⟩]))))))) (.seq (.seq (.region [⟨0, ⟨(some 49), none, (.pure .id), [(.tmp 7)]⟩, []⟩, ⟨0, ⟨(some 50), none, (.pure .id), [(.tmp 6)]⟩, []⟩, ⟨0, ⟨(some 51), none, (.pure (.bin .add .none)), [(.tmp 49), (.tmp 50)]⟩, []⟩, ⟨0, ⟨(some 9), none, (.pure .id), [(.tmp 51)]⟩, []⟩]) (.seq (.region [⟨0, ⟨(some 52), none, (.pure .id), [(.tmp 9)]⟩, []⟩, ⟨0, ⟨(some 53), none, (.pure .id), [(.tmp 1)]⟩, []⟩, ⟨0, ⟨(some 54), none, (.pure (.bin .lss .none)), [(.tmp 52), (.tmp 53)]⟩, []⟩]) (.cond (.tmp 54) (.region [⟨0, ⟨(some 55), none, (.pure .id), [(.tmp 0)]⟩, []⟩, ⟨0, ⟨(some 56), none, (.pure .id), [(.tmp 7)]⟩, []⟩, ⟨0, ⟨(some 57), none, (.pure .id), [(.tmp 9)]⟩, []⟩, ⟨0, ⟨(some 58), none, (.pure .id), [(.tmp 1)]⟩, []⟩, ⟨0, ⟨(some 59), none, (.pure .id), [(.tmp 2)]⟩, []⟩, ⟨0, ⟨(some 60), none, (.call F_slices_symMergeCmpFunc_api_Dep), [(.tmp 55), (.tmp 56), (.tmp 57), (.tmp 58), (.tmp 59)]⟩, []⟩]) .skip))) (.region [⟨0, ⟨(some 61), none, (.pure .id), [(.tmp 6)]⟩, []⟩, ⟨0, ⟨(some 62), none, (.pure (.bin .mul .none)), [(.tmp 61), (.const (.int .i64 2))]⟩, []⟩, ⟨0, ⟨(some 6), none, (.pure .id), [(.tmp 62)]⟩, []⟩]))))))))))))⟩
theorem c_slices_stableCmpFunc_api_Dep : compF Tryz.prog Tryz.f97 = some G_slices_stableCmpFunc_api_Dep := by kernel_rfl
theorem gc_slices_stableCmpFunc_api_Dep {args : List DV} {σ : GS} {Post : DV → GS → Prop} (h : @exB Tryz.prog ⟨G_slices_stableCmpFunc_api_Dep.body⟩ (genv0 args G_slices_stableCmpFunc_api_Dep.ntmps) σ ⟨@gretB G_slices_stableCmpFunc_api_Dep.results ⟨Post⟩⟩) : GCall Tryz.prog F_slices_stableCmpFunc_api_Dep args σ Post := gcall_ofB seatfollows Tryz.func97 (by kernel_rfl) c_slices_stableCmpFunc_api_Dep h
noncomputable abbrev G_slices_insertionSortCmpFunc_api_Dep : GFun := ⟨53, [], (.seq (.region [⟨0, ⟨(some 10), none, (.pure .id), [(.tmp 1)]⟩, []⟩, ⟨0, ⟨(some 11), none, (.pure (.bin .add .none)), [(.tmp 10), (.const (.int .i64 1))]⟩, []⟩, ⟨0, ⟨(some 8), none, (.pure .id), [(.tmp 11)]⟩, []⟩]) (.block 0 (.loop (.seq (.seq (.region [⟨0, ⟨(some 12), none, (.pure .id), [(.tmp 8)]⟩, []⟩, ⟨0, ⟨(some 13), none, (.pure .id), [(.tmp 2)]⟩, []⟩, ⟨0, ⟨(some 14), none, (.pure (.bin .lss .none)), [(.tmp 12), (.tmp 13)]⟩, []⟩]) (.cond (.tmp 14) .skip (.exit 0))) (.seq (.block 1 (.seq (.region [⟨0, ⟨(some 17), none, (.pure .id), [(.tmp 8)]⟩, []⟩, ⟨0, ⟨(some 9), none, (.pure .id), [(.tmp 17)]⟩, []⟩]) (.block 2 (.loop (.seq (.seq (.region [⟨0, ⟨(some 18), none, (.pure .id), [(.tmp 9)]⟩, []⟩, ⟨1, ⟨(some 19), none, (.pure .id), [(.tmp 1)]⟩, []⟩, ⟨2, ⟨(some 20), none, (.pure (.bin .gtr .none)), [(.tmp 18), (.tmp 19)]⟩, []⟩, ⟨3, ⟨(some 21), none, (.pure .id), [(.tmp 20)]⟩, []⟩, ⟨4, ⟨(some 22), (some (21, true)), (.pure .id), [(.tmp 3)]⟩, []⟩, ⟨5, ⟨(some 23), (some (21, true)), (.pure .id), [(.tmp 0)]⟩, []⟩, ⟨6, ⟨(some 24), (some (21, true)), (.pure .id), [(.tmp 9)]⟩, []⟩, ⟨7, ⟨(some 25), (some (21, true)), (.pure (.iaddr 2)), [(.tmp 23), (.tmp 24)]⟩, []⟩, ⟨8, ⟨(some 26), (some (21, true)), (.load (.load 2 true)), [(.tmp 25)]⟩, []⟩, ⟨9, ⟨(some 27), (some (21, true)), (.pure .id), [(.tmp 0)]⟩, []⟩, ⟨10, ⟨(some 28), (some (21, true)), (.pure .id), [(.tmp 9)]⟩, []⟩, ⟨11, ⟨(some 29), (some (21, true)), (.pure (.bin .sub .none)), [(.tmp 28), (.const (.int .i64 1))]⟩, []⟩, ⟨12, ⟨(some 30), (some (21, true)), (.pure (.iaddr 2)), [(.tmp 27), (.tmp 29)]⟩, []⟩, ⟨13, ⟨(some 31), (some (21, true)), (.load (.load 2 true)), [(.tmp 30)]⟩, []⟩, ⟨14, ⟨(some 32), (some (21, true)), .callv, [(.tmp 22), (.tmp 26), (.tmp 31)]⟩, []⟩, ⟨15, ⟨(some 33), (some (21, true)), (.pure (.bin .lss .none)), [(.tmp 32), (.const (.int .i64 0))]⟩, []⟩, ⟨16, ⟨(some 34), none, (.pure .pick), [(.tmp 21), (.tmp 33), (.const (.bool false))]⟩, []⟩]) (.cond (.tmp 34) .skip (.exit 2))) (.seq (.block 3 (.region [⟨0, ⟨(some 37), none, (.pure .id), [(.tmp 0)]⟩, []⟩, ⟨1, ⟨(some 38), none, (.pure .id), [(.tmp 9)]⟩, []⟩, ⟨2, ⟨(some 39), none, (.pure .id), [(.tmp 0)]⟩, []⟩, ⟨3, ⟨(some 40), none, (.pure .id), [(.tmp 9)]⟩, []⟩, ⟨4, ⟨(some 41), none, (.pure (.bin .sub .none)), [(.tmp 40), (.const (.int .i64 1))]⟩, []⟩, ⟨5, ⟨(some 42), none, (.pure .id), [(.tmp 0)]⟩, []⟩, ⟨6, ⟨(some 43), none, (.pure .id), [(.tmp 9)]⟩, []⟩, ⟨7, ⟨(some 44), none, (.pure (.bin .sub .none)), [(.tmp 43), (.const (.int .i64 1))]⟩, []⟩, ⟨8, ⟨(some 45), none, (.pure (.iaddr 2)), [(.tmp 42), (.tmp 44)]⟩, []⟩, ⟨9, ⟨(some 46), none, (.load (.load 2 true)), [(.tmp 45)]⟩, []⟩, ⟨10, ⟨(some 47), none, (.pure .id), [(.tmp 0)]⟩, []⟩, ⟨11, ⟨(some 48), none, (.pure .id), [(.tmp 9)]⟩, []⟩, ⟨12, ⟨(some 49), none, (.pure (.iaddr 2)), [(.tmp 47), (.tmp 48)]⟩, []⟩, ⟨13, ⟨(some 50), none, (.load (.load 2 true)), [(.tmp 49)]⟩, []⟩, ⟨14, ⟨(some 51), none, (.pure (.iaddr 2)), [(.tmp 37), (.tmp 38)]⟩, []⟩, ⟨15, ⟨none, none, (.imp (.store 2)), [(.tmp 51), (.tmp 46)]⟩, []⟩, ⟨16, ⟨(some 52), none, (.pure (.iaddr 2)), [(.tmp 39), (.tmp 41)]⟩, []⟩, ⟨17, ⟨none, none, (.imp (.store 2)), [(.tmp 52), (.tmp 50)]⟩, []⟩])) (.region [⟨0, ⟨(some 35), none, (.pure .id), [(.tmp 9)]⟩, []⟩, ⟨0, ⟨(some 36), none, (.pure (.bin .sub .none)), [(.tmp 35), (.const (.int .i64 1))]⟩, []⟩, ⟨0, ⟨(some 9), none, (.pure .id), [(.tmp 36)]⟩, []⟩]))))))) (.region [⟨0, ⟨(some 15), none, (.pure .id), [(.tmp 8)]⟩, []⟩, ⟨0, ⟨(some 16), none, (.pure (.bin .add .none)), [(.tmp 15), (.const (.int .i64 1))]⟩, []⟩, ⟨0, ⟨(some 8), none, (.pure .id), [(.tmp 16)]⟩, []⟩]))))))⟩
theorem c_slices_insertionSortCmpFunc_api_Dep : compF Tryz.prog Tryz.f105 = some G_slices_insertionSortCmpFunc_api_Dep := by kernel_rfl
theorem gc_slices_insertionSortCmpFunc_api_Dep {args : List DV} {σ : GS} {Post : DV → GS → Prop} (h : @exB Tryz.prog ⟨G_slices_insertionSortCmpFunc_api_Dep.body⟩ (genv0 args G_slices_insertionSortCmpFunc_api_Dep.ntmps) σ ⟨@gretB G_slices_insertionSortCmpFunc_api_Dep.results ⟨Post⟩⟩) : GCall Tryz.prog F_slices_insertionSortCmpFunc_api_Dep args σ Post := gcall_ofB seatfollows Tryz.func105 (by kernel_rfl) c_slices_insertionSortCmpFunc_api_Dep h
noncomputable abbrev B_symT3 : GCode := .seq (.region [⟨0, ⟨(some 206), none, (.pure .id), [(.tmp 18)]⟩, []⟩, ⟨0, ⟨(some 207), none, (.pure .id), [(.tmp 24)]⟩, []⟩, ⟨0, ⟨(some 208), none, (.pure (.bin .lss .none)), [(.tmp 206), (.tmp 207)]⟩, []⟩, ⟨0, ⟨(some 209), none, (.pure .id), [(.tmp 208)]⟩, []⟩, ⟨0, ⟨(some 210), (some (209, true)), (.pure .id), [(.tmp 24)]⟩, []⟩, ⟨0, ⟨(some 211), (some (209, true)), (.pure .id), [(.tmp 3)]⟩, []⟩, ⟨0, ⟨(some 212), (some (209, true)), (.pure (.bin .lss .none)), [(.tmp 210), (.tmp 211)]⟩, []⟩, ⟨0, ⟨(some 213), none, (.pure .pick), [(.tmp 209), (.tmp 212), (.const (.bool false))]⟩, []⟩]) (.cond (.tmp 213) (.region [⟨0, ⟨(some 214), none, (.pure .id), [(.tmp 0)]⟩, []⟩, ⟨0, ⟨(some 215), none, (.pure .id), [(.tmp 18)]⟩, []⟩, ⟨0, ⟨(some 216), none, (.pure .id), [(.tmp 24)]⟩, []⟩, ⟨0, ⟨(some 217), none, (.pure .id), [(.tmp 3)]⟩, []⟩, ⟨0, ⟨(some 218), none, (.pure .id), [(.tmp 4)]⟩, []⟩, ⟨0, ⟨(some 219), none, (.call F_slices_symMergeCmpFunc_api_Dep), [(.tmp 214), (.tmp 215), (.tmp 216), (.tmp 217), (.tmp 218)]⟩, []⟩]) .skip)
noncomputable def symT3 : GCode := B_symT3
noncomputable abbrev B_symT2 : GCode := .seq (.seq (.region [⟨0, ⟨(some 192), none, (.pure .id), [(.tmp 1)]⟩, []⟩, ⟨0, ⟨(some 193), none, (.pure .id), [(.tmp 20)]⟩, []⟩, ⟨0, ⟨(some 194), none, (.pure (.bin .lss .none)), [(.tmp 192), (.tmp 193)]⟩, []⟩, ⟨0, ⟨(some 195), none, (.pure .id), [(.tmp 194)]⟩, []⟩, ⟨0, ⟨(some 196), (some (195, true)), (.pure .id), [(.tmp 20)]⟩, []⟩, ⟨0, ⟨(some 197), (some (195, true)), (.pure .id), [(.tmp 18)]⟩, []⟩, ⟨0, ⟨(some 198), (some (195, true)), (.pure (.bin .lss .none)), [(.tmp 196), (.tmp 197)]⟩, []⟩, ⟨0, ⟨(some 199), none, (.pure .pick), [(.tmp 195), (.tmp 198), (.const (.bool false))]⟩, []⟩]) (.cond (.tmp 199) (.region [⟨0, ⟨(some 200), none, (.pure .id), [(.tmp 0)]⟩, []⟩, ⟨0, ⟨(some 201), none, (.pure .id), [(.tmp 1)]⟩, []⟩, ⟨0, ⟨(some 202), none, (.pure .id), [(.tmp 20)]⟩, []⟩, ⟨0, ⟨(some 203), none, (.pure .id), [(.tmp 18)]⟩, []⟩, ⟨0, ⟨(some 204), none, (.pure .id), [(.tmp 4)]⟩, []⟩, ⟨0, ⟨(some 205), none, (.call F_slices_symMergeCmpFunc_api_Dep), [(.tmp 200), (.tmp 201), (.tmp 202), (.tmp 203), (.tmp 204)]⟩, []⟩]) .skip)) symT3
noncomputable def symT2 : GCode := B_symT2
noncomputable abbrev B_symT1 : GCode := .seq (.region [⟨0, ⟨(some 175), none, (.pure .id), [(.tmp 19)]⟩, []⟩, ⟨0, ⟨(some 176), none, (.pure .id), [(.tmp 20)]⟩, []⟩, ⟨0, ⟨(some 177), none, (.pure (.bin .sub .none)), [(.tmp 175), (.tmp 176)]⟩, []⟩, ⟨0, ⟨(some 24), none, (.pure .id), [(.tmp 177)]⟩, []⟩]) (.seq (.seq (.region [⟨0, ⟨(some 178), none, (.pure .id), [(.tmp 20)]⟩, []⟩, ⟨0, ⟨(some 179), none, (.pure .id), [(.tmp 2)]⟩, []⟩, ⟨0, ⟨(some 180), none, (.pure (.bin .lss .none)), [(.tmp 178), (.tmp 179)]⟩, []⟩, ⟨0, ⟨(some 181), none, (.pure .id), [(.tmp 180)]⟩, []⟩, ⟨0, ⟨(some 182), (some (181, true)), (.pure .id), [(.tmp 2)]⟩, []⟩, ⟨0, ⟨(some 183), (some (181, true)), (.pure .id), [(.tmp 24)]⟩, []⟩, ⟨0, ⟨(some 184), (some (181, true)), (.pure (.bin .lss .none)), [(.tmp 182), (.tmp 183)]⟩, []⟩, ⟨0, ⟨(some 185), none, (.pure .pick), [(.tmp 181), (.tmp 184), (.const (.bool false))]⟩, []⟩]) (.cond (.tmp 185) (.region [⟨0, ⟨(some 186), none, (.pure .id), [(.tmp 0)]⟩, []⟩, ⟨0, ⟨(some 187), none, (.pure .id), [(.tmp 20)]⟩, []⟩, ⟨0, ⟨(some 188), none, (.pure .id), [(.tmp 2)]⟩, []⟩, ⟨0, ⟨(some 189), none, (.pure .id), [(.tmp 24)]⟩, []⟩, ⟨0, ⟨(some 190), none, (.pure .id), [(.tmp 4)]⟩, []⟩, ⟨0, ⟨(some 191), none, (.call F_slices_rotateCmpFunc_api_Dep), [(.tmp 186), (.tmp 187), (.tmp 188), (.tmp 189), (.tmp 190)]⟩, []⟩]) .skip)) symT2)
noncomputable def symT1 : GCode := B_symT1
noncomputable abbrev B_symT0 : GCode := .seq (.region [⟨0, ⟨(some 147), none, (.pure .id), [(.tmp 19)]⟩, []⟩, ⟨0, ⟨(some 148), none, (.pure (.bin .sub .none)), [(.tmp 147), (.const (.int .i64 1))]⟩, []⟩, ⟨0, ⟨(some 22), none, (.pure .id), [(.tmp 148)]⟩, []⟩]) (.seq (.block 8 (.loop (.seq (.seq (.region [⟨0, ⟨(some 149), none, (.pure .id), [(.tmp 20)]⟩, []⟩, ⟨0, ⟨(some 150), none, (.pure .id), [(.tmp 21)]⟩, []⟩, ⟨0, ⟨(some 151), none, (.pure (.bin .lss .none)), [(.tmp 149), (.tmp 150)]⟩, []⟩]) (.cond (.tmp 151) .skip (.exit 8))) (.block 9 (.seq (.region [⟨0, ⟨(some 152), none, (.pure .id), [(.tmp 20)]⟩, []⟩, ⟨0, ⟨(some 153), none, (.pure .id), [(.tmp 21)]⟩, []⟩, ⟨0, ⟨(some 154), none, (.pure (.bin .add .none)), [(.tmp 152), (.tmp 153)]⟩, []⟩, ⟨0, ⟨(some 155), none, (.pure (.conv .u64)), [(.tmp 154)]⟩, []⟩, ⟨0, ⟨(some 156), none, (.pure (.bin .shr .none)), [(.tmp 155), (.const (.int .u64 1))]⟩, []⟩, ⟨0, ⟨(some 157), none, (.pure (.conv .i64)), [(.tmp 156)]⟩, []⟩, ⟨0, ⟨(some 23), none, (.pure .id), [(.tmp 157)]⟩, []⟩]) (.seq (.region [⟨0, ⟨(some 158), none, (.pure .id), [(.tmp 4)]⟩, []⟩, ⟨1, ⟨(some 159), none, (.pure .id), [(.tmp 0)]⟩, []⟩, ⟨2, ⟨(some 160), none, (.pure .id), [(.tmp 22)]⟩, []⟩, ⟨3, ⟨(some 161), none, (.pure .id), [(.tmp 23)]⟩, []⟩, ⟨4, ⟨(some 162), none, (.pure (.bin .sub .none)), [(.tmp 160), (.tmp 161)]⟩, []⟩, ⟨5, ⟨(some 163), none, (.pure (.iaddr 2)), [(.tmp 159), (.tmp 162)]⟩, []⟩, ⟨6, ⟨(some 164), none, (.load (.load 2 true)), [(.tmp 163)]⟩, []⟩, ⟨7, ⟨(some 165), none, (.pure .id), [(.tmp 0)]⟩, []⟩, ⟨8, ⟨(some 166), none, (.pure .id), [(.tmp 23)]⟩, []⟩, ⟨9, ⟨(some 167), none, (.pure (.iaddr 2)), [(.tmp 165), (.tmp 166)]⟩, []⟩, ⟨10, ⟨(some 168), none, (.load (.load 2 true)), [(.tmp 167)]⟩, []⟩, ⟨11, ⟨(some 169), none, .callv, [(.tmp 158), (.tmp 164), (.tmp 168)]⟩, []⟩, ⟨12, ⟨(some 170), none, (.pure (.bin .lss .none)), [(.tmp 169), (.const (.int .i64 0))]⟩, []⟩, ⟨13, ⟨(some 171), none, (.pure (.un .not)), [(.tmp 170)]⟩, []⟩]) (.cond (.tmp 171) (.region [⟨0, ⟨(some 172), none, (.pure .id), [(.tmp 23)]⟩, []⟩, ⟨0, ⟨(some 173), none, (.pure (.bin .add .none)), [(.tmp 172), (.const (.int .i64 1))]⟩, []⟩, ⟨0, ⟨(some 20), none, (.pure .id), [(.tmp 173)]⟩, []⟩]) (.region [⟨0, ⟨(some 174), none, (.pure .id), [(.tmp 23)]⟩, []⟩, ⟨0, ⟨(some 21), none, (.pure .id), [(.tmp 174)]⟩, []⟩])))))))) symT1)
noncomputable def symT0 : GCode := B_symT0
noncomputable abbrev G_slices_symMergeCmpFunc_api_Dep : GFun := ⟨220, [], (.seq (.seq (.region [⟨0, ⟨(some 25), none, (.pure .id), [(.tmp 2)]⟩, []⟩, ⟨0, ⟨(some 26), none, (.pure .id), [(.tmp 1)]⟩, []⟩, ⟨0, ⟨(some 27), none, (.pure (.bin .sub .none)), [(.tmp 25), (.tmp 26)]⟩, []⟩, ⟨0, ⟨(some 28), none, (.pure (.bin .eql .none)), [(.tmp 27), (.const (.int .i64 1))]⟩, []⟩]) (.cond (.tmp 28) (.seq (.region [⟨0, ⟨(some 29), none, (.pure .id), [(.tmp 2)]⟩, []⟩, ⟨0, ⟨(some 10), none, (.pure .id), [(.tmp 29)]⟩, []⟩]) (.seq (.region [⟨0, ⟨(some 30), none, (.pure .id), [(.tmp 3)]⟩, []⟩, ⟨0, ⟨(some 11), none, (.pure .id), [(.tmp 30)]⟩, []⟩]) (.seq (.block 0 (.loop (.seq (.seq (.region [⟨0, ⟨(some 31), none, (.pure .id), [(.tmp 10)]⟩, []⟩, ⟨0, ⟨(some 32), none, (.pure .id), [(.tmp 11)]⟩, []⟩, ⟨0, ⟨(some 33), none, (.pure (.bin .lss .none)), [(.tmp 31), (.tmp 32)]⟩, []⟩]) (.cond (.tmp 33) .skip (.exit 0))) (.block 1 (.seq (.region [⟨0, ⟨(some 34), none, (.pure .id), [(.tmp 10)]⟩, []⟩, ⟨0, ⟨(some 35), none, (.pure .id), [(.tmp 11)]⟩, []⟩, ⟨0, ⟨(some 36), none, (.pure (.bin .add .none)), [(.tmp 34), (.tmp 35)]⟩, []⟩, ⟨0, ⟨(some 37), none, (.pure (.conv .u64)), [(.tmp 36)]⟩, []⟩, ⟨0, ⟨(some 38), none, (.pure (.bin .shr .none)), [(.tmp 37), (.const (.int .u64 1))]⟩, []⟩, ⟨0, ⟨(some 39), none, (.pure (.conv .i64)), [(.tmp 38)]⟩, []⟩, ⟨0, ⟨(some 12), none, (.pure .id), [(.tmp 39)]⟩, []⟩]) (.seq (.region [⟨0, ⟨(some 40), none, (.pure .id), [(.tmp 4)]⟩, []⟩, ⟨1, ⟨(some 41), none, (.pure .id), [(.tmp 0)]⟩, []⟩, ⟨2, ⟨(some 42), none, (.pure .id), [(.tmp 12)]⟩, []⟩, ⟨3, ⟨(some 43), none, (.pure (.iaddr 2)), [(.tmp 41), (.tmp 42)]⟩, []⟩, ⟨4, ⟨(some 44), none, (.load (.load 2 true)), [(.tmp 43)]⟩, []⟩, ⟨5, ⟨(some 45), none, (.pure .id), [(.tmp 0)]⟩, []⟩, ⟨6, ⟨(some 46), none, (.pure .id), [(.tmp 1)]⟩, []⟩, ⟨7, ⟨(some 47), none, (.pure (.iaddr 2)), [(.tmp 45), (.tmp 46)]⟩, []⟩, ⟨8, ⟨(some 48), none, (.load (.load 2 true)), [(.tmp 47)]⟩, []⟩, ⟨9, ⟨(some 49), none, .callv, [(.tmp 40), (.tmp 44), (.tmp 48)]⟩, []⟩, ⟨10, ⟨(some 50), none, (.pure (.bin .lss .none)), [(.tmp 49), (.const (.int .i64 0))]⟩, []⟩]) (.cond (.tmp 50) (.region [⟨0, ⟨(some 51), none, (.pure .id), [(.tmp 12)]⟩, []⟩, ⟨0, ⟨(some 52), none, (.pure (.bin .add .none)), [(.tmp 51), (.const (.int .i64 1))]⟩, []⟩, ⟨0, ⟨(some 10), none, (.pure .id), [(.tmp 52)]⟩, []⟩]) (.region [⟨0, ⟨(some 53), none, (.pure .id), [(.tmp 12)]⟩, []⟩, ⟨0, ⟨(some 11), none, (.pure .id), [(.tmp 53)]⟩, []⟩])))))))) (.seq (.seq (.region [⟨0, ⟨(some 54), none, (.pure .id), [(.tmp 1)]⟩, []⟩, ⟨0, ⟨(some 13), none, (.pure .id), [(.tmp 54)]⟩, []⟩]) (.block 2 (.loop (.seq (.seq (.region [⟨0, ⟨(some 55), none, (.pure .id), [(.tmp 13)]⟩, []⟩, ⟨0, ⟨(some 56), none, (.pure .id), [(.tmp 10)]⟩, []⟩, ⟨0, ⟨(some 57), none, (.pure (.bin .sub .none)), [(.tmp 56), (.const (.int .i64 1))]⟩, []⟩, ⟨0, ⟨(some 58), none, (.pure (.bin .lss .none)), [(.tmp 55), (.tmp 57)]⟩, []⟩]) (.cond (.tmp 58) .skip (.exit 2))) (.seq (.block 3 (.region [⟨0, ⟨(some 61), none, (.pure .id), [(.tmp 0)]⟩, []⟩, ⟨1, ⟨(some 62), none, (.pure .id), [(.tmp 13)]⟩, []⟩, ⟨2, ⟨(some 63), none, (.pure .id), [(.tmp 0)]⟩, []⟩, ⟨3, ⟨(some 64), none, (.pure .id), [(.tmp 13)]⟩, []⟩, ⟨4, ⟨(some 65), none, (.pure (.bin .add .none)), [(.tmp 64), (.const (.int .i64 1))]⟩, []⟩, ⟨5, ⟨(some 66), none, (.pure .id), [(.tmp 0)]⟩, []⟩, ⟨6, ⟨(some 67), none, (.pure .id), [(.tmp 13)]⟩, []⟩, ⟨7, ⟨(some 68), none, (.pure (.bin .add .none)), [(.tmp 67), (.const (.int .i64 1))]⟩, []⟩, ⟨8, ⟨(some 69), none, (.pure (.iaddr 2)), [(.tmp 66), (.tmp 68)]⟩, []⟩, ⟨9, ⟨(some 70), none, (.load (.load 2 true)), [(.tmp 69)]⟩, []⟩, ⟨10, ⟨(some 71), none, (.pure .id), [(.tmp 0)]⟩, []⟩, ⟨11, ⟨(some 72), none, (.pure .id), [(.tmp 13)]⟩, []⟩, ⟨12, ⟨(some 73), none, (.pure (.iaddr 2)), [(.tmp 71), (.tmp 72)]⟩, []⟩, ⟨13, ⟨(some 74), none, (.load (.load 2 true)), [(.tmp 73)]⟩, []⟩, ⟨14, ⟨(some 75), none, (.pure (.iaddr 2)), [(.tmp 61), (.tmp 62)]⟩, []⟩, ⟨15, ⟨none, none, (.imp (.store 2)), [(.tmp 75), (.tmp 70)]⟩, []⟩, ⟨16, ⟨(some 76), none, (.pure (.iaddr 2)), [(.tmp 63), (.tmp 65)]⟩, []⟩, ⟨17, ⟨none, none, (.imp (.store 2)), [(.tmp 76), (.tmp 74)]⟩, []⟩])) (.region [⟨0, ⟨(some 59), none, (.pure .id), [(.tmp 13)]⟩, []⟩, ⟨0, ⟨(some 60), none, (.pure (.bin .add .none)), [(.tmp 59), (.const (.int .i64 1))]⟩, []⟩, ⟨0, ⟨(some 13), none, (.pure .id), [(.tmp 60)]⟩, []⟩])))))) .ret)))) .skip)) (.seq (.seq (.region [⟨0, ⟨(some 77), none, (.pure .id), [(.tmp 3)]⟩, []⟩, ⟨0, ⟨(some 78), none, (.pure .id), [(.tmp 2)]⟩, []⟩, ⟨0, ⟨(some 79), none, (.pure (.bin .sub .none)), [(.tmp 77), (.tmp 78)]⟩, []⟩, ⟨0, ⟨(some 80), none, (.pure (.bin .eql .none)), [(.tmp 79), (.const (.int .i64 1))]⟩, []⟩]) (.cond (.tmp 80) (.seq (.region [⟨0, ⟨(some 81), none, (.pure .id), [(.tmp 1)]⟩, []⟩, ⟨0, ⟨(some 14), none, (.pure .id), [(.tmp 81)]⟩, []⟩]) (.seq (.region [⟨0, ⟨(some 82), none, (.pure .id), [(.tmp 2)]⟩, []⟩, ⟨0, ⟨(some 15), none, (.pure .id), [(.tmp 82)]⟩, []⟩]) (.seq (.block 4 (.loop (.seq (.seq (.region [⟨0, ⟨(some 83), none, (.pure .id), [(.tmp 14)]⟩, []⟩, ⟨0, ⟨(some 84), none, (.pure .id), [(.tmp 15)]⟩, []⟩, ⟨0, ⟨(some 85), none, (.pure (.bin .lss .none)), [(.tmp 83), (.tmp 84)]⟩, []⟩]) (.cond (.tmp 85) .skip (.exit 4))) (.block 5 (.seq (.region [⟨0, ⟨(some 86), none, (.pure .id), [(.tmp 14)]⟩, []⟩, ⟨0, ⟨(some 87), none, (.pure .id), [(.tmp 15)]⟩, []⟩, ⟨0, ⟨(some 88), none, (.pure (.bin .add .none)), [(.tmp 86), (.tmp 87)]⟩, []⟩, ⟨0, ⟨(some 89), none, (.pure (.conv .u64)), [(.tmp 88)]⟩, []⟩, ⟨0, ⟨(some 90), none, (.pure (.bin .shr .none)), [(.tmp 89), (.const (.int .u64 1))]⟩, []⟩, ⟨0, ⟨(some 91), none, (.pure (.conv .i64)), [(.tmp 90)]⟩, []⟩, ⟨0, ⟨(some 16), none, (.pure .id), [(.tmp 91)]⟩, []⟩]) (.seq (.region [⟨0, ⟨(some 92), none, (.pure .id), [(.tmp 4)]⟩, []⟩, ⟨1, ⟨(some 93), none, (.pure .id), [(.tmp 0)]⟩, []⟩, ⟨2, ⟨(some 94), none, (.pure .id), [(.tmp 2)]⟩, []⟩, ⟨3, ⟨(some 95), none, (.pure (.iaddr 2)), [(.tmp 93), (.tmp 94)]⟩, []⟩, ⟨4, ⟨(some 96), none, (.load (.load 2 true)), [(.tmp 95)]⟩, []⟩, ⟨5, ⟨(some 97), none, (.pure .id), [(.tmp 0)]⟩, []⟩, ⟨6, ⟨(some 98), none, (.pure .id), [(.tmp 16)]⟩, []⟩, ⟨7, ⟨(some 99), none, (.pure (.iaddr 2)), [(.tmp 97), (.tmp 98)]⟩, []⟩, ⟨8, ⟨(some 100), none, (.load (.load 2 true)), [(.tmp 99)]⟩, []⟩, ⟨9, ⟨(some 101), none, .callv, [(.tmp 92), (.tmp 96), (.tmp 100)]⟩, []⟩, ⟨10, ⟨(some 102), none, (.pure (.bin .lss .none)), [(.tmp 101), (.const (.int .i64 0))]⟩, []⟩, ⟨11, ⟨(some 103), none, (.pure (.un .not)), [(.tmp 102)]⟩, []⟩]) (.cond (.tmp 103) (.region [⟨0, ⟨(some 104), none, (.pure .id), [(.tmp 16)]⟩, []⟩, ⟨0, ⟨(some 105), none, (.pure (.bin .add .none)), [(.tmp 104), (.const (.int .i64 1))]⟩, []⟩, ⟨0, ⟨(some 14), none, (.pure .id), [(.tmp 105)]⟩, []⟩]) (.region [⟨0, ⟨(some 106), none, (.pure .id), [(.tmp 16)]⟩, []⟩, ⟨0, ⟨(some 15), none, (.pure .id), [(.tmp 106)]⟩, []⟩])))))))) (.seq (.seq (.region [⟨0, ⟨(some 107), none, (.pure .id), [(.tmp 2)]⟩, []⟩, ⟨0, ⟨(some 17), none, (.pure .id), [(.tmp 107)]⟩, []⟩]) (.block 6 (.loop (.seq (.seq (.region [⟨0, ⟨(some 108), none, (.pure .id), [(.tmp 17)]⟩, []⟩, ⟨0, ⟨(some 109), none, (.pure .id), [(.tmp 14)]⟩, []⟩, ⟨0, ⟨(some 110), none, (.pure (.bin .gtr .none)), [(.tmp 108), (.tmp 109)]⟩, []⟩]) (.cond (.tmp 110) .skip (.exit 6))) (.seq (.block 7 (.region [⟨0, ⟨(some 113), none, (.pure .id), [(.tmp 0)]⟩, []⟩, ⟨1, ⟨(some 114), none, (.pure .id), [(.tmp 17)]⟩, []⟩, ⟨2, ⟨(some 115), none, (.pure .id), [(.tmp 0)]⟩, []⟩, ⟨3, ⟨(some 116), none, (.pure .id), [(.tmp 17)]⟩, []⟩, ⟨4, ⟨(some 117), none, (.pure (.bin .sub .none)), [(.tmp 116), (.const (.int .i64 1))]⟩, []⟩, ⟨5, ⟨(some 118), none, (.pure .id), [(.tmp 0)]⟩, []⟩, ⟨6, ⟨(some 119), none, (.pure .id), [(.tmp 17)]⟩, []⟩, ⟨7, ⟨(some 120), none, (.pure (.bin .sub .none)), [(.tmp 119), (.const (.int .i64 1))]⟩, []⟩, ⟨8, ⟨(some 121), none, (.pure (.iaddr 2)), [(.tmp 118), (.tmp 120)]⟩, []⟩, ⟨9, ⟨(some 122), none, (.load (.load 2 true)), [(.tmp 121)]⟩, []⟩, ⟨10, ⟨(some 123), none, (.pure .id), [(.tmp 0)]⟩, []⟩, ⟨11, ⟨(some 124), none, (.pure .id), [(.tmp 17)]⟩, []⟩, ⟨12, ⟨(some 125), none, (.pure (.iaddr 2)), [(.tmp 123), (.tmp 124)]⟩, []⟩, ⟨13, ⟨(some 126), none, (.load (.load 2 true)), [(.tmp 125)]⟩, []⟩, ⟨14, ⟨(some 127), none, (.pure (.iaddr 2)), [(.tmp 113), (.tmp 114)]⟩, []⟩, ⟨15, ⟨none, none, (.imp (.store 2)), [(.tmp 127), (.tmp 122)]⟩, []⟩, ⟨16, ⟨(some 128), none, (.pure (.iaddr 2)), [(.tmp 115), (.tmp 117)]⟩, []⟩, ⟨17, ⟨none, none, (.imp (.store 2)), [(.tmp 128), (.tmp 126)]⟩, []⟩])) (.region [⟨0, ⟨(some 111), none, (.pure .id), [(.tmp 17)]⟩, []⟩, ⟨0, ⟨(some 112), none, (.pure (.bin .sub .none)), [(.tmp 111), (.const (.int .i64 1))]⟩, []⟩, ⟨0, ⟨(some 17), none, (.pure .id), [(.tmp 112)]⟩, []⟩])))))) .ret)))) .skip)) (.seq (.region [⟨0, ⟨(some 129), none, (.pure .id), [(.tmp 1)]⟩, []⟩, ⟨0, ⟨(some 130), none, (.pure .id), [(.tmp 3)]⟩, []⟩, ⟨0, ⟨(some 131), none, (.pure (.bin .add .none)), [(.tmp 129), (.tmp 130)]⟩, []⟩, ⟨0, ⟨(some 132), none, (.pure (.conv .u64)), [(.tmp 131)]⟩, []⟩, ⟨0, ⟨(some 133), none, (.pure (.bin .shr .none)), [(.tmp 132), (.const (.int .u64 1))]⟩, []⟩, ⟨0, ⟨(some 134), none, (.pure (.conv .i64)), [(.tmp 133)]⟩, []⟩, ⟨0, ⟨(some 18), none, (.pure .id), [(.tmp 134)]⟩, []⟩]) (.seq (.region [⟨0, ⟨(some 135), none, (.pure .id), [(.tmp 18)]⟩, []⟩, ⟨0, ⟨(some 136), none, (.pure .id), [(.tmp 2)]⟩, []⟩, ⟨0, ⟨(some 137), none, (.pure (.bin .add .none)), [(.tmp 135), (.tmp 136)]⟩, []⟩, ⟨0, ⟨(some 19), none, (.pure .id), [(.tmp 137)]⟩, []⟩]) (.seq (.region [⟨0, ⟨(some 20), none, (.pure .id), [(.const (.int .i64 0))]⟩, []⟩, ⟨0, ⟨(some 21), none, (.pure .id), [(.const (.int .i64 0))]⟩, []⟩]) (.seq (.seq (.region [⟨0, ⟨(some 138), none, (.pure .id), [(.tmp 2)]⟩, []⟩, ⟨0, ⟨(some 139), none, (.pure .id), [(.tmp 18)]⟩, []⟩, ⟨0, ⟨(some 140), none, (.pure (.bin .gtr .none)), [(.tmp 138), (.tmp 139)]⟩, []⟩]) (.cond (.tmp 140) (.seq (.region [⟨0, ⟨(some 141), none, (.pure .id), [(.tmp 19)]⟩, []⟩, ⟨0, ⟨(some 142), none, (.pure .id), [(.tmp 3)]⟩, []⟩, ⟨0, ⟨(some 143), none, (.pure (.bin .sub .none)), [(.tmp 141), (.tmp 142)]⟩, []⟩, ⟨0, ⟨(some 20), none, (.pure .id), [(.tmp 143)]⟩, []⟩]) (.region [⟨0, ⟨(some 144), none, (.pure .id), [(.tmp 18)]⟩, []⟩, ⟨0, ⟨(some 21), none, (.pure .id), [(.tmp 144)]⟩, []⟩])) (.seq (.region [⟨0, ⟨(some 145), none, (.pure .id), [(.tmp 1)]⟩, []⟩, ⟨0, ⟨(some 20), none, (.pure .id), [(.tmp 145)]⟩, []⟩]) (.region [⟨0, ⟨(some 146), none, (.pure .id), [(.tmp 2)]⟩, []⟩, ⟨0, ⟨(some 21), none, (.pure .id), [(.tmp 146)]⟩, []⟩])))) symT0))))))⟩
theorem c_slices_symMergeCmpFunc_api_Dep : compF Tryz.prog Tryz.f115 = some G_slices_symMergeCmpFunc_api_Dep := by kernel_rfl
theorem gc_slices_symMergeCmpFunc_api_Dep {args : List DV} {σ : GS} {Post : DV → GS → Prop} (h : @exB Tryz.prog ⟨G_slices_symMergeCmpFunc_api_Dep.body⟩ (genv0 args G_slices_symMergeCmpFunc_api_Dep.ntmps) σ ⟨@gretB G_slices_symMergeCmpFunc_api_Dep.results ⟨Post⟩⟩) : GCall Tryz.prog F_slices_symMergeCmpFunc_api_Dep args σ Post := gcall_ofB seatfollows Tryz.func115 (by kernel_rfl) c_slices_symMergeCmpFunc_api_Dep h
noncomputable abbrev G_slices_rotateCmpFunc_api_Dep : GFun := ⟨58, [], (.seq (.region [⟨0, ⟨(some 12), none, (.pure .id), [(.tmp 2)]⟩, []⟩, ⟨0, ⟨(some 13), none, (.pure .id), [(.tmp 1)]⟩, []⟩, ⟨0, ⟨(some 14), none, (.pure (.bin .sub .none)), [(.tmp 12), (.tmp 13)]⟩, []⟩, ⟨0, ⟨(some 10), none, (.pure .id), [(.tmp 14)]⟩, []⟩]) (.seq (.region [⟨0, ⟨(some 15), none, (.pure .id), [(.tmp 3)]⟩, []⟩, ⟨0, ⟨(some 16), none, (.pure .id), [(.tmp 2)]⟩, []⟩, ⟨0, ⟨(some 17), none, (.pure (.bin .sub .none)), [(.tmp 15), (.tmp 16)]⟩, []⟩, ⟨0, ⟨(some 11), none, (.pure .id), [(.tmp 17)]⟩, []⟩]) (.seq (.block 0 (.loop (.seq (.seq (.region [⟨0, ⟨(some 18), none, (.pure .id), [(.tmp 10)]⟩, []⟩, ⟨0, ⟨(some 19), none, (.pure .id), [(.tmp 11)]⟩, []⟩, ⟨0, ⟨(some 20), none, (.pure (.bin .neq .none)), [(.tmp 18), (.tmp 19)]⟩, []⟩]) (.cond (.tmp 20) .skip (.exit 0))) (.block 1 (.seq (.region [⟨0, ⟨(some 21), none, (.pure .id), [(.tmp 10)]⟩, []⟩, ⟨0, ⟨(some 22), none, (.pure .id), [(.tmp 11)]⟩, []⟩, ⟨0, ⟨(some 23), none, (.pure (.bin .gtr .none)), [(.tmp 21), (.tmp 22)]⟩, []⟩]) (.cond (.tmp 23) (.seq (.region [⟨0, ⟨(some 24), none, (.pure .id), [(.tmp 0)]⟩, []⟩, ⟨0, ⟨(some 25), none, (.pure .id), [(.tmp 2)]⟩, []⟩, ⟨0, ⟨(some 26), none, (.pure .id), [(.tmp 10)]⟩, []⟩, ⟨0, ⟨(some 27), none, (.pure (.bin .sub .none)), [(.tmp 25), (.tmp 26)]⟩, []⟩, ⟨0, ⟨(some 28), none, (.pure .id), [(.tmp 2)]⟩, []⟩, ⟨0, ⟨(some 29), none, (.pure .id), [(.tmp 11)]⟩, []⟩, ⟨0, ⟨(some 30), none, (.pure .id), [(.tmp 4)]⟩, []⟩, ⟨0, ⟨(some 31), none, (.call F_slices_swapRangeCmpFunc_api_Dep), [(.tmp 24), (.tmp 27), (.tmp 28), (.tmp 29), (.tmp 30)]⟩, []⟩]) (.region [⟨0, ⟨(some 32), none, (.pure .id), [(.tmp 10)]⟩, []⟩, ⟨0, ⟨(some 33), none, (.pure .id), [(.tmp 11)]⟩, []⟩, ⟨0, ⟨(some 34), none, (.pure (.bin .sub .none)), [(.tmp 32), (.tmp 33)]⟩, []⟩, ⟨0, ⟨(some 10), none, (.pure .id), [(.tmp 34)]⟩, []⟩])) (.seq (.region [⟨0, ⟨(some 35), none, (.pure .id), [(.tmp 0)]⟩, []⟩, ⟨0, ⟨(some 36), none, (.pure .id), [(.tmp 2)]⟩, []⟩, ⟨0, ⟨(some 37), none, (.pure .id), [(.tmp 10)]⟩, []⟩, ⟨0, ⟨(some 38), none, (.pure (.bin .sub .none)), [(.tmp 36), (.tmp 37)]⟩, []⟩, ⟨0, ⟨(some 39), none, (.pure .id), [(.tmp 2)]⟩, []⟩, ⟨0, ⟨(some 40), none, (.pure .id), [(.tmp 11)]⟩, []⟩, ⟨0, ⟨(some 41), none, (.pure (.bin .add .none)), [(.tmp 39), (.tmp 40)]⟩, []⟩, ⟨0, ⟨(some 42), none, (.pure .id), [(.tmp 10)]⟩, []⟩, ⟨0, ⟨(some 43), none, (.pure (.bin .sub .none)), [(.tmp 41), (.tmp 42)]⟩, []⟩, ⟨0, ⟨(some 44), none, (.pure .id), [(.tmp 10)]⟩, []⟩, ⟨0, ⟨(some 45), none, (.pure .id), [(.tmp 4)]⟩, []⟩, ⟨0, ⟨(some 46), none, (.call F_slices_swapRangeCmpFunc_api_Dep), [(.tmp 35), (.tmp 38), (.tmp 43), (.tmp 44), (.tmp 45)]⟩, []⟩]) (.region [⟨0, ⟨(some 47), none, (.pure .id), [(.tmp 11)]⟩, []⟩, ⟨0, ⟨(some 48), none, (.pure .id), [(.tmp 10)]⟩, []⟩, ⟨0, ⟨(some 49), none, (.pure (.bin .sub .none)), [(.tmp 47), (.tmp 48)]⟩, []⟩, ⟨0, ⟨(some 11), none, (.pure .id), [(.tmp 49)]⟩, []⟩])))))))) (.region [⟨0, ⟨(some 50), none, (.pure .id), [(.tmp 0)]⟩, []⟩, ⟨0, ⟨(some 51), none, (.pure .id), [(.tmp 2)]⟩, []⟩, ⟨0, ⟨(some 52), none, (.pure .id), [(.tmp 10)]⟩, []⟩, ⟨0, ⟨(some 53), none, (.pure (.bin .sub .none)), [(.tmp 51), (.tmp 52)]⟩, []⟩, ⟨0, ⟨(some 54), none, (.pure .id), [(.tmp 2)]⟩, []⟩, ⟨0, ⟨(some 55), none, (.pure .id), [(.tmp 10)]⟩, []⟩, ⟨0, ⟨(some 56), none, (.pure .id), [(.tmp 4)]⟩, []⟩, ⟨0, ⟨(some 57), none, (.call F_slices_swapRangeCmpFunc_api_Dep), [(.tmp 50), (.tmp 53), (.tmp 54), (.tmp 55), (.tmp 56)]⟩, []⟩]))))⟩
theorem c_slices_rotateCmpFunc_api_Dep : compF Tryz.prog Tryz.f133 = some G_slices_rotateCmpFunc_api_Dep := by kernel_rfl
theorem gc_slices_rotateCmpFunc_api_Dep {args : List DV} {σ : GS} {Post : DV → GS → Prop} (h : @exB Tryz.prog ⟨G_slices_rotateCmpFunc_api_Dep.body⟩ (genv0 args G_slices_rotateCmpFunc_api_Dep.ntmps) σ ⟨@gretB G_slices_rotateCmpFunc_api_Dep.results ⟨Post⟩⟩) : GCall Tryz.prog F_slices_rotateCmpFunc_api_Dep args σ Post := gcall_ofB seatfollows Tryz.func133 (by kernel_rfl) c_slices_rotateCmpFunc_api_Dep h
noncomputable abbrev G_slices_swapRangeCmpFunc_api_Dep : GFun := ⟨38, [], (.seq (.region [⟨0, ⟨(some 10), none, (.pure .id), [(.const (.int .i64 0))]⟩, []⟩]) (.block 0 (.loop (.seq (.seq (.region [⟨0, ⟨(some 11), none, (.pure .id), [(.tmp 10)]⟩, []⟩, ⟨0, ⟨(some 12), none, (.pure .id), [(.tmp 3)]⟩, []⟩, ⟨0, ⟨(some 13), none, (.pure (.bin .lss .none)), [(.tmp 11), (.tmp 12)]⟩, []⟩]) (.cond (.tmp 13) .skip (.exit 0))) (.seq (.block 1 (.region [⟨0, ⟨(some 16), none, (.pure .id), [(.tmp 0)]⟩, []⟩, ⟨1, ⟨(some 17), none, (.pure .id), [(.tmp 1)]⟩, []⟩, ⟨2, ⟨(some 18), none, (.pure .id), [(.tmp 10)]⟩, []⟩, ⟨3, ⟨(some 19), none, (.pure (.bin .add .none)), [(.tmp 17), (.tmp 18)]⟩, []⟩, ⟨4, ⟨(some 20), none, (.pure .id), [(.tmp 0)]⟩, []⟩, ⟨5, ⟨(some 21), none, (.pure .id), [(.tmp 2)]⟩, []⟩, ⟨6, ⟨(some 22), none, (.pure .id), [(.tmp 10)]⟩, []⟩, ⟨7, ⟨(some 23), none, (.pure (.bin .add .none)), [(.tmp 21), (.tmp 22)]⟩, []⟩, ⟨8, ⟨(some 24), none, (.pure .id), [(.tmp 0)]⟩, []⟩, ⟨9, ⟨(some 25), none, (.pure .id), [(.tmp 2)]⟩, []⟩, ⟨10, ⟨(some 26), none, (.pure .id), [(.tmp 10)]⟩, []⟩, ⟨11, ⟨(some 27), none, (.pure (.bin .add .none)), [(.tmp 25), (.tmp 26)]⟩, []⟩, ⟨12, ⟨(some 28), none, (.pure (.iaddr 2)), [(.tmp 24), (.tmp 27)]⟩, []⟩, ⟨13, ⟨(some 29), none, (.load (.load 2 true)), [(.tmp 28)]⟩, []⟩, ⟨14, ⟨(some 30), none, (.pure .id), [(.tmp 0)]⟩, []⟩, ⟨15, ⟨(some 31), none, (.pure .id), [(.tmp 1)]⟩, []⟩, ⟨16, ⟨(some 32), none, (.pure .id), [(.tmp 10)]⟩, []⟩, ⟨17, ⟨(some 33), none, (.pure (.bin .add .none)), [(.tmp 31), (.tmp 32)]⟩, []⟩, ⟨18, ⟨(some 34), none, (.pure (.iaddr 2)), [(.tmp 30), (.tmp 33)]⟩, []⟩, ⟨19, ⟨(some 35), none, (.load (.load 2 true)), [(.tmp 34)]⟩, []⟩, ⟨20, ⟨(some 36), none, (.pure (.iaddr 2)), [(.tmp 16), (.tmp 19)]⟩, []⟩, ⟨21, ⟨none, none, (.imp (.store 2)), [(.tmp 36), (.tmp 29)]⟩, []⟩, ⟨22, ⟨(some 37), none, (.pure (.iaddr 2)), [(.tmp 20), (.tmp 23)]⟩, []⟩, ⟨23, ⟨none, none, (.imp (.store 2)), [(.tmp 37), (.tmp 35)]⟩, []⟩])) (.region [⟨0, ⟨(some 14), none, (.pure .id), [(.tmp 10)]⟩, []⟩, ⟨0, ⟨(some 15), none, (.pure (.bin .add .none)), [(.tmp 14), (.const (.int .i64 1))]⟩, []⟩, ⟨0, ⟨(some 10), none, (.pure .id), [(.tmp 15)]⟩, []⟩]))))))⟩
theorem c_slices_swapRangeCmpFunc_api_Dep : compF Tryz.prog Tryz.f139 = some G_slices_swapRangeCmpFunc_api_Dep := by kernel_rfl
theorem gc_slices_swapRangeCmpFunc_api_Dep {args : List DV} {σ : GS} {Post : DV → GS → Prop} (h : @exB Tryz.prog ⟨G_slices_swapRangeCmpFunc_api_Dep.body⟩ (genv0 args G_slices_swapRangeCmpFunc_api_Dep.ntmps) σ ⟨@gretB G_slices_swapRangeCmpFunc_api_Dep.results ⟨Post⟩⟩) : GCall Tryz.prog F_slices_swapRangeCmpFunc_api_Dep args σ Post := gcall_ofB seatfollows Tryz.func139 (by kernel_rfl) c_slices_swapRangeCmpFunc_api_Dep h
noncomputable abbrev G_prefix_Linear : GFun := ⟨52, [(.tmp 2), (.tmp 3)], (.seq (.region [⟨0, ⟨(some 1), none, (.new .box), [(.tmp 0)]⟩, []⟩, ⟨0, ⟨(some 2), none, (.pure .id), [(.const .nils)]⟩, []⟩, ⟨0, ⟨(some 3), none, (.pure .id), [(.const (.int .i64 0))]⟩, []⟩]) (.seq (.seq (.region [⟨0, ⟨(some 10), none, (.load (.load 3 true)), [(.tmp 1)]⟩, []⟩, ⟨0, ⟨(some 11), none, (.call F_prefix_MayDqbf), [(.tmp 10)]⟩, []⟩, ⟨0, ⟨(some 12), none, (.pure (.un .not)), [(.tmp 11)]⟩, []⟩]) (.cond (.tmp 12) (.seq (.region [⟨0, ⟨(some 2), none, (.pure .id), [(.const .nils)]⟩, []⟩, ⟨0, ⟨(some 3), none, (.pure .id), [(.const (.int .i64 2))]⟩, []⟩]) .ret) .skip)) (.seq (.region [⟨0, ⟨(some 13), none, (.pure (.faddr 1)), [(.tmp 1)]⟩, []⟩, ⟨0, ⟨(some 14), none, (.load (.load 1 false)), [(.tmp 13)]⟩, []⟩, ⟨0, ⟨(some 15), none, (.call F_slices_Clone_api_Dep_api_Dep), [(.tmp 14)]⟩, []⟩, ⟨0, ⟨(some 4), none, (.pure .id), [(.tmp 15)]⟩, []⟩]) (.seq (.region [⟨0, ⟨(some 16), none, (.pure .id), [(.tmp 4)]⟩, []⟩, ⟨0, ⟨(some 17), none, (.call F_slices_SortStableFunc_api_Dep_api_Dep), [(.tmp 16), (.const (.func F_prefix_Linear_1 [] []))]⟩, []⟩]) (.seq (.region [⟨0, ⟨(some 5), none, (.pure .id), [(.const .nils)]⟩, []⟩]) (.seq (.region [⟨0, ⟨(some 6), none, (.new (.alloc [.nils])), []⟩, []⟩]) (.seq (.region [⟨0, ⟨(some 18), none, (.pure (.mkfunc F_prefix_Linear_2 0)), [(.tmp 6)]⟩, []⟩, ⟨0, ⟨(some 7), none, (.pure .id), [(.tmp 18)]⟩, []⟩]) (.seq (.seq (.region [⟨0, ⟨(some 19), none, (.pure .id), [(.tmp 4)]⟩, []⟩, ⟨0, ⟨(some 20), none, (.pure .len), [(.tmp 19)]⟩, []⟩, ⟨0, ⟨(some 21), none, (.pure .id), [(.const (.int .i64 0))]⟩, []⟩]) (.block 0 (.loop (.seq (.region [⟨0, ⟨(some 22), none, (.pure (.bin .lss .none)), [(.tmp 21), (.tmp 20)]⟩, []⟩]) (.seq (.cond (.tmp 22) .skip (.exit 0)) (.seq (.block 1 (.seq (.region [⟨0, ⟨(some 23), none, (.pure (.iaddr 2)), [(.tmp 19), (.tmp 21)]⟩, []⟩, ⟨0, ⟨(some 24), none, (.load (.load 2 true)), [(.tmp 23)]⟩, []⟩, ⟨0, ⟨(some 9), none, (.new (.alloc [(.int .i64 0), .nils])), []⟩, []⟩, ⟨0, ⟨none, none, (.imp (.store 2)), [(.tmp 9), (.tmp 24)]⟩, []⟩]) (.seq (.seq (.region [⟨0, ⟨(some 25), none, (.load (.load 1 false)), [(.tmp 6)]⟩, []⟩, ⟨0, ⟨(some 26), none, (.pure (.faddr 1)), [(.tmp 9)]⟩, []⟩, ⟨0, ⟨(some 27), none, (.load (.load 1 false)), [(.tmp 26)]⟩, []⟩, ⟨0, ⟨(some 28), none, (.call F_prefix_part), [(.tmp 25), (.tmp 27)]⟩, []⟩, ⟨0, ⟨(some 29), none, (.pure (.un .not)), [(.tmp 28)]⟩, []⟩]) (.cond (.tmp 29) (.seq (.region [⟨0, ⟨(some 2), none, (.pure .id), [(.const .nils)]⟩, []⟩, ⟨0, ⟨(some 3), none, (.pure .id), [(.const (.int .i64 30))]⟩, []⟩]) .ret) .skip)) (.seq (.region [⟨0, ⟨(some 30), none, (.pure .id), [(.tmp 5)]⟩, []⟩, ⟨1, ⟨(some 31), none, (.pure .id), [(.tmp 7)]⟩, []⟩, ⟨2, ⟨(some 32), none, (.pure (.faddr 1)), [(.tmp 9)]⟩, []⟩, ⟨3, ⟨(some 33), none, (.load (.load 1 false)), [(.tmp 32)]⟩, []⟩, ⟨5, ⟨(some 35), none, (.pure (.faddr 0)), [(.tmp 9)]⟩, []⟩, ⟨6, ⟨(some 36), none, (.load (.load 1 false)), [(.tmp 35)]⟩, []⟩, ⟨7, ⟨(some 37), none, (.new (.bslice 1 [(.int .i64 0)] 1 [(0, 1)])), [(.tmp 36)]⟩, []⟩, ⟨8, ⟨(some 38), none, (.pure (.build [(.bool false), .nils] [(0, 1), (1, 1)])), [(.const (.bool true)), (.tmp 37)]⟩, []⟩, ⟨4, ⟨(some 34), none, .callv, [(.tmp 31), (.tmp 33)]⟩, [⟨(some 36), none, (.load (.load 1 false)), [(.tmp 35)]⟩, ⟨(some 37), none, (.new (.bslice 1 [(.int .i64 0)] 1 [(0, 1)])), [(.tmp 36)]⟩]⟩, ⟨9, ⟨(some 39), none, (.new (.bslice 2 [(.bool false), .nils] 2 [(0, 2), (2, 2)])), [(.tmp 34), (.tmp 38)]⟩, []⟩, ⟨10, ⟨(some 40), none, (.imp (.append 2 32)), [(.tmp 30), (.tmp 39)]⟩, []⟩, ⟨11, ⟨(some 5), none, (.pure .id), [(.tmp 40)]⟩, []⟩]) (.region [⟨0, ⟨(some 41), none, (.pure (.faddr 1)), [(.tmp 9)]⟩, []⟩, ⟨0, ⟨(some 42), none, (.load (.load 1 false)), [(.tmp 41)]⟩, []⟩, ⟨0, ⟨none, none, (.imp (.store 1)), [(.tmp 6), (.tmp 42)]⟩, []⟩]))))) (.region [⟨0, ⟨(some 43), none, (.pure (.bin .add .none)), [(.tmp 21), (.const (.int .i64 1))]⟩, []⟩, ⟨0, ⟨(some 21), none, (.pure .id), [(.tmp 43)]⟩, []⟩]))))))) (.seq (.region [⟨0, ⟨(some 44), none, (.pure .id), [(.tmp 5)]⟩, []⟩, ⟨0, ⟨(some 45), none, (.pure .id), [(.tmp 7)]⟩, []⟩, ⟨0, ⟨(some 46), none, (.pure (.faddr 0)), [(.tmp 1)]⟩, []⟩, ⟨0, ⟨(some 47), none, (.load (.load 1 false)), [(.tmp 46)]⟩, []⟩, ⟨0, ⟨(some 48), none, .callv, [(.tmp 45), (.tmp 47)]⟩, []⟩, ⟨0, ⟨(some 49), none, (.new (.bslice 2 [(.bool false), .nils] 1 [(0, 2)])), [(.tmp 48)]⟩, []⟩, ⟨0, ⟨(some 50), none, (.imp (.append 2 32)), [(.tmp 44), (.tmp 49)]⟩, []⟩, ⟨0, ⟨(some 51), none, (.call F_prefix_joined), [(.tmp 50)]⟩, []⟩, ⟨0, ⟨(some 2), none, (.pure .id), [(.tmp 51)]⟩, []⟩, ⟨0, ⟨(some 3), none, (.pure .id), [(.const (.int .i64 0))]⟩, []⟩]) .ret)))))))))⟩
theorem c_prefix_Linear : compF Tryz.prog Tryz.f20 = some G_prefix_Linear := by kernel_rfl
theorem gc_prefix_Linear {args : List DV} {σ : GS} {Post : DV → GS → Prop} (h : @exB Tryz.prog ⟨G_prefix_Linear.body⟩ (genv0 args G_prefix_Linear.ntmps) σ ⟨@gretB G_prefix_Linear.results ⟨Post⟩⟩) : GCall Tryz.prog F_prefix_Linear args σ Post := gcall_ofB seatfollows Tryz.func20 (by kernel_rfl) c_prefix_Linear h
noncomputable abbrev G_prefix_Linear_1 : GFun := ⟨12, [(.tmp 4)], (.seq (.region [⟨0, ⟨(some 2), none, (.new .box), [(.tmp 0)]⟩, []⟩, ⟨0, ⟨(some 3), none, (.new .box), [(.tmp 1)]⟩, []⟩, ⟨0, ⟨(some 4), none, (.pure .id), [(.const (.int .i64 0))]⟩, []⟩]) (.seq (.region [⟨0, ⟨(some 5), none, (.pure (.faddr 1)), [(.tmp 2)]⟩, []⟩, ⟨0, ⟨(some 6), none, (.load (.load 1 false)), [(.tmp 5)]⟩, []⟩, ⟨0, ⟨(some 7), none, (.pure .len), [(.tmp 6)]⟩, []⟩, ⟨0, ⟨(some 8), none, (.pure (.faddr 1)), [(.tmp 3)]⟩, []⟩, ⟨0, ⟨(some 9), none, (.load (.load 1 false)), [(.tmp 8)]⟩, []⟩, ⟨0, ⟨(some 10), none, (.pure .len), [(.tmp 9)]⟩, []⟩, ⟨0, ⟨(some 11), none, (.call F_cmp_Compare_int), [(.tmp 7), (.tmp 10)]⟩, []⟩, ⟨0, ⟨(some 4), none, (.pure .id), [(.tmp 11)]⟩, []⟩]) .ret))⟩
theorem c_prefix_Linear_1 : compF Tryz.prog Tryz.f65 = some G_prefix_Linear_1 := by kernel_rfl
theorem gc_prefix_Linear_1 {args : List DV} {σ : GS} {Post : DV → GS → Prop} (h : @exB Tryz.prog ⟨G_prefix_Linear_1.body⟩ (genv0 args G_prefix_Linear_1.ntmps) σ ⟨@gretB G_prefix_Linear_1.results ⟨Post⟩⟩) : GCall Tryz.prog F_prefix_Linear_1 args σ Post := gcall_ofB seatfollows Tryz.func65 (by kernel_rfl) c_prefix_Linear_1 h
noncomputable abbrev G_prefix_Linear_2 : GFun := ⟨9, [(.cell 3 2 true)], (.seq (.region [⟨0, ⟨(some 3), none, (.new (.alloc [(.bool false), .nils])), []⟩, []⟩]) (.seq (.region [⟨0, ⟨(some 4), none, (.pure .id), [(.tmp 0)]⟩, []⟩, ⟨0, ⟨(some 5), none, (.call F_slices_Clone_int_int), [(.tmp 4)]⟩, []⟩, ⟨0, ⟨(some 6), none, (.pure (.mkfunc F_prefix_Linear_2_1 0)), [(.tmp 1)]⟩, []⟩, ⟨0, ⟨(some 7), none, (.call F_slices_DeleteFunc_int_int), [(.tmp 5), (.tmp 6)]⟩, []⟩, ⟨0, ⟨(some 8), none, (.pure (.build [(.bool false), .nils] [(1, 1)])), [(.tmp 7)]⟩, []⟩, ⟨0, ⟨none, none, (.imp (.store 2)), [(.tmp 3), (.tmp 8)]⟩, []⟩]) .ret))⟩
theorem c_prefix_Linear_2 : compF Tryz.prog Tryz.f66 = some G_prefix_Linear_2 := by kernel_rfl
theorem gc_prefix_Linear_2 {args : List DV} {σ : GS} {Post : DV → GS → Prop} (h : @exB Tryz.prog ⟨G_prefix_Linear_2.body⟩ (genv0 args G_prefix_Linear_2.ntmps) σ ⟨@gretB G_prefix_Linear_2.results ⟨Post⟩⟩) : GCall Tryz.prog F_prefix_Linear_2 args σ Post := gcall_ofB seatfollows Tryz.func66 (by kernel_rfl) c_prefix_Linear_2 h
noncomputable abbrev G_prefix_Linear_2_1 : GFun := ⟨8, [(.tmp 3)], (.seq (.region [⟨0, ⟨(some 3), none, (.pure .id), [(.const (.bool false))]⟩, []⟩]) (.seq (.region [⟨0, ⟨(some 4), none, (.pure .id), [(.tmp 0)]⟩, []⟩, ⟨0, ⟨(some 5), none, (.new (.bslice 1 [(.int .i64 0)] 1 [(0, 1)])), [(.tmp 4)]⟩, []⟩, ⟨0, ⟨(some 6), none, (.load (.load 1 false)), [(.tmp 1)]⟩, []⟩, ⟨0, ⟨(some 7), none, (.call F_prefix_part), [(.tmp 5), (.tmp 6)]⟩, []⟩, ⟨0, ⟨(some 3), none, (.pure .id), [(.tmp 7)]⟩, []⟩]) .ret))⟩
theorem c_prefix_Linear_2_1 : compF Tryz.prog Tryz.f69 = some G_prefix_Linear_2_1 := by kernel_rfl
theorem gc_prefix_Linear_2_1 {args : List DV} {σ : GS} {Post : DV → GS → Prop} (h : @exB Tryz.prog ⟨G_prefix_Linear_2_1.body⟩ (genv0 args G_prefix_Linear_2_1.ntmps) σ ⟨@gretB G_prefix_Linear_2_1.results ⟨Post⟩⟩) : GCall Tryz.prog F_prefix_Linear_2_1 args σ Post := gcall_ofB seatfollows Tryz.func69 (by kernel_rfl) c_prefix_Linear_2_1 h
noncomputable abbrev G_prefix_part : GFun := ⟨24, [(.tmp 4)], (.seq (.region [⟨0, ⟨(some 4), none, (.pure .id), [(.const (.bool false))]⟩, []⟩]) (.seq (.seq (.region [⟨0, ⟨(some 9), none, (.pure .id), [(.tmp 0)]⟩, []⟩, ⟨0, ⟨(some 10), none, (.pure .len), [(.tmp 9)]⟩, []⟩, ⟨0, ⟨(some 11), none, (.pure .id), [(.const (.int .i64 0))]⟩, []⟩]) (.block 0 (.loop (.seq (.region [⟨0, ⟨(some 12), none, (.pure (.bin .lss .none)), [(.tmp 11), (.tmp 10)]⟩, []⟩]) (.seq (.cond (.tmp 12) .skip (.exit 0)) (.seq (.block 1 (.seq (.region [⟨0, ⟨(some 13), none, (.pure (.iaddr 1)), [(.tmp 9), (.tmp 11)]⟩, []⟩, ⟨0, ⟨(some 14), none, (.load (.load 1 false)), [(.tmp 13)]⟩, []⟩, ⟨0, ⟨(some 6), none, (.pure .id), [(.tmp 14)]⟩, []⟩]) (.seq (.region [⟨0, ⟨(some 16), none, (.pure .id), [(.tmp 1)]⟩, []⟩, ⟨0, ⟨(some 17), none, (.pure .id), [(.tmp 6)]⟩, []⟩, ⟨0, ⟨(some 18), none, (.call F_slices_BinarySearch_int_int), [(.tmp 16), (.tmp 17)]⟩, []⟩, ⟨0, ⟨(some 15), none, (.pure .id), [(.tmp 18)]⟩, []⟩, ⟨0, ⟨(some 19), none, (.pure (.extract 0)), [(.tmp 15)]⟩, []⟩, ⟨0, ⟨(some 20), none, (.pure (.extract 1)), [(.tmp 15)]⟩, []⟩, ⟨0, ⟨(some 7), none, (.pure .id), [(.tmp 19)]⟩, []⟩, ⟨0, ⟨(some 8), none, (.pure .id), [(.tmp 20)]⟩, []⟩]) (.seq (.region [⟨0, ⟨(some 21), none, (.pure .id), [(.tmp 8)]⟩, []⟩, ⟨0, ⟨(some 22), none, (.pure (.un .not)), [(.tmp 21)]⟩, []⟩]) (.cond (.tmp 22) (.seq (.region [⟨0, ⟨(some 4), none, (.pure .id), [(.const (.bool false))]⟩, []⟩]) .ret) .skip))))) (.region [⟨0, ⟨(some 23), none, (.pure (.bin .add .none)), [(.tmp 11), (.const (.int .i64 1))]⟩, []⟩, ⟨0, ⟨(some 11), none, (.pure .id), [(.tmp 23)]⟩, []⟩]))))))) (.seq (.region [⟨0, ⟨(some 4), none, (.pure .id), [(.const (.bool true))]⟩, []⟩]) .ret)))⟩
theorem c_prefix_part : compF Tryz.prog Tryz.f70 = some G_prefix_part := by kernel_rfl
theorem gc_prefix_part {args : List DV} {σ : GS} {Post : DV → GS → Prop} (h : @exB Tryz.prog ⟨G_prefix_part.body⟩ (genv0 args G_prefix_part.ntmps) σ ⟨@gretB G_prefix_part.results ⟨Post⟩⟩) : GCall Tryz.prog F_prefix_part args σ Post := gcall_ofB seatfollows Tryz.func70 (by kernel_rfl) c_prefix_part h
noncomputable abbrev G_slices_BinarySearch_int_int : GFun := ⟨54, [(.tmp 4), (.tmp 5)], (.seq (.region [⟨0, ⟨(some 4), none, (.pure .id), [(.const (.int .i64 0))]⟩, []⟩, ⟨0, ⟨(some 5), none, (.pure .id), [(.const (.bool false))]⟩, []⟩]) (.seq (.region [⟨0, ⟨(some 10), none, (.pure .id), [(.tmp 0)]⟩, []⟩, ⟨0, ⟨(some 11), none, (.pure .len), [(.tmp 10)]⟩, []⟩, ⟨0, ⟨(some 6), none, (.pure .id), [(.tmp 11)]⟩, []⟩]) (.seq (.region [⟨0, ⟨(some 12), none, (.pure .id), [(.tmp 6)]⟩, []⟩, ⟨0, ⟨(some 7), none, (.pure .id), [(.const (.int .i64 0))]⟩, []⟩, ⟨0, ⟨(some 8), none, (.pure .id), [(.tmp 12)]⟩, []⟩]) (.seq (.block 0 (.loop (.seq (.seq (.region [⟨0, ⟨(some 13), none, (.pure .id), [(.tmp 7)]⟩, []⟩, ⟨0, ⟨(some 14), none, (.pure .id), [(.tmp 8)]⟩, []⟩, ⟨0, ⟨(some 15), none, (.pure (.bin .lss .none)), [(.tmp 13), (.tmp 14)]⟩, []⟩]) (.cond (.tmp 15) .skip (.exit 0))) (.block 1 (.seq (.region [⟨0, ⟨(some 16), none, (.pure .id), [(.tmp 7)]⟩, []⟩, ⟨0, ⟨(some 17), none, (.pure .id), [(.tmp 8)]⟩, []⟩, ⟨0, ⟨(some 18), none, (.pure (.bin .add .none)), [(.tmp 16), (.tmp 17)]⟩, []⟩, ⟨0, ⟨(some 19), none, (.pure (.conv .u64)), [(.tmp 18)]⟩, []⟩, ⟨0, ⟨(some 20), none, (.pure (.bin .shr .none)), [(.tmp 19), (.const (.int .u64 1))]⟩, []⟩, ⟨0, ⟨(some 21), none, (.pure (.conv .i64)), [(.tmp 20)]⟩, []⟩, ⟨0, ⟨(some 9), none, (.pure .id), [(.tmp 21)]⟩, []⟩]) (.seq (.region [⟨0, ⟨(some 22), none, (.pure .id), [(.tmp 0)]⟩, []⟩, ⟨0, ⟨(some 23), none, (.pure .id), [(.tmp 9)]⟩, []⟩, ⟨0, ⟨(some 24), none, (.pure (.iaddr 1)), [(.tmp 22), (.tmp 23)]⟩, []⟩, ⟨0, ⟨(some 25), none, (.load (.load 1 false)), [(.tmp 24)]⟩, []⟩, ⟨0, ⟨(some 26), none, (.pure .id), [(.tmp 1)]⟩, []⟩, ⟨0, ⟨(some 27), none, (.call F_cmp_Less_int), [(.tmp 25), (.tmp 26)]⟩, []⟩]) (.cond (.tmp 27) (.region [⟨0, ⟨(some 28), none, (.pure .id), [(.tmp 9)]⟩, []⟩, ⟨0, ⟨(some 29), none, (.pure (.bin .add .none)), [(.tmp 28), (.const (.int .i64 1))]⟩, []⟩, ⟨0, ⟨(some 7), none, (.pure .id), [(.tmp 29)]⟩, []⟩]) (.region [⟨0, ⟨(some 30), none, (.pure .id), [(.tmp 9)]⟩, []⟩, ⟨0, ⟨(some 8), none, (.pure .id), [(.tmp 30)]⟩, []⟩])))))))) (.seq (.region [⟨0, ⟨(some 31), none, (.pure .id), [(.tmp 7)]⟩, []⟩, ⟨0, ⟨(some 32), none, (.pure .id), [(.tmp 7)]⟩, []⟩, ⟨0, ⟨(some 33), none, (.pure .id), [(.tmp 6)]⟩, []⟩, ⟨0, ⟨(some 34), none, (.pure (.bin .lss .none)), [(.tmp 32), (.tmp 33)]⟩, []⟩, ⟨0, ⟨(some 35), none, (.pure .id), [(.tmp 34)]⟩, []⟩, ⟨0, ⟨(some 36), (some (35, true)), (.pure .id), [(.tmp 0)]⟩, []⟩, ⟨0, ⟨(some 37), (some (35, true)), (.pure .id), [(.tmp 7)]⟩, []⟩, ⟨0, ⟨(some 38), (some (35, true)), (.pure (.iaddr 1)), [(.tmp 36), (.tmp 37)]⟩, []⟩, ⟨0, ⟨(some 39), (some (35, true)), (.load (.load 1 false)), [(.tmp 38)]⟩, []⟩, ⟨0, ⟨(some 40), (some (35, true)), (.pure .id), [(.tmp 1)]⟩, []⟩, ⟨0, ⟨(some 41), (some (35, true)), (.pure (.bin .eql .none)), [(.tmp 39), (.tmp 40)]⟩, []⟩, ⟨0, ⟨(some 42), (some (35, true)), (.pure .id), [(.tmp 41)]⟩, []⟩, ⟨0, ⟨(some 43), (some (42, false)), (.pure .id), [(.tmp 0)]⟩, []⟩, ⟨0, ⟨(some 44), (some (42, false)), (.pure .id), [(.tmp 7)]⟩, []⟩, ⟨0, ⟨(some 45), (some (42, false)), (.pure (.iaddr 1)), [(.tmp 43), (.tmp 44)]⟩, []⟩, ⟨0, ⟨(some 46), (some (42, false)), (.load (.load 1 false)), [(.tmp 45)]⟩, []⟩, ⟨0, ⟨(some 47), (some (42, false)), (.call F_slices_isNaN_int), [(.tmp 46)]⟩, []⟩, ⟨0, ⟨(some 48), (some (42, false)), (.pure .id), [(.tmp 47)]⟩, []⟩, ⟨0, ⟨(some 49), (some (48, true)), (.pure .id), [(.tmp 1)]⟩, []⟩, ⟨0, ⟨(some 50), (some (48, true)), (.call F_slices_isNaN_int), [(.tmp 49)]⟩, []⟩, ⟨0, ⟨(some 51), (some (42, false)), (.pure .pick), [(.tmp 48), (.tmp 50), (.const (.bool false))]⟩, []⟩, ⟨0, ⟨(some 52), (some (35, true)), (.pure .pick), [(.tmp 42), (.const (.bool true)), (.tmp 51)]⟩, []⟩, ⟨0, ⟨(some 53), none, (.pure .pick), [(.tmp 35), (.tmp 52), (.const (.bool false))]⟩, []⟩, ⟨0, ⟨(some 4), none, (.pure .id), [(.tmp 31)]⟩, []⟩, ⟨0, ⟨(some 5), none, (.pure .id), [(.tmp 53)]⟩, []⟩]) .ret)))))⟩
theorem c_slices_BinarySearch_int_int : compF Tryz.prog Tryz.f98 = some G_slices_BinarySearch_int_int := by kernel_rfl
theorem gc_slices_BinarySearch_int_int {args : List DV} {σ : GS} {Post : DV → GS → Prop} (h : @exB Tryz.prog ⟨G_slices_BinarySearch_int_int.body⟩ (genv0 args G_slices_BinarySearch_int_int.ntmps) σ ⟨@gretB G_slices_BinarySearch_int_int.results ⟨Post⟩⟩) : GCall Tryz.prog F_slices_BinarySearch_int_int args σ Post := gcall_ofB seatfollows Tryz.func98 (by kernel_rfl) c_slices_BinarySearch_int_int h
noncomputable abbrev G_cmp_isNaN_int : GFun := ⟨6, [(.tmp 2)], (.seq (.region [⟨0, ⟨(some 2), none, (.pure .id), [(.const (.bool false))]⟩, []⟩]) (.seq (.region [⟨0, ⟨(some 3), none, (.pure .id), [(.tmp 0)]⟩, []⟩, ⟨0, ⟨(some 4), none, (.pure .id), [(.tmp 0)]⟩, []⟩, ⟨0, ⟨(some 5), none, (.pure (.bin .neq .none)), [(.tmp 3), (.tmp 4)]⟩, []⟩, ⟨0, ⟨(some 2), none, (.pure .id), [(.tmp 5)]⟩, []⟩]) .ret))⟩
theorem c_cmp_isNaN_int : compF Tryz.prog Tryz.f96 = some G_cmp_isNaN_int := by kernel_rfl
theorem gc_cmp_isNaN_int {args : List DV} {σ : GS} {Post : DV → GS → Prop} (h : @exB Tryz.prog ⟨G_cmp_isNaN_int.body⟩ (genv0 args G_cmp_isNaN_int.ntmps) σ ⟨@gretB G_cmp_isNaN_int.results ⟨Post⟩⟩) : GCall Tryz.prog F_cmp_isNaN_int args σ Post := gcall_ofB seatfollows Tryz.func96 (by kernel_rfl) c_cmp_isNaN_int h
noncomputable abbrev G_cmp_Less_int : GFun := ⟨17, [(.tmp 4)], (.seq (.region [⟨0, ⟨(some 4), none, (.pure .id), [(.const (.bool false))]⟩, []⟩]) (.seq (.region [⟨0, ⟨(some 5), none, (.pure .id), [(.tmp 0)]⟩, []⟩, ⟨0, ⟨(some 6), none, (.call F_cmp_isNaN_int), [(.tmp 5)]⟩, []⟩, ⟨0, ⟨(some 7), none, (.pure .id), [(.tmp 6)]⟩, []⟩, ⟨0, ⟨(some 8), (some (7, true)), (.pure .id), [(.tmp 1)]⟩, []⟩, ⟨0, ⟨(some 9), (some (7, true)), (.call F_cmp_isNaN_int), [(.tmp 8)]⟩, []⟩, ⟨0, ⟨(some 10), (some (7, true)), (.pure (.un .not)), [(.tmp 9)]⟩, []⟩, ⟨0, ⟨(some 11), none, (.pure .pick), [(.tmp 7), (.tmp 10), (.const (.bool false))]⟩, []⟩, ⟨0, ⟨(some 12), none, (.pure .id), [(.tmp 11)]⟩, []⟩, ⟨0, ⟨(some 13), (some (12, false)), (.pure .id), [(.tmp 0)]⟩, []⟩, ⟨0, ⟨(some 14), (some (12, false)), (.pure .id), [(.tmp 1)]⟩, []⟩, ⟨0, ⟨(some 15), (some (12, false)), (.pure (.bin .lss .none)), [(.tmp 13), (.tmp 14)]⟩, []⟩, ⟨0, ⟨(some 16), none, (.pure .pick), [(.tmp 12), (.const (.bool true)), (.tmp 15)]⟩, []⟩, ⟨0, ⟨(some 4), none, (.pure .id), [(.tmp 16)]⟩, []⟩]) .ret))⟩
theorem c_cmp_Less_int : compF Tryz.prog Tryz.f116 = some G_cmp_Less_int := by kernel_rfl
theorem gc_cmp_Less_int {args : List DV} {σ : GS} {Post : DV → GS → Prop} (h : @exB Tryz.prog ⟨G_cmp_Less_int.body⟩ (genv0 args G_cmp_Less_int.ntmps) σ ⟨@gretB G_cmp_Less_int.results ⟨Post⟩⟩) : GCall Tryz.prog F_cmp_Less_int args σ Post := gcall_ofB seatfollows Tryz.func116 (by kernel_rfl) c_cmp_Less_int h
noncomputable abbrev G_slices_isNaN_int : GFun := ⟨6, [(.tmp 2)], (.seq (.region [⟨0, ⟨(some 2), none, (.pure .id), [(.const (.bool false))]⟩, []⟩]) (.seq (.region [⟨0, ⟨(some 3), none, (.pure .id), [(.tmp 0)]⟩, []⟩, ⟨0, ⟨(some 4), none, (.pure .id), [(.tmp 0)]⟩, []⟩, ⟨0, ⟨(some 5), none, (.pure (.bin .neq .none)), [(.tmp 3), (.tmp 4)]⟩, []⟩, ⟨0, ⟨(some 2), none, (.pure .id), [(.tmp 5)]⟩, []⟩]) .ret))⟩
theorem c_slices_isNaN_int : compF Tryz.prog Tryz.f117 = some G_slices_isNaN_int := by kernel_rfl
theorem gc_slices_isNaN_int {args : List DV} {σ : GS} {Post : DV → GS → Prop} (h : @exB Tryz.prog ⟨G_slices_isNaN_int.body⟩ (genv0 args G_slices_isNaN_int.ntmps) σ ⟨@gretB G_slices_isNaN_int.results ⟨Post⟩⟩) : GCall Tryz.prog F_slices_isNaN_int args σ Post := gcall_ofB seatfollows Tryz.func117 (by kernel_rfl) c_slices_isNaN_int h
noncomputable abbrev G_cmp_Compare_int : GFun := ⟨20, [(.tmp 4)], (.seq (.region [⟨0, ⟨(some 4), none, (.pure .id), [(.const (.int .i64 0))]⟩, []⟩]) (.seq (.region [⟨0, ⟨(some 7), none, (.pure .id), [(.tmp 0)]⟩, []⟩, ⟨0, ⟨(some 8), none, (.call F_cmp_isNaN_int), [(.tmp 7)]⟩, []⟩, ⟨0, ⟨(some 5), none, (.pure .id), [(.tmp 8)]⟩, []⟩]) (.seq (.region [⟨0, ⟨(some 9), none, (.pure .id), [(.tmp 1)]⟩, []⟩, ⟨0, ⟨(some 10), none, (.call F_cmp_isNaN_int), [(.tmp 9)]⟩, []⟩, ⟨0, ⟨(some 6), none, (.pure .id), [(.tmp 10)]⟩, []⟩]) (.seq (.seq (.region [⟨0, ⟨(some 11), none, (.pure .id), [(.tmp 5)]⟩, []⟩]) (.cond (.tmp 11) (.seq (.seq (.region [⟨0, ⟨(some 12), none, (.pure .id), [(.tmp 6)]⟩, []⟩]) (.cond (.tmp 12) (.seq (.region [⟨0, ⟨(some 4), none, (.pure .id), [(.const (.int .i64 0))]⟩, []⟩]) .ret) .skip)) (.seq (.region [⟨0, ⟨(some 4), none, (.pure .id), [(.const (.int .i64 (-1)))]⟩, []⟩]) .ret)) .skip)) (.seq (.seq (.region [⟨0, ⟨(some 13), none, (.pure .id), [(.tmp 6)]⟩, []⟩]) (.cond (.tmp 13) (.seq (.region [⟨0, ⟨(some 4), none, (.pure .id), [(.const (.int .i64 1))]⟩, []⟩]) .ret) .skip)) (.seq (.seq (.region [⟨0, ⟨(some 14), none, (.pure .id), [(.tmp 0)]⟩, []⟩, ⟨0, ⟨(some 15), none, (.pure .id), [(.tmp 1)]⟩, []⟩, ⟨0, ⟨(some 16), none, (.pure (.bin .lss .none)), [(.tmp 14), (.tmp 15)]⟩, []⟩]) (.cond (.tmp 16) (.seq (.region [⟨0, ⟨(some 4), none, (.pure .id), [(.const (.int .i64 (-1)))]⟩, []⟩]) .ret) .skip)) (.seq (.seq (.region [⟨0, ⟨(some 17), none, (.pure .id), [(.tmp 0)]⟩, []⟩, ⟨0, ⟨(some 18), none, (.pure .id), [(.tmp 1)]⟩, []⟩, ⟨0, ⟨(some 19), none, (.pure (.bin .gtr .none)), [(.tmp 17), (.tmp 18)]⟩, []⟩]) (.cond (.tmp 19) (.seq (.region [⟨0, ⟨(some 4), none, (.pure .id), [(.const (.int .i64 1))]⟩, []⟩]) .ret) .skip)) (.seq (.region [⟨0, ⟨(some 4), none, (.pure .id), [(.const (.int .i64 0))]⟩, []⟩]) .ret))))))))⟩
theorem c_cmp_Compare_int : compF Tryz.prog Tryz.f62 = some G_cmp_Compare_int := by kernel_rfl
theorem gc_cmp_Compare_int {args : List DV} {σ : GS} {Post : DV → GS → Prop} (h : @exB Tryz.prog ⟨G_cmp_Compare_int.body⟩ (genv0 args G_cmp_Compare_int.ntmps) σ ⟨@gretB G_cmp_Compare_int.results ⟨Post⟩⟩) : GCall Tryz.prog F_cmp_Compare_int args σ Post := gcall_ofB seatfollows Tryz.func62 (by kernel_rfl) c_cmp_Compare_int h
noncomputable abbrev G_slices_Clone_api_Dep_api_Dep : GFun := ⟨8, [(.tmp 2)], (.seq (.region [⟨0, ⟨(some 2), none, (.pure .id), [(.const .nils)]⟩, []⟩]) (.seq (.seq (.region [⟨0, ⟨(some 3), none, (.pure .id), [(.tmp 0)]⟩, []⟩, ⟨0, ⟨(some 4), none, (.eqn false), [(.tmp 3), (.const .nils)]⟩, []⟩]) (.cond (.tmp 4) (.seq (.region [⟨0, ⟨(some 2), none, (.pure .id), [(.const .nils)]⟩, []⟩]) .ret) .skip)) (.seq (.region [⟨0, ⟨(some 5), none, (.new (.bslice 2 [(.int .i64 0), .nils] 0 [])), []⟩, []⟩, ⟨0, ⟨(some 6), none, (.pure .id), [(.tmp 0)]⟩, []⟩, ⟨0, ⟨(some 7), none, (.imp (.append 2 32)), [(.tmp 5), (.tmp 6)]⟩, []⟩, ⟨0, ⟨(some 2), none, (.pure .id), [(.tmp 7)]⟩, []⟩]) .ret)))⟩
theorem c_slices_Clone_api_Dep_api_Dep : compF Tryz.prog Tryz.f63 = some G_slices_Clone_api_Dep_api_Dep := by kernel_rfl
theorem gc_slices_Clone_api_Dep_api_Dep {args : List DV} {σ : GS} {Post : DV → GS → Prop} (h : @exB Tryz.prog ⟨G_slices_Clone_api_Dep_api_Dep.body⟩ (genv0 args G_slices_Clone_api_Dep_api_Dep.ntmps) σ ⟨@gretB G_slices_Clone_api_Dep_api_Dep.results ⟨Post⟩⟩) : GCall Tryz.prog F_slices_Clone_api_Dep_api_Dep args σ Post := gcall_ofB seatfollows Tryz.func63 (by kernel_rfl) c_slices_Clone_api_Dep_api_Dep h
noncomputable abbrev G_prefix_Dqbf : GFun := ⟨56, [(.cell 2 3 true), (.tmp 3)], (.seq (.region [⟨0, ⟨(some 1), none, (.new .box), [(.tmp 0)]⟩, []⟩, ⟨0, ⟨(some 2), none, (.new (.alloc [.nils, .nils, .nils])), []⟩, []⟩, ⟨0, ⟨(some 3), none, (.pure .id), [(.const (.int .i64 0))]⟩, []⟩]) (.seq (.seq (.region [⟨0, ⟨(some 9), none, (.load (.load 2 true)), [(.tmp 1)]⟩, []⟩, ⟨0, ⟨(some 10), none, (.call F_prefix_MayQbf), [(.tmp 9)]⟩, []⟩, ⟨0, ⟨(some 11), none, (.pure (.un .not)), [(.tmp 10)]⟩, []⟩]) (.cond (.tmp 11) (.seq (.region [⟨0, ⟨(some 12), none, (.pure (.build [.nils, .nils, .nils] [])), []⟩, []⟩, ⟨0, ⟨none, none, (.imp (.store 3)), [(.tmp 2), (.tmp 12)]⟩, []⟩, ⟨0, ⟨(some 3), none, (.pure .id), [(.const (.int .i64 2))]⟩, []⟩]) .ret) .skip)) (.seq (.region [⟨0, ⟨(some 13), none, (.pure (.faddr 0)), [(.tmp 1)]⟩, []⟩, ⟨1, ⟨(some 14), none, (.load (.load 1 false)), [(.tmp 13)]⟩, []⟩, ⟨3, ⟨(some 16), none, (.pure (.faddr 1)), [(.tmp 1)]⟩, []⟩, ⟨4, ⟨(some 17), none, (.load (.load 1 false)), [(.tmp 16)]⟩, []⟩, ⟨7, ⟨(some 4), none, (.new (.alloc [.nils, .nils, .nils])), []⟩, []⟩, ⟨2, ⟨(some 15), none, (.call F_prefix_before), [(.tmp 14), (.const (.bool false))]⟩, [⟨(some 17), none, (.load (.load 1 false)), [(.tmp 16)]⟩, ⟨(some 4), none, (.new (.alloc [.nils, .nils, .nils])), []⟩]⟩, ⟨5, ⟨(some 18), none, (.call F_prefix_copied), [(.tmp 17)]⟩, [⟨(some 4), none, (.new (.alloc [.nils, .nils, .nils])), []⟩]⟩, ⟨6, ⟨(some 19), none, (.pure (.build [.nils, .nils, .nils] [(0, 1), (2, 1)])), [(.tmp 15), (.tmp 18)]⟩, []⟩, ⟨8, ⟨none, none, (.imp (.store 3)), [(.tmp 4), (.tmp 19)]⟩, []⟩]) (.seq (.seq (.region [⟨0, ⟨(some 20), none, (.pure (.faddr 0)), [(.tmp 1)]⟩, []⟩, ⟨0, ⟨(some 21), none, (.load (.load 1 false)), [(.tmp 20)]⟩, []⟩, ⟨0, ⟨(some 22), none, (.pure .len), [(.tmp 21)]⟩, []⟩, ⟨0, ⟨(some 23), none, (.pure .id), [(.const (.int .i64 0))]⟩, []⟩]) (.block 0 (.loop (.seq (.region [⟨0, ⟨(some 24), none, (.pure (.bin .lss .none)), [(.tmp 23), (.tmp 22)]⟩, []⟩]) (.seq (.cond (.tmp 24) .skip (.exit 0)) (.seq (.block 1 (.seq (.region [⟨0, ⟨(some 25), none, (.pure .id), [(.tmp 23)]⟩, []⟩, ⟨0, ⟨(some 26), none, (.pure (.iaddr 2)), [(.tmp 21), (.tmp 23)]⟩, []⟩, ⟨0, ⟨(some 27), none, (.load (.load 2 true)), [(.tmp 26)]⟩, []⟩, ⟨0, ⟨(some 6), none, (.new (.alloc [(.bool false), .nils])), []⟩, []⟩, ⟨0, ⟨(some 5), none, (.pure .id), [(.tmp 25)]⟩, []⟩, ⟨0, ⟨none, none, (.imp (.store 2)), [(.tmp 6), (.tmp 27)]⟩, []⟩]) (.seq (.seq (.region [⟨0, ⟨(some 28), none, (.pure (.faddr 0)), [(.tmp 6)]⟩, []⟩, ⟨0, ⟨(some 29), none, (.load (.load 1 false)), [(.tmp 28)]⟩, []⟩, ⟨0, ⟨(some 30), none, (.pure (.un .not)), [(.tmp 29)]⟩, []⟩]) (.cond (.tmp 30) (.exit 1) .skip)) (.seq (.region [⟨0, ⟨(some 31), none, (.pure (.faddr 1)), [(.tmp 6)]⟩, []⟩, ⟨0, ⟨(some 32), none, (.load (.load 1 false)), [(.tmp 31)]⟩, []⟩, ⟨0, ⟨(some 33), none, (.pure .len), [(.tmp 32)]⟩, []⟩, ⟨0, ⟨(some 34), none, (.pure .id), [(.const (.int .i64 0))]⟩, []⟩]) (.block 2 (.loop (.seq (.region [⟨0, ⟨(some 35), none, (.pure (.bin .lss .none)), [(.tmp 34), (.tmp 33)]⟩, []⟩]) (.seq (.cond (.tmp 35) .skip (.exit 2)) (.seq (.block 3 (.seq (.region [⟨0, ⟨(some 36), none, (.pure (.iaddr 1)), [(.tmp 32), (.tmp 34)]⟩, []⟩, ⟨0, ⟨(some 37), none, (.load (.load 1 false)), [(.tmp 36)]⟩, []⟩, ⟨0, ⟨(some 8), none, (.pure .id), [(.tmp 37)]⟩, []⟩]) (.region [⟨0, ⟨(some 38), none, (.pure (.faddr 1)), [(.tmp 4)]⟩, []⟩, ⟨1, ⟨(some 39), none, (.load (.load 1 false)), [(.tmp 38)]⟩, []⟩, ⟨2, ⟨(some 40), none, (.pure .id), [(.tmp 8)]⟩, []⟩, ⟨3, ⟨(some 41), none, (.pure (.faddr 0)), [(.tmp 1)]⟩, []⟩, ⟨4, ⟨(some 42), none, (.load (.load 1 false)), [(.tmp 41)]⟩, []⟩, ⟨5, ⟨(some 43), none, (.pure .id), [(.tmp 5)]⟩, []⟩, ⟨6, ⟨(some 44), none, (.pure (.slice 2 false true false)), [(.tmp 42), (.tmp 43)]⟩, []⟩, ⟨7, ⟨(some 45), none, (.call F_prefix_before), [(.tmp 44), (.const (.bool false))]⟩, [⟨(some 39), none, (.load (.load 1 false)), [(.tmp 38)]⟩]⟩, ⟨8, ⟨(some 46), none, (.pure (.build [(.int .i64 0), .nils] [(0, 1), (1, 1)])), [(.tmp 40), (.tmp 45)]⟩, []⟩, ⟨9, ⟨(some 47), none, (.new (.bslice 2 [(.int .i64 0), .nils] 1 [(0, 2)])), [(.tmp 46)]⟩, []⟩, ⟨10, ⟨(some 48), none, (.imp (.append 2 32)), [(.tmp 39), (.tmp 47)]⟩, []⟩, ⟨11, ⟨(some 49), none, (.pure (.faddr 1)), [(.tmp 4)]⟩, []⟩, ⟨12, ⟨none, none, (.imp (.store 1)), [(.tmp 49), (.tmp 48)]⟩, []⟩]))) (.region [⟨0, ⟨(some 50), none, (.pure (.bin .add .none)), [(.tmp 34), (.const (.int .i64 1))]⟩, []⟩, ⟨0, ⟨(some 34), none, (.pure .id), [(.tmp 50)]⟩, []⟩])))))))))) (.region [⟨0, ⟨(some 51), none, (.pure (.bin .add .none)), [(.tmp 23), (.const (.int .i64 1))]⟩, []⟩, ⟨0, ⟨(some 23), none, (.pure .id), [(.tmp 51)]⟩, []⟩]))))))) (.seq (.region [⟨0, ⟨(some 52), none, (.pure (.faddr 1)), [(.tmp 4)]⟩, []⟩, ⟨0, ⟨(some 53), none, (.load (.load 1 false)), [(.tmp 52)]⟩, []⟩, ⟨0, ⟨(some 54), none, (.call F_slices_SortFunc_api_Dep_api_Dep), [(.tmp 53), (.const (.func F_prefix_Dqbf_1 [] []))]⟩, []⟩]) (.seq (.region [⟨0, ⟨(some 55), none, (.load (.load 3 true)), [(.tmp 4)]⟩, []⟩, ⟨0, ⟨none, none, (.imp (.store 3)), [(.tmp 2), (.tmp 55)]⟩, []⟩, ⟨0, ⟨(some 3), none, (.pure .id), [(.const (.int .i64 0))]⟩, []⟩]) .ret))))))⟩
theorem c_prefix_Dqbf : compF Tryz.prog Tryz.f19 = some G_prefix_Dqbf := by kernel_rfl
theorem gc_prefix_Dqbf {args : List DV} {σ : GS} {Post : DV → GS → Prop} (h : @exB Tryz.prog ⟨G_prefix_Dqbf.body⟩ (genv0 args G_prefix_Dqbf.ntmps) σ ⟨@gretB G_prefix_Dqbf.results ⟨Post⟩⟩) : GCall Tryz.prog F_prefix_Dqbf args σ Post := gcall_ofB seatfollows Tryz.func19 (by kernel_rfl) c_prefix_Dqbf h
noncomputable abbrev G_prefix_copied : GFun := ⟨23, [(.tmp 2)], (.seq (.region [⟨0, ⟨(some 2), none, (.pure .id), [(.const .nils)]⟩, []⟩]) (.seq (.region [⟨0, ⟨(some 6), none, (.pure .id), [(.tmp 0)]⟩, []⟩, ⟨0, ⟨(some 7), none, (.pure .len), [(.tmp 6)]⟩, []⟩, ⟨0, ⟨(some 8), none, (.new (.mslice 1 24 [.nils])), [(.tmp 7), (.tmp 7)]⟩, []⟩, ⟨0, ⟨(some 3), none, (.pure .id), [(.tmp 8)]⟩, []⟩]) (.seq (.seq (.region [⟨0, ⟨(some 9), none, (.pure .id), [(.tmp 0)]⟩, []⟩, ⟨0, ⟨(some 10), none, (.pure .len), [(.tmp 9)]⟩, []⟩, ⟨0, ⟨(some 11), none, (.pure .id), [(.const (.int .i64 0))]⟩, []⟩]) (.block 0 (.loop (.seq (.region [⟨0, ⟨(some 12), none, (.pure (.bin .lss .none)), [(.tmp 11), (.tmp 10)]⟩, []⟩]) (.seq (.cond (.tmp 12) .skip (.exit 0)) (.seq (.block 1 (.seq (.region [⟨0, ⟨(some 13), none, (.pure .id), [(.tmp 11)]⟩, []⟩, ⟨0, ⟨(some 14), none, (.pure (.iaddr 1)), [(.tmp 9), (.tmp 11)]⟩, []⟩, ⟨0, ⟨(some 15), none, (.load (.load 1 false)), [(.tmp 14)]⟩, []⟩, ⟨0, ⟨(some 4), none, (.pure .id), [(.tmp 13)]⟩, []⟩, ⟨0, ⟨(some 5), none, (.pure .id), [(.tmp 15)]⟩, []⟩]) (.region [⟨0, ⟨(some 16), none, (.pure .id), [(.tmp 3)]⟩, []⟩, ⟨0, ⟨(some 17), none, (.pure .id), [(.tmp 4)]⟩, []⟩, ⟨0, ⟨(some 18), none, (.pure .id), [(.tmp 5)]⟩, []⟩, ⟨0, ⟨(some 19), none, (.call F_slices_Clone_int_int), [(.tmp 18)]⟩, []⟩, ⟨0, ⟨(some 20), none, (.pure (.iaddr 1)), [(.tmp 16), (.tmp 17)]⟩, []⟩, ⟨0, ⟨none, none, (.imp (.store 1)), [(.tmp 20), (.tmp 19)]⟩, []⟩]))) (.region [⟨0, ⟨(some 21), none, (.pure (.bin .add .none)), [(.tmp 11), (.const (.int .i64 1))]⟩, []⟩, ⟨0, ⟨(some 11), none, (.pure .id), [(.tmp 21)]⟩, []⟩]))))))) (.seq (.region [⟨0, ⟨(some 22), none, (.pure .id), [(.tmp 3)]⟩, []⟩, ⟨0, ⟨(some 2), none, (.pure .id), [(.tmp 22)]⟩, []⟩]) .ret))))⟩
theorem c_prefix_copied : compF Tryz.prog Tryz.f59 = some G_prefix_copied := by kernel_rfl
theorem gc_prefix_copied {args : List DV} {σ : GS} {Post : DV → GS → Prop} (h : @exB Tryz.prog ⟨G_prefix_copied.body⟩ (genv0 args G_prefix_copied.ntmps) σ ⟨@gretB G_prefix_copied.results ⟨Post⟩⟩) : GCall Tryz.prog F_prefix_copied args σ Post := gcall_ofB seatfollows Tryz.func59 (by kernel_rfl) c_prefix_copied h
noncomputable abbrev G_skolemlaw03_PrefixChains : GFun := ⟨98, [(.tmp 2)], (.seq (.region [⟨0, ⟨(some 1), none, (.new .box), [(.tmp 0)]⟩, []⟩, ⟨0, ⟨(some 2), none, (.pure .id), [(.const (.bool false))]⟩, []⟩]) (.seq (.seq (.region [⟨0, ⟨(some 9), none, (.load (.load 3 true)), [(.tmp 1)]⟩, []⟩, ⟨0, ⟨(some 10), none, (.call F_skolemlaw03_broad), [(.tmp 9), (.const (.int .i64 600))]⟩, []⟩, ⟨0, ⟨(some 11), none, (.pure .id), [(.tmp 10)]⟩, []⟩, ⟨0, ⟨(some 12), (some (11, false)), (.load (.load 3 true)), [(.tmp 1)]⟩, []⟩, ⟨0, ⟨(some 13), (some (11, false)), (.call F_skolemref03_MayDqbf), [(.tmp 12)]⟩, []⟩, ⟨0, ⟨(some 14), (some (11, false)), (.pure (.un .not)), [(.tmp 13)]⟩, []⟩, ⟨0, ⟨(some 15), none, (.pure .pick), [(.tmp 11), (.const (.bool true)), (.tmp 14)]⟩, []⟩]) (.cond (.tmp 15) (.seq (.region [⟨0, ⟨(some 16), none, (.call F_skolemlaw03_head), []⟩, []⟩, ⟨0, ⟨(some 2), none, (.pure .id), [(.tmp 16)]⟩, []⟩]) .ret) .skip)) (.seq (.region [⟨0, ⟨(some 18), none, (.load (.load 3 true)), [(.tmp 1)]⟩, []⟩, ⟨0, ⟨(some 19), none, (.call F_prefix_Linear), [(.tmp 18)]⟩, []⟩, ⟨0, ⟨(some 17), none, (.pure .id), [(.tmp 19)]⟩, []⟩, ⟨0, ⟨(some 20), none, (.pure (.extract 0)), [(.tmp 17)]⟩, []⟩, ⟨0, ⟨(some 21), none, (.pure (.extract 1)), [(.tmp 17)]⟩, []⟩, ⟨0, ⟨(some 3), none, (.pure .id), [(.tmp 20)]⟩, []⟩, ⟨0, ⟨(some 4), none, (.pure .id), [(.tmp 21)]⟩, []⟩]) (.seq (.seq (.region [⟨0, ⟨(some 22), none, (.pure .id), [(.tmp 4)]⟩, []⟩, ⟨0, ⟨(some 23), none, (.pure (.bin .eql .none)), [(.tmp 22), (.const (.int .i64 0))]⟩, []⟩]) (.cond (.tmp 23) (.seq (.region [⟨0, ⟨(some 25), none, (.pure .id), [(.tmp 3)]⟩, []⟩, ⟨0, ⟨(some 26), none, (.pure (.faddr 2)), [(.tmp 1)]⟩, []⟩, ⟨0, ⟨(some 27), none, (.load (.load 1 false)), [(.tmp 26)]⟩, []⟩, ⟨0, ⟨(some 28), none, (.pure (.build [.nils, .nils] [(0, 1), (1, 1)])), [(.tmp 25), (.tmp 27)]⟩, []⟩, ⟨0, ⟨(some 29), none, (.call F_prefix_Dqbf), [(.tmp 28)]⟩, []⟩, ⟨0, ⟨(some 24), none, (.pure .id), [(.tmp 29)]⟩, []⟩, ⟨0, ⟨(some 30), none, (.pure (.extract 0)), [(.tmp 24)]⟩, []⟩, ⟨0, ⟨(some 31), none, (.pure (.extract 1)), [(.tmp 24)]⟩, []⟩, ⟨0, ⟨(some 5), none, (.new (.alloc [.nils, .nils, .nils])), []⟩, []⟩, ⟨0, ⟨none, none, (.imp (.store 3)), [(.tmp 5), (.tmp 30)]⟩, []⟩, ⟨0, ⟨(some 6), none, (.pure .id), [(.tmp 31)]⟩, []⟩]) (.seq (.region [⟨0, ⟨(some 32), none, (.pure .id), [(.tmp 6)]⟩, []⟩, ⟨0, ⟨(some 33), none, (.pure (.bin .eql .none)), [(.tmp 32), (.const (.int .i64 0))]⟩, []⟩, ⟨0, ⟨(some 34), none, (.pure .id), [(.tmp 33)]⟩, []⟩, ⟨0, ⟨(some 35), (some (34, true)), (.pure .id), [(.tmp 3)]⟩, []⟩, ⟨0, ⟨(some 36), (some (34, true)), (.call F_skolemref03_May), [(.tmp 35)]⟩, []⟩, ⟨0, ⟨(some 37), none, (.pure .pick), [(.tmp 34), (.tmp 36), (.const (.bool false))]⟩, []⟩, ⟨0, ⟨(some 38), none, (.pure .id), [(.tmp 37)]⟩, []⟩, ⟨0, ⟨(some 39), (some (38, true)), (.load (.load 3 true)), [(.tmp 5)]⟩, []⟩, ⟨0, ⟨(some 40), (some (38, true)), (.load (.load 3 true)), [(.tmp 1)]⟩, []⟩, ⟨0, ⟨(some 41), (some (38, true)), (.call F_skolemref03_SameDqbf), [(.tmp 39), (.tmp 40)]⟩, []⟩, ⟨0, ⟨(some 42), none, (.pure .pick), [(.tmp 38), (.tmp 41), (.const (.bool false))]⟩, []⟩, ⟨0, ⟨(some 43), none, (.pure .id), [(.tmp 42)]⟩, []⟩, ⟨0, ⟨(some 44), (some (43, true)), (.call F_skolemlaw03_head), []⟩, []⟩, ⟨0, ⟨(some 45), none, (.pure .pick), [(.tmp 43), (.tmp 44), (.const (.bool false))]⟩, []⟩, ⟨0, ⟨(some 2), none, (.pure .id), [(.tmp 45)]⟩, []⟩]) .ret)) .skip)) (.seq (.seq (.region [⟨0, ⟨(some 7), none, (.pure .id), [(.const (.int .i64 0))]⟩, []⟩]) (.block 0 (.loop (.seq (.seq (.region [⟨0, ⟨(some 46), none, (.pure .id), [(.tmp 7)]⟩, []⟩, ⟨0, ⟨(some 47), none, (.pure (.faddr 1)), [(.tmp 1)]⟩, []⟩, ⟨0, ⟨(some 48), none, (.load (.load 1 false)), [(.tmp 47)]⟩, []⟩, ⟨0, ⟨(some 49), none, (.pure .len), [(.tmp 48)]⟩, []⟩, ⟨0, ⟨(some 50), none, (.pure (.bin .lss .none)), [(.tmp 46), (.tmp 49)]⟩, []⟩]) (.cond (.tmp 50) .skip (.exit 0))) (.seq (.block 1 (.seq (.region [⟨0, ⟨(some 8), none, (.pure .id), [(.const (.int .i64 0))]⟩, []⟩]) (.block 2 (.loop (.seq (.seq (.region [⟨0, ⟨(some 53), none, (.pure .id), [(.tmp 8)]⟩, []⟩, ⟨0, ⟨(some 54), none, (.pure .id), [(.tmp 7)]⟩, []⟩, ⟨0, ⟨(some 55), none, (.pure (.bin .lss .none)), [(.tmp 53), (.tmp 54)]⟩, []⟩]) (.cond (.tmp 55) .skip (.exit 2))) (.seq (.block 3 (.seq (.region [⟨0, ⟨(some 58), none, (.pure (.faddr 1)), [(.tmp 1)]⟩, []⟩, ⟨1, ⟨(some 59), none, (.load (.load 1 false)), [(.tmp 58)]⟩, []⟩, ⟨2, ⟨(some 60), none, (.pure .id), [(.tmp 7)]⟩, []⟩, ⟨3, ⟨(some 61), none, (.pure (.iaddr 2)), [(.tmp 59), (.tmp 60)]⟩, []⟩, ⟨4, ⟨(some 62), none, (.pure (.faddr 1)), [(.tmp 61)]⟩, []⟩, ⟨5, ⟨(some 63), none, (.load (.load 1 false)), [(.tmp 62)]⟩, []⟩, ⟨6, ⟨(some 64), none, (.pure (.faddr 1)), [(.tmp 1)]⟩, []⟩, ⟨7, ⟨(some 65), none, (.load (.load 1 false)), [(.tmp 64)]⟩, []⟩, ⟨8, ⟨(some 66), none, (.pure .id), [(.tmp 8)]⟩, []⟩, ⟨9, ⟨(some 67), none, (.pure (.iaddr 2)), [(.tmp 65), (.tmp 66)]⟩, []⟩, ⟨10, ⟨(some 68), none, (.pure (.faddr 1)), [(.tmp 67)]⟩, []⟩, ⟨11, ⟨(some 69), none, (.load (.load 1 false)), [(.tmp 68)]⟩, []⟩, ⟨12, ⟨(some 70), none, (.call F_skolemref03_Part), [(.tmp 63), (.tmp 69)]⟩, []⟩, ⟨13, ⟨(some 71), none, (.pure (.un .not)), [(.tmp 70)]⟩, []⟩, ⟨14, ⟨(some 72), none, (.pure .id), [(.tmp 71)]⟩, []⟩, ⟨15, ⟨(some 73), (some (72, true)), (.pure (.faddr 1)), [(.tmp 1)]⟩, []⟩, ⟨16, ⟨(some 74), (some (72, true)), (.load (.load 1 false)), [(.tmp 73)]⟩, []⟩, ⟨17, ⟨(some 75), (some (72, true)), (.pure .id), [(.tmp 8)]⟩, []⟩, ⟨18, ⟨(some 76), (some (72, true)), (.pure (.iaddr 2)), [(.tmp 74), (.tmp 75)]⟩, []⟩, ⟨19, ⟨(some 77), (some (72, true)), (.pure (.faddr 1)), [(.tmp 76)]⟩, []⟩, ⟨20, ⟨(some 78), (some (72, true)), (.load (.load 1 false)), [(.tmp 77)]⟩, []⟩, ⟨21, ⟨(some 79), (some (72, true)), (.pure (.faddr 1)), [(.tmp 1)]⟩, []⟩, ⟨22, ⟨(some 80), (some (72, true)), (.load (.load 1 false)), [(.tmp 79)]⟩, []⟩, ⟨23, ⟨(some 81), (some (72, true)), (.pure .id), [(.tmp 7)]⟩, []⟩, ⟨24, ⟨(some 82), (some (72, true)), (.pure (.iaddr 2)), [(.tmp 80), (.tmp 81)]⟩, []⟩, ⟨25, ⟨(some 83), (some (72, true)), (.pure (.faddr 1)), [(.tmp 82)]⟩, []⟩, ⟨26, ⟨(some 84), (some (72, true)), (.load (.load 1 false)), [(.tmp 83)]⟩, []⟩, ⟨27, ⟨(some 85), (some (72, true)), (.call F_skolemref03_Part), [(.tmp 78), (.tmp 84)]⟩, []⟩, ⟨28, ⟨(some 86), (some (72, true)), (.pure (.un .not)), [(.tmp 85)]⟩, []⟩, ⟨29, ⟨(some 87), none, (.pure .pick), [(.tmp 72), (.tmp 86), (.const (.bool false))]⟩, []⟩]) (.cond (.tmp 87) (.seq (.region [⟨0, ⟨(some 88), none, (.pure .id), [(.tmp 4)]⟩, []⟩, ⟨0, ⟨(some 89), none, (.pure (.bin .eql .none)), [(.tmp 88), (.const (.int .i64 30))]⟩, []⟩, ⟨0, ⟨(some 90), none, (.pure .id), [(.tmp 89)]⟩, []⟩, ⟨0, ⟨(some 91), (some (90, true)), (.pure .id), [(.tmp 3)]⟩, []⟩, ⟨0, ⟨(some 92), (some (90, true)), (.pure .len), [(.tmp 91)]⟩, []⟩, ⟨0, ⟨(some 93), (some (90, true)), (.pure (.bin .eql .none)), [(.tmp 92), (.const (.int .i64 0))]⟩, []⟩, ⟨0, ⟨(some 94), none, (.pure .pick), [(.tmp 90), (.tmp 93), (.const (.bool false))]⟩, []⟩, ⟨0, ⟨(some 95), none, (.pure .id), [(.tmp 94)]⟩, []⟩, ⟨0, ⟨(some 96), (some (95, true)), (.call F_skolemlaw03_head), []⟩, []⟩, ⟨0, ⟨(some 97), none, (.pure .pick), [(.tmp 95), (.tmp 96), (.const (.bool false))]⟩, []⟩, ⟨0, ⟨(some 2), none, (.pure .id), [(.tmp 97)]⟩, []⟩]) .ret) .skip))) (.region [⟨0, ⟨(some 56), none, (.pure .id), [(.tmp 8)]⟩, []⟩, ⟨0, ⟨(some 57), none, (.pure (.bin .add .none)), [(.tmp 56), (.const (.int .i64 1))]⟩, []⟩, ⟨0, ⟨(some 8), none, (.pure .id), [(.tmp 57)]⟩, []⟩]))))))) (.region [⟨0, ⟨(some 51), none, (.pure .id), [(.tmp 7)]⟩, []⟩, ⟨0, ⟨(some 52), none, (.pure (.bin .add .none)), [(.tmp 51), (.const (.int .i64 1))]⟩, []⟩, ⟨0, ⟨(some 7), none, (.pure .id), [(.tmp 52)]⟩, []⟩])))))) (.seq (.region [⟨0, ⟨(some 2), none, (.pure .id), [(.const (.bool false))]⟩, []⟩]) .ret))))))⟩
theorem c_skolemlaw03_PrefixChains : compF Tryz.prog Tryz.f5 = some G_skolemlaw03_PrefixChains := by kernel_rfl
theorem gc_skolemlaw03_PrefixChains {args : List DV} {σ : GS} {Post : DV → GS → Prop} (h : @exB Tryz.prog ⟨G_skolemlaw03_PrefixChains.body⟩ (genv0 args G_skolemlaw03_PrefixChains.ntmps) σ ⟨@gretB G_skolemlaw03_PrefixChains.results ⟨Post⟩⟩) : GCall Tryz.prog F_skolemlaw03_PrefixChains args σ Post := gcall_ofB seatfollows Tryz.func5 (by kernel_rfl) c_skolemlaw03_PrefixChains h
end Go.Gh
namespace Go.Gh
open Go.RowKit Go.Proofs
set_option linter.unusedVariables false
set_option linter.unusedSimpArgs false
set_option maxRecDepth 100000
theorem r_Ints_ok {xs ys : List Int} {σ : GS} {Post : DV → GS → Prop} (hl : xs.length < 2 ^ 60) (h : Post (.bool (decide (xs = ys))) σ) : GCall Tryz.prog F_skolemref03_Ints [fints xs, fints ys] σ Post := by
  refine gc_skolemref03_Ints ?_
  by_cases hlen : xs.length = ys.length
  rotate_left
  · have hne : xs ≠ ys := fun e => hlen (by rw [e])
    have hlen' : ¬ ((xs.length : Int) = ys.length) := by omega
    simp [G_skolemref03_Ints, genv0, List.replicate, hlen']
    simpa [hne] using h
  simp [G_skolemref03_Ints, genv0, List.replicate, hlen]
  refine gfor xs.length (fun i e σ' => σ' = σ ∧ (xs = ys ↔ xs.drop i = ys.drop i) ∧ e = mkEnv 26 [(0, fints xs), (1, fints ys), (5, .int .i64 i)]) _ ?_ ⟨rfl, by simp, rfl⟩ ?_
  · simp [mkEnv, List.replicate]
  rintro i _ _ hi ⟨rfl, hI, rfl⟩
  simp [mkEnv, List.replicate]
  by_cases hlt : i < xs.length
  · obtain ⟨x, hx⟩ := nth_lt hlt
    obtain ⟨y, hy⟩ := nth_lt (l := ys) (i := i) (by omega)
    rw [drop_get hx, drop_get hy, List.cons.injEq] at hI
    have es : IntKind.i64.wrap ((i : Int) + 1) = (i : Int) + 1 := by rw [wrap_small] <;> omega
    by_cases c : x = y
    · simp [hlt, hx, hy, c, es]
      exact forK_go _ hlt (by simp [mkEnv, List.replicate]) ⟨rfl, by rw [hI]; simp [c], rfl⟩
    · have hne : xs ≠ ys := fun e => c (hI.1 e).1
      simp [hlt, hx, hy, c]
      simpa [hne] using h
  · have : i = xs.length := by omega
    subst this
    have he : xs = ys := hI.2 (by rw [List.drop_length, hlen, List.drop_length])
    simp
    simpa [he] using h
theorem r_Lists_ok {xs ys : List (List Int)} {σ : GS} {Post : DV → GS → Prop} (hl : ClsSm xs) (h : Post (.bool (decide (xs = ys))) σ) : GCall Tryz.prog F_skolemref03_Lists [fcls xs, fcls ys] σ Post := by
  obtain ⟨hl1, hl2⟩ := hl
  refine gc_skolemref03_Lists ?_
  by_cases hlen : xs.length = ys.length
  rotate_left
  · have hne : xs ≠ ys := fun e => hlen (by rw [e])
    have hlen' : ¬ ((xs.length : Int) = ys.length) := by omega
    simp [G_skolemref03_Lists, genv0, List.replicate, hlen']
    simpa [hne] using h
  simp [G_skolemref03_Lists, genv0, List.replicate, hlen]
  refine gfor xs.length (fun i e σ' => σ' = σ ∧ (xs = ys ↔ xs.drop i = ys.drop i) ∧ e = mkEnv 27 [(0, fcls xs), (1, fcls ys), (5, .int .i64 i)]) _ ?_ ⟨rfl, by simp, rfl⟩ ?_
  · simp [mkEnv, List.replicate]
  rintro i _ _ hi ⟨rfl, hI, rfl⟩
  simp [mkEnv, List.replicate]
  by_cases hlt : i < xs.length
  · obtain ⟨x, hx⟩ := nth_lt hlt
    obtain ⟨y, hy⟩ := nth_lt (l := ys) (i := i) (by omega)
    have hx' := nth_get hx
    have hxl := hl2 x (List.mem_of_getElem? hx')
    rw [drop_get hx, drop_get hy, List.cons.injEq] at hI
    have es : IntKind.i64.wrap ((i : Int) + 1) = (i : Int) + 1 := by rw [wrap_small] <;> omega
    simp [hlt, hx, hy]
    refine r_Ints_ok (by omega) ?_
    by_cases c : x = y
    · simp [c, es]
      exact forK_go _ hlt (by simp [mkEnv, List.replicate]) ⟨rfl, by rw [hI]; simp [c], rfl⟩
    · have hne : xs ≠ ys := fun e => c (hI.1 e).1
      simp [c]
      simpa [hne] using h
  · have : i = xs.length := by omega
    subst this
    have he : xs = ys := hI.2 (by rw [List.drop_length, hlen, List.drop_length])
    simp
    simpa [he] using h
end Go.Gh
namespace Go.Gh
open Go.RowKit Go.Proofs
set_option linter.unusedVariables false
set_option linter.unusedSimpArgs false
set_option maxRecDepth 100000
/-- Two Dqbfs are equal by every field. -/
def sameD (a b : DqbfP) : Bool := decide (a.univ = b.univ ∧ a.exist = b.exist ∧ a.cls = b.cls)
theorem r_SameDqbf_ok {a b : DqbfP} {σ : GS} {Post : DV → GS → Prop} (ha : a.Sm) (h : Post (.bool (sameD a b)) σ) : GCall Tryz.prog F_skolemref03_SameDqbf [a.enc, b.enc] σ Post := by
  have h1 := ha.univ
  have h2 := ha.exist.1
  have h3 := ha.exist.2
  refine GCall.say (r := .bool (sameD a b)) ?_ rfl h
  refine gc_skolemref03_SameDqbf ?_
  simp [G_skolemref03_SameDqbf, genv0, List.replicate]
  refine r_Ints_ok (by omega) ?_
  by_cases c2 : a.univ = b.univ
  rotate_left
  · simp [c2, sameD]
  by_cases hlen : a.exist.length = b.exist.length
  rotate_left
  · have hne : a.exist ≠ b.exist := fun e => hlen (by rw [e])
    have hlen' : ¬ ((a.exist.length : Int) = b.exist.length) := by omega
    simp [c2, hlen', hne, sameD]
  simp [c2, hlen]
  refine r_Lists_ok ha.cls ?_
  by_cases c3 : a.cls = b.cls
  rotate_left
  · simp [c3, sameD]
  simp [c3]
  obtain ⟨A, hA⟩ : ∃ A, GObj.row false (edqbf a) = A := ⟨_, rfl⟩
  obtain ⟨B, hB⟩ : ∃ B, GObj.row false (edqbf b) = B := ⟨_, rfl⟩
  rw [hA, hB]
  refine gfor a.exist.length (fun i e σ' => σ' = σ ++ [A, B] ∧ (a.exist = b.exist ↔ a.exist.drop i = b.exist.drop i) ∧ e = mkEnv 65 [(2, .ptr σ.length 0), (3, .ptr (σ.length + 1) 0), (5, .int .i64 i)]) _ ?_ ⟨rfl, by simp, rfl⟩ ?_
  · simp [mkEnv, List.replicate]
  rintro i _ _ hi ⟨rfl, hI, rfl⟩
  simp [mkEnv, List.replicate, ← hA, ← hB]
  by_cases hlt : i < a.exist.length
  · obtain ⟨x, hx⟩ := nth_lt hlt
    obtain ⟨y, hy⟩ := nth_lt (l := b.exist) (i := i) (by omega)
    have hx' := nth_get hx
    have hxl := h3 x (List.mem_of_getElem? hx')
    rw [drop_get hx, drop_get hy, List.cons.injEq] at hI
    have es : IntKind.i64.wrap ((i : Int) + 1) = (i : Int) + 1 := by rw [wrap_small] <;> omega
    obtain ⟨x1, x2⟩ := x
    obtain ⟨y1, y2⟩ := y
    by_cases e1 : x1 = y1
    · simp [hlt, hx, hy, e1]
      refine r_Ints_ok (by simp at hxl; omega) ?_
      by_cases c : x2 = y2
      · simp [c, es]
        exact forK_go _ hlt (by simp [mkEnv, List.replicate]) ⟨by rw [hA, hB], by rw [hI]; simp [c, e1], rfl⟩
      · have hne : a.exist ≠ b.exist := fun e => by have := (hI.1 e).1; simp [c] at this
        simp [c, hne, sameD]
    · have hne : a.exist ≠ b.exist := fun e => by have := (hI.1 e).1; simp [e1] at this
      simp [hlt, hx, hy, e1, hne, sameD]
  · have : i = a.exist.length := by omega
    subst this
    have he : a.exist = b.exist := hI.2 (by rw [List.drop_length, hlen, List.drop_length])
    simp [he, sameD, c2, c3]
/-- Whatever it says of the size. -/
theorem l_wide_any {p : List Blk} {c : List (List Int)} {most : Int} {σ : GS} {Post : DV → GS → Prop} (hp : p.length < 2 ^ 60) (hc : c.length < 2 ^ 60) (h : ∀ b, Post (.bool b) σ) : GCall Tryz.prog F_skolemlaw03_wide [fblks p, fcls c, .int .i64 most] σ Post := by
  refine gc_skolemlaw03_wide ?_
  simp [G_skolemlaw03_wide, genv0, List.replicate]
  refine gfor p.length (fun i e σ' => σ' = σ ∧ ∃ n, e = mkEnv 45 [(0, fblks p), (1, fcls c), (2, .int .i64 most), (7, .int .i64 n), (8, .int .i64 i)]) _ ?_ ⟨rfl, IntKind.i64.wrap ((p.length : Int) + c.length), rfl⟩ ?_
  · simp [mkEnv, List.replicate]
  rintro i _ σ hi ⟨rfl, n, rfl⟩
  simp [mkEnv, List.replicate]
  by_cases hlt : i < p.length
  · obtain ⟨x, hx⟩ := nth_lt hlt
    have es : IntKind.i64.wrap ((i : Int) + 1) = (i : Int) + 1 := by rw [wrap_small] <;> omega
    simp [hlt, hx, es]
    exact forK_go _ hlt (by simp [mkEnv, List.replicate]) ⟨rfl, IntKind.i64.wrap (n + x.2.length), rfl⟩
  have : i = p.length := by omega
  subst this
  simp
  refine gfor c.length (fun i e σ' => σ' = σ ∧ ∃ n, e = mkEnv 45 [(1, fcls c), (2, .int .i64 most), (7, .int .i64 n), (9, .int .i64 i)]) _ ?_ ⟨rfl, n, rfl⟩ ?_
  · simp [mkEnv, List.replicate]
  rintro i _ _ hi ⟨rfl, n, rfl⟩
  simp [mkEnv, List.replicate]
  by_cases hlt : i < c.length
  · obtain ⟨x, hx⟩ := nth_lt hlt
    have es : IntKind.i64.wrap ((i : Int) + 1) = (i : Int) + 1 := by rw [wrap_small] <;> omega
    simp [hlt, hx, es]
    exact forK_go _ hlt (by simp [mkEnv, List.replicate]) ⟨rfl, IntKind.i64.wrap (n + x.length), rfl⟩
  have : i = c.length := by omega
  subst this
  simp
  exact h _
theorem l_wide_nil {c : List (List Int)} {most : Int} {σ : GS} {Post : DV → GS → Prop} (hc : c.length < 2 ^ 60) (h : ∀ b, Post (.bool b) σ) : GCall Tryz.prog F_skolemlaw03_wide [.nils, fcls c, .int .i64 most] σ Post := by
  refine GCall.reads (args' := [fblks [], fcls c, .int .i64 most]) (.cons (.nils 2) (.cons (.same _) (.cons (.same _) .nil))) (l_wide_any (by simp) hc h)
theorem l_broad_any {d : DqbfP} {most : Int} {σ : GS} {Post : DV → GS → Prop} (hd : d.Sm) (h : ∀ b, Post (.bool b) σ) : GCall Tryz.prog F_skolemlaw03_broad [d.enc, .int .i64 most] σ Post := by
  have h1 := hd.exist.1
  have h2 := hd.cls.1
  refine gcall_sayB ?_ h
  refine gc_skolemlaw03_broad ?_
  simp [G_skolemlaw03_broad, genv0, List.replicate]
  obtain ⟨A, hA⟩ : ∃ A, GObj.row false [fints d.univ, fdeps d.exist, fcls d.cls] = A := ⟨_, rfl⟩
  rw [hA]
  refine gfor d.exist.length (fun i e σ' => σ' = σ ++ [A] ∧ ∃ n, e = mkEnv 39 [(1, .int .i64 most), (2, .ptr σ.length 0), (5, .int .i64 n), (6, .int .i64 i)]) _ ?_ ⟨rfl, IntKind.i64.wrap ((d.univ.length : Int) + d.exist.length), rfl⟩ ?_
  · simp [mkEnv, List.replicate]
  rintro i _ _ hi ⟨rfl, n, rfl⟩
  simp [mkEnv, List.replicate, ← hA]
  by_cases hlt : i < d.exist.length
  · obtain ⟨x, hx⟩ := nth_lt hlt
    have es : IntKind.i64.wrap ((i : Int) + 1) = (i : Int) + 1 := by rw [wrap_small] <;> omega
    simp [hlt, hx, es]
    exact forK_go _ hlt (by simp [mkEnv, List.replicate]) ⟨by rw [hA], IntKind.i64.wrap (n + x.2.length), rfl⟩
  have : i = d.exist.length := by omega
  subst this
  by_cases c : most < n
  · simp [c]
  · simp [c]
    refine l_wide_nil (by omega) fun b => ?_
    simp
end Go.Gh
namespace Go.Gh
open Go.RowKit Go.Proofs
set_option linter.unusedVariables false
set_option linter.unusedSimpArgs false
set_option maxRecDepth 100000
theorem r_Has_ok {a : List Int} {x : Int} {σ : GS} {Post : DV → GS → Prop} (hl : a.length < 2 ^ 60) (h : Post (.bool (a.contains x)) σ) : GCall Tryz.prog F_skolemref03_Has [fints a, .int .i64 x] σ Post := by
  refine gc_skolemref03_Has ?_
  simp [G_skolemref03_Has, genv0, List.replicate]
  refine gfor a.length (fun i e σ' => σ' = σ ∧ a.contains x = (a.drop i).contains x ∧ e = mkEnv 18 [(0, fints a), (1, .int .i64 x), (5, .int .i64 i)]) _ ?_ ⟨rfl, by simp, rfl⟩ ?_
  · simp [mkEnv, List.replicate]
  rintro i _ _ hi ⟨rfl, hI, rfl⟩
  simp [mkEnv, List.replicate]
  by_cases hlt : i < a.length
  · obtain ⟨y, hy⟩ := nth_lt hlt
    rw [drop_get hy, List.contains_cons] at hI
    have es : IntKind.i64.wrap ((i : Int) + 1) = (i : Int) + 1 := by rw [wrap_small] <;> omega
    by_cases c : y = x
    · have c' : (x == y) = true := by simp [c]
      simp [hlt, hy, c]
      rw [hI, c'] at h; simpa using h
    · have c' : (x == y) = false := by simpa using fun e => c e.symm
      simp [hlt, hy, c, es]
      exact forK_go _ hlt (by simp [mkEnv, List.replicate]) ⟨rfl, by rw [hI, c']; simp, rfl⟩
  · have : i = a.length := by omega
    subst this
    simp
    rw [hI] at h; simpa using h
theorem r_single_ok {l : List Int} {σ : GS} {Post : DV → GS → Prop} (hl : l.length < 2 ^ 60) (h : Post (.bool (singleS [] l)) σ) : GCall Tryz.prog F_skolemref03_single [fints l] σ Post := by
  refine gc_skolemref03_single ?_
  simp [G_skolemref03_single, genv0, List.replicate]
  refine gfor l.length (fun i e σ' => σ' = σ ∧ singleS [] l = singleS (l.take i) (l.drop i) ∧ e = mkEnv 32 [(0, fints l), (3, .int .i64 i)]) _ ?_ ⟨rfl, by simp, rfl⟩ ?_
  · simp [mkEnv, List.replicate]
  rintro i _ _ hi ⟨rfl, hI, rfl⟩
  simp [mkEnv, List.replicate]
  by_cases hlt : i < l.length
  · obtain ⟨y, hy⟩ := nth_lt hlt
    have hy' := nth_get hy
    rw [drop_get hy', singleS] at hI
    have es : IntKind.i64.wrap ((i : Int) + 1) = (i : Int) + 1 := by rw [wrap_small] <;> omega
    have hsl : gpure (.slice 1 false true false) [fints l, .int .i64 i] = some (fints (l.take i)) := by
      simp only [gpure, gslice, if_true, gbm, Option.bind_some, gbh, gbl, gbound, List.length_map]
      rw [if_pos (by omega)]
      simp [List.map_take]
    by_cases h1 : 1 ≤ y
    rotate_left
    · have h1' : y < 1 := by omega
      simp [hlt, hy, h1']
      rw [hI] at h; simpa [isVar, h1] using h
    have h1' : ¬ y < 1 := by omega
    by_cases h2 : y ≤ 65536
    rotate_left
    · have h2' : 65536 < y := by omega
      simp [hlt, hy, h1', h2']
      rw [hI] at h; simpa [isVar, h1, h2] using h
    have h2' : ¬ 65536 < y := by omega
    simp [hlt, hy, h1', h2', hsl]
    refine r_Has_ok (by simp; omega) ?_
    by_cases c : (l.take i).contains y = true
    · rw [c]
      simp
      rw [hI, c] at h; simpa using h
    · have c' : (l.take i).contains y = false := by simpa using c
      rw [c']
      simp [es]
      exact forK_go _ hlt (by simp [mkEnv, List.replicate]) ⟨rfl, by rw [hI, c', take_get hy']; simp [isVar, h1, h2], rfl⟩
  · have : i = l.length := by omega
    subst this
    simp
    rw [hI] at h; simpa [singleS] using h
theorem r_Flat_ok {p : List Blk} {σ : GS} {Post : DV → GS → Prop} (hp : lensB p < 2 ^ 40) (h : Post (fints (flatB p)) σ) : GCall Tryz.prog F_skolemref03_Flat [fblks p] σ Post := by
  have hlb := lensB_flat p
  refine GCall.pure (r := fints (flatB p)) ?_ (by simp) h
  refine gc_skolemref03_Flat ?_
  simp [G_skolemref03_Flat, genv0, List.replicate]
  refine gfor p.length (fun i e σ' => Fr σ.length σ σ' ∧ ∃ s, Own σ.length 1 eint σ' s (flatB (p.take i)) ∧ e = mkEnv 19 [(0, fblks p), (3, s), (4, .int .i64 i)]) _ ?_ ⟨.rfl', .nils, by simpa using Own.nil, rfl⟩ ?_
  · simp [mkEnv, List.replicate]
  rintro i _ σ' hi ⟨hF, s, hO, rfl⟩
  simp [mkEnv, List.replicate]
  by_cases hlt : i < p.length
  · obtain ⟨b, hb⟩ := nth_lt hlt
    have hb' := nth_get hb
    have es : IntKind.i64.wrap ((i : Int) + 1) = (i : Int) + 1 := by rw [wrap_small] <;> omega
    have htk : flatB (p.take (i + 1)) = flatB (p.take i) ++ b.2 := by rw [take_get hb', flatB_append]; simp
    have hle : (flatB (p.take i)).length + b.2.length ≤ (flatB p).length := by
      have : flatB p = flatB (p.take (i + 1)) ++ flatB (p.drop (i + 1)) := by rw [← flatB_append, List.take_append_drop]
      rw [this, htk]; simp
    have hge := hF.len
    obtain ⟨s', σ2, q1, q2, q3, q4, q5, q6, q7⟩ := hO.append (by_ := 8) (x := fints b.2) (ys := b.2) (fun _ => rfl) (by simpa [flatMap_flatten] using gread_fsl (σ := σ') (sz := 1) (es := b.2.map eint)) (by simp [glen]) (by simp) hge (by omega) (by decide)
    simp [hlt, hb, q1, es]
    exact forK_go _ hlt (by simp [mkEnv, List.replicate]) ⟨hF.trans q3, s', by rw [htk]; exact q2, rfl⟩
  · have : i = p.length := by omega
    subst this
    rw [List.take_length] at hO
    simp
    exact ⟨hF, hO.rd (fun _ => rfl) fun i hi => .inl hi⟩
theorem altB_step {prev : Option Bool} {b : Blk} {p : List Blk} : altB prev (b :: p) = (!b.2.isEmpty && decide (prev ≠ some b.1) && altB (some b.1) p) := rfl
/-- The quantifier of the block before. -/
def prevB (p : List Blk) : Nat → Option Bool
  | 0 => none
  | i + 1 => (p[i]?).map (·.1)
theorem r_May_ok {p : List Blk} {σ : GS} {Post : DV → GS → Prop} (hp : lensB p < 2 ^ 40) (h : Post (.bool (mayB p)) σ) : GCall Tryz.prog F_skolemref03_May [fblks p] σ Post := by
  have hlb := lensB_flat p
  refine GCall.say (r := .bool (mayB p)) ?_ rfl h
  refine gc_skolemref03_May ?_
  simp [G_skolemref03_May, genv0, List.replicate]
  refine gfor p.length (fun i e σ' => σ' = σ ∧ altB none p = altB (prevB p i) (p.drop i) ∧ e = mkEnv 45 [(0, fblks p), (3, .int .i64 i)]) _ ?_ ⟨rfl, by simp [prevB], rfl⟩ ?_
  · simp [mkEnv, List.replicate]
  rintro i _ _ hi ⟨rfl, hI, rfl⟩
  simp [mkEnv, List.replicate]
  by_cases hlt : i < p.length
  · obtain ⟨b, hb⟩ := nth_lt hlt
    have hb' := nth_get hb
    rw [drop_get hb', altB_step] at hI
    have es : IntKind.i64.wrap ((i : Int) + 1) = (i : Int) + 1 := by rw [wrap_small] <;> omega
    by_cases h0 : b.2.length = 0
    · have h0' : b.2 = [] := List.length_eq_zero_iff.1 h0
      simp [hlt, hb, h0']
      simp [mayB, hI, h0']
      exact .rfl'
    have h0' : ¬ (b.2 = []) := fun e => h0 (by rw [e]; rfl)
    have h0'' : ¬ ((b.2.length : Int) = 0) := by omega
    cases i with
    | zero =>
      simp [hlt, hb, h0', h0'']
      exact forK_go _ hlt (by simp [mkEnv, List.replicate]) ⟨rfl, by simp [hI, prevB, hb', h0'], rfl⟩
    | succ i =>
      obtain ⟨c, hc⟩ := nth_lt (l := p) (i := i) (by omega)
      have hc' := nth_get hc
      have ew' : IntKind.i64.wrap (i : Int) = i := by rw [wrap_small] <;> omega
      have hge : (0 : Int) ≤ (i : Int) + 1 := by omega
      have hgt : (0 : Int) < (i : Int) + 1 := by omega
      have htn : ((i : Int) + 1).toNat = i + 1 := by omega
      have es2 : IntKind.i64.wrap ((i : Int) + 1 + 1) = (i : Int) + 1 + 1 := by rw [wrap_small] <;> omega
      by_cases he : c.1 = b.1
      · simp [hlt, hb, h0', h0'', hge, hgt, htn, ew', hc, he]
        simp [mayB, hI, prevB, hc', he]
        exact .rfl'
      · have he2 : (c.1 == b.1) = false := by simpa using he
        simp [hlt, hb, h0', h0'', hge, hgt, htn, ew', hc, he2, es2]
        exact forK_go _ hlt (by simp [mkEnv, List.replicate]) ⟨rfl, by simp [hI, prevB, hc', he, h0', hb'], rfl⟩
  · have : i = p.length := by omega
    subst this
    rw [List.drop_length] at hI
    have hI' : altB none p = true := hI
    simp
    refine r_Flat_ok hp ?_
    by_cases c : (flatB p).length ≤ 1024
    · have c' : ((flatB p).length : Int) ≤ 1024 := by omega
      simp [c']
      refine r_single_ok (by omega) ?_
      simp [mayB, hI', c]
      exact .rfl'
    · have c' : ¬ ((flatB p).length : Int) ≤ 1024 := by omega
      simp [c']
      simp [mayB, c]
      exact .rfl'
end Go.Gh
namespace Go.Gh
open Go.RowKit Go.Proofs
set_option linter.unusedVariables false
set_option linter.unusedSimpArgs false
set_option maxRecDepth 100000
theorem p_each_ok {p : List Blk} {σ : GS} {Post : DV → GS → Prop} (k : Post (.func F_prefix_each_1 [] [.fptr [fblks p]]) σ) : GCall Tryz.prog F_prefix_each [fblks p] σ Post := by
  refine GCall.pure (r := .func F_prefix_each_1 [] [.fptr [fblks p]]) ?_ (by have := closed_fblks p; simp [DV.closed, closeds] at this ⊢; exact this) k
  refine gc_prefix_each ?_
  simp [G_prefix_each, genv0, List.replicate]
  exact .func .nil (.cons (.ptr (id := σ.length) (off := 0) (ro := false) (cs := [fblks p]) (.inl (Nat.le_refl _)) (by simp) (.cons (.same _) .nil)) .nil)
theorem p_each1_ok {p : List Blk} {L : Nat} {σ : GS} {Post : DV → GS → Prop} (hp : lensB p < 2 ^ 40) (I : Nat → GS → Prop) (J : GS → Prop) (hI : ∀ n σ' o, I n σ' → I n (σ' ++ [o])) (h0 : I 0 σ)
    (hr : ∀ n i v σ', (prs 0 p)[n]? = some (i, v) → I n σ' → GRound Tryz.prog L [.int .i64 (i : Nat), .int .i64 v] σ' fun r σ'' => (r = .bool true ∧ I (n + 1) σ'') ∨ (r = .bool false ∧ J σ''))
    (k : ∀ σ', I (flatB p).length σ' → Post (.tuple []) σ') (kj : ∀ σ', J σ' → Post (.tuple []) σ') : GCall Tryz.prog F_prefix_each_1 [.yield L, .fptr [fblks p]] σ Post := by
  have hlb := lensB_flat p
  refine gc_prefix_each_1 ?_
  simp [G_prefix_each_1, genv0, List.replicate]
  refine gfor p.length (fun i e σ' => I (flatB (p.take i)).length σ' ∧ e = mkEnv 28 [(0, .yield L), (7, fblks p), (8, .int .i64 p.length), (9, .int .i64 i)]) _ ?_ ⟨by simpa using h0, rfl⟩ ?_
  · simp [mkEnv, List.replicate]
  rintro i _ σ1 hi ⟨hI1, rfl⟩
  simp [mkEnv, List.replicate]
  by_cases hlt : i < p.length
  rotate_left
  · have : i = p.length := by omega
    subst this
    rw [List.take_length] at hI1
    simp
    exact k _ hI1
  obtain ⟨b, hb⟩ := nth_lt hlt
  have hb' := nth_get hb
  have hbm := lensB_mem (List.mem_of_getElem? hb')
  have es : IntKind.i64.wrap ((i : Int) + 1) = (i : Int) + 1 := by rw [wrap_small] <;> omega
  simp [hlt, hb]
  refine gfor b.2.length (fun j e σ' => I ((flatB (p.take i)).length + j) σ' ∧ e = mkEnv 28 [(0, .yield L), (3, .int .i64 i), (7, fblks p), (8, .int .i64 p.length), (9, .int .i64 i), (15, fints b.2), (16, .int .i64 b.2.length), (17, .int .i64 j)]) _ ?_ ⟨hI _ _ _ hI1, rfl⟩ ?_
  · simp [mkEnv, List.replicate]
  rintro j _ σ2 hj ⟨hI2, rfl⟩
  simp [mkEnv, List.replicate]
  by_cases hjl : j < b.2.length
  · obtain ⟨v, hv⟩ := nth_lt hjl
    have hv' := nth_get hv
    have es2 : IntKind.i64.wrap ((j : Int) + 1) = (j : Int) + 1 := by rw [wrap_small] <;> omega
    simp [hjl, hv]
    refine (hr _ i v σ2 (prs_at hb' hv') hI2).mono ?_
    rintro r σ3 (⟨rfl, h3⟩ | ⟨rfl, h3⟩)
    · simp [es2]
      exact forK_go _ hjl (by simp [mkEnv, List.replicate]) ⟨by rw [← Nat.add_assoc]; exact h3, rfl⟩
    · simp
      exact kj _ h3
  · have : j = b.2.length := by omega
    subst this
    simp [es]
    refine forK_go _ hlt (by simp [mkEnv, List.replicate]) ⟨?_, rfl⟩
    rw [flatB_take hb', List.length_append]; exact hI2
theorem grange_ret {id : Nat} {env e0 : Env} {ps : List Tmp} {a b : Code} {Q : Exit → Env → GS → Prop} {σ : GS} (h : σ[id]? = some (.loop ⟨e0, ps, a, b, .done, some .ret⟩)) (k : Q .ret env (σ.set id (.loop ⟨e0, ps, a, b, .exhausted, some .ret⟩))) : grange id env Q σ := ⟨_, h, by simp, k⟩
theorem roundK_ret {id : Nat} {Post : Bx (DV → GS → Prop)} {env e0 : Env} {ps : List Tmp} {a b : Code} {σ : GS} (h : σ[id]? = some (.loop ⟨e0, ps, a, b, .busy, none⟩)) (k : Post.val (.bool false) (σ.set id (.loop ⟨e0, ps, a, b, .done, some .ret⟩))) : @roundK id Post .ret env σ := ⟨_, h, k⟩
end Go.Gh
namespace Go.Gh
open Go.RowKit Go.Proofs
set_option linter.unusedVariables false
set_option linter.unusedSimpArgs false
set_option maxRecDepth 100000
theorem count_round {σ : GS} {env : Env} {M : GObj} {τ : GS} {i : Nat} {v : Int} {E : List (Int × DV)} {Post : DV → GS → Prop}
    (hlen : env.length = 27) (h2 : env[2]? = some (.ptr σ.length 0)) (h3 : env[3]? = some (.ptr (σ.length + 1) 0)) (h4 : env[4]? = some (.ptr (σ.length + 3) 0))
    (hM : ∀ τ, MpO kint (σ ++ (.row false [.int .i64 0] :: .row false [.bool false] :: M :: τ)) (σ.length + 2) E) (hE : ∀ k u, kget k E = some u → u = .bool true)
    (k1 : isVar v = true → kget v E = none → ∀ M' τ', (∀ τ, MpO kint (σ ++ (.row false [.int .i64 0] :: .row false [.bool false] :: M' :: τ)) (σ.length + 2) (kset v (.bool true) E)) → Post (.bool true) (σ ++ (.row false [.int .i64 0] :: .row false [.bool false] :: M' :: .row false [.map (σ.length + 2)] :: .loop (lgR env [10, 11] (rngA Tryz.f38 0) (rngB Tryz.f38 0)) :: τ')))
    (k0 : (isVar v = true → (kget v E).isSome = true) → ∀ τ', Post (.bool false) (σ ++ (.row false [.int .i64 0] :: .row false [.bool false] :: M :: .row false [.map (σ.length + 2)] :: .loop ⟨env, [10, 11], rngA Tryz.f38 0, rngB Tryz.f38 0, .done, some .ret⟩ :: τ'))) :
    GRound Tryz.prog (σ.length + 4) [.int .i64 i, .int .i64 v] (σ ++ (.row false [.int .i64 0] :: .row false [.bool false] :: M :: .row false [.map (σ.length + 2)] :: .loop (lgR env [10, 11] (rngA Tryz.f38 0) (rngB Tryz.f38 0)) :: τ)) Post := by
  refine round_of (env := env) (ps := [10, 11]) (a := rngA Tryz.f38 0) (b := rngB Tryz.f38 0) seatfollows (by simp) ca_prefix_count_0 cb_prefix_count_0 rfl ?_
  have h2' : ∀ h, env[2]'h = .ptr σ.length 0 := fun h => by rw [List.getElem?_eq_getElem h] at h2; exact Option.some.inj h2
  have h3' : ∀ h, env[3]'h = .ptr (σ.length + 1) 0 := fun h => by rw [List.getElem?_eq_getElem h] at h3; exact Option.some.inj h3
  have h4' : ∀ h, env[4]'h = .ptr (σ.length + 3) 0 := fun h => by rw [List.getElem?_eq_getElem h] at h4; exact Option.some.inj h4
  have hlk : ∀ τ, gload (.lookup (.int .i64) (.bool false) false) [.map (σ.length + 2), .int .i64 v] (σ ++ (.row false [.int .i64 0] :: .row false [.bool false] :: M :: τ)) = some (.bool (kget v E).isSome) := fun τ => by
    rw [(hM τ).lookup (kt := .int .i64) v (.bool false) false]
    cases hk : kget v E with
    | none => rfl
    | some u => rw [hE _ _ hk]; rfl
  simp [GA_prefix_count_0, GB_prefix_count_0, putAll, List.getElem?_set, hlen, h2', h3', h4', lgR]
  by_cases c1 : 1 ≤ v
  rotate_left
  · have c1' : v < 1 := by omega
    simp [c1', List.getElem?_set, hlen, h2', h3', h4']
    refine roundK_ret (e0 := env) (ps := [10, 11]) (a := rngA Tryz.f38 0) (b := rngB Tryz.f38 0) (by simp) ?_
    rw [set_tail]
    exact k0 (fun h => by simp [isVar, c1] at h) _
  have c1' : ¬ v < 1 := by omega
  by_cases c2 : v ≤ 65536
  rotate_left
  · have c2' : 65536 < v := by omega
    simp [c1', c2', List.getElem?_set, hlen, h2', h3', h4']
    refine roundK_ret (e0 := env) (ps := [10, 11]) (a := rngA Tryz.f38 0) (b := rngB Tryz.f38 0) (by simp) ?_
    rw [set_tail]
    exact k0 (fun h => by simp [isVar, c2] at h) _
  have c2' : ¬ 65536 < v := by omega
  simp [c1', c2', List.getElem?_set, hlen, h2', h3', h4', hlk]
  cases hk : kget v E with
  | some u =>
    simp [List.getElem?_set, hlen, h2', h3', h4']
    refine roundK_ret (e0 := env) (ps := [10, 11]) (a := rngA Tryz.f38 0) (b := rngB Tryz.f38 0) (by simp) ?_
    rw [set_tail]
    exact k0 (fun _ => by simp [hk]) _
  | none =>
    obtain ⟨o, q1, q2⟩ := (hM (.row false [.map (σ.length + 2)] :: .loop ⟨env, [10, 11], rngA Tryz.f38 0, rngB Tryz.f38 0, .busy, none⟩ :: τ)).set (kt := .int .i64) v (.bool true)
    rw [set_tail] at q1 q2
    simp [List.getElem?_set, hlen, h2', h3', h4', q1]
    refine roundK_normal (e0 := env) (ps := [10, 11]) (a := rngA Tryz.f38 0) (b := rngB Tryz.f38 0) (by simp) ?_
    rw [set_tail]
    exact k1 (by simp [isVar, c1, c2]) hk _ _ fun τ1 => q2.fit (by simp)
/-- A set of numbers as a map to true. -/
def setE (l : List Int) : List (Int × DV) := l.map fun v => (v, .bool true)
theorem setE_keys (l : List Int) : (setE l).map (·.1) = l := by simp [setE, Function.comp_def]
theorem setE_true {l : List Int} (k : Int) (u : DV) (h : kget k (setE l) = some u) : u = .bool true := by
  obtain ⟨v, _, he⟩ := List.mem_map.1 (kget_mem h)
  cases he; rfl
theorem setE_some {l : List Int} {k : Int} : (kget k (setE l)).isSome = l.contains k := by
  cases h : kget k (setE l) with
  | none =>
    have := kget_none.1 h
    rw [setE_keys] at this
    simp [this]
  | some u =>
    have : k ∈ (setE l).map (·.1) := List.mem_map.2 ⟨_, kget_mem h, rfl⟩
    rw [setE_keys] at this
    simp [this]
theorem setE_push {l : List Int} {v : Int} (h : kget v (setE l) = none) : kset v (.bool true) (setE l) = setE (l ++ [v]) := by
  rw [kset_new (kget_none.1 h)]; simp [setE]
theorem count_walk {p : List Blk} {σ : GS} {env : Env} (hp : lensB p < 2 ^ 40) (hlen : env.length = 27) (h2 : env[2]? = some (.ptr σ.length 0)) (h3 : env[3]? = some (.ptr (σ.length + 1) 0)) (h4 : env[4]? = some (.ptr (σ.length + 3) 0)) {Q : Exit → Env → GS → Prop}
    (kN : singleS [] (flatB p) = true → ∀ M o τ, (∀ τ, MpO kint (σ ++ (.row false [.int .i64 0] :: .row false [.bool false] :: M :: τ)) (σ.length + 2) (setE (flatB p))) → Q .normal env (σ ++ (.row false [.int .i64 0] :: .row false [.bool false] :: M :: .row false [.map (σ.length + 2)] :: o :: τ)))
    (kR : singleS [] (flatB p) = false → ∀ M o τ, Q .ret env (σ ++ (.row false [.int .i64 0] :: .row false [.bool false] :: M :: .row false [.map (σ.length + 2)] :: o :: τ))) :
    GCall Tryz.prog F_prefix_each_1 [.yield (σ.length + 4), .fptr [fblks p]] (σ ++ [.row false [.int .i64 0], .row false [.bool false], .mp [] ([], 0), .row false [.map (σ.length + 2)], .loop (lgR env [10, 11] (rngA Tryz.f38 0) (rngB Tryz.f38 0))]) fun _ σ' => grange (σ.length + 4) env Q σ' := by
  refine p_each1_ok hp (fun n σ' => singleS [] (flatB p) = singleS ((flatB p).take n) ((flatB p).drop n) ∧ ∃ M τ, σ' = σ ++ (.row false [.int .i64 0] :: .row false [.bool false] :: M :: .row false [.map (σ.length + 2)] :: .loop (lgR env [10, 11] (rngA Tryz.f38 0) (rngB Tryz.f38 0)) :: τ) ∧ ∀ τ, MpO kint (σ ++ (.row false [.int .i64 0] :: .row false [.bool false] :: M :: τ)) (σ.length + 2) (setE ((flatB p).take n)))
    (fun σ' => singleS [] (flatB p) = false ∧ ∃ M τ, σ' = σ ++ (.row false [.int .i64 0] :: .row false [.bool false] :: M :: .row false [.map (σ.length + 2)] :: .loop ⟨env, [10, 11], rngA Tryz.f38 0, rngB Tryz.f38 0, .done, some .ret⟩ :: τ)) ?_ ?_ ?_ ?_ ?_
  · rintro n _ o ⟨h, M, τ, rfl, hM⟩
    exact ⟨h, M, τ ++ [o], by simp, hM⟩
  · refine ⟨by simp, _, [], rfl, fun τ => ?_⟩
    exact ⟨by simp [setE], ([], 0), ⟨by simp [setE], by simp, by simp⟩, by simp [kenc, setE]⟩
  · rintro n i v _ hn ⟨h, M, τ, rfl, hM⟩
    have hv : (flatB p)[n]? = some v := by
      have := congrArg (fun o => o.map (·.2)) hn
      simpa [← List.getElem?_map, prs_snd] using this
    rw [drop_get hv, singleS] at h
    refine count_round hlen h2 h3 h4 hM (fun k u => setE_true k u) (fun c1 c2 M' τ' hM' => .inl ⟨rfl, ?_, M', τ', rfl, ?_⟩) fun c τ' => .inr ⟨rfl, ?_, M, τ', rfl⟩
    · have : ((flatB p).take n).contains v = false := by rw [← setE_some, c2]; rfl
      rw [h, c1, this, take_get hv]; simp
    · rw [setE_push c2, ← take_get hv] at hM'; exact hM'
    · rw [h]
      cases hc : isVar v with
      | false => rfl
      | true =>
        have := c hc
        rw [setE_some] at this
        rw [this]; rfl
  · rintro _ ⟨h, M, τ, rfl, hM⟩
    rw [List.take_length] at hM
    rw [List.drop_length, singleS] at h
    refine grange_normal (e0 := env) (ps := [10, 11]) (a := rngA Tryz.f38 0) (b := rngB Tryz.f38 0) (by simp) ?_
    rw [set_tail]
    exact kN h _ _ _ hM
  · rintro _ ⟨h, M, τ, rfl⟩
    refine grange_ret (e0 := env) (ps := [10, 11]) (a := rngA Tryz.f38 0) (b := rngB Tryz.f38 0) (by simp) ?_
    rw [set_tail]
    exact kR h _ _ _
theorem p_count_ok {p : List Blk} {σ : GS} {Post : DV → GS → Prop} (hp : lensB p < 2 ^ 40) (h : Post (.tuple [.int .i64 (if singleS [] (flatB p) = true then (flatB p).length else 0), .bool (singleS [] (flatB p))]) σ) : GCall Tryz.prog F_prefix_count [fblks p] σ Post := by
  refine GCall.say (r := .tuple [.int .i64 (if singleS [] (flatB p) = true then (flatB p).length else 0), .bool (singleS [] (flatB p))]) ?_ (by simp) h
  refine gc_prefix_count ?_
  simp [G_prefix_count, genv0, List.replicate]
  refine p_each_ok ?_
  simp
  refine rangeB_intro ?_
  simp
  refine count_walk hp (by simp) (by simp) (by simp) (by simp) (fun hs M o τ hM => ?_) (fun hs M o τ => ?_)
  · have hml : gload .mlen [.map (σ.length + 2)] (σ ++ (.row false [.int .i64 0] :: .row false [.bool false] :: M :: .row false [.map (σ.length + 2)] :: o :: τ)) = some (.int .i64 (flatB p).length) := by
      rw [(hM _).mlen]; simp [setE]
    simp [hml, hs]
  · simp [hs]
end Go.Gh
namespace Go.Gh
open Go.RowKit Go.Proofs
set_option linter.unusedVariables false
set_option linter.unusedSimpArgs false
set_option maxRecDepth 100000
theorem p_May_ok {p : List Blk} {σ : GS} {Post : DV → GS → Prop} (hp : lensB p < 2 ^ 40) (h : Post (.bool (mayB p)) σ) : GCall Tryz.prog F_prefix_May [fblks p] σ Post := by
  have hlb := lensB_flat p
  refine GCall.say (r := .bool (mayB p)) ?_ rfl h
  refine gc_prefix_May ?_
  simp [G_prefix_May, genv0, List.replicate]
  refine gfor p.length (fun i e σ' => Fr σ.length σ σ' ∧ altB none p = altB (prevB p i) (p.drop i) ∧ e = mkEnv 44 [(0, fblks p), (7, fblks p), (8, .int .i64 p.length), (9, .int .i64 i)]) _ ?_ ⟨.rfl', by simp [prevB], rfl⟩ ?_
  · simp [mkEnv, List.replicate]
  rintro i _ σ1 hi ⟨hF, hI, rfl⟩
  simp [mkEnv, List.replicate]
  by_cases hlt : i < p.length
  · obtain ⟨b, hb⟩ := nth_lt hlt
    have hb' := nth_get hb
    rw [drop_get hb', altB_step] at hI
    have es : IntKind.i64.wrap ((i : Int) + 1) = (i : Int) + 1 := by rw [wrap_small] <;> omega
    by_cases h0 : b.2.length = 0
    · have h0' : b.2 = [] := List.length_eq_zero_iff.1 h0
      simp [hlt, hb, h0']
      simp [mayB, hI, h0']
      exact hF.app _
    have h0' : ¬ (b.2 = []) := fun e => h0 (by rw [e]; rfl)
    have h0'' : ¬ ((b.2.length : Int) = 0) := by omega
    cases i with
    | zero =>
      simp [hlt, hb, h0', h0'']
      exact forK_go _ hlt (by simp [mkEnv, List.replicate]) ⟨hF.app _, by simp [hI, prevB, hb', h0'], rfl⟩
    | succ i =>
      obtain ⟨c, hc⟩ := nth_lt (l := p) (i := i) (by omega)
      have hc' := nth_get hc
      have ew' : IntKind.i64.wrap (i : Int) = i := by rw [wrap_small] <;> omega
      have hge : (0 : Int) ≤ (i : Int) + 1 := by omega
      have hgt : (0 : Int) < (i : Int) + 1 := by omega
      have htn : ((i : Int) + 1).toNat = i + 1 := by omega
      have es2 : IntKind.i64.wrap ((i : Int) + 1 + 1) = (i : Int) + 1 + 1 := by rw [wrap_small] <;> omega
      by_cases he : c.1 = b.1
      · simp [hlt, hb, h0', h0'', hge, hgt, htn, ew', hc, he]
        simp [mayB, hI, prevB, hc', he]
        exact hF.app _
      · have he2 : (c.1 == b.1) = false := by simpa using he
        simp [hlt, hb, h0', h0'', hge, hgt, htn, ew', hc, he2, es2]
        exact forK_go _ hlt (by simp [mkEnv, List.replicate]) ⟨hF.app _, by simp [hI, prevB, hc', he, h0', hb'], rfl⟩
  · have : i = p.length := by omega
    subst this
    rw [List.drop_length] at hI
    have hI' : altB none p = true := hI
    simp
    refine p_count_ok hp ?_
    cases hs : singleS [] (flatB p) with
    | false =>
      simp
      simp [mayB, hs]
      exact hF
    | true =>
      by_cases c : (flatB p).length ≤ 1024
      · have c' : ((flatB p).length : Int) ≤ 1024 := by omega
        simp [c']
        simp [mayB, hI', c, hs]
        exact hF
      · have c' : ¬ ((flatB p).length : Int) ≤ 1024 := by omega
        simp [c']
        simp [mayB, c]
        exact hF
theorem p_abs_ok {x : Int} {σ : GS} {Post : DV → GS → Prop} (h : Post (.int .i64 (absW x)) σ) : GCall Tryz.prog F_prefix_abs [.int .i64 x] σ Post := by
  refine gc_prefix_abs ?_
  simp [G_prefix_abs, genv0, List.replicate]
  exact h
theorem r_Abs_ok {x : Int} {σ : GS} {Post : DV → GS → Prop} (h : Post (.int .i64 (if x < 0 then IntKind.i64.wrap (-x) else x)) σ) : GCall Tryz.prog F_skolemref03_Abs [.int .i64 x] σ Post := by
  refine gc_skolemref03_Abs ?_
  by_cases c : x < 0
  · simp [G_skolemref03_Abs, genv0, List.replicate, c]
    simpa [c] using h
  · simp [G_skolemref03_Abs, genv0, List.replicate, c]
    simpa [c] using h
end Go.Gh
namespace Go.Gh
open Go.RowKit Go.Proofs
set_option linter.unusedVariables false
set_option linter.unusedSimpArgs false
set_option maxRecDepth 100000
def CapOk (s : DV) : Prop := ∀ a b n z c, s = .slice a b n z (some c) → n ≤ c
theorem append_cap {sz by_ : Nat} {s x v : DV} {σ σ' : GS} (h : gappend sz by_ s x σ = some (v, σ')) (hs : CapOk s) : CapOk v := by
  unfold gappend at h
  repeat' (split at h)
  all_goals first | (cases h; done) | skip
  all_goals
    cases h
    first
    | exact hs
    | (intro a b n z c e; cases e; done)
    | (intro a b n z c e; cases e; assumption)
theorem clone_ok {s : DV} {xs : List Int} {n : Nat} {σ : GS} {Post : DV → GS → Prop} (hq : nilq s ≠ []) (hn : true ∈ nilq s → xs = []) (hr : ∀ τ, gread 1 s (σ ++ τ) = some (xs.flatMap eint)) (hg : glen s = xs.length) (hl : xs.length < 2 ^ 43) (hnn : n ≤ σ.length)
    (k : ∀ s' σ', Own n 1 eint σ' s' xs → Fr σ.length σ σ' → (∀ i, s'.has i → σ.length ≤ i) → CapOk s' → Post s' σ') : GCall Tryz.prog F_slices_Clone_int_int [s] σ Post := by
  refine gc_slices_Clone_int_int ?_
  simp [G_slices_Clone_int_int, genv0, List.replicate]
  refine eqn_any hq fun b hb => ?_
  cases b with
  | true =>
    have := hn hb
    subst this
    simp
    exact k .nils σ .nil (.refl (Nat.le_refl _)) (fun i ⟨_, _, _, _, e⟩ => by cases e) (fun _ _ _ _ _ e => by cases e)
  | false =>
    have h0 : Own σ.length 1 eint (σ ++ [.row false (gzeros [.int .i64 0] 0)]) (.slice σ.length 0 0 1 (some 0)) ([] : List Int) := .inr ⟨σ.length, some 0, [], Nat.le_refl _, by simp, by simp [gzeros], fun c hc => by cases hc; simp⟩
    obtain ⟨s', σ', q1, q2, q3, q4, q5, q6, _⟩ := h0.append (by_ := 8) (ys := xs) (x := s) (fun _ => rfl) (hr _) hg (fun y _ => by simp) (by simp) (by simp; omega) (by decide)
    simp [q1]
    refine k s' σ' (by simpa using q2.weaken hnn) (((Fr.refl (Nat.le_refl _)).app _).trans q3) (fun i hi => ?_) (append_cap (sz := 1) (by_ := 8) (s := .slice σ.length 0 0 1 (some 0)) q1 (fun _ _ _ _ _ e => by cases e; exact Nat.le_refl _))
    exact q2.has_ge hi
theorem clone_frz {xs : List Int} {n : Nat} {σ : GS} {Post : DV → GS → Prop} (hl : xs.length < 2 ^ 43) (hnn : n ≤ σ.length)
    (k : ∀ s' σ', Own n 1 eint σ' s' xs → Fr σ.length σ σ' → (∀ i, s'.has i → σ.length ≤ i) → CapOk s' → Post s' σ') : GCall Tryz.prog F_slices_Clone_int_int [fints xs] σ Post := by
  refine clone_ok ?_ ?_ (fun τ => ?_) (by simp [glen]) hl hnn k
  · simp only [nilq]; split <;> simp
  · simp only [nilq, List.length_map]; intro h; split at h
    · simp at h
    · exact List.length_eq_zero_iff.1 (by omega)
  · simp [gread, flatMap_flatten]
theorem idx_live {f : FuncId} {pre caps : List DV} {n : Nat} {s : DV} {xs : List Int} {p : Int → Bool} {σ : GS} {Post : DV → GS → Prop} (ho : Own n 1 eint σ s xs) (hl : xs.length < 2 ^ 60)
    (hf : ∀ x ∈ xs, ∀ K : DV → GS → Prop, K (.bool (p x)) σ → GCall Tryz.prog f (pre ++ .int .i64 x :: caps) σ K) (h : Post (.int .i64 (idxF p 0 xs)) σ) :
    GCall Tryz.prog F_slices_IndexFunc_int_int [s, .func f pre caps] σ Post := by
  refine gc_slices_IndexFunc_int_int ?_
  simp [G_slices_IndexFunc_int_int, genv0, List.replicate, ho.len]
  refine gfor xs.length (fun i e σ' => σ' = σ ∧ idxF p 0 xs = idxF p i (xs.drop i) ∧ e = mkEnv 19 [(0, s), (1, .func f pre caps), (7, .int .i64 xs.length), (8, .int .i64 i)]) _ ?_ ⟨rfl, by simp, rfl⟩ ?_
  · simp [mkEnv, List.replicate]
  rintro i _ _ hi ⟨rfl, hI, rfl⟩
  simp [mkEnv, List.replicate]
  by_cases hlt : i < xs.length
  · obtain ⟨y, hy⟩ := get_lt hlt
    rw [drop_get hy] at hI
    obtain ⟨id, g1, g2, g3, g4⟩ := ho.get (fun _ => rfl) hy (k := .i64)
    have g5 := g4 0 (by omega)
    simp at g2 g5
    simp [hlt, g2, g5]
    refine hf y (List.mem_of_getElem? hy) _ ?_
    by_cases h1 : p y = true
    · simp [h1]
      simpa [hI, idxF, h1] using h
    · simp [h1, wrap_suc (show i < _ by omega)]
      exact forK_go _ hlt (by simp [mkEnv, List.replicate]) ⟨rfl, by simp [hI, idxF, h1], rfl⟩
  · have : i = xs.length := by omega
    subst this
    simp
    simpa [hI, idxF] using h
theorem idxF_split {p : Int → Bool} {xs : List Int} {i : Nat} {x : Int} (h1 : xs[i]? = some x) (h3 : p x = true) (h4 : ∀ j y, j < i → xs[j]? = some y → p y = false) : (xs.take (i + 1)).filter (fun v => !p v) = xs.take i ∧ (xs.take i).length = i := by
  have hi := get_dom h1
  refine ⟨?_, by simp; omega⟩
  rw [take_get h1, List.filter_append]
  simp [h3]
  intro a ha
  obtain ⟨j, hj⟩ := List.mem_iff_getElem?.1 ha
  rw [List.getElem?_take] at hj
  split at hj
  · exact h4 j a (by assumption) hj
  · cases hj
theorem del_ok {f : FuncId} {pre caps : List DV} {n : Nat} {s : DV} {xs : List Int} {p : Int → Bool} {σ : GS} {Post : DV → GS → Prop} (ho : Own n 1 eint σ s xs) (hcap : CapOk s) (hl : xs.length < 2 ^ 40)
    (hf : ∀ x ∈ xs, ∀ σ', (∀ j, ¬ s.has j → σ'[j]? = σ[j]?) → ∀ K : DV → GS → Prop, K (.bool (p x)) σ' → GCall Tryz.prog f (pre ++ .int .i64 x :: caps) σ' K)
    (k : ∀ σ', (∀ j, ¬ s.has j → σ'[j]? = σ[j]?) → σ'.length = σ.length → Post (fints (xs.filter fun v => !p v)) σ') : GCall Tryz.prog F_slices_DeleteFunc_int_int [s, .func f pre caps] σ Post := by
  have fin : ∀ (σ' : GS) (s' : DV) (ys : List Int), Own n 1 eint σ' s' ys → (∀ j, s'.has j → s.has j) → (∀ j, ¬ s.has j → σ'[j]? = σ[j]?) → σ'.length = σ.length → ys = xs.filter (fun v => !p v) → ∃ S v', Rd (Go.Gh.frz S σ') (RO (Go.Gh.frz S σ')) s' v' ∧ Post v' (Go.Gh.frz S σ') := by
    rintro σ' s' ys h1 h2 h3 h4 rfl
    refine ⟨fun i => s'.idOf == some i, _, h1.rdF fun _ => rfl, k _ (fun j hj => ?_) (by rw [frz_len, h4])⟩
    rw [frz_off (h1.idOf_has fun hh => hj (h2 j hh))]; exact h3 j hj
  refine GCall.out ?_
  refine gc_slices_DeleteFunc_int_int ?_
  simp [G_slices_DeleteFunc_int_int, genv0, List.replicate]
  refine idx_live ho (by omega) (fun x hx K hK => hf x hx σ (fun _ _ => rfl) K hK) ?_
  rcases idxF_cases p xs 0 with ⟨h1, h2⟩ | ⟨i0, x0, h1, h2, h3, h4⟩
  · simp [h1]
    exact fin σ s xs ho (fun _ h => h) (fun _ _ => rfl) rfl (List.filter_eq_self.2 fun a ha => by simp [h2 a ha]).symm
  rw [Nat.zero_add] at h1
  have hi0 := get_dom h2
  have hne : ¬ ((i0 : Int) = -1) := by omega
  have ew : IntKind.i64.wrap ((i0 : Int) + 1) = (i0 : Int) + 1 := by rw [wrap_small] <;> omega
  obtain ⟨f1, f2⟩ := idxF_split h2 h3 h4
  rw [h1]
  simp [hne, ew]
  rcases ho with ⟨_, rfl⟩ | ⟨id, cap, rest, hge, rfl, hrow, hcp⟩
  · simp at hi0
  have hhas : ∀ t, t = id → (DV.slice id 0 xs.length 1 cap).has t := fun t e => by subst e; exact ⟨_, _, _, _, rfl⟩
  obtain ⟨N, hN⟩ : ∃ N, xs.length = N := ⟨_, rfl⟩
  have hrow' : σ[id]? = some (.row false (xs.map (.int .i64) ++ rest)) := by rw [hrow, flatMap_one]
  rw [hN]
  refine gwhile (mkEnv 42 [(0, .slice id 0 N 1 cap), (1, .func f pre caps), (5, .int .i64 i0), (6, .int .i64 ((i0 + 1 : Nat) : Int))]) (N - (i0 + 1)) (fun m e σ' => ∃ (j i : Nat) (ys : List Int), m = N - j ∧ j ≤ N ∧ i < j ∧ e = mkEnv 42 [(0, .slice id 0 N 1 cap), (1, .func f pre caps), (5, .int .i64 i), (6, .int .i64 j)] ∧ σ'[id]? = some (.row false (ys.map (.int .i64) ++ rest)) ∧ ys.length = N ∧ ys.take i = (xs.take j).filter (fun v => !p v) ∧ ys.drop j = xs.drop j ∧ (∀ t, t ≠ id → σ'[t]? = σ[t]?) ∧ σ'.length = σ.length) ?_ ⟨i0 + 1, i0, xs, rfl, by omega, by omega, rfl, hrow', hN, f1.symm, rfl, fun _ _ => rfl, rfl⟩ ?_
  · simp [mkEnv, List.replicate]
  rintro m _ σ' ⟨j, i, ys, rfl, hj, hij, rfl, hr, hyl, hyi, hyj, hoth, hlen⟩
  simp [mkEnv, List.replicate]
  by_cases hlt : j < N
  · obtain ⟨y, hy⟩ := get_lt (xs := xs) (i := j) (by omega)
    have hyy : ys[j]? = some y := by
      have := congrArg (fun l => l[0]?) hyj
      simpa [hy] using this
    have hia := iaddr_own (id := id) (n := N) (sz := 1) (i := j) (k := .i64) (cap := cap) hlt
    have hib := iaddr_own (id := id) (n := N) (sz := 1) (i := i) (k := .i64) (cap := cap) (by omega)
    simp only [Nat.mul_one] at hia hib
    have hld : gload (.load 1 false) [.ptr id j] σ' = some (.int .i64 y) := by
      rw [ld_at hr, List.getElem?_append_left (by simp; omega)]; simp [hyy]
    have es : IntKind.i64.wrap ((j : Int) + 1) = ((j + 1 : Nat) : Int) := wrap_suc (by omega)
    have es2 : IntKind.i64.wrap ((i : Int) + 1) = ((i + 1 : Nat) : Int) := wrap_suc (by omega)
    simp [hlt, hia, hld]
    refine hf y (List.mem_of_getElem? hy) σ' (fun t ht => hoth t fun e => ht (hhas t e)) _ ?_
    by_cases hp : p y = true
    · simp [hp, es]
      refine whK_go (N - (j + 1)) _ (by omega) ?_ ⟨j + 1, i, ys, rfl, by omega, by omega, rfl, hr, hyl, ?_, ?_, hoth, hlen⟩
      · simp [mkEnv, List.replicate]
      · rw [take_get hy, List.filter_append, hyi]; simp [hp]
      · have := congrArg (List.drop 1) hyj; simpa [List.drop_drop, Nat.add_comm] using this
    · have hsto : gimp (.store 1) [.ptr id i, .int .i64 y] σ' = some (.tuple [], σ'.set id (.row false ((ys.set i y).map (.int .i64) ++ rest))) := by
        simp only [gimp, hr, DV.cells]
        rw [if_pos ⟨rfl, by simp; omega, rfl⟩, over_one (by simp; omega), List.set_append_left _ _ (by simp; omega), List.map_set]
      simp [hp, hib, hsto, es, es2]
      refine whK_go (N - (j + 1)) _ (by omega) ?_ ⟨j + 1, i + 1, ys.set i y, rfl, by omega, by omega, rfl, ?_, by simp [hyl], ?_, ?_, fun t ht => ?_, by simpa using hlen⟩
      · simp [mkEnv, List.replicate]
      · rw [List.getElem?_set_self (get_dom hr)]; simp
      · rw [take_get hy, List.filter_append, ← hyi]
        rw [List.take_succ_eq_append_getElem (by simp; omega), List.take_set, List.set_eq_of_length_le (by simp; omega)]
        simp [hp]
      · rw [List.drop_set_of_lt (by omega)]
        have := congrArg (List.drop 1) hyj; simpa [List.drop_drop, Nat.add_comm] using this
      · rw [List.getElem?_set_ne (Ne.symm ht)]; exact hoth t ht
  · have : j = N := by omega
    subst this
    rw [← hN, List.take_length] at hyi
    have hcl : ∀ c, cap = some c → j ≤ c := fun c hc => by rw [← hN]; exact hcap id 0 xs.length 1 c (by rw [hc])
    have hcg : j ≤ cap.getD j := by cases hc : cap with
      | none => simp
      | some c => simp; exact hcl c hc
    have hsl1 : gpure (.slice 1 true false false) [.slice id 0 j 1 cap, .int .i64 i] = some (.slice id i (j - i) 1 (cap.map fun c => c - i)) := by
      simp only [gpure, gslice, if_true, gbm, Option.bind_some, gbh, gbl, gbound]
      rw [if_pos ⟨rfl, hcg⟩]
      simp only [Option.bind_some]
      rw [if_pos (by omega)]
      cases cap <;> simp
    have hsl2 : gpure (.slice 1 false true false) [.slice id 0 j 1 cap, .int .i64 i] = some (.slice id 0 i 1 cap) := by
      simp only [gpure, gslice, if_true, gbm, Option.bind_some, gbh, gbl, gbound]
      rw [if_pos (by omega)]
      simp only [Option.bind_some]
      cases cap <;> simp
    have hclr : gimp (.clear 1 [.int .i64 0]) [.slice id i (j - i) 1 (cap.map fun c => c - i)] σ' = some (.tuple [], σ'.set id (.row false ((ys.take i).map (.int .i64) ++ (List.replicate (j - i) (.int .i64 0) ++ rest)))) := by
      simp only [gimp, hr]
      rw [if_neg (by omega), if_pos trivial, if_pos ⟨by simp; omega, by simp [gzeros]⟩]
      congr 3
      unfold over
      simp only [gzeros, List.length_replicate, Nat.mul_one]
      rw [List.take_append_of_le_length (by simp; omega), ← List.map_take, List.drop_append, List.drop_eq_nil_of_le (by simp; omega)]
      simp
      rw [show i + (j - i) - ys.length = 0 by omega]; simp
    simp [hsl1, hclr, hsl2]
    refine fin _ _ ((ys.take i)) (.inr ⟨id, cap, List.replicate (j - i) (.int .i64 0) ++ rest, hge, by simp; omega, ?_, fun c hc => ?_⟩) (fun t ⟨_, _, _, _, e⟩ => ⟨_, _, _, _, by cases e; rfl⟩) (fun t ht => ?_) (by simpa using hlen) hyi
    · rw [List.getElem?_set_self (get_dom hr), flatMap_one, List.map_take]
    · have := hcp c hc
      simp at this ⊢; omega
    · rw [List.getElem?_set_ne fun e => ht (hhas t e.symm)]
      exact hoth t fun e => ht (hhas t e)
end Go.Gh
namespace Go.Gh
open Go.RowKit Go.Proofs
set_option linter.unusedVariables false
set_option linter.unusedSimpArgs false
set_option maxRecDepth 100000
/-- Where a block stands, by its index. -/
def plD (p : List Blk) (k : Nat) : DV := placeV (k, ((p[k]?).map (·.1)).getD false)
theorem place_round {p : List Blk} {σ : GS} {env : Env} {M : GObj} {τ : GS} {i : Nat} {v : Int} {b : Blk} {E : List (Int × DV)} {Post : DV → GS → Prop} (hp : lensB p < 2 ^ 40) (hb : p[i]? = some b)
    (hlen : env.length = 31) (h1 : env[1]? = some (.ptr σ.length 0)) (h3 : env[3]? = some (.ptr (σ.length + 2) 0))
    (hM : ∀ τ, MpO kint (σ ++ (.row false [fblks p] :: M :: τ)) (σ.length + 1) E) (hE : ∀ k u, kget k E = some u → ∃ x, u = placeV x)
    (k1 : ∀ M' τ', (∀ τ, MpO kint (σ ++ (.row false [fblks p] :: M' :: τ)) (σ.length + 1) (plStep (plD p) E (i, v))) → Post (.bool true) (σ ++ (.row false [fblks p] :: M' :: .row false [.map (σ.length + 1)] :: .loop (lgR env [11, 12] (rngA Tryz.f43 0) (rngB Tryz.f43 0)) :: τ'))) :
    GRound Tryz.prog (σ.length + 3) [.int .i64 i, .int .i64 v] (σ ++ (.row false [fblks p] :: M :: .row false [.map (σ.length + 1)] :: .loop (lgR env [11, 12] (rngA Tryz.f43 0) (rngB Tryz.f43 0)) :: τ)) Post := by
  refine round_of (env := env) (ps := [11, 12]) (a := rngA Tryz.f43 0) (b := rngB Tryz.f43 0) seatfollows (by simp) ca_prefix_places_0 cb_prefix_places_0 rfl ?_
  have h1' : ∀ h, env[1]'h = .ptr σ.length 0 := fun h => by rw [List.getElem?_eq_getElem h] at h1; exact Option.some.inj h1
  have h3' : ∀ h, env[3]'h = .ptr (σ.length + 2) 0 := fun h => by rw [List.getElem?_eq_getElem h] at h3; exact Option.some.inj h3
  have hb2 : nth p i = some b := hb
  have hlk : ∀ τ, gload (.lookup (.int .i64) (.agg [.int .i64 0, .bool false]) true) [.map (σ.length + 1), .int .i64 v] (σ ++ (.row false [fblks p] :: M :: τ)) = some (match kget v E with | some u => .tuple [u, .bool true] | none => .tuple [.agg [.int .i64 0, .bool false], .bool false]) := fun τ => by
    rw [(hM τ).lookup (kt := .int .i64) v _ true]
    cases hk : kget v E <;> rfl
  simp [GA_prefix_places_0, GB_prefix_places_0, putAll, List.getElem?_set, hlen, h1', h3', lgR, hlk]
  cases hk : kget v E with
  | some u =>
    obtain ⟨x, rfl⟩ := hE _ _ hk
    simp [placeV, List.getElem?_set, hlen, h1', h3']
    refine roundK_normal (e0 := env) (ps := [11, 12]) (a := rngA Tryz.f43 0) (b := rngB Tryz.f43 0) (by simp) ?_
    rw [set_tail]
    refine k1 _ _ fun τ1 => ?_
    unfold plStep; rw [if_pos (by simp [hk])]
    exact hM τ1
  | none =>
    simp [List.getElem?_set, hlen, h1', h3', hb2, fill_flat2]
    obtain ⟨o, q1, q2⟩ := (hM (.row false [.map (σ.length + 1)] :: .loop ⟨env, [11, 12], rngA Tryz.f43 0, rngB Tryz.f43 0, .busy, none⟩ :: (τ ++ [.row false [.int .i64 0, .bool false]]))).set (kt := .int .i64) v (plD p i)
    rw [set_tail] at q1 q2
    have hd : plD p i = .agg [.int .i64 i, .bool b.1] := by simp [plD, placeV, hb]
    rw [hd] at q1
    simp at q1
    simp [q1]
    refine roundK_normal (e0 := env) (ps := [11, 12]) (a := rngA Tryz.f43 0) (b := rngB Tryz.f43 0) (by simp) ?_
    rw [set_tail]
    refine k1 _ _ fun τ1 => ?_
    unfold plStep; rw [if_neg (by simp [hk])]
    rw [kset_new (kget_none.1 hk)] at q2
    exact q2.fit (by simp)
theorem plE_place {p : List Blk} (l : List (Nat × Int)) : ∀ E, (∀ (k : Int) u, kget k E = some u → ∃ x, u = placeV x) → ∀ (k : Int) u, kget k (l.foldl (plStep (plD p)) E) = some u → ∃ x, u = placeV x := by
  intro E hE k u h
  rw [plE_get] at h
  cases hk : kget k E with
  | some w => rw [hk] at h; cases h; exact hE _ _ hk
  | none =>
    rw [hk] at h
    simp only [Option.map_eq_some_iff] at h
    obtain ⟨x, _, rfl⟩ := h
    exact ⟨_, rfl⟩
theorem plE_final (p : List Blk) : PlaceE p (plE (plD p) (prs 0 p)) := by
  intro v
  unfold plE
  rw [plE_get]
  simp only [kget]
  refine findO_prs (plD p) v p 0 fun j b hj => ?_
  simp [plD, hj]
theorem place_walk {p : List Blk} {σ : GS} {env : Env} (hp : lensB p < 2 ^ 40) (hlen : env.length = 31) (h1 : env[1]? = some (.ptr σ.length 0)) (h3 : env[3]? = some (.ptr (σ.length + 2) 0)) {Q : Exit → Env → GS → Prop}
    (kN : ∀ M o τ, (∀ τ, MpO kint (σ ++ (.row false [fblks p] :: M :: τ)) (σ.length + 1) (plE (plD p) (prs 0 p))) → Q .normal env (σ ++ (.row false [fblks p] :: M :: .row false [.map (σ.length + 1)] :: o :: τ))) :
    GCall Tryz.prog F_prefix_each_1 [.yield (σ.length + 3), .fptr [fblks p]] (σ ++ [.row false [fblks p], .mp [] ([], 0), .row false [.map (σ.length + 1)], .loop (lgR env [11, 12] (rngA Tryz.f43 0) (rngB Tryz.f43 0))]) fun _ σ' => grange (σ.length + 3) env Q σ' := by
  refine p_each1_ok hp (fun n σ' => ∃ M τ, σ' = σ ++ (.row false [fblks p] :: M :: .row false [.map (σ.length + 1)] :: .loop (lgR env [11, 12] (rngA Tryz.f43 0) (rngB Tryz.f43 0)) :: τ) ∧ ∀ τ, MpO kint (σ ++ (.row false [fblks p] :: M :: τ)) (σ.length + 1) (plE (plD p) ((prs 0 p).take n)))
    (fun σ' => False) ?_ ?_ ?_ ?_ ?_
  · rintro n _ o ⟨M, τ, rfl, hM⟩
    exact ⟨M, τ ++ [o], by simp, hM⟩
  · refine ⟨_, [], rfl, fun τ => ?_⟩
    exact ⟨by simp [plE], ([], 0), ⟨by simp [plE], by simp, by simp⟩, by simp [kenc, plE]⟩
  · rintro n i v _ hn ⟨M, τ, rfl, hM⟩
    obtain ⟨b, _, hb, _⟩ := prs_mem (List.mem_of_getElem? hn)
    refine place_round hp (by simpa using hb) hlen h1 h3 hM (plE_place _ _ fun k u h => by simp [kget] at h) fun M' τ' hM' => .inl ⟨rfl, M', τ', rfl, fun τ1 => ?_⟩
    have := hM' τ1
    unfold plE at this ⊢
    rw [take_get hn, List.foldl_append]
    exact this
  · rintro _ ⟨M, τ, rfl, hM⟩
    have hM' : ∀ τ, MpO kint (σ ++ (.row false [fblks p] :: M :: τ)) (σ.length + 1) (plE (plD p) (prs 0 p)) := fun τ => by
      have := hM τ
      rw [List.take_of_length_le (by rw [prs_len]; omega)] at this
      exact this
    refine grange_normal (e0 := env) (ps := [11, 12]) (a := rngA Tryz.f43 0) (b := rngB Tryz.f43 0) (by simp) ?_
    rw [set_tail]
    exact kN _ _ _ hM'
  · rintro _ h
    exact h.elim
/-- The places of numbers: a map of the call's own. -/
theorem p_places_ok {p : List Blk} {σ : GS} {Post : DV → GS → Prop} (hp : lensB p < 2 ^ 40) (k : ∀ E σ', PlaceE p E → E = plE (plD p) (prs 0 p) → MpO kint σ' (σ.length + 1) E → Fr σ.length σ σ' → Post (.map (σ.length + 1)) σ') : GCall Tryz.prog F_prefix_places [fblks p] σ Post := by
  refine gc_prefix_places ?_
  simp [G_prefix_places, genv0, List.replicate]
  refine p_each_ok ?_
  simp
  refine rangeB_intro ?_
  simp
  refine place_walk hp (by simp) (by simp) (by simp) fun M o τ hM => ?_
  simp
  exact k _ _ (plE_final p) rfl (hM _) (Fr.rfl'.app _)
end Go.Gh
namespace Go.Gh
open Go.RowKit Go.Proofs
set_option linter.unusedVariables false
set_option linter.unusedSimpArgs false
set_option maxRecDepth 100000
theorem place_lookup {p : List Blk} {E : List (Int × DV)} {σ : GS} {id : Nat} (hE : PlaceE p E) (hM : MpO kint σ id E) (v : Int) : gload (.lookup (.int .i64) (.agg [.int .i64 0, .bool false]) true) [.map id, .int .i64 v] σ = some (match findO 0 p v with | some x => .tuple [placeV x, .bool true] | none => .tuple [.agg [.int .i64 0, .bool false], .bool false]) := by
  rw [hM.lookup (kt := .int .i64) v _ true, hE v]
  cases findO 0 p v <;> rfl
end Go.Gh
namespace Go.Gh
open Go.RowKit Go.Proofs
set_option linter.unusedVariables false
set_option linter.unusedSimpArgs false
set_option maxRecDepth 100000
end Go.Gh
namespace Go.Gh
open Go.RowKit Go.Proofs
set_option linter.unusedVariables false
set_option linter.unusedSimpArgs false
set_option maxRecDepth 100000
theorem absS {x : Int} (h : litOk x = true) : (if x < 0 then IntKind.i64.wrap (-x) else x) = absW x := by
  simp only [litOk, Bool.and_eq_true, decide_eq_true_eq] at h
  exact absW_eq (by omega)
theorem r_Normal_ok {l : List Int} {σ : GS} {Post : DV → GS → Prop} (hl : l.length < 2 ^ 50) (h : Post (.bool (nrmS 0 l)) σ) : GCall Tryz.prog F_skolemref03_Normal [fints l] σ Post := by
  refine gc_skolemref03_Normal ?_
  simp [G_skolemref03_Normal, genv0, List.replicate]
  refine gfor l.length (fun i e σ' => σ' = σ ∧ (∃ last, nrmS 0 l = nrmS last (l.drop i) ∧ (i = 0 → last = 0) ∧ ∀ j, j + 1 = i → ∃ y, l[j]? = some y ∧ last = absW y ∧ litOk y = true) ∧ e = mkEnv 47 [(0, fints l), (3, .int .i64 i)]) _ ?_ ⟨rfl, ⟨0, by simp, fun _ => rfl, fun j h => by omega⟩, rfl⟩ ?_
  · simp [mkEnv, List.replicate]
  rintro i _ σ hi ⟨rfl, ⟨last, hI, hl0, hl1⟩, rfl⟩
  simp [mkEnv, List.replicate]
  by_cases hlt : i < l.length
  · obtain ⟨y, hy⟩ := nth_lt hlt
    have hy' := nth_get hy
    unfold nrmS at hI
    rw [drop_get hy', nrmG] at hI
    have es : IntKind.i64.wrap ((i : Int) + 1) = (i : Int) + 1 := by rw [wrap_small] <;> omega
    by_cases a1 : y = 0
    · have hn : nrmS 0 l = false := by unfold nrmS; rw [hI]; simp [litOk, a1]
      rw [hn] at h
      simp [hlt, hy, a1]
      exact h
    by_cases a2 : y < -65536
    · have hn : nrmS 0 l = false := by unfold nrmS; rw [hI]; simp [litOk, show ¬ (-65536 ≤ y) by omega]
      rw [hn] at h
      simp [hlt, hy, a1, a2]
      exact h
    by_cases a3 : 65536 < y
    · have hn : nrmS 0 l = false := by unfold nrmS; rw [hI]; simp [litOk, show ¬ (y ≤ 65536) by omega]
      rw [hn] at h
      simp [hlt, hy, a1, a2, a3]
      exact h
    have hok : litOk y = true := by simp [litOk, a1]; omega
    have hpos := (litOk_abs hok).2
    simp [hlt, hy, a1, a2, a3]
    cases i with
    | zero =>
      have := hl0 rfl
      subst this
      simp [es]
      refine forK_go _ hlt (by simp [mkEnv, List.replicate]) ⟨rfl, ⟨absW y, by unfold nrmS; rw [hI]; simp [hok, hpos], fun e => by omega, fun j hj => ?_⟩, rfl⟩
      have : j = 0 := by omega
      subst this; exact ⟨y, hy', rfl, hok⟩
    | succ i =>
      obtain ⟨z, hz, hlz, hzk⟩ := hl1 i rfl
      have hz' : nth l i = some z := hz
      have hge : (0 : Int) ≤ (i : Int) + 1 := by omega
      have hgt : (0 : Int) < (i : Int) + 1 := by omega
      have htn : ((i : Int) + 1).toNat = i + 1 := by omega
      have ew' : IntKind.i64.wrap (i : Int) = i := by rw [wrap_small] <;> omega
      have es2 : IntKind.i64.wrap ((i : Int) + 1 + 1) = (i : Int) + 1 + 1 := by rw [wrap_small] <;> omega
      simp [hge, hgt, htn, hy, ew', hz']
      refine r_Abs_ok ?_
      rw [absS hzk, ← hlz]
      simp [hge, htn, hy, ew', hz']
      refine r_Abs_ok ?_
      rw [absS hok]
      by_cases h4 : absW y ≤ last
      · have hn : nrmS 0 l = false := by unfold nrmS; rw [hI]; simp [show ¬ (last < absW y) by omega]
        rw [hn] at h
        simp [h4]
        exact h
      · simp [h4, es2]
        refine forK_go _ hlt (by simp [mkEnv, List.replicate]) ⟨rfl, ⟨absW y, by unfold nrmS; rw [hI]; simp [hok, show last < absW y by omega], fun e => by omega, fun j hj => ?_⟩, rfl⟩
        have : j = i + 1 := by omega
        subst this; exact ⟨y, hy', rfl, hok⟩
  · have : i = l.length := by omega
    subst this
    rw [List.drop_length] at hI
    have hn : nrmS 0 l = true := hI
    rw [hn] at h
    simp
    exact h
theorem r_Cnf_ok {l : List (List Int)} {σ : GS} {Post : DV → GS → Prop} (hl : lensC l < 2 ^ 40) (h : Post (.bool (cnfB l)) σ) : GCall Tryz.prog F_skolemref03_Cnf [fcls l] σ Post := by
  have hll := sumL_lens l
  refine gc_skolemref03_Cnf ?_
  simp [G_skolemref03_Cnf, genv0, List.replicate]
  refine gfor l.length (fun i e σ' => σ' = σ ∧ l.all (nrmS 0) = (l.drop i).all (nrmS 0) ∧ e = mkEnv 31 [(0, fcls l), (3, .int .i64 (sumL (l.take i))), (4, .int .i64 i)]) _ ?_ ⟨rfl, by simp, rfl⟩ ?_
  · simp [mkEnv, List.replicate, sumL]
  rintro i _ σ hi ⟨rfl, hI, rfl⟩
  simp [mkEnv, List.replicate]
  by_cases hlt : i < l.length
  · obtain ⟨c, hc⟩ := nth_lt hlt
    have hc' := nth_get hc
    have hcl := lensC_mem (List.mem_of_getElem? hc')
    have hsp := sumL_push hc'
    have hst := sumL_take l (i + 1)
    rw [drop_get hc', List.all_cons] at hI
    have es : IntKind.i64.wrap ((i : Int) + 1) = (i : Int) + 1 := by rw [wrap_small] <;> omega
    have es2 : IntKind.i64.wrap ((sumL (l.take i) : Int) + c.length) = (sumL (l.take (i + 1)) : Int) := by rw [hsp, wrap_small] <;> omega
    simp [hlt, hc, es2]
    refine r_Normal_ok (by omega) ?_
    cases hn : nrmS 0 c with
    | false =>
      have hn2 : cnfB l = false := by unfold cnfB; rw [hI, hn]; simp
      rw [hn2] at h
      simp
      exact h
    | true =>
      simp [es]
      exact forK_go _ hlt (by simp [mkEnv, List.replicate]) ⟨rfl, by rw [hI, hn]; simp, rfl⟩
  · have : i = l.length := by omega
    subst this
    rw [List.drop_length] at hI
    rw [List.take_length]
    unfold cnfB at h
    rw [hI] at h
    by_cases c1 : l.length ≤ 20000
    · have c1' : (l.length : Int) ≤ 20000 := by omega
      by_cases c2 : sumL l ≤ 200000
      · have c2' : (sumL l : Int) ≤ 200000 := by omega
        simp [c1', c2']
        simpa [c1, c2] using h
      · have c2' : ¬ (sumL l : Int) ≤ 200000 := by omega
        simp [c1', c2']
        simpa [c1, c2] using h
    · have c1' : ¬ (l.length : Int) ≤ 20000 := by omega
      simp [c1']
      simpa [c1] using h
set_option maxHeartbeats 1000000 in
theorem p_cnf_ok {l : List (List Int)} {f : FuncId} {pre caps : List DV} {g : Int → Bool} {σ : GS} {Post : DV → GS → Prop} (hl : lensC l < 2 ^ 40)
    (hf : ∀ (x : Int) (K : DV → GS → Prop), K (.bool (g x)) σ → GCall Tryz.prog f (pre ++ .int .i64 x :: caps) σ K) (h : Post (.bool (cnfG g l)) σ) : GCall Tryz.prog F_prefix_cnf [fcls l, .func f pre caps] σ Post := by
  have hll := sumL_lens l
  refine gc_prefix_cnf ?_
  by_cases c1 : l.length ≤ 20000
  rotate_left
  · have c1' : (20000 : Int) < l.length := by omega
    have hn : cnfG g l = false := by simp [cnfG, c1]
    rw [hn] at h
    simp [G_prefix_cnf, genv0, List.replicate, c1']
    exact h
  have c1' : ¬ ((20000 : Int) < l.length) := by omega
  simp [G_prefix_cnf, genv0, List.replicate, c1']
  refine gfor l.length (fun i e σ' => σ' = σ ∧ l.all (nrmG g 0) = (l.drop i).all (nrmG g 0) ∧ e = mkEnv 59 [(1, .func f pre caps), (5, .int .i64 (sumL (l.take i))), (14, fcls l), (15, .int .i64 l.length), (16, .int .i64 i)]) _ ?_ ⟨rfl, by simp, rfl⟩ ?_
  · simp [mkEnv, List.replicate, sumL]
  rintro i _ σ hi ⟨rfl, hI, rfl⟩
  simp [mkEnv, List.replicate]
  by_cases hlt : i < l.length
  rotate_left
  · have : i = l.length := by omega
    subst this
    rw [List.drop_length] at hI
    rw [List.take_length]
    unfold cnfG at h
    rw [hI] at h
    by_cases c2 : sumL l ≤ 200000
    · have c2' : (sumL l : Int) ≤ 200000 := by omega
      simp [c2']
      simpa [c1, c2] using h
    · have c2' : ¬ (sumL l : Int) ≤ 200000 := by omega
      simp [c2']
      simpa [c1, c2] using h
  obtain ⟨c, hc⟩ := nth_lt hlt
  have hc' := nth_get hc
  have hcl := lensC_mem (List.mem_of_getElem? hc')
  have hsp := sumL_push hc'
  have hst := sumL_take l (i + 1)
  rw [drop_get hc', List.all_cons] at hI
  have es : IntKind.i64.wrap ((i : Int) + 1) = (i : Int) + 1 := by rw [wrap_small] <;> omega
  have es2 : IntKind.i64.wrap ((sumL (l.take i) : Int) + c.length) = (sumL (l.take (i + 1)) : Int) := by rw [hsp, wrap_small] <;> omega
  have hbad : nrmG g 0 c = false → cnfG g l = false := fun e => by unfold cnfG; rw [hI, e]; simp
  simp [hlt, hc]
  refine gfor c.length (fun j e σ' => σ' = σ ∧ ∃ last, nrmG g 0 c = nrmG g last (c.drop j) ∧ e = mkEnv 59 [(1, .func f pre caps), (5, .int .i64 (sumL (l.take i))), (7, fints c), (8, .int .i64 last), (14, fcls l), (15, .int .i64 l.length), (16, .int .i64 i), (20, fints c), (21, .int .i64 c.length), (22, .int .i64 j)]) _ ?_ ⟨rfl, 0, rfl, rfl⟩ ?_
  · simp [mkEnv, List.replicate]
  rintro j _ σ hj ⟨rfl, last, hJ, rfl⟩
  simp [mkEnv, List.replicate]
  by_cases hjl : j < c.length
  rotate_left
  · have : j = c.length := by omega
    subst this
    rw [List.drop_length] at hJ
    simp [es, es2]
    exact forK_go _ hlt (by simp [mkEnv, List.replicate]) ⟨rfl, by rw [hI, hJ]; simp [nrmG], rfl⟩
  obtain ⟨y, hy⟩ := nth_lt hjl
  have hy' := nth_get hy
  rw [drop_get hy', nrmG] at hJ
  have es3 : IntKind.i64.wrap ((j : Int) + 1) = (j : Int) + 1 := by rw [wrap_small] <;> omega
  by_cases a1 : y = 0
  · rw [hbad (by rw [hJ]; simp [litOk, a1])] at h
    simp [hjl, hy, a1]
    exact h
  by_cases a2 : y < -65536
  · rw [hbad (by rw [hJ]; simp [litOk, show ¬ (-65536 ≤ y) by omega])] at h
    simp [hjl, hy, a1, a2]
    exact h
  by_cases a3 : 65536 < y
  · rw [hbad (by rw [hJ]; simp [litOk, show ¬ (y ≤ 65536) by omega])] at h
    simp [hjl, hy, a1, a2, a3]
    exact h
  have hok : litOk y = true := by simp [litOk, a1]; omega
  simp [hjl, hy, a1, a2, a3]
  refine p_abs_ok ?_
  by_cases a4 : absW y ≤ last
  · rw [hbad (by rw [hJ]; simp [show ¬ (last < absW y) by omega])] at h
    simp [a4]
    exact h
  simp [a4]
  refine p_abs_ok ?_
  simp
  refine hf _ _ ?_
  cases hg : g (absW y) with
  | false =>
    rw [hbad (by rw [hJ, hg]; simp)] at h
    simp
    exact h
  | true =>
    simp
    refine p_abs_ok ?_
    simp [es3]
    exact forK_go _ hjl (by simp [mkEnv, List.replicate]) ⟨rfl, absW y, by rw [hJ, hg]; simp [hok, show last < absW y by omega], rfl⟩
end Go.Gh
namespace Go.Gh
open Go.RowKit Go.Sort Go.Shelf Go.Proofs
set_option linter.unusedVariables false
set_option linter.unusedSimpArgs false
abbrev F_Sort : FuncId := 85
def sort_ren : Go.Shelf.Ren := ⟨fun | 189 => 85 | 125 => 95 | 257 => 101 | 128 => 113 | 129 => 114 | 294 => 119 | 295 => 120 | 296 => 121 | 297 => 122 | 298 => 123 | 299 => 124 | 216 => 116 | 300 => 125 | 301 => 126 | 328 => 134 | 329 => 129 | 330 => 130 | 331 => 135 | 332 => 136 | 215 => 96 | 343 => 140 | n => n, fun | 28 => 26 | 3 => 3 | 46 => 117 | 0 => 0 | 51 => 132 | 53 => 134 | 4 => 4 | 183 => 126 | 182 => 125 | 131 => 67 | 5 => 5 | 9 => 9 | 218 => 141 | 222 => 145 | 228 => 150 | 229 => 151 | n => n, fun | n => n⟩
theorem sort_lays : Go.Proofs.Lays.n189 Tryz.prog sort_ren := {
  mixed := by kernel_rfl
  f125 := Tryz.func95.trans (congrArg some (by kernel_rfl))
  f128 := Tryz.func113.trans (congrArg some (by kernel_rfl))
  f129 := Tryz.func114.trans (congrArg some (by kernel_rfl))
  f189 := Tryz.func85.trans (congrArg some (by kernel_rfl))
  f215 := Tryz.func96.trans (congrArg some (by kernel_rfl))
  f216 := Tryz.func116.trans (congrArg some (by kernel_rfl))
  f257 := Tryz.func101.trans (congrArg some (by kernel_rfl))
  f294 := Tryz.func119.trans (congrArg some (by kernel_rfl))
  f295 := Tryz.func120.trans (congrArg some (by kernel_rfl))
  f296 := Tryz.func121.trans (congrArg some (by kernel_rfl))
  f297 := Tryz.func122.trans (congrArg some (by kernel_rfl))
  f298 := Tryz.func123.trans (congrArg some (by kernel_rfl))
  f299 := Tryz.func124.trans (congrArg some (by kernel_rfl))
  f300 := Tryz.func125.trans (congrArg some (by kernel_rfl))
  f301 := Tryz.func126.trans (congrArg some (by kernel_rfl))
  f328 := Tryz.func134.trans (congrArg some (by kernel_rfl))
  f329 := Tryz.func129.trans (congrArg some (by kernel_rfl))
  f330 := Tryz.func130.trans (congrArg some (by kernel_rfl))
  f331 := Tryz.func135.trans (congrArg some (by kernel_rfl))
  f332 := Tryz.func136.trans (congrArg some (by kernel_rfl))
  f343 := Tryz.func140.trans (congrArg some (by kernel_rfl))
  t0 := Tryz.underlying0
  a0 := Tryz.isAgg0
  z0 := Tryz.sizeOf0
  v0 := Tryz.zeroValue0
  t3 := Tryz.underlying3
  a3 := Tryz.isAgg3
  z3 := Tryz.sizeOf3
  v3 := Tryz.zeroValue3
  t4 := Tryz.underlying4
  a4 := Tryz.isAgg4
  z4 := Tryz.sizeOf4
  v4 := Tryz.zeroValue4
  t5 := Tryz.underlying5
  a5 := Tryz.isAgg5
  z5 := Tryz.sizeOf5
  v5 := Tryz.zeroValue5
  t9 := Tryz.underlying9
  a9 := Tryz.isAgg9
  z9 := Tryz.sizeOf9
  v9 := Tryz.zeroValue9
  t28 := Tryz.underlying26
  a28 := Tryz.isAgg26
  z28 := Tryz.sizeOf26
  v28 := Tryz.zeroValue26
  t46 := Tryz.underlying117
  a46 := Tryz.isAgg117
  z46 := Tryz.sizeOf117
  v46 := Tryz.zeroValue117
  t51 := Tryz.underlying132
  a51 := Tryz.isAgg132
  z51 := Tryz.sizeOf132
  v51 := Tryz.zeroValue132
  t53 := Tryz.underlying134
  a53 := Tryz.isAgg134
  z53 := Tryz.sizeOf134
  v53 := Tryz.zeroValue134
  t131 := Tryz.underlying67
  a131 := Tryz.isAgg67
  z131 := Tryz.sizeOf67
  v131 := Tryz.zeroValue67
  t182 := Tryz.underlying125
  a182 := Tryz.isAgg125
  z182 := Tryz.sizeOf125
  v182 := Tryz.zeroValue125
  t183 := Tryz.underlying126
  a183 := Tryz.isAgg126
  z183 := Tryz.sizeOf126
  v183 := Tryz.zeroValue126
  t218 := Tryz.underlying141
  a218 := Tryz.isAgg141
  z218 := Tryz.sizeOf141
  v218 := Tryz.zeroValue141
  t222 := Tryz.underlying145
  a222 := Tryz.isAgg145
  z222 := Tryz.sizeOf145
  v222 := Tryz.zeroValue145
  t228 := Tryz.underlying150
  a228 := Tryz.isAgg150
  z228 := Tryz.sizeOf150
  v228 := Tryz.zeroValue150
  t229 := Tryz.underlying151
  a229 := Tryz.isAgg151
  z229 := Tryz.sizeOf151
  v229 := Tryz.zeroValue151 }
theorem sortC : SortC Tryz.prog F_Sort :=
  ⟨fun blk off cap zs w h1 h2 h3 => Any.slices_Sort_int sort_lays blk off cap zs w h1 h2 h3, fun p cap w => Any.slices_Sort_int_none sort_lays p cap w⟩
theorem sortX : ∃ fn, Tryz.prog.funcs[F_Sort]? = some fn ∧ (fn.name == "runtime.NumGoroutine") = false ∧ fn.body.isSome = true :=
  ⟨Tryz.f85, Tryz.func85, by decide, rfl⟩
end Go.Gh
namespace Go.Gh
open Go.RowKit Go.Proofs
set_option linter.unusedVariables false
set_option linter.unusedSimpArgs false
set_option maxRecDepth 100000
def sortZ (l : List Int) : List Int := l.mergeSort fun x y => decide (x ≤ y)
/-- The numbers of a quantifier in blocks. -/
def qB (p : List Blk) (ex : Bool) : List Int := flatB (p.filter fun b => b.1 == ex)
theorem qB_le (p : List Blk) (ex : Bool) : (qB p ex).length ≤ (flatB p).length := by
  unfold qB
  induction p with
  | nil => simp
  | cons b p ih =>
    rw [List.filter_cons]
    split <;> simp <;> omega
theorem qB_push {p : List Blk} {i : Nat} {b : Blk} {ex : Bool} (h : p[i]? = some b) : qB (p.take (i + 1)) ex = qB (p.take i) ex ++ if b.1 == ex then b.2 else [] := by
  unfold qB
  rw [take_get h, List.filter_append, flatB_append]
  congr 1
  rw [List.filter_cons]
  split <;> simp
theorem p_before_ok {p : List Blk} {ex : Bool} {σ : GS} {Post : DV → GS → Prop} (hp : lensB p < 2 ^ 40) (h : Post (fints (sortZ (qB p ex))) σ) : GCall Tryz.prog F_prefix_before [fblks p, .bool ex] σ Post := by
  have hlb := lensB_flat p
  refine GCall.pure (r := fints (sortZ (qB p ex))) ?_ (by simp) h
  refine gc_prefix_before ?_
  simp [G_prefix_before, genv0, List.replicate]
  refine gfor p.length (fun i e σ' => Fr σ.length σ σ' ∧ ∃ s, Own σ.length 1 eint σ' s (qB (p.take i) ex) ∧ e = mkEnv 25 [(1, .bool ex), (4, s), (7, fblks p), (8, .int .i64 p.length), (9, .int .i64 i)]) _ ?_ ⟨.rfl', .nils, by simpa [qB] using Own.nil, rfl⟩ ?_
  · simp [mkEnv, List.replicate]
  rintro i _ σ1 hi ⟨hF, s, hO, rfl⟩
  simp [mkEnv, List.replicate]
  by_cases hlt : i < p.length
  · obtain ⟨b, hb⟩ := nth_lt hlt
    have hb' := nth_get hb
    have hpush := qB_push (ex := ex) hb'
    have es : IntKind.i64.wrap ((i : Int) + 1) = (i : Int) + 1 := by rw [wrap_small] <;> omega
    have hle1 : (qB (p.take (i + 1)) ex).length ≤ (flatB p).length := by
      refine Nat.le_trans (qB_le _ _) ?_
      have : flatB p = flatB (p.take (i + 1)) ++ flatB (p.drop (i + 1)) := by rw [← flatB_append, List.take_append_drop]
      rw [this]; simp
    by_cases c : b.1 = ex
    · have c2 : (b.1 == ex) = true := by simpa using c
      have hge := hF.len
      rw [c2, if_pos rfl] at hpush
      rw [hpush, List.length_append] at hle1
      obtain ⟨s', σ2, q1, q2, q3, q4, q5, q6, q7⟩ := (hO.fr (Fr.rfl'.app [.row false (eblk b)])).append (by_ := 8) (x := fints b.2) (ys := b.2) (fun _ => rfl) (by simpa [flatMap_flatten] using gread_fsl (σ := σ1 ++ [.row false (eblk b)]) (sz := 1) (es := b.2.map eint)) (by simp [glen]) (by simp) (by simp; omega) (by omega) (by decide)
      simp [hlt, hb, c2, q1, es]
      refine forK_go _ hlt (by simp [mkEnv, List.replicate]) ⟨(hF.app _).trans q3, s', by rw [hpush]; exact q2, rfl⟩
    · have c2 : (b.1 == ex) = false := by simpa using c
      rw [c2, if_neg (by simp), List.append_nil] at hpush
      simp [hlt, hb, c2, es]
      exact forK_go _ hlt (by simp [mkEnv, List.replicate]) ⟨hF.app _, s, by rw [hpush]; exact hO.fr (Fr.rfl'.app _), rfl⟩
  · have : i = p.length := by omega
    subst this
    rw [List.take_length] at hO
    have hql := qB_le p ex
    simp
    refine (Own.sort (f := F_Sort) sortC sortX (n := σ.length) hO (by omega) hF.len).mono ?_
    rintro v σ2 ⟨rfl, hO2, hF2, _, _⟩
    simp
    exact ⟨hF.trans hF2, hO2.rd (fun _ => rfl) fun i hi => .inl hi⟩
theorem lensB_take (p : List Blk) (k : Nat) : lensB (p.take k) ≤ lensB p := by
  have : lensB p = lensB (p.take k) + lensB (p.drop k) := by rw [← lensB_append, List.take_append_drop]
  omega
end Go.Gh
namespace Go.Gh
open Go.RowKit Go.Proofs
set_option linter.unusedVariables false
set_option linter.unusedSimpArgs false
set_option maxRecDepth 100000
theorem bs2_agg {x y : DV} {z : List DV} (hz : z.length = 2) : galloc (.bslice 2 z 1 [(0, 2)]) [.agg [x, y]] = some (.row false [x, y], fun id => .slice id 0 1 2 (some 1)) := ga_b1_agg rfl hz
theorem p_joined_ok {p : List Blk} {σ : GS} {Post : DV → GS → Prop} (hp : lensB p < 2 ^ 40) (k : ∀ s σ', Jn σ.length σ' s (joinB p) → Fr σ.length σ σ' → Post s σ') : GCall Tryz.prog F_prefix_joined [fblks p] σ Post := by
  have hlb := lensB_flat p
  refine gc_prefix_joined ?_
  simp [G_prefix_joined, genv0, List.replicate]
  refine gfor p.length (fun i e σ' => Fr σ.length σ σ' ∧ ∃ s, Jn σ.length σ' s (joinB (p.take i)) ∧ e = mkEnv 56 [(2, s), (6, fblks p), (7, .int .i64 p.length), (8, .int .i64 i)]) _ ?_ ⟨.rfl', .nils, by simpa [joinB] using Jn.nil, rfl⟩ ?_
  · simp [mkEnv, List.replicate]
  rintro i _ σ1 hi ⟨hF, s, hJ, rfl⟩
  simp [mkEnv, List.replicate]
  by_cases hlt : i < p.length
  rotate_left
  · have : i = p.length := by omega
    subst this
    rw [List.take_length] at hJ
    simp
    exact k _ _ hJ hF
  obtain ⟨b, hb⟩ := nth_lt hlt
  have hb' := nth_get hb
  have hpush := joinB_push hb'
  have es : IntKind.i64.wrap ((i : Int) + 1) = (i : Int) + 1 := by rw [wrap_small] <;> omega
  have hge := hF.len
  have hbm := lensB_mem (List.mem_of_getElem? hb')
  have hjl : lensB (joinB (p.take i)) ≤ lensB p := Nat.le_trans (joinB_lens _) (lensB_take p i)
  have hjn : (joinB (p.take i)).length ≤ lensB (joinB (p.take i)) := by unfold lensB; omega
  obtain ⟨out, hout⟩ : ∃ out, joinB (p.take i) = out := ⟨_, rfl⟩
  rw [hout] at hpush hJ hjl hjn
  by_cases h0 : b.2 = []
  · have hst : joinStep out b = out := by unfold joinStep; rw [if_pos h0]
    simp [hlt, hb, hJ.glen, h0, es]
    exact forK_go _ hlt (by simp [mkEnv, List.replicate]) ⟨hF.app _, s, by rw [hpush, hst]; exact hJ.fr (Fr.rfl'.app _), rfl⟩
  have hJ1 := hJ.fr (Fr.rfl'.app [.row false (eblk b)])
  obtain ⟨raws, hR⟩ := hJ1
  -- a block more
  have hnew : ∀ (K : DV → GS → Prop), (∀ s' σ', Jn σ.length σ' s' (out ++ [b]) → Fr σ.length σ σ' → K s' σ') → ∀ t σ2, Own σ.length 1 eint σ2 t b.2 → Fr (σ1.length + 1) (σ1 ++ [.row false (eblk b)]) σ2 → (∀ k, t.has k → σ1.length + 1 ≤ k) → ∃ s' σ3, gimp (.append 2 32) [s, .slice σ2.length 0 1 2 (some 1)] (σ2 ++ [.row false [.bool b.1, t]]) = some (s', σ3) ∧ K s' σ3 := by
    intro K hK t σ2 ht hF2 hth
    have hR2 : JnR σ.length σ2 s raws out := hR.fr (by simpa using hF2)
    have hle2 := hF2.len
    have hdom : ∀ k, s.has k → k < σ1.length + 1 := fun k hk => by have := hR.own.has_lt hk; simpa using this
    obtain ⟨s', σ3, q1, q2, q3, q4⟩ := hR2.push (e := b.1) ht (fun k hk hk' => by have := hdom k hk'; have := hth k hk; omega) (fun j r hr k hk hk' => by
      have hjd := get_dom hr
      obtain ⟨c, hc⟩ := get_lt (xs := out) (i := j) (by rw [← hR.len]; exact hjd)
      have := (hR.at_ j r c hr hc).2.1.has_lt hk
      have := hth k hk'
      simp at *; omega) (by omega) (by omega)
    exact ⟨s', σ3, q1, hK _ _ ⟨_, q2⟩ ((hF.app [.row false (eblk b)]).trans ((hF2.mono (by omega)).trans q3))⟩
  cases hm : out.length with
  | zero =>
    have hon : out = [] := List.length_eq_zero_iff.1 hm
    have hst : joinStep out b = out ++ [b] := by unfold joinStep; rw [if_neg h0, hon]; rfl
    simp [hlt, hb, hJ.glen, h0, hm, show IntKind.i64.wrap (-1) = -1 by decide]
    refine clone_frz (n := σ.length) (xs := b.2) (by omega) (by simp; omega) fun t σ2 hO hF2 hhas hcap => ?_
    have hrow2 : σ2[σ1.length]? = some (.row false (eblk b)) := by rw [hF2.get _ (by simp)]; simp
    obtain ⟨s', σ3, q1, q2⟩ := hnew (fun s' σ' => Jn σ.length σ' s' (out ++ [b]) ∧ Fr σ.length σ σ') (fun s' σ' h1 h2 => ⟨h1, h2⟩) t σ2 hO (by simpa using hF2) (by simpa using hhas)
    simp [fill_flat2, hO.flat, bs2_agg, q1, es]
    refine ⟨by rw [ld_at hrow2]; rfl, ?_⟩
    exact forK_go _ hlt (by simp [mkEnv, List.replicate]) ⟨q2.2, s', by rw [hpush, hst]; exact q2.1, rfl⟩
  | succ m =>
    obtain ⟨c, hc⟩ := get_lt (xs := out) (i := m) (by omega)
    obtain ⟨r, hr, r1, r2, r3⟩ := hR.get hc
    have ew : IntKind.i64.wrap (m : Int) = m := by rw [wrap_small] <;> omega
    obtain ⟨id, g1, g2, g3, g4⟩ := hR.own.get (fun _ => rfl) hr (k := .i64)
    have g40 := g4 0 (by omega)
    have g41 := g4 1 (by omega)
    simp at g40 g41
    by_cases hq : c.1 = b.1
    · have hst : joinStep out b = out.set m (c.1, c.2 ++ b.2) := by unfold joinStep; rw [if_neg h0, hm, Nat.add_sub_cancel, hc]; simp [hq]
      have hq2 : (r.1 == b.1) = true := by rw [r1]; simpa using hq
      have hcm := lensB_mem (List.mem_of_getElem? hc)
      obtain ⟨σ2, hσ2⟩ : ∃ σ2, σ1 ++ [GObj.row false (eblk b)] = σ2 := ⟨_, rfl⟩
      have hl2 : σ2.length = σ1.length + 1 := by rw [← hσ2]; simp
      have l41 : gload (.load 1 false) [.ptr σ1.length 1] σ2 = some (fints b.2) := by rw [← hσ2]; simp
      have l40 : gload (.load 1 false) [.ptr σ1.length 0] σ2 = some (.bool b.1) := by rw [← hσ2]; simp
      rw [hσ2] at hR r2 g3 g40 g41
      obtain ⟨t, σ3, q1, q2, q3, q4, q5, q6, q7⟩ := r2.append (by_ := 8) (x := fints b.2) (ys := b.2) (fun _ => rfl) (by simpa [flatMap_flatten] using gread_fsl (σ := σ2) (sz := 1) (es := b.2.map eint)) (by simp [glen]) (by simp) (by omega) (by omega) (by decide)
      obtain ⟨id', σ4, z1, z2, z3, z4, z5⟩ := hR.grow hr hc q2 q5 q6
      rw [g2] at z1
      cases z1
      simp [hlt, hb, hJ.glen, h0, hm, ew, g2, g40, hq2, hσ2, l41, l40, g41, q1, z2, es]
      have hle3 := q3.len
      exact forK_go _ hlt (by simp [mkEnv, List.replicate]) ⟨((hF.app [GObj.row false (eblk b)]).trans (by rw [hσ2]; exact q3)).trans (z4 (by omega)), s, by rw [hpush, hst]; exact ⟨_, z3⟩, rfl⟩
    · have hst : joinStep out b = out ++ [b] := by unfold joinStep; rw [if_neg h0, hm, Nat.add_sub_cancel, hc]; simp [hq]
      have hq2 : (r.1 == b.1) = false := by rw [r1]; simpa using hq
      simp [hlt, hb, hJ.glen, h0, hm, ew, g2, g40, hq2]
      refine clone_frz (n := σ.length) (xs := b.2) (by omega) (by simp; omega) fun t σ2 hO hF2 hhas hcap => ?_
      have hrow2 : σ2[σ1.length]? = some (.row false (eblk b)) := by rw [hF2.get _ (by simp)]; simp
      obtain ⟨s', σ3, q1, q2⟩ := hnew (fun s' σ' => Jn σ.length σ' s' (out ++ [b]) ∧ Fr σ.length σ σ') (fun s' σ' h1 h2 => ⟨h1, h2⟩) t σ2 hO (by simpa using hF2) (by simpa using hhas)
      simp [fill_flat2, hO.flat, bs2_agg, q1, es]
      refine ⟨by rw [ld_at hrow2]; rfl, ?_⟩
      exact forK_go _ hlt (by simp [mkEnv, List.replicate]) ⟨q2.2, s', by rw [hpush, hst]; exact q2.1, rfl⟩
end Go.Gh
namespace Go.Gh
open Go.RowKit Go.Proofs
set_option linter.unusedVariables false
set_option linter.unusedSimpArgs false
set_option maxRecDepth 100000
end Go.Gh
namespace Go.Gh
open Go.RowKit
set_option linter.unusedVariables false
set_option linter.unusedSimpArgs false
theorem singleS_nodup : ∀ {l seen : List Int}, singleS seen l = true → l.Nodup ∧ ∀ x ∈ l, x ∉ seen
  | [], seen, _ => ⟨List.nodup_nil, fun x h => by cases h⟩
  | y :: l, seen, h => by
    rw [singleS, Bool.and_eq_true, Bool.and_eq_true] at h
    obtain ⟨⟨h1, h2⟩, h3⟩ := h
    obtain ⟨i1, i2⟩ := singleS_nodup h3
    have h2' : y ∉ seen := by simpa using h2
    refine ⟨List.nodup_cons.2 ⟨fun hy => i2 y hy (by simp), i1⟩, fun x hx => ?_⟩
    rcases List.mem_cons.1 hx with rfl | hx
    · exact h2'
    · exact fun hs => i2 x hx (by simp [hs])
theorem sortZ_mem {l : List Int} {v : Int} : v ∈ sortZ l ↔ v ∈ l := List.mem_mergeSort
theorem flatB_take_le (p : List Blk) (k : Nat) : (flatB (p.take k)).length ≤ (flatB p).length := by
  have : flatB p = flatB (p.take k) ++ flatB (p.drop k) := by rw [← flatB_append, List.take_append_drop]
  rw [this]; simp
end Go.Gh
namespace Go.Gh
open Go.RowKit
set_option linter.unusedVariables false
set_option linter.unusedSimpArgs false
theorem ascEq : ∀ {a b : List Int}, a.Pairwise (· < ·) → b.Pairwise (· < ·) → (∀ x, x ∈ a ↔ x ∈ b) → a = b
  | [], [], _, _, _ => rfl
  | [], y :: b, _, _, h => by have := (h y).2 (by simp); simp at this
  | x :: a, [], _, _, h => by have := (h x).1 (by simp); simp at this
  | x :: a, y :: b, ha, hb, h => by
    have ha1 := (List.pairwise_cons.1 ha).1
    have hb1 := (List.pairwise_cons.1 hb).1
    have hxy : x = y := by
      rcases List.mem_cons.1 ((h x).1 (by simp)) with e | e
      · exact e
      · rcases List.mem_cons.1 ((h y).2 (by simp)) with e' | e'
        · exact e'.symm
        · have := hb1 x e; have := ha1 y e'; omega
    subst hxy
    congr 1
    refine ascEq (List.pairwise_cons.1 ha).2 (List.pairwise_cons.1 hb).2 fun z => ⟨fun hz => ?_, fun hz => ?_⟩
    · rcases List.mem_cons.1 ((h z).1 (List.mem_cons_of_mem _ hz)) with e | e
      · have := ha1 z hz; omega
      · exact e
    · rcases List.mem_cons.1 ((h z).2 (List.mem_cons_of_mem _ hz)) with e | e
      · have := hb1 z hz; omega
      · exact e
theorem le_lt : ∀ {l : List Int}, l.Pairwise (· ≤ ·) → l.Nodup → l.Pairwise (· < ·)
  | [], _, _ => .nil
  | x :: l, h, hn => by
    have h1 := List.pairwise_cons.1 h
    have h2 := List.nodup_cons.1 hn
    refine List.pairwise_cons.2 ⟨fun z hz => ?_, le_lt h1.2 h2.2⟩
    have := h1.1 z hz
    have : z ≠ x := fun e => h2.1 (by rw [← e]; exact hz)
    omega
theorem sortZ_asc {l : List Int} (h : l.Nodup) : (sortZ l).Pairwise (· < ·) := by
  refine le_lt ?_ ((List.mergeSort_perm _ _).nodup_iff.2 h)
  have := List.pairwise_mergeSort (le := fun x y : Int => decide (x ≤ y)) (fun a b c h1 h2 => by simp at *; omega) (fun a b => by simp; omega) l
  exact this.imp fun h => by simpa using h
end Go.Gh
namespace Go.Gh
open Go.RowKit Go.Proofs
set_option linter.unusedVariables false
set_option linter.unusedSimpArgs false
set_option maxRecDepth 100000
theorem p_rises_ok {l : List Int} {σ : GS} {Post : DV → GS → Prop} (hl : l.length < 2 ^ 50) (h : Post (.bool (riseS 0 l)) σ) : GCall Tryz.prog F_prefix_rises [fints l] σ Post := by
  refine gc_prefix_rises ?_
  simp [G_prefix_rises, genv0, List.replicate]
  refine gfor l.length (fun i e σ' => σ' = σ ∧ (∃ last, riseS 0 l = riseS last (l.drop i) ∧ (i = 0 → last = 0) ∧ ∀ j, j + 1 = i → ∃ y, l[j]? = some y ∧ last = y) ∧ e = mkEnv 32 [(0, fints l), (5, fints l), (6, .int .i64 l.length), (7, .int .i64 i)]) _ ?_ ⟨rfl, ⟨0, by simp, fun _ => rfl, fun j h => by omega⟩, rfl⟩ ?_
  · simp [mkEnv, List.replicate]
  rintro i _ σ hi ⟨rfl, ⟨last, hI, hl0, hl1⟩, rfl⟩
  simp [mkEnv, List.replicate]
  by_cases hlt : i < l.length
  · obtain ⟨y, hy⟩ := nth_lt hlt
    have hy' := nth_get hy
    rw [drop_get hy', riseS] at hI
    have es : IntKind.i64.wrap ((i : Int) + 1) = (i : Int) + 1 := by rw [wrap_small] <;> omega
    by_cases a1 : y < 1
    · have hn : riseS 0 l = false := by rw [hI]; simp [isVar, show ¬ (1 ≤ y) by omega]
      rw [hn] at h
      simp [hlt, hy, a1]
      exact h
    by_cases a3 : 65536 < y
    · have hn : riseS 0 l = false := by rw [hI]; simp [isVar, show ¬ (y ≤ 65536) by omega]
      rw [hn] at h
      simp [hlt, hy, a1, a3]
      exact h
    have hok : isVar y = true := by simp [isVar]; omega
    simp [hlt, hy, a1, a3]
    cases i with
    | zero =>
      have := hl0 rfl
      subst this
      simp [es]
      refine forK_go _ hlt (by simp [mkEnv, List.replicate]) ⟨rfl, ⟨y, by rw [hI]; simp [hok, show 0 < y by omega], fun e => by omega, fun j hj => ?_⟩, rfl⟩
      have : j = 0 := by omega
      subst this; exact ⟨y, hy', rfl⟩
    | succ i =>
      obtain ⟨z, hz, hlz⟩ := hl1 i rfl
      have hz' : nth l i = some z := hz
      have hge : (0 : Int) ≤ (i : Int) + 1 := by omega
      have hgt : (0 : Int) < (i : Int) + 1 := by omega
      have htn : ((i : Int) + 1).toNat = i + 1 := by omega
      have ew' : IntKind.i64.wrap (i : Int) = i := by rw [wrap_small] <;> omega
      have es2 : IntKind.i64.wrap ((i : Int) + 1 + 1) = (i : Int) + 1 + 1 := by rw [wrap_small] <;> omega
      simp [hge, hgt, htn, hy, ew', hz']
      by_cases h4 : y ≤ z
      · have hn : riseS 0 l = false := by rw [hI]; simp [show ¬ (last < y) by omega]
        rw [hn] at h
        simp [h4]
        exact h
      · simp [h4, es2]
        refine forK_go _ hlt (by simp [mkEnv, List.replicate]) ⟨rfl, ⟨y, by rw [hI]; simp [hok, show last < y by omega], fun e => by omega, fun j hj => ?_⟩, rfl⟩
        have : j = i + 1 := by omega
        subst this; exact ⟨y, hy', rfl⟩
  · have : i = l.length := by omega
    subst this
    rw [List.drop_length] at hI
    have hn : riseS 0 l = true := hI
    rw [hn] at h
    simp
    exact h
theorem r_Rises_ok {l : List Int} {σ : GS} {Post : DV → GS → Prop} (hl : l.length < 2 ^ 50) (h : Post (.bool (riseS 0 l)) σ) : GCall Tryz.prog F_skolemref03_Rises [fints l] σ Post := by
  refine gc_skolemref03_Rises ?_
  simp [G_skolemref03_Rises, genv0, List.replicate]
  refine gfor l.length (fun i e σ' => σ' = σ ∧ (∃ last, riseS 0 l = riseS last (l.drop i) ∧ (i = 0 → last = 0) ∧ ∀ j, j + 1 = i → ∃ y, l[j]? = some y ∧ last = y) ∧ e = mkEnv 38 [(0, fints l), (3, .int .i64 i)]) _ ?_ ⟨rfl, ⟨0, by simp, fun _ => rfl, fun j h => by omega⟩, rfl⟩ ?_
  · simp [mkEnv, List.replicate]
  rintro i _ σ hi ⟨rfl, ⟨last, hI, hl0, hl1⟩, rfl⟩
  simp [mkEnv, List.replicate]
  by_cases hlt : i < l.length
  · obtain ⟨y, hy⟩ := nth_lt hlt
    have hy' := nth_get hy
    rw [drop_get hy', riseS] at hI
    have es : IntKind.i64.wrap ((i : Int) + 1) = (i : Int) + 1 := by rw [wrap_small] <;> omega
    by_cases a1 : y < 1
    · have hn : riseS 0 l = false := by rw [hI]; simp [isVar, show ¬ (1 ≤ y) by omega]
      rw [hn] at h
      simp [hlt, hy, a1]
      exact h
    by_cases a3 : 65536 < y
    · have hn : riseS 0 l = false := by rw [hI]; simp [isVar, show ¬ (y ≤ 65536) by omega]
      rw [hn] at h
      simp [hlt, hy, a1, a3]
      exact h
    have hok : isVar y = true := by simp [isVar]; omega
    simp [hlt, hy, a1, a3]
    cases i with
    | zero =>
      have := hl0 rfl
      subst this
      simp [es]
      refine forK_go _ hlt (by simp [mkEnv, List.replicate]) ⟨rfl, ⟨y, by rw [hI]; simp [hok, show 0 < y by omega], fun e => by omega, fun j hj => ?_⟩, rfl⟩
      have : j = 0 := by omega
      subst this; exact ⟨y, hy', rfl⟩
    | succ i =>
      obtain ⟨z, hz, hlz⟩ := hl1 i rfl
      have hz' : nth l i = some z := hz
      have hge : (0 : Int) ≤ (i : Int) + 1 := by omega
      have hgt : (0 : Int) < (i : Int) + 1 := by omega
      have htn : ((i : Int) + 1).toNat = i + 1 := by omega
      have ew' : IntKind.i64.wrap (i : Int) = i := by rw [wrap_small] <;> omega
      have es2 : IntKind.i64.wrap ((i : Int) + 1 + 1) = (i : Int) + 1 + 1 := by rw [wrap_small] <;> omega
      simp [hge, hgt, htn, hy, ew', hz']
      by_cases h4 : y ≤ z
      · have hn : riseS 0 l = false := by rw [hI]; simp [show ¬ (last < y) by omega]
        rw [hn] at h
        simp [h4]
        exact h
      · simp [h4, es2]
        refine forK_go _ hlt (by simp [mkEnv, List.replicate]) ⟨rfl, ⟨y, by rw [hI]; simp [hok, show last < y by omega], fun e => by omega, fun j hj => ?_⟩, rfl⟩
        have : j = i + 1 := by omega
        subst this; exact ⟨y, hy', rfl⟩
  · have : i = l.length := by omega
    subst this
    rw [List.drop_length] at hI
    have hn : riseS 0 l = true := hI
    rw [hn] at h
    simp
    exact h
theorem r_Part_ok {a b : List Int} {σ : GS} {Post : DV → GS → Prop} (ha : a.length < 2 ^ 50) (hb : b.length < 2 ^ 50) (h : Post (.bool (a.all fun v => b.contains v)) σ) : GCall Tryz.prog F_skolemref03_Part [fints a, fints b] σ Post := by
  refine gc_skolemref03_Part ?_
  simp [G_skolemref03_Part, genv0, List.replicate]
  refine gfor a.length (fun i e σ' => σ' = σ ∧ (a.all fun v => b.contains v) = ((a.drop i).all fun v => b.contains v) ∧ e = mkEnv 19 [(0, fints a), (1, fints b), (5, .int .i64 i)]) _ ?_ ⟨rfl, by simp, rfl⟩ ?_
  · simp [mkEnv, List.replicate]
  rintro i _ σ hi ⟨rfl, hI, rfl⟩
  simp [mkEnv, List.replicate]
  by_cases hlt : i < a.length
  · obtain ⟨y, hy⟩ := nth_lt hlt
    rw [drop_get hy, List.all_cons] at hI
    have es : IntKind.i64.wrap ((i : Int) + 1) = (i : Int) + 1 := by rw [wrap_small] <;> omega
    simp [hlt, hy]
    refine r_Has_ok (by omega) ?_
    cases c : b.contains y with
    | false =>
      rw [c] at hI
      rw [hI] at h
      simp
      simpa using h
    | true =>
      simp [es]
      exact forK_go _ hlt (by simp [mkEnv, List.replicate]) ⟨rfl, by rw [hI, c]; simp, rfl⟩
  · have : i = a.length := by omega
    subst this
    rw [List.drop_length] at hI
    rw [hI] at h
    simp
    simpa using h
theorem r_within_ok {l : List (List Int)} {vars : List Int} {σ : GS} {Post : DV → GS → Prop} (hl : lensC l < 2 ^ 40) (hv : vars.length < 2 ^ 50) (hw : WfC l) (h : Post (.bool (withinB l vars)) σ) : GCall Tryz.prog F_skolemref03_within [fcls l, fints vars] σ Post := by
  have hll := sumL_lens l
  refine gc_skolemref03_within ?_
  simp [G_skolemref03_within, genv0, List.replicate]
  refine gfor l.length (fun i e σ' => σ' = σ ∧ withinB l vars = withinB (l.drop i) vars ∧ e = mkEnv 33 [(0, fcls l), (1, fints vars), (5, .int .i64 i)]) _ ?_ ⟨rfl, by simp, rfl⟩ ?_
  · simp [mkEnv, List.replicate]
  rintro i _ σ hi ⟨rfl, hI, rfl⟩
  simp [mkEnv, List.replicate]
  by_cases hlt : i < l.length
  rotate_left
  · have : i = l.length := by omega
    subst this
    rw [List.drop_length] at hI
    rw [hI] at h
    simp
    exact h
  obtain ⟨c, hc⟩ := nth_lt hlt
  have hc' := nth_get hc
  have hcm := List.mem_of_getElem? hc'
  have hcl := lensC_mem hcm
  unfold withinB at hI
  rw [drop_get hc', List.all_cons] at hI
  have es : IntKind.i64.wrap ((i : Int) + 1) = (i : Int) + 1 := by rw [wrap_small] <;> omega
  simp [hlt]
  refine gfor c.length (fun j e σ' => σ' = σ ∧ (c.all fun x => vars.contains (absW x)) = ((c.drop j).all fun x => vars.contains (absW x)) ∧ e = mkEnv 33 [(0, fcls l), (1, fints vars), (5, .int .i64 i), (6, .int .i64 j)]) _ ?_ ⟨rfl, by simp, rfl⟩ ?_
  · simp [mkEnv, List.replicate]
  rintro j _ σ hj ⟨rfl, hJ, rfl⟩
  simp [mkEnv, List.replicate, hc]
  by_cases hjl : j < c.length
  rotate_left
  · have : j = c.length := by omega
    subst this
    rw [List.drop_length] at hJ
    simp [es]
    exact forK_go _ hlt (by simp [mkEnv, List.replicate]) ⟨rfl, by unfold withinB; rw [hI, hJ]; simp, rfl⟩
  obtain ⟨y, hy⟩ := nth_lt hjl
  have hy' := nth_get hy
  have hyw := hw c hcm y (List.mem_of_getElem? hy')
  rw [drop_get hy', List.all_cons] at hJ
  have es3 : IntKind.i64.wrap ((j : Int) + 1) = (j : Int) + 1 := by rw [wrap_small] <;> omega
  simp [hjl, hy, hc]
  refine r_Abs_ok ?_
  rw [absW_eq hyw]
  simp
  refine r_Has_ok (by omega) ?_
  cases hg : vars.contains (absW y) with
  | false =>
    have hbad : withinB l vars = false := by unfold withinB; rw [hI, hJ, hg]; simp
    rw [hbad] at h
    simp
    exact h
  | true =>
    simp [es3]
    exact forK_go _ hjl (by simp [mkEnv, List.replicate]) ⟨rfl, by rw [hJ, hg]; simp, rfl⟩
end Go.Gh
namespace Go.Gh
open Go.RowKit Go.Proofs
set_option linter.unusedVariables false
set_option linter.unusedSimpArgs false
set_option maxRecDepth 100000
theorem p_hasP_ok {id : Nat} {σ : GS} {Post : DV → GS → Prop} (k : Post (.func F_prefix_has_prefix_place_1 [] [.ptr σ.length 0]) (σ ++ [.row false [.map id]])) : GCall Tryz.prog F_prefix_has_prefix_place [.map id] σ Post := by
  refine gc_prefix_has_prefix_place ?_
  simp [G_prefix_has_prefix_place, genv0, List.replicate]
  exact k
theorem p_hasP1_ok {p : List Blk} {E : List (Int × DV)} {id bx : Nat} {v : Int} {σ : GS} {Post : DV → GS → Prop} (hE : PlaceE p E) (hM : MpO kint σ id E) (hb : σ[bx]? = some (.row false [.map id])) (k : Post (.bool ((flatB p).contains v)) σ) : GCall Tryz.prog F_prefix_has_prefix_place_1 [.int .i64 v, .ptr bx 0] σ Post := by
  refine GCall.say (r := .bool ((flatB p).contains v)) ?_ rfl k
  refine gc_prefix_has_prefix_place_1 ?_
  have l1 : gload (.load 1 false) [.ptr bx 0] σ = some (.map id) := by rw [ld_at hb]; rfl
  rw [← findO_flat (k := 0)]
  simp [G_prefix_has_prefix_place_1, genv0, List.replicate, l1, place_lookup hE hM]
  cases findO 0 p v with
  | none => simp
  | some y => simp [placeV]
theorem p_MayQbf_ok {q : QbfP} {σ : GS} {Post : DV → GS → Prop} (hp : lensB q.pre < 2 ^ 40) (hc : lensC q.cls < 2 ^ 40) (h : Post (.bool (mayQ q)) σ) : GCall Tryz.prog F_prefix_MayQbf [q.enc] σ Post := by
  refine GCall.say (r := .bool (mayQ q)) ?_ rfl h
  refine gc_prefix_MayQbf ?_
  simp [G_prefix_MayQbf, genv0, List.replicate]
  refine p_May_ok hp ?_
  cases hm : mayB q.pre with
  | false => simp [mayQ, hm]
  | true =>
    simp
    refine p_places_ok hp fun E σ1 hE _ hM hF => ?_
    have hbx : σ1[σ.length]? = some (.row false (eqbf q)) := by rw [hF.get _ (by simp)]; simp
    have hge := hF.len
    simp at hge hM
    simp
    refine ⟨by rw [ld_at hbx]; rfl, ?_⟩
    refine p_hasP_ok ?_
    simp
    refine ⟨by rw [ld_app (by omega), ld_at hbx], ?_⟩
    have hM1 : MpO kint (σ1 ++ [.row false [.map (σ.length + 1 + 1)]]) (σ.length + 1 + 1) E := hM.fit (by rw [List.getElem?_append_left hM.dom])
    refine p_cnf_ok (pre := []) (g := fun v => (flatB q.pre).contains v) hc (fun x K hK => ?_) ?_
    · refine p_hasP1_ok hE hM1 (by simp) ?_
      simpa using hK
    · have hv : cnfG (fun v => (flatB q.pre).contains v) q.cls = mayQ q := by rw [cnfG_eq]; unfold mayQ withinB; rw [hm]; simp
      simp
      exact ⟨(Fr.rfl'.app _).trans ((hF.mono (by simp)).app _), by simpa using hv⟩
end Go.Gh
namespace Go.Gh
open Go.RowKit Go.Proofs
set_option linter.unusedVariables false
set_option linter.unusedSimpArgs false
set_option maxRecDepth 100000
/-- A cell of a live row is written. -/
theorem st_cell {σ : GS} {id k : Nat} {cs : List DV} {v : DV} (h : σ[id]? = some (.row false cs)) (hk : k < cs.length) (hv : v.flat = true) : gimp (.store 1) [.ptr id k, v] σ = some (.tuple [], σ.set id (.row false (cs.set k v))) := by
  simp only [gimp, h, cells_of_flat hv]
  rw [if_pos ⟨rfl, by show k + 1 ≤ cs.length; omega, by simp [hv]⟩, over_one hk]
theorem p_joinedF_ok {p : List Blk} {σ : GS} {Post : DV → GS → Prop} (hp : lensB p < 2 ^ 40) (h : Post (fblks (joinB p)) σ) : GCall Tryz.prog F_prefix_joined [fblks p] σ Post :=
  GCall.pure (p_joined_ok hp fun s σ' hJ hF => ⟨hF, hJ.rd fun i hi => .inl hi⟩) (by simp) h
theorem Rd.frzAll {n : Nat} {σ : GS} {s r : DV} (h : Rd σ (fun i => n ≤ i) s r) : Rd (frz (fun i => decide (n ≤ i)) σ) (RO (frz (fun i => decide (n ≤ i)) σ)) s r := by
  refine Rd.mono (fun id ro cs hok hs => ?_) h
  have := frz_row (S := fun i => decide (n ≤ i)) hs (by simpa using hok)
  exact ⟨fun r2 c2 h2 => by rw [this] at h2; cases h2; rfl, true, this⟩
/-- A call with an object of which nobody writes a part any more. -/
theorem rd_call {P : Program} {f : FuncId} {n : Nat} {σ σ0 : GS} {s r : DV} {Post : DV → GS → Prop} (h : Rd σ (fun i => n ≤ i) s r) (hF : Fr n σ0 σ)
    (k : ∀ σ', Fr n σ0 σ' → Fr n σ σ' → GCall P f [r] σ' Post) : GCall P f [s] σ Post := by
  have hg : ∀ i, i < n → (frz (fun i => decide (n ≤ i)) σ)[i]? = σ[i]? := fun i hi => frz_off (by simpa using hi)
  have hl := hF.len
  exact GCall.frz (fun i => decide (n ≤ i)) (args' := [r]) (.cons h.frzAll .nil) (k _ ⟨by rw [frz_len]; exact hl, fun i hi => (hg i hi).trans (hF.get i hi)⟩ ⟨by rw [frz_len]; exact hl, hg⟩)
/-- A list that nobody writes, or none. -/
def FS (s : DV) (l : List Int) : Prop := s = fints l ∨ (s = .nils ∧ l = [])
theorem FS.len {s : DV} {l : List Int} (h : FS s l) : gpure .len [s] = some (.int .i64 l.length) := by
  rcases h with rfl | ⟨rfl, rfl⟩
  · simp
  · rfl
theorem FS.read {s : DV} {l : List Int} (h : FS s l) (σ : GS) : gread 1 s σ = some (l.flatMap eint) ∧ glen s = l.length := by
  rcases h with rfl | ⟨rfl, rfl⟩
  · exact ⟨by simp [gread, flatMap_flatten], by simp [glen]⟩
  · exact ⟨by simp [gread], rfl⟩
theorem FS.rd {s : DV} {l : List Int} (h : FS s l) {σ : GS} {ok : Nat → Prop} : Rd σ ok s (fints l) := by
  rcases h with rfl | ⟨rfl, rfl⟩
  · exact .same _
  · exact .nils 1
theorem FS.flat {s : DV} {l : List Int} (h : FS s l) : s.flat = true := by rcases h with rfl | ⟨rfl, rfl⟩ <;> rfl
theorem raw_rds {n : Nat} {σ : GS} {ok : Nat → Prop} : ∀ {raws : List (Bool × DV)} {bs : List Blk}, raws.length = bs.length → (∀ (i : Nat) r b, raws[i]? = some r → bs[i]? = some b → r.1 = b.1 ∧ Rd σ ok r.2 (fints b.2)) → Rds σ ok (raws.flatMap eraw) (bs.flatMap eblk)
  | [], [], _, _ => .nil
  | r :: raws, b :: bs, hl, h => by
    obtain ⟨h1, h2⟩ := h 0 r b rfl rfl
    have ih := raw_rds (n := n) (raws := raws) (bs := bs) (by simpa using hl) fun i r b h3 h4 => h (i + 1) r b (by simpa using h3) (by simpa using h4)
    rw [List.flatMap_cons, List.flatMap_cons]
    show Rds σ ok (.bool r.1 :: r.2 :: raws.flatMap eraw) (.bool b.1 :: fints b.2 :: bs.flatMap eblk)
    rw [h1]
    exact .cons (.same _) (.cons h2 ih)
  | [], _ :: _, hl, _ => by simp at hl
  | _ :: _, [], hl, _ => by simp at hl
theorem raw_rd {n : Nat} {σ : GS} {s : DV} {raws : List (Bool × DV)} {bs : List Blk} {ok : Nat → Prop} (h : Own n 2 eraw σ s raws) (hok : ∀ i, n ≤ i → ok i) (hlen : raws.length = bs.length) (hr : ∀ (i : Nat) r b, raws[i]? = some r → bs[i]? = some b → r.1 = b.1 ∧ Rd σ ok r.2 (fints b.2)) : Rd σ ok s (fblks bs) := by
  have hrds := raw_rds (n := n) hlen hr
  rcases h with ⟨rfl, hnil⟩ | ⟨id, cap, rest, h1, rfl, h3, h4⟩
  · have : bs = [] := List.length_eq_zero_iff.1 (by rw [← hlen, hnil]; rfl)
    subst this
    exact .nils 2
  · have hl : (raws.flatMap eraw ++ rest).length = raws.length * 2 + rest.length := by rw [List.length_append, flatMap_len (sz := 2) (fun _ => rfl)]
    have hf := flatMap_len (enc := eraw) (sz := 2) (fun _ => rfl) raws
    have := Rd.slice (σ := σ) (ok := ok) (id := id) (off := 0) (sz := 2) (cap := cap) (es := bs.map eblk) (hok id h1) h3 (by rw [hl, List.length_map, hlen]; omega) (fun e he => by obtain ⟨x, _, rfl⟩ := List.mem_map.1 he; rfl) (by
      simp only [List.drop_zero, List.length_map, flatMap_flatten]
      rw [← hlen, ← hf, List.take_left]
      exact hrds)
    rw [hlen]
    simpa using this
theorem st_two {σ : GS} {id : Nat} {a b x y : DV} (h : σ[id]? = some (.row false [a, b])) (hx : x.flat = true) (hy : y.flat = true) : gimp (.store 2) [.ptr id 0, .agg [x, y]] σ = some (.tuple [], σ.set id (.row false [x, y])) := by
  simp only [gimp, h, DV.cells]
  rw [if_pos ⟨rfl, by simp, by simp [hx, hy]⟩]
  rfl
theorem p_CloneF_ok {xs : List Int} {σ : GS} {Post : DV → GS → Prop} (hl : xs.length < 2 ^ 43) (h : Post (fints xs) σ) : GCall Tryz.prog F_slices_Clone_int_int [fints xs] σ Post :=
  GCall.pure (clone_frz (n := σ.length) hl (Nat.le_refl _) fun s' σ' hO hF _ _ => ⟨hF, hO.rd (fun _ => rfl) fun i hi => .inl hi⟩) (by simp) h
theorem mslice_nils {n : Nat} (h : n < 2 ^ 40) (k j : IntKind) : galloc (.mslice 1 24 [.nils]) [.int k (n : Int), .int j (n : Int)] = some (.row false (List.replicate n .nils), fun id => .slice id 0 n 1 (some n)) := by
  simp only [galloc]
  rw [if_pos (by omega)]
  simp [gzeros]
theorem p_copied_ok {l : List (List Int)} {σ : GS} {Post : DV → GS → Prop} (hl : lensC l < 2 ^ 40) (h : Post (fcls l) σ) : GCall Tryz.prog F_prefix_copied [fcls l] σ Post := by
  have hll : l.length ≤ lensC l := by unfold lensC; omega
  refine GCall.pure (r := fcls l) ?_ (by simp) h
  refine gc_prefix_copied ?_
  simp [G_prefix_copied, genv0, List.replicate, mslice_nils (show l.length < 2 ^ 40 by omega)]
  refine gfor l.length (fun i e σ' => Fr σ.length σ σ' ∧ σ'[σ.length]? = some (.row false ((l.take i).flatMap ecl ++ List.replicate (l.length - i) .nils)) ∧ e = mkEnv 23 [(3, .slice σ.length 0 l.length 1 (some l.length)), (9, fcls l), (10, .int .i64 l.length), (11, .int .i64 i)]) _ ?_ ⟨.app .rfl' _, by simp, rfl⟩ ?_
  · simp [mkEnv, List.replicate]
  rintro i _ σ1 hi ⟨hF, hr, rfl⟩
  simp [mkEnv, List.replicate]
  by_cases hlt : i < l.length
  · obtain ⟨c, hc⟩ := nth_lt hlt
    have hc' := nth_get hc
    have hcm := lensC_mem (List.mem_of_getElem? hc')
    have es : IntKind.i64.wrap ((i : Int) + 1) = (i : Int) + 1 := by rw [wrap_small] <;> omega
    have hia := iaddr_own (id := σ.length) (n := l.length) (sz := 1) (i := i) (k := .i64) (cap := some l.length) hlt
    simp only [Nat.mul_one] at hia
    have hln : ((l.take i).flatMap ecl).length = i := by rw [flatMap_len (sz := 1) (fun _ => rfl)]; simp; omega
    have hsto := st_cell hr (k := i) (v := fints c) (by rw [List.length_append, hln, List.length_replicate]; omega) rfl
    have hcells : ((l.take i).flatMap ecl ++ List.replicate (l.length - i) DV.nils).set i (fints c) = (l.take (i + 1)).flatMap ecl ++ List.replicate (l.length - (i + 1)) DV.nils := by
      rw [List.set_append_right _ _ (by omega), hln, Nat.sub_self, take_get hc', List.flatMap_append]
      rw [show l.length - i = (l.length - (i + 1)) + 1 by omega, List.replicate_succ]
      simp
    rw [hcells] at hsto
    simp [hlt, hc]
    refine p_CloneF_ok (by omega) ?_
    simp [hia, hsto, es]
    exact forK_go _ hlt (by simp [mkEnv, List.replicate]) ⟨hF.set (Nat.le_refl _) _, by rw [List.getElem?_set_self (get_dom hr)], rfl⟩
  · have : i = l.length := by omega
    subst this
    simp at hr
    simp
    have hO : Own σ.length 1 ecl σ1 (.slice σ.length 0 l.length 1 (some l.length)) l := .inr ⟨σ.length, some l.length, [], Nat.le_refl _, rfl, by simpa using hr, fun c h => by cases h; simp⟩
    exact ⟨hF, hO.rd (fun _ => rfl) fun i hi => .inl hi⟩
theorem ld_agg2 {σ : GS} {id : Nat} {ro : Bool} {a b : DV} (h : σ[id]? = some (.row ro [a, b])) : gload (.load 2 true) [.ptr id 0] σ = some (.agg [a, b]) := by rw [ld_agg h]; rfl
end Go.Gh
