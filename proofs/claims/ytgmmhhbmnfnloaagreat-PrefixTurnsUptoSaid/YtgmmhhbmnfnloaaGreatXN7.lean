/-
  Proved: Dqbf, Deps and Linear return what the chapter's own functions return, errors too; where what is read is of bulk at most 1048576.
  Part 7 of 10. Conditions: none. A verified frame that runs compiled texts over a ghost heap, the contracts of the functions that the statement reaches, and the plain law.
-/
import Derived.Test.YtgmmhhbmnfnloaaGreatXN6
import Derived.Test.YtgmmhhbmnfnloaaGreatProg
import Derived.KernelRfl
namespace Go.Gh
open Go.Proofs
abbrev F_skolemlaw03_PrefixTurns : Nat := 6
abbrev F_prefix_Dqbf : Nat := 19
abbrev F_prefix_Linear : Nat := 20
abbrev F_skolemref03_Dqbf : Nat := 25
abbrev F_skolemref03_Linear : Nat := 26
abbrev F_prefix_Deps : Nat := 27
abbrev F_skolemref03_Deps : Nat := 28
abbrev F_prefix_copied : Nat := 59
abbrev F_slices_SortFunc_api_Dep_api_Dep : Nat := 60
abbrev F_prefix_Dqbf_1 : Nat := 61
abbrev F_cmp_Compare_int : Nat := 62
abbrev F_slices_Clone_api_Dep_api_Dep : Nat := 63
abbrev F_slices_SortStableFunc_api_Dep_api_Dep : Nat := 64
abbrev F_prefix_Linear_1 : Nat := 65
abbrev F_prefix_Linear_2 : Nat := 66
abbrev F_prefix_Linear_2_1 : Nat := 69
abbrev F_prefix_part : Nat := 70
abbrev F_skolemref03_Vars : Nat := 72
abbrev F_skolemref03_Find : Nat := 74
abbrev F_skolemref03_On : Nat := 75
abbrev F_skolemref03_Joined : Nat := 76
abbrev F_slices_IndexFunc_api_Dep_api_Dep : Nat := 77
abbrev F_prefix_Deps_1 : Nat := 78
abbrev F_cmp_isNaN_int : Nat := 96
abbrev F_slices_stableCmpFunc_api_Dep : Nat := 97
abbrev F_slices_BinarySearch_int_int : Nat := 98
abbrev F_skolemref03_Put : Nat := 99
abbrev F_slices_insertionSortCmpFunc_api_Dep : Nat := 105
abbrev F_slices_symMergeCmpFunc_api_Dep : Nat := 115
abbrev F_cmp_Less_int : Nat := 116
abbrev F_slices_isNaN_int : Nat := 117
abbrev F_slices_rotateCmpFunc_api_Dep : Nat := 133
abbrev F_slices_swapRangeCmpFunc_api_Dep : Nat := 139
noncomputable abbrev G_slices_SortStableFunc_api_Dep_api_Dep : GFun := ⟨9, [], (.region [⟨0, ⟨(some 4), none, (.pure .id), [(.tmp 0)]⟩, []⟩, ⟨0, ⟨(some 5), none, (.pure .id), [(.tmp 0)]⟩, []⟩, ⟨0, ⟨(some 6), none, (.pure .len), [(.tmp 5)]⟩, []⟩, ⟨0, ⟨(some 7), none, (.pure .id), [(.tmp 1)]⟩, []⟩, ⟨0, ⟨(some 8), none, (.call F_slices_stableCmpFunc_api_Dep), [(.tmp 4), (.tmp 6), (.tmp 7)]⟩, []⟩])⟩
theorem c_slices_SortStableFunc_api_Dep_api_Dep : compF Tryz.prog Tryz.f64 = some G_slices_SortStableFunc_api_Dep_api_Dep := by kernel_rfl
theorem gc_slices_SortStableFunc_api_Dep_api_Dep {args : List DV} {σ : GS} {Post : DV → GS → Prop} (h : @exB Tryz.prog ⟨G_slices_SortStableFunc_api_Dep_api_Dep.body⟩ (genv0 args G_slices_SortStableFunc_api_Dep_api_Dep.ntmps) σ ⟨@gretB G_slices_SortStableFunc_api_Dep_api_Dep.results ⟨Post⟩⟩) : GCall Tryz.prog F_slices_SortStableFunc_api_Dep_api_Dep args σ Post := gcall_ofB seatfollows Tryz.func64 (by kernel_rfl) c_slices_SortStableFunc_api_Dep_api_Dep h
noncomputable abbrev G_slices_stableCmpFunc_api_Dep : GFun := ⟨63, [], (.seq (.region [⟨0, ⟨(some 6), none, (.pure .id), [(.const (.int .i64 20))]⟩, []⟩]) (.seq (.region [⟨0, ⟨(some 10), none, (.pure .id), [(.tmp 6)]⟩, []⟩, ⟨0, ⟨(some 7), none, (.pure .id), [(.const (.int .i64 0))]⟩, []⟩, ⟨0, ⟨(some 8), none, (.pure .id), [(.tmp 10)]⟩, []⟩]) (.seq (.block 0 (.loop (.seq (.seq (.region [⟨0, ⟨(some 11), none, (.pure .id), [(.tmp 8)]⟩, []⟩, ⟨0, ⟨(some 12), none, (.pure .id), [(.tmp 1)]⟩, []⟩, ⟨0, ⟨(some 13), none, (.pure (.bin .leq .none)), [(.tmp 11), (.tmp 12)]⟩, []⟩]) (.cond (.tmp 13) .skip (.exit 0))) (.block 1 (.seq (.region [⟨0, ⟨(some 14), none, (.pure .id), [(.tmp 0)]⟩, []⟩, ⟨0, ⟨(some 15), none, (.pure .id), [(.tmp 7)]⟩, []⟩, ⟨0, ⟨(some 16), none, (.pure .id), [(.tmp 8)]⟩, []⟩, ⟨0, ⟨(some 17), none, (.pure .id), [(.tmp 2)]⟩, []⟩, ⟨0, ⟨(some 18), none, (.call F_slices_insertionSortCmpFunc_api_Dep), [(.tmp 14), (.tmp 15), (.tmp 16), (.tmp 17)]⟩, []⟩]) (.seq (.region [⟨0, ⟨(some 19), none, (.pure .id), [(.tmp 8)]⟩, []⟩, ⟨0, ⟨(some 7), none, (.pure .id), [(.tmp 19)]⟩, []⟩]) (.region [⟨0, ⟨(some 20), none, (.pure .id), [(.tmp 8)]⟩, []⟩, ⟨0, ⟨(some 21), none, (.pure .id), [(.tmp 6)]⟩, []⟩, ⟨0, ⟨(some 22), none, (.pure (.bin .add .none)), [(.tmp 20), (.tmp 21)]⟩, []⟩, ⟨0, ⟨(some 8), none, (.pure .id), [(.tmp 22)]⟩, []⟩]))))))) (.seq (.region [⟨0, ⟨(some 23), none, (.pure .id), [(.tmp 0)]⟩, []⟩, ⟨0, ⟨(some 24), none, (.pure .id), [(.tmp 7)]⟩, []⟩, ⟨0, ⟨(some 25), none, (.pure .id), [(.tmp 1)]⟩, []⟩, ⟨0, ⟨(some 26), none, (.pure .id), [(.tmp 2)]⟩, []⟩, ⟨0, ⟨(some 27), none, (.call F_slices_insertionSortCmpFunc_api_Dep), [(.tmp 23), (.tmp 24), (.tmp 25), (.tmp 26)]⟩, []⟩]) (.block 2 (.loop (.seq (.seq (.region [⟨0, ⟨(some 28), none, (.pure .id), [(.tmp 6)]⟩, []⟩, ⟨0, ⟨(some 29), none, (.pure .id), [(.tmp 1)]⟩, []⟩, ⟨0, ⟨(some 30), none, (.pure (.bin .lss .none)), [(.tmp 28), (.tmp 29)]⟩, []⟩]) (.cond (.tmp 30) .skip (.exit 2))) (.block 3 (.seq (.region [⟨0, ⟨(some 31), none, (.pure .id), [(.tmp 6)]⟩, []⟩, ⟨0, ⟨(some 32), none, (.pure (.bin .mul .none)), [(.const (.int .i64 2)), (.tmp 31)]⟩, []⟩, ⟨0, ⟨(some 7), none, (.pure .id), [(.const (.int .i64 0))]⟩, []⟩, ⟨0, ⟨(some 8), none, (.pure .id), [(.tmp 32)]⟩, []⟩]) (.seq (.block 4 (.loop (.seq (.seq (.region [⟨0, ⟨(some 33), none, (.pure .id), [(.tmp 8)]⟩, []⟩, ⟨0, ⟨(some 34), none, (.pure .id), [(.tmp 1)]⟩, []⟩, ⟨0, ⟨(some 35), none, (.pure (.bin .leq .none)), [(.tmp 33), (.tmp 34)]⟩, []⟩]) (.cond (.tmp 35) .skip (.exit 4))) (.block 5 (.seq (.region [⟨0, ⟨(some 36), none, (.pure .id), [(.tmp 0)]⟩, []⟩, ⟨0, ⟨(some 37), none, (.pure .id), [(.tmp 7)]⟩, []⟩, ⟨0, ⟨(some 38), none, (.pure .id), [(.tmp 7)]⟩, []⟩, ⟨0, ⟨(some 39), none, (.pure .id), [(.tmp 6)]⟩, []⟩, ⟨0, ⟨(some 40), none, (.pure (.bin .add .none)), [(.tmp 38), (.tmp 39)]⟩, []⟩, ⟨0, ⟨(some 41), none, (.pure .id), [(.tmp 8)]⟩, []⟩, ⟨0, ⟨(some 42), none, (.pure .id), [(.tmp 2)]⟩, []⟩, ⟨0, ⟨(some 43), none, (.call F_slices_symMergeCmpFunc_api_Dep), [(.tmp 36), (.tmp 37), (.tmp 40), (.tmp 41), (.tmp 42)]⟩, []⟩]) (.seq (.region [⟨0, ⟨(some 44), none, (.pure .id), [(.tmp 8)]⟩, []⟩, ⟨0, ⟨(some 7), none, (.pure .id), [(.tmp 44)]⟩, []⟩]) (.region [⟨0, ⟨(some 45), none, (.pure .id), [(.tmp 8)]⟩, []⟩, ⟨0, ⟨(some 46), none, (.pure .id), [(.tmp 6)]⟩, []⟩, ⟨0, ⟨(some 47), none, (.pure (.bin .mul .none)), [(.const (.int .i64 2)), (.tmp 46)]⟩, []⟩, ⟨0, ⟨(some 48), none, (.pure (.bin .add .none)), [(.tmp 45), (.tmp 47)]⟩, []⟩, ⟨0, ⟨(some 8), none, (.pure .id), [(.tmp 48)]⟩, []⟩]))))))) (.seq (.seq (.region [⟨0, ⟨(some 49), none, (.pure .id), [(.tmp 7)]⟩, []⟩, ⟨0, ⟨(some 50), none, (.pure .id), [(.tmp 6)]⟩, []⟩, ⟨0, ⟨(some 51), none, (.pure (.bin .add .none)), [(.tmp 49), (.tmp 50)]⟩, []⟩, ⟨0, ⟨(some 9), none, (.pure .id), [(.tmp 51)]⟩, []⟩]) (.seq (.region [⟨0, ⟨(some 52), none, (.pure .id), [(.tmp 9)]⟩, []⟩, ⟨0, ⟨(some 53), none, (.pure .id), [(.tmp 1)]⟩, []⟩, ⟨0, ⟨(some 54), none, (.pure (.bin .lss .none)), [(.tmp 52), (.tmp 53)]⟩, []⟩]) (.cond (.tmp 54) (.region [⟨0, ⟨(some 55), none, (.pure .id), [(.tmp 0)]⟩, []⟩, ⟨0, ⟨(some 56), none, (.pure .id), [(.tmp 7)]⟩, []⟩, ⟨0, ⟨(some 57), none, (.pure .id), [(.tmp 9)]⟩, []⟩, ⟨0, ⟨(some 58), none, (.pure .id), [(.tmp 1)]⟩, []⟩, ⟨0, ⟨(some 59), none, (.pure .id), [(.tmp 2)]⟩, []⟩, ⟨0, ⟨(some 60), none, (.call F_slices_symMergeCmpFunc_api_Dep), [(.tmp 55), (.tmp 56), (.tmp 57), (.tmp 58), (.tmp 59)]⟩, []⟩]) .skip))) (.region [⟨0, ⟨(some 61), none, (.pure .id), [(.tmp 6)]⟩, []⟩, ⟨0, ⟨(some 62), none, (.pure (.bin .mul .none)), [(.tmp 61), (.const (.int .i64 2))]⟩, []⟩, ⟨0, ⟨(some 6), none, (.pure .id), [(.tmp 62)]⟩, []⟩]))))))))))))⟩
theorem c_slices_stableCmpFunc_api_Dep : compF Tryz.prog Tryz.f97 = some G_slices_stableCmpFunc_api_Dep := by kernel_rfl
theorem gc_slices_stableCmpFunc_api_Dep {args : List DV} {σ : GS} {Post : DV → GS → Prop} (h : @exB Tryz.prog ⟨G_slices_stableCmpFunc_api_Dep.body⟩ (genv0 args G_slices_stableCmpFunc_api_Dep.ntmps) σ ⟨@gretB G_slices_stableCmpFunc_api_Dep.results ⟨Post⟩⟩) : GCall Tryz.prog F_slices_stableCmpFunc_api_Dep args σ Post := gcall_ofB seatfollows Tryz.func97 (by kernel_rfl) c_slices_stableCmpFunc_api_Dep h
noncomputable abbrev G_slices_insertionSortCmpFunc_api_Dep : GFun := ⟨53, [], (.seq (.region [⟨0, ⟨(some 10), none, (.pure .id), [(.tmp 1)]⟩, []⟩, ⟨0, ⟨(some 11), none, (.pure (.bin .add .none)), [(.tmp 10), (.const (.int .i64 1))]⟩, []⟩, ⟨0, ⟨(some 8), none, (.pure .id), [(.tmp 11)]⟩, []⟩]) (.block 0 (.loop (.seq (.seq (.region [⟨0, ⟨(some 12), none, (.pure .id), [(.tmp 8)]⟩, []⟩, ⟨0, ⟨(some 13), none, (.pure .id), [(.tmp 2)]⟩, []⟩, ⟨0, ⟨(some 14), none, (.pure (.bin .lss .none)), [(.tmp 12), (.tmp 13)]⟩, []⟩]) (.cond (.tmp 14) .skip (.exit 0))) (.seq (.block 1 (.seq (.region [⟨0, ⟨(some 17), none, (.pure .id), [(.tmp 8)]⟩, []⟩, ⟨0, ⟨(some 9), none, (.pure .id), [(.tmp 17)]⟩, []⟩]) (.block 2 (.loop (.seq (.seq (.region [⟨0, ⟨(some 18), none, (.pure .id), [(.tmp 9)]⟩, []⟩, ⟨1, ⟨(some 19), none, (.pure .id), [(.tmp 1)]⟩, []⟩, ⟨2, ⟨(some 20), none, (.pure (.bin .gtr .none)), [(.tmp 18), (.tmp 19)]⟩, []⟩, ⟨3, ⟨(some 21), none, (.pure .id), [(.tmp 20)]⟩, []⟩, ⟨4, ⟨(some 22), (some (21, true)), (.pure .id), [(.tmp 3)]⟩, []⟩, ⟨5, ⟨(some 23), (some (21, true)), (.pure .id), [(.tmp 0)]⟩, []⟩, ⟨6, ⟨(some 24), (some (21, true)), (.pure .id), [(.tmp 9)]⟩, []⟩, ⟨7, ⟨(some 25), (some (21, true)), (.pure (.iaddr 2)), [(.tmp 23), (.tmp 24)]⟩, []⟩, ⟨8, ⟨(some 26), (some (21, true)), (.load (.load 2 true)), [(.tmp 25)]⟩, []⟩, ⟨9, ⟨(some 27), (some (21, true)), (.pure .id), [(.tmp 0)]⟩, []⟩, ⟨10, ⟨(some 28), (some (21, true)), (.pure .id), [(.tmp 9)]⟩, []⟩, ⟨11, ⟨(some 29), (some (21, true)), (.pure (.bin .sub .none)), [(.tmp 28), (.const (.int .i64 1))]⟩, []⟩, ⟨12, ⟨(some 30), (some (21, true)), (.pure (.iaddr 2)), [(.tmp 27), (.tmp 29)]⟩, []⟩, ⟨13, ⟨(some 31), (some (21, true)), (.load (.load 2 true)), [(.tmp 30)]⟩, []⟩, ⟨14, ⟨(some 32), (some (21, true)), .callv, [(.tmp 22), (.tmp 26), (.tmp 31)]⟩, []⟩, ⟨15, ⟨(some 33), (some (21, true)), (.pure (.bin .lss .none)), [(.tmp 32), (.const (.int .i64 0))]⟩, []⟩, ⟨16, ⟨(some 34), none, (.pure .pick), [(.tmp 21), (.tmp 33), (.const (.bool false))]⟩, []⟩]) (.cond (.tmp 34) .skip (.exit 2))) (.seq (.block 3 (.region [⟨0, ⟨(some 37), none, (.pure .id), [(.tmp 0)]⟩, []⟩, ⟨1, ⟨(some 38), none, (.pure .id), [(.tmp 9)]⟩, []⟩, ⟨2, ⟨(some 39), none, (.pure .id), [(.tmp 0)]⟩, []⟩, ⟨3, ⟨(some 40), none, (.pure .id), [(.tmp 9)]⟩, []⟩, ⟨4, ⟨(some 41), none, (.pure (.bin .sub .none)), [(.tmp 40), (.const (.int .i64 1))]⟩, []⟩, ⟨5, ⟨(some 42), none, (.pure .id), [(.tmp 0)]⟩, []⟩, ⟨6, ⟨(some 43), none, (.pure .id), [(.tmp 9)]⟩, []⟩, ⟨7, ⟨(some 44), none, (.pure (.bin .sub .none)), [(.tmp 43), (.const (.int .i64 1))]⟩, []⟩, ⟨8, ⟨(some 45), none, (.pure (.iaddr 2)), [(.tmp 42), (.tmp 44)]⟩, []⟩, ⟨9, ⟨(some 46), none, (.load (.load 2 true)), [(.tmp 45)]⟩, []⟩, ⟨10, ⟨(some 47), none, (.pure .id), [(.tmp 0)]⟩, []⟩, ⟨11, ⟨(some 48), none, (.pure .id), [(.tmp 9)]⟩, []⟩, ⟨12, ⟨(some 49), none, (.pure (.iaddr 2)), [(.tmp 47), (.tmp 48)]⟩, []⟩, ⟨13, ⟨(some 50), none, (.load (.load 2 true)), [(.tmp 49)]⟩, []⟩, ⟨14, ⟨(some 51), none, (.pure (.iaddr 2)), [(.tmp 37), (.tmp 38)]⟩, []⟩, ⟨15, ⟨none, none, (.imp (.store 2)), [(.tmp 51), (.tmp 46)]⟩, []⟩, ⟨16, ⟨(some 52), none, (.pure (.iaddr 2)), [(.tmp 39), (.tmp 41)]⟩, []⟩, ⟨17, ⟨none, none, (.imp (.store 2)), [(.tmp 52), (.tmp 50)]⟩, []⟩])) (.region [⟨0, ⟨(some 35), none, (.pure .id), [(.tmp 9)]⟩, []⟩, ⟨0, ⟨(some 36), none, (.pure (.bin .sub .none)), [(.tmp 35), (.const (.int .i64 1))]⟩, []⟩, ⟨0, ⟨(some 9), none, (.pure .id), [(.tmp 36)]⟩, []⟩]))))))) (.region [⟨0, ⟨(some 15), none, (.pure .id), [(.tmp 8)]⟩, []⟩, ⟨0, ⟨(some 16), none, (.pure (.bin .add .none)), [(.tmp 15), (.const (.int .i64 1))]⟩, []⟩, ⟨0, ⟨(some 8), none, (.pure .id), [(.tmp 16)]⟩, []⟩]))))))⟩
theorem c_slices_insertionSortCmpFunc_api_Dep : compF Tryz.prog Tryz.f105 = some G_slices_insertionSortCmpFunc_api_Dep := by kernel_rfl
theorem gc_slices_insertionSortCmpFunc_api_Dep {args : List DV} {σ : GS} {Post : DV → GS → Prop} (h : @exB Tryz.prog ⟨G_slices_insertionSortCmpFunc_api_Dep.body⟩ (genv0 args G_slices_insertionSortCmpFunc_api_Dep.ntmps) σ ⟨@gretB G_slices_insertionSortCmpFunc_api_Dep.results ⟨Post⟩⟩) : GCall Tryz.prog F_slices_insertionSortCmpFunc_api_Dep args σ Post := gcall_ofB seatfollows Tryz.func105 (by kernel_rfl) c_slices_insertionSortCmpFunc_api_Dep h
noncomputable abbrev B_symT3 : GCode := .seq (.region [⟨0, ⟨(some 206), none, (.pure .id), [(.tmp 18)]⟩, []⟩, ⟨0, ⟨(some 207), none, (.pure .id), [(.tmp 24)]⟩, []⟩, ⟨0, ⟨(some 208), none, (.pure (.bin .lss .none)), [(.tmp 206), (.tmp 207)]⟩, []⟩, ⟨0, ⟨(some 209), none, (.pure .id), [(.tmp 208)]⟩, []⟩, ⟨0, ⟨(some 210), (some (209, true)), (.pure .id), [(.tmp 24)]⟩, []⟩, ⟨0, ⟨(some 211), (some (209, true)), (.pure .id), [(.tmp 3)]⟩, []⟩, ⟨0, ⟨(some 212), (some (209, true)), (.pure (.bin .lss .none)), [(.tmp 210), (.tmp 211)]⟩, []⟩, ⟨0, ⟨(some 213), none, (.pure .pick), [(.tmp 209), (.tmp 212), (.const (.bool false))]⟩, []⟩]) (.cond (.tmp 213) (.region [⟨0, ⟨(some 214), none, (.pure .id), [(.tmp 0)]⟩, []⟩, ⟨0, ⟨(some 215), none, (.pure .id), [(.tmp 18)]⟩, []⟩, ⟨0, ⟨(some 216), none, (.pure .id), [(.tmp 24)]⟩, []⟩, ⟨0, ⟨(some 217), none, (.pure .id), [(.tmp 3)]⟩, []⟩, ⟨0, ⟨(some 218), none, (.pure .id), [(.tmp 4)]⟩, []⟩, ⟨0, ⟨(some 219), none, (.call F_slices_symMergeCmpFunc_api_Dep), [(.tmp 214), (.tmp 215), (.tmp 216), (.tmp 217), (.tmp 218)]⟩, []⟩]) .skip)
noncomputable def symT3 : GCode := B_symT3
noncomputable abbrev B_symT2 : GCode := .seq (.seq (.region [⟨0, ⟨(some 192), none, (.pure .id), [(.tmp 1)]⟩, []⟩, ⟨0, ⟨(some 193), none, (.pure .id), [(.tmp 20)]⟩, []⟩, ⟨0, ⟨(some 194), none, (.pure (.bin .lss .none)), [(.tmp 192), (.tmp 193)]⟩, []⟩, ⟨0, ⟨(some 195), none, (.pure .id), [(.tmp 194)]⟩, []⟩, ⟨0, ⟨(some 196), (some (195, true)), (.pure .id), [(.tmp 20)]⟩, []⟩, ⟨0, ⟨(some 197), (some (195, true)), (.pure .id), [(.tmp 18)]⟩, []⟩, ⟨0, ⟨(some 198), (some (195, true)), (.pure (.bin .lss .none)), [(.tmp 196), (.tmp 197)]⟩, []⟩, ⟨0, ⟨(some 199), none, (.pure .pick), [(.tmp 195), (.tmp 198), (.const (.bool false))]⟩, []⟩]) (.cond (.tmp 199) (.region [⟨0, ⟨(some 200), none, (.pure .id), [(.tmp 0)]⟩, []⟩, ⟨0, ⟨(some 201), none, (.pure .id), [(.tmp 1)]⟩, []⟩, ⟨0, ⟨(some 202), none, (.pure .id), [(.tmp 20)]⟩, []⟩, ⟨0, ⟨(some 203), none, (.pure .id), [(.tmp 18)]⟩, []⟩, ⟨0, ⟨(some 204), none, (.pure .id), [(.tmp 4)]⟩, []⟩, ⟨0, ⟨(some 205), none, (.call F_slices_symMergeCmpFunc_api_Dep), [(.tmp 200), (.tmp 201), (.tmp 202), (.tmp 203), (.tmp 204)]⟩, []⟩]) .skip)) symT3
noncomputable def symT2 : GCode := B_symT2
noncomputable abbrev B_symT1 : GCode := .seq (.region [⟨0, ⟨(some 175), none, (.pure .id), [(.tmp 19)]⟩, []⟩, ⟨0, ⟨(some 176), none, (.pure .id), [(.tmp 20)]⟩, []⟩, ⟨0, ⟨(some 177), none, (.pure (.bin .sub .none)), [(.tmp 175), (.tmp 176)]⟩, []⟩, ⟨0, ⟨(some 24), none, (.pure .id), [(.tmp 177)]⟩, []⟩]) (.seq (.seq (.region [⟨0, ⟨(some 178), none, (.pure .id), [(.tmp 20)]⟩, []⟩, ⟨0, ⟨(some 179), none, (.pure .id), [(.tmp 2)]⟩, []⟩, ⟨0, ⟨(some 180), none, (.pure (.bin .lss .none)), [(.tmp 178), (.tmp 179)]⟩, []⟩, ⟨0, ⟨(some 181), none, (.pure .id), [(.tmp 180)]⟩, []⟩, ⟨0, ⟨(some 182), (some (181, true)), (.pure .id), [(.tmp 2)]⟩, []⟩, ⟨0, ⟨(some 183), (some (181, true)), (.pure .id), [(.tmp 24)]⟩, []⟩, ⟨0, ⟨(some 184), (some (181, true)), (.pure (.bin .lss .none)), [(.tmp 182), (.tmp 183)]⟩, []⟩, ⟨0, ⟨(some 185), none, (.pure .pick), [(.tmp 181), (.tmp 184), (.const (.bool false))]⟩, []⟩]) (.cond (.tmp 185) (.region [⟨0, ⟨(some 186), none, (.pure .id), [(.tmp 0)]⟩, []⟩, ⟨0, ⟨(some 187), none, (.pure .id), [(.tmp 20)]⟩, []⟩, ⟨0, ⟨(some 188), none, (.pure .id), [(.tmp 2)]⟩, []⟩, ⟨0, ⟨(some 189), none, (.pure .id), [(.tmp 24)]⟩, []⟩, ⟨0, ⟨(some 190), none, (.pure .id), [(.tmp 4)]⟩, []⟩, ⟨0, ⟨(some 191), none, (.call F_slices_rotateCmpFunc_api_Dep), [(.tmp 186), (.tmp 187), (.tmp 188), (.tmp 189), (.tmp 190)]⟩, []⟩]) .skip)) symT2)
noncomputable def symT1 : GCode := B_symT1
noncomputable abbrev B_symT0 : GCode := .seq (.region [⟨0, ⟨(some 147), none, (.pure .id), [(.tmp 19)]⟩, []⟩, ⟨0, ⟨(some 148), none, (.pure (.bin .sub .none)), [(.tmp 147), (.const (.int .i64 1))]⟩, []⟩, ⟨0, ⟨(some 22), none, (.pure .id), [(.tmp 148)]⟩, []⟩]) (.seq (.block 8 (.loop (.seq (.seq (.region [⟨0, ⟨(some 149), none, (.pure .id), [(.tmp 20)]⟩, []⟩, ⟨0, ⟨(some 150), none, (.pure .id), [(.tmp 21)]⟩, []⟩, ⟨0, ⟨(some 151), none, (.pure (.bin .lss .none)), [(.tmp 149), (.tmp 150)]⟩, []⟩]) (.cond (.tmp 151) .skip (.exit 8))) (.block 9 (.seq (.region [⟨0, ⟨(some 152), none, (.pure .id), [(.tmp 20)]⟩, []⟩, ⟨0, ⟨(some 153), none, (.pure .id), [(.tmp 21)]⟩, []⟩, ⟨0, ⟨(some 154), none, (.pure (.bin .add .none)), [(.tmp 152), (.tmp 153)]⟩, []⟩, ⟨0, ⟨(some 155), none, (.pure (.conv .u64)), [(.tmp 154)]⟩, []⟩, ⟨0, ⟨(some 156), none, (.pure (.bin .shr .none)), [(.tmp 155), (.const (.int .u64 1))]⟩, []⟩, ⟨0, ⟨(some 157), none, (.pure (.conv .i64)), [(.tmp 156)]⟩, []⟩, ⟨0, ⟨(some 23), none, (.pure .id), [(.tmp 157)]⟩, []⟩]) (.seq (.region [⟨0, ⟨(some 158), none, (.pure .id), [(.tmp 4)]⟩, []⟩, ⟨1, ⟨(some 159), none, (.pure .id), [(.tmp 0)]⟩, []⟩, ⟨2, ⟨(some 160), none, (.pure .id), [(.tmp 22)]⟩, []⟩, ⟨3, ⟨(some 161), none, (.pure .id), [(.tmp 23)]⟩, []⟩, ⟨4, ⟨(some 162), none, (.pure (.bin .sub .none)), [(.tmp 160), (.tmp 161)]⟩, []⟩, ⟨5, ⟨(some 163), none, (.pure (.iaddr 2)), [(.tmp 159), (.tmp 162)]⟩, []⟩, ⟨6, ⟨(some 164), none, (.load (.load 2 true)), [(.tmp 163)]⟩, []⟩, ⟨7, ⟨(some 165), none, (.pure .id), [(.tmp 0)]⟩, []⟩, ⟨8, ⟨(some 166), none, (.pure .id), [(.tmp 23)]⟩, []⟩, ⟨9, ⟨(some 167), none, (.pure (.iaddr 2)), [(.tmp 165), (.tmp 166)]⟩, []⟩, ⟨10, ⟨(some 168), none, (.load (.load 2 true)), [(.tmp 167)]⟩, []⟩, ⟨11, ⟨(some 169), none, .callv, [(.tmp 158), (.tmp 164), (.tmp 168)]⟩, []⟩, ⟨12, ⟨(some 170), none, (.pure (.bin .lss .none)), [(.tmp 169), (.const (.int .i64 0))]⟩, []⟩, ⟨13, ⟨(some 171), none, (.pure (.un .not)), [(.tmp 170)]⟩, []⟩]) (.cond (.tmp 171) (.region [⟨0, ⟨(some 172), none, (.pure .id), [(.tmp 23)]⟩, []⟩, ⟨0, ⟨(some 173), none, (.pure (.bin .add .none)), [(.tmp 172), (.const (.int .i64 1))]⟩, []⟩, ⟨0, ⟨(some 20), none, (.pure .id), [(.tmp 173)]⟩, []⟩]) (.region [⟨0, ⟨(some 174), none, (.pure .id), [(.tmp 23)]⟩, []⟩, ⟨0, ⟨(some 21), none, (.pure .id), [(.tmp 174)]⟩, []⟩])))))))) symT1)
noncomputable def symT0 : GCode := B_symT0
noncomputable abbrev G_slices_symMergeCmpFunc_api_Dep : GFun := ⟨220, [], (.seq (.seq (.region [⟨0, ⟨(some 25), none, (.pure .id), [(.tmp 2)]⟩, []⟩, ⟨0, ⟨(some 26), none, (.pure .id), [(.tmp 1)]⟩, []⟩, ⟨0, ⟨(some 27), none, (.pure (.bin .sub .none)), [(.tmp 25), (.tmp 26)]⟩, []⟩, ⟨0, ⟨(some 28), none, (.pure (.bin .eql .none)), [(.tmp 27), (.const (.int .i64 1))]⟩, []⟩]) (.cond (.tmp 28) (.seq (.region [⟨0, ⟨(some 29), none, (.pure .id), [(.tmp 2)]⟩, []⟩, ⟨0, ⟨(some 10), none, (.pure .id), [(.tmp 29)]⟩, []⟩]) (.seq (.region [⟨0, ⟨(some 30), none, (.pure .id), [(.tmp 3)]⟩, []⟩, ⟨0, ⟨(some 11), none, (.pure .id), [(.tmp 30)]⟩, []⟩]) (.seq (.block 0 (.loop (.seq (.seq (.region [⟨0, ⟨(some 31), none, (.pure .id), [(.tmp 10)]⟩, []⟩, ⟨0, ⟨(some 32), none, (.pure .id), [(.tmp 11)]⟩, []⟩, ⟨0, ⟨(some 33), none, (.pure (.bin .lss .none)), [(.tmp 31), (.tmp 32)]⟩, []⟩]) (.cond (.tmp 33) .skip (.exit 0))) (.block 1 (.seq (.region [⟨0, ⟨(some 34), none, (.pure .id), [(.tmp 10)]⟩, []⟩, ⟨0, ⟨(some 35), none, (.pure .id), [(.tmp 11)]⟩, []⟩, ⟨0, ⟨(some 36), none, (.pure (.bin .add .none)), [(.tmp 34), (.tmp 35)]⟩, []⟩, ⟨0, ⟨(some 37), none, (.pure (.conv .u64)), [(.tmp 36)]⟩, []⟩, ⟨0, ⟨(some 38), none, (.pure (.bin .shr .none)), [(.tmp 37), (.const (.int .u64 1))]⟩, []⟩, ⟨0, ⟨(some 39), none, (.pure (.conv .i64)), [(.tmp 38)]⟩, []⟩, ⟨0, ⟨(some 12), none, (.pure .id), [(.tmp 39)]⟩, []⟩]) (.seq (.region [⟨0, ⟨(some 40), none, (.pure .id), [(.tmp 4)]⟩, []⟩, ⟨1, ⟨(some 41), none, (.pure .id), [(.tmp 0)]⟩, []⟩, ⟨2, ⟨(some 42), none, (.pure .id), [(.tmp 12)]⟩, []⟩, ⟨3, ⟨(some 43), none, (.pure (.iaddr 2)), [(.tmp 41), (.tmp 42)]⟩, []⟩, ⟨4, ⟨(some 44), none, (.load (.load 2 true)), [(.tmp 43)]⟩, []⟩, ⟨5, ⟨(some 45), none, (.pure .id), [(.tmp 0)]⟩, []⟩, ⟨6, ⟨(some 46), none, (.pure .id), [(.tmp 1)]⟩, []⟩, ⟨7, ⟨(some 47), none, (.pure (.iaddr 2)), [(.tmp 45), (.tmp 46)]⟩, []⟩, ⟨8, ⟨(some 48), none, (.load (.load 2 true)), [(.tmp 47)]⟩, []⟩, ⟨9, ⟨(some 49), none, .callv, [(.tmp 40), (.tmp 44), (.tmp 48)]⟩, []⟩, ⟨10, ⟨(some 50), none, (.pure (.bin .lss .none)), [(.tmp 49), (.const (.int .i64 0))]⟩, []⟩]) (.cond (.tmp 50) (.region [⟨0, ⟨(some 51), none, (.pure .id), [(.tmp 12)]⟩, []⟩, ⟨0, ⟨(some 52), none, (.pure (.bin .add .none)), [(.tmp 51), (.const (.int .i64 1))]⟩, []⟩, ⟨0, ⟨(some 10), none, (.pure .id), [(.tmp 52)]⟩, []⟩]) (.region [⟨0, ⟨(some 53), none, (.pure .id), [(.tmp 12)]⟩, []⟩, ⟨0, ⟨(some 11), none, (.pure .id), [(.tmp 53)]⟩, []⟩])))))))) (.seq (.seq (.region [⟨0, ⟨(some 54), none, (.pure .id), [(.tmp 1)]⟩, []⟩, ⟨0, ⟨(some 13), none, (.pure .id), [(.tmp 54)]⟩, []⟩]) (.block 2 (.loop (.seq (.seq (.region [⟨0, ⟨(some 55), none, (.pure .id), [(.tmp 13)]⟩, []⟩, ⟨0, ⟨(some 56), none, (.pure .id), [(.tmp 10)]⟩, []⟩, ⟨0, ⟨(some 57), none, (.pure (.bin .sub .none)), [(.tmp 56), (.const (.int .i64 1))]⟩, []⟩, ⟨0, ⟨(some 58), none, (.pure (.bin .lss .none)), [(.tmp 55), (.tmp 57)]⟩, []⟩]) (.cond (.tmp 58) .skip (.exit 2))) (.seq (.block 3 (.region [⟨0, ⟨(some 61), none, (.pure .id), [(.tmp 0)]⟩, []⟩, ⟨1, ⟨(some 62), none, (.pure .id), [(.tmp 13)]⟩, []⟩, ⟨2, ⟨(some 63), none, (.pure .id), [(.tmp 0)]⟩, []⟩, ⟨3, ⟨(some 64), none, (.pure .id), [(.tmp 13)]⟩, []⟩, ⟨4, ⟨(some 65), none, (.pure (.bin .add .none)), [(.tmp 64), (.const (.int .i64 1))]⟩, []⟩, ⟨5, ⟨(some 66), none, (.pure .id), [(.tmp 0)]⟩, []⟩, ⟨6, ⟨(some 67), none, (.pure .id), [(.tmp 13)]⟩, []⟩, ⟨7, ⟨(some 68), none, (.pure (.bin .add .none)), [(.tmp 67), (.const (.int .i64 1))]⟩, []⟩, ⟨8, ⟨(some 69), none, (.pure (.iaddr 2)), [(.tmp 66), (.tmp 68)]⟩, []⟩, ⟨9, ⟨(some 70), none, (.load (.load 2 true)), [(.tmp 69)]⟩, []⟩, ⟨10, ⟨(some 71), none, (.pure .id), [(.tmp 0)]⟩, []⟩, ⟨11, ⟨(some 72), none, (.pure .id), [(.tmp 13)]⟩, []⟩, ⟨12, ⟨(some 73), none, (.pure (.iaddr 2)), [(.tmp 71), (.tmp 72)]⟩, []⟩, ⟨13, ⟨(some 74), none, (.load (.load 2 true)), [(.tmp 73)]⟩, []⟩, ⟨14, ⟨(some 75), none, (.pure (.iaddr 2)), [(.tmp 61), (.tmp 62)]⟩, []⟩, ⟨15, ⟨none, none, (.imp (.store 2)), [(.tmp 75), (.tmp 70)]⟩, []⟩, ⟨16, ⟨(some 76), none, (.pure (.iaddr 2)), [(.tmp 63), (.tmp 65)]⟩, []⟩, ⟨17, ⟨none, none, (.imp (.store 2)), [(.tmp 76), (.tmp 74)]⟩, []⟩])) (.region [⟨0, ⟨(some 59), none, (.pure .id), [(.tmp 13)]⟩, []⟩, ⟨0, ⟨(some 60), none, (.pure (.bin .add .none)), [(.tmp 59), (.const (.int .i64 1))]⟩, []⟩, ⟨0, ⟨(some 13), none, (.pure .id), [(.tmp 60)]⟩, []⟩])))))) .ret)))) .skip)) (.seq (.seq (.region [⟨0, ⟨(some 77), none, (.pure .id), [(.tmp 3)]⟩, []⟩, ⟨0, ⟨(some 78), none, (.pure .id), [(.tmp 2)]⟩, []⟩, ⟨0, ⟨(some 79), none, (.pure (.bin .sub .none)), [(.tmp 77), (.tmp 78)]⟩, []⟩, ⟨0, ⟨(some 80), none, (.pure (.bin .eql .none)), [(.tmp 79), (.const (.int .i64 1))]⟩, []⟩]) (.cond (.tmp 80) (.seq (.region [⟨0, ⟨(some 81), none, (.pure .id), [(.tmp 1)]⟩, []⟩, ⟨0, ⟨(some 14), none, (.pure .id), [(.tmp 81)]⟩, []⟩]) (.seq (.region [⟨0, ⟨(some 82), none, (.pure .id), [(.tmp 2)]⟩, []⟩, ⟨0, ⟨(some 15), none, (.pure .id), [(.tmp 82)]⟩, []⟩]) (.seq (.block 4 (.loop (.seq (.seq (.region [⟨0, ⟨(some 83), none, (.pure .id), [(.tmp 14)]⟩, []⟩, ⟨0, ⟨(some 84), none, (.pure .id), [(.tmp 15)]⟩, []⟩, ⟨0, ⟨(some 85), none, (.pure (.bin .lss .none)), [(.tmp 83), (.tmp 84)]⟩, []⟩]) (.cond (.tmp 85) .skip (.exit 4))) (.block 5 (.seq (.region [⟨0, ⟨(some 86), none, (.pure .id), [(.tmp 14)]⟩, []⟩, ⟨0, ⟨(some 87), none, (.pure .id), [(.tmp 15)]⟩, []⟩, ⟨0, ⟨(some 88), none, (.pure (.bin .add .none)), [(.tmp 86), (.tmp 87)]⟩, []⟩, ⟨0, ⟨(some 89), none, (.pure (.conv .u64)), [(.tmp 88)]⟩, []⟩, ⟨0, ⟨(some 90), none, (.pure (.bin .shr .none)), [(.tmp 89), (.const (.int .u64 1))]⟩, []⟩, ⟨0, ⟨(some 91), none, (.pure (.conv .i64)), [(.tmp 90)]⟩, []⟩, ⟨0, ⟨(some 16), none, (.pure .id), [(.tmp 91)]⟩, []⟩]) (.seq (.region [⟨0, ⟨(some 92), none, (.pure .id), [(.tmp 4)]⟩, []⟩, ⟨1, ⟨(some 93), none, (.pure .id), [(.tmp 0)]⟩, []⟩, ⟨2, ⟨(some 94), none, (.pure .id), [(.tmp 2)]⟩, []⟩, ⟨3, ⟨(some 95), none, (.pure (.iaddr 2)), [(.tmp 93), (.tmp 94)]⟩, []⟩, ⟨4, ⟨(some 96), none, (.load (.load 2 true)), [(.tmp 95)]⟩, []⟩, ⟨5, ⟨(some 97), none, (.pure .id), [(.tmp 0)]⟩, []⟩, ⟨6, ⟨(some 98), none, (.pure .id), [(.tmp 16)]⟩, []⟩, ⟨7, ⟨(some 99), none, (.pure (.iaddr 2)), [(.tmp 97), (.tmp 98)]⟩, []⟩, ⟨8, ⟨(some 100), none, (.load (.load 2 true)), [(.tmp 99)]⟩, []⟩, ⟨9, ⟨(some 101), none, .callv, [(.tmp 92), (.tmp 96), (.tmp 100)]⟩, []⟩, ⟨10, ⟨(some 102), none, (.pure (.bin .lss .none)), [(.tmp 101), (.const (.int .i64 0))]⟩, []⟩, ⟨11, ⟨(some 103), none, (.pure (.un .not)), [(.tmp 102)]⟩, []⟩]) (.cond (.tmp 103) (.region [⟨0, ⟨(some 104), none, (.pure .id), [(.tmp 16)]⟩, []⟩, ⟨0, ⟨(some 105), none, (.pure (.bin .add .none)), [(.tmp 104), (.const (.int .i64 1))]⟩, []⟩, ⟨0, ⟨(some 14), none, (.pure .id), [(.tmp 105)]⟩, []⟩]) (.region [⟨0, ⟨(some 106), none, (.pure .id), [(.tmp 16)]⟩, []⟩, ⟨0, ⟨(some 15), none, (.pure .id), [(.tmp 106)]⟩, []⟩])))))))) (.seq (.seq (.region [⟨0, ⟨(some 107), none, (.pure .id), [(.tmp 2)]⟩, []⟩, ⟨0, ⟨(some 17), none, (.pure .id), [(.tmp 107)]⟩, []⟩]) (.block 6 (.loop (.seq (.seq (.region [⟨0, ⟨(some 108), none, (.pure .id), [(.tmp 17)]⟩, []⟩, ⟨0, ⟨(some 109), none, (.pure .id), [(.tmp 14)]⟩, []⟩, ⟨0, ⟨(some 110), none, (.pure (.bin .gtr .none)), [(.tmp 108), (.tmp 109)]⟩, []⟩]) (.cond (.tmp 110) .skip (.exit 6))) (.seq (.block 7 (.region [⟨0, ⟨(some 113), none, (.pure .id), [(.tmp 0)]⟩, []⟩, ⟨1, ⟨(some 114), none, (.pure .id), [(.tmp 17)]⟩, []⟩, ⟨2, ⟨(some 115), none, (.pure .id), [(.tmp 0)]⟩, []⟩, ⟨3, ⟨(some 116), none, (.pure .id), [(.tmp 17)]⟩, []⟩, ⟨4, ⟨(some 117), none, (.pure (.bin .sub .none)), [(.tmp 116), (.const (.int .i64 1))]⟩, []⟩, ⟨5, ⟨(some 118), none, (.pure .id), [(.tmp 0)]⟩, []⟩, ⟨6, ⟨(some 119), none, (.pure .id), [(.tmp 17)]⟩, []⟩, ⟨7, ⟨(some 120), none, (.pure (.bin .sub .none)), [(.tmp 119), (.const (.int .i64 1))]⟩, []⟩, ⟨8, ⟨(some 121), none, (.pure (.iaddr 2)), [(.tmp 118), (.tmp 120)]⟩, []⟩, ⟨9, ⟨(some 122), none, (.load (.load 2 true)), [(.tmp 121)]⟩, []⟩, ⟨10, ⟨(some 123), none, (.pure .id), [(.tmp 0)]⟩, []⟩, ⟨11, ⟨(some 124), none, (.pure .id), [(.tmp 17)]⟩, []⟩, ⟨12, ⟨(some 125), none, (.pure (.iaddr 2)), [(.tmp 123), (.tmp 124)]⟩, []⟩, ⟨13, ⟨(some 126), none, (.load (.load 2 true)), [(.tmp 125)]⟩, []⟩, ⟨14, ⟨(some 127), none, (.pure (.iaddr 2)), [(.tmp 113), (.tmp 114)]⟩, []⟩, ⟨15, ⟨none, none, (.imp (.store 2)), [(.tmp 127), (.tmp 122)]⟩, []⟩, ⟨16, ⟨(some 128), none, (.pure (.iaddr 2)), [(.tmp 115), (.tmp 117)]⟩, []⟩, ⟨17, ⟨none, none, (.imp (.store 2)), [(.tmp 128), (.tmp 126)]⟩, []⟩])) (.region [⟨0, ⟨(some 111), none, (.pure .id), [(.tmp 17)]⟩, []⟩, ⟨0, ⟨(some 112), none, (.pure (.bin .sub .none)), [(.tmp 111), (.const (.int .i64 1))]⟩, []⟩, ⟨0, ⟨(some 17), none, (.pure .id), [(.tmp 112)]⟩, []⟩])))))) .ret)))) .skip)) (.seq (.region [⟨0, ⟨(some 129), none, (.pure .id), [(.tmp 1)]⟩, []⟩, ⟨0, ⟨(some 130), none, (.pure .id), [(.tmp 3)]⟩, []⟩, ⟨0, ⟨(some 131), none, (.pure (.bin .add .none)), [(.tmp 129), (.tmp 130)]⟩, []⟩, ⟨0, ⟨(some 132), none, (.pure (.conv .u64)), [(.tmp 131)]⟩, []⟩, ⟨0, ⟨(some 133), none, (.pure (.bin .shr .none)), [(.tmp 132), (.const (.int .u64 1))]⟩, []⟩, ⟨0, ⟨(some 134), none, (.pure (.conv .i64)), [(.tmp 133)]⟩, []⟩, ⟨0, ⟨(some 18), none, (.pure .id), [(.tmp 134)]⟩, []⟩]) (.seq (.region [⟨0, ⟨(some 135), none, (.pure .id), [(.tmp 18)]⟩, []⟩, ⟨0, ⟨(some 136), none, (.pure .id), [(.tmp 2)]⟩, []⟩, ⟨0, ⟨(some 137), none, (.pure (.bin .add .none)), [(.tmp 135), (.tmp 136)]⟩, []⟩, ⟨0, ⟨(some 19), none, (.pure .id), [(.tmp 137)]⟩, []⟩]) (.seq (.region [⟨0, ⟨(some 20), none, (.pure .id), [(.const (.int .i64 0))]⟩, []⟩, ⟨0, ⟨(some 21), none, (.pure .id), [(.const (.int .i64 0))]⟩, []⟩]) (.seq (.seq (.region [⟨0, ⟨(some 138), none, (.pure .id), [(.tmp 2)]⟩, []⟩, ⟨0, ⟨(some 139), none, (.pure .id), [(.tmp 18)]⟩, []⟩, ⟨0, ⟨(some 140), none, (.pure (.bin .gtr .none)), [(.tmp 138), (.tmp 139)]⟩, []⟩]) (.cond (.tmp 140) (.seq (.region [⟨0, ⟨(some 141), none, (.pure .id), [(.tmp 19)]⟩, []⟩, ⟨0, ⟨(some 142), none, (.pure .id), [(.tmp 3)]⟩, []⟩, ⟨0, ⟨(some 143), none, (.pure (.bin .sub .none)), [(.tmp 141), (.tmp 142)]⟩, []⟩, ⟨0, ⟨(some 20), none, (.pure .id), [(.tmp 143)]⟩, []⟩]) (.region [⟨0, ⟨(some 144), none, (.pure .id), [(.tmp 18)]⟩, []⟩, ⟨0, ⟨(some 21), none, (.pure .id), [(.tmp 144)]⟩, []⟩])) (.seq (.region [⟨0, ⟨(some 145), none, (.pure .id), [(.tmp 1)]⟩, []⟩, ⟨0, ⟨(some 20), none, (.pure .id), [(.tmp 145)]⟩, []⟩]) (.region [⟨0, ⟨(some 146), none, (.pure .id), [(.tmp 2)]⟩, []⟩, ⟨0, ⟨(some 21), none, (.pure .id), [(.tmp 146)]⟩, []⟩])))) symT0))))))⟩
theorem c_slices_symMergeCmpFunc_api_Dep : compF Tryz.prog Tryz.f115 = some G_slices_symMergeCmpFunc_api_Dep := by kernel_rfl
theorem gc_slices_symMergeCmpFunc_api_Dep {args : List DV} {σ : GS} {Post : DV → GS → Prop} (h : @exB Tryz.prog ⟨G_slices_symMergeCmpFunc_api_Dep.body⟩ (genv0 args G_slices_symMergeCmpFunc_api_Dep.ntmps) σ ⟨@gretB G_slices_symMergeCmpFunc_api_Dep.results ⟨Post⟩⟩) : GCall Tryz.prog F_slices_symMergeCmpFunc_api_Dep args σ Post := gcall_ofB seatfollows Tryz.func115 (by kernel_rfl) c_slices_symMergeCmpFunc_api_Dep h
noncomputable abbrev G_slices_rotateCmpFunc_api_Dep : GFun := ⟨58, [], (.seq (.region [⟨0, ⟨(some 12), none, (.pure .id), [(.tmp 2)]⟩, []⟩, ⟨0, ⟨(some 13), none, (.pure .id), [(.tmp 1)]⟩, []⟩, ⟨0, ⟨(some 14), none, (.pure (.bin .sub .none)), [(.tmp 12), (.tmp 13)]⟩, []⟩, ⟨0, ⟨(some 10), none, (.pure .id), [(.tmp 14)]⟩, []⟩]) (.seq (.region [⟨0, ⟨(some 15), none, (.pure .id), [(.tmp 3)]⟩, []⟩, ⟨0, ⟨(some 16), none, (.pure .id), [(.tmp 2)]⟩, []⟩, ⟨0, ⟨(some 17), none, (.pure (.bin .sub .none)), [(.tmp 15), (.tmp 16)]⟩, []⟩, ⟨0, ⟨(some 11), none, (.pure .id), [(.tmp 17)]⟩, []⟩]) (.seq (.block 0 (.loop (.seq (.seq (.region [⟨0, ⟨(some 18), none, (.pure .id), [(.tmp 10)]⟩, []⟩, ⟨0, ⟨(some 19), none, (.pure .id), [(.tmp 11)]⟩, []⟩, ⟨0, ⟨(some 20), none, (.pure (.bin .neq .none)), [(.tmp 18), (.tmp 19)]⟩, []⟩]) (.cond (.tmp 20) .skip (.exit 0))) (.block 1 (.seq (.region [⟨0, ⟨(some 21), none, (.pure .id), [(.tmp 10)]⟩, []⟩, ⟨0, ⟨(some 22), none, (.pure .id), [(.tmp 11)]⟩, []⟩, ⟨0, ⟨(some 23), none, (.pure (.bin .gtr .none)), [(.tmp 21), (.tmp 22)]⟩, []⟩]) (.cond (.tmp 23) (.seq (.region [⟨0, ⟨(some 24), none, (.pure .id), [(.tmp 0)]⟩, []⟩, ⟨0, ⟨(some 25), none, (.pure .id), [(.tmp 2)]⟩, []⟩, ⟨0, ⟨(some 26), none, (.pure .id), [(.tmp 10)]⟩, []⟩, ⟨0, ⟨(some 27), none, (.pure (.bin .sub .none)), [(.tmp 25), (.tmp 26)]⟩, []⟩, ⟨0, ⟨(some 28), none, (.pure .id), [(.tmp 2)]⟩, []⟩, ⟨0, ⟨(some 29), none, (.pure .id), [(.tmp 11)]⟩, []⟩, ⟨0, ⟨(some 30), none, (.pure .id), [(.tmp 4)]⟩, []⟩, ⟨0, ⟨(some 31), none, (.call F_slices_swapRangeCmpFunc_api_Dep), [(.tmp 24), (.tmp 27), (.tmp 28), (.tmp 29), (.tmp 30)]⟩, []⟩]) (.region [⟨0, ⟨(some 32), none, (.pure .id), [(.tmp 10)]⟩, []⟩, ⟨0, ⟨(some 33), none, (.pure .id), [(.tmp 11)]⟩, []⟩, ⟨0, ⟨(some 34), none, (.pure (.bin .sub .none)), [(.tmp 32), (.tmp 33)]⟩, []⟩, ⟨0, ⟨(some 10), none, (.pure .id), [(.tmp 34)]⟩, []⟩])) (.seq (.region [⟨0, ⟨(some 35), none, (.pure .id), [(.tmp 0)]⟩, []⟩, ⟨0, ⟨(some 36), none, (.pure .id), [(.tmp 2)]⟩, []⟩, ⟨0, ⟨(some 37), none, (.pure .id), [(.tmp 10)]⟩, []⟩, ⟨0, ⟨(some 38), none, (.pure (.bin .sub .none)), [(.tmp 36), (.tmp 37)]⟩, []⟩, ⟨0, ⟨(some 39), none, (.pure .id), [(.tmp 2)]⟩, []⟩, ⟨0, ⟨(some 40), none, (.pure .id), [(.tmp 11)]⟩, []⟩, ⟨0, ⟨(some 41), none, (.pure (.bin .add .none)), [(.tmp 39), (.tmp 40)]⟩, []⟩, ⟨0, ⟨(some 42), none, (.pure .id), [(.tmp 10)]⟩, []⟩, ⟨0, ⟨(some 43), none, (.pure (.bin .sub .none)), [(.tmp 41), (.tmp 42)]⟩, []⟩, ⟨0, ⟨(some 44), none, (.pure .id), [(.tmp 10)]⟩, []⟩, ⟨0, ⟨(some 45), none, (.pure .id), [(.tmp 4)]⟩, []⟩, ⟨0, ⟨(some 46), none, (.call F_slices_swapRangeCmpFunc_api_Dep), [(.tmp 35), (.tmp 38), (.tmp 43), (.tmp 44), (.tmp 45)]⟩, []⟩]) (.region [⟨0, ⟨(some 47), none, (.pure .id), [(.tmp 11)]⟩, []⟩, ⟨0, ⟨(some 48), none, (.pure .id), [(.tmp 10)]⟩, []⟩, ⟨0, ⟨(some 49), none, (.pure (.bin .sub .none)), [(.tmp 47), (.tmp 48)]⟩, []⟩, ⟨0, ⟨(some 11), none, (.pure .id), [(.tmp 49)]⟩, []⟩])))))))) (.region [⟨0, ⟨(some 50), none, (.pure .id), [(.tmp 0)]⟩, []⟩, ⟨0, ⟨(some 51), none, (.pure .id), [(.tmp 2)]⟩, []⟩, ⟨0, ⟨(some 52), none, (.pure .id), [(.tmp 10)]⟩, []⟩, ⟨0, ⟨(some 53), none, (.pure (.bin .sub .none)), [(.tmp 51), (.tmp 52)]⟩, []⟩, ⟨0, ⟨(some 54), none, (.pure .id), [(.tmp 2)]⟩, []⟩, ⟨0, ⟨(some 55), none, (.pure .id), [(.tmp 10)]⟩, []⟩, ⟨0, ⟨(some 56), none, (.pure .id), [(.tmp 4)]⟩, []⟩, ⟨0, ⟨(some 57), none, (.call F_slices_swapRangeCmpFunc_api_Dep), [(.tmp 50), (.tmp 53), (.tmp 54), (.tmp 55), (.tmp 56)]⟩, []⟩]))))⟩
theorem c_slices_rotateCmpFunc_api_Dep : compF Tryz.prog Tryz.f133 = some G_slices_rotateCmpFunc_api_Dep := by kernel_rfl
theorem gc_slices_rotateCmpFunc_api_Dep {args : List DV} {σ : GS} {Post : DV → GS → Prop} (h : @exB Tryz.prog ⟨G_slices_rotateCmpFunc_api_Dep.body⟩ (genv0 args G_slices_rotateCmpFunc_api_Dep.ntmps) σ ⟨@gretB G_slices_rotateCmpFunc_api_Dep.results ⟨Post⟩⟩) : GCall Tryz.prog F_slices_rotateCmpFunc_api_Dep args σ Post := gcall_ofB seatfollows Tryz.func133 (by kernel_rfl) c_slices_rotateCmpFunc_api_Dep h
noncomputable abbrev G_slices_swapRangeCmpFunc_api_Dep : GFun := ⟨38, [], (.seq (.region [⟨0, ⟨(some 10), none, (.pure .id), [(.const (.int .i64 0))]⟩, []⟩]) (.block 0 (.loop (.seq (.seq (.region [⟨0, ⟨(some 11), none, (.pure .id), [(.tmp 10)]⟩, []⟩, ⟨0, ⟨(some 12), none, (.pure .id), [(.tmp 3)]⟩, []⟩, ⟨0, ⟨(some 13), none, (.pure (.bin .lss .none)), [(.tmp 11), (.tmp 12)]⟩, []⟩]) (.cond (.tmp 13) .skip (.exit 0))) (.seq (.block 1 (.region [⟨0, ⟨(some 16), none, (.pure .id), [(.tmp 0)]⟩, []⟩, ⟨1, ⟨(some 17), none, (.pure .id), [(.tmp 1)]⟩, []⟩, ⟨2, ⟨(some 18), none, (.pure .id), [(.tmp 10)]⟩, []⟩, ⟨3, ⟨(some 19), none, (.pure (.bin .add .none)), [(.tmp 17), (.tmp 18)]⟩, []⟩, ⟨4, ⟨(some 20), none, (.pure .id), [(.tmp 0)]⟩, []⟩, ⟨5, ⟨(some 21), none, (.pure .id), [(.tmp 2)]⟩, []⟩, ⟨6, ⟨(some 22), none, (.pure .id), [(.tmp 10)]⟩, []⟩, ⟨7, ⟨(some 23), none, (.pure (.bin .add .none)), [(.tmp 21), (.tmp 22)]⟩, []⟩, ⟨8, ⟨(some 24), none, (.pure .id), [(.tmp 0)]⟩, []⟩, ⟨9, ⟨(some 25), none, (.pure .id), [(.tmp 2)]⟩, []⟩, ⟨10, ⟨(some 26), none, (.pure .id), [(.tmp 10)]⟩, []⟩, ⟨11, ⟨(some 27), none, (.pure (.bin .add .none)), [(.tmp 25), (.tmp 26)]⟩, []⟩, ⟨12, ⟨(some 28), none, (.pure (.iaddr 2)), [(.tmp 24), (.tmp 27)]⟩, []⟩, ⟨13, ⟨(some 29), none, (.load (.load 2 true)), [(.tmp 28)]⟩, []⟩, ⟨14, ⟨(some 30), none, (.pure .id), [(.tmp 0)]⟩, []⟩, ⟨15, ⟨(some 31), none, (.pure .id), [(.tmp 1)]⟩, []⟩, ⟨16, ⟨(some 32), none, (.pure .id), [(.tmp 10)]⟩, []⟩, ⟨17, ⟨(some 33), none, (.pure (.bin .add .none)), [(.tmp 31), (.tmp 32)]⟩, []⟩, ⟨18, ⟨(some 34), none, (.pure (.iaddr 2)), [(.tmp 30), (.tmp 33)]⟩, []⟩, ⟨19, ⟨(some 35), none, (.load (.load 2 true)), [(.tmp 34)]⟩, []⟩, ⟨20, ⟨(some 36), none, (.pure (.iaddr 2)), [(.tmp 16), (.tmp 19)]⟩, []⟩, ⟨21, ⟨none, none, (.imp (.store 2)), [(.tmp 36), (.tmp 29)]⟩, []⟩, ⟨22, ⟨(some 37), none, (.pure (.iaddr 2)), [(.tmp 20), (.tmp 23)]⟩, []⟩, ⟨23, ⟨none, none, (.imp (.store 2)), [(.tmp 37), (.tmp 35)]⟩, []⟩])) (.region [⟨0, ⟨(some 14), none, (.pure .id), [(.tmp 10)]⟩, []⟩, ⟨0, ⟨(some 15), none, (.pure (.bin .add .none)), [(.tmp 14), (.const (.int .i64 1))]⟩, []⟩, ⟨0, ⟨(some 10), none, (.pure .id), [(.tmp 15)]⟩, []⟩]))))))⟩
theorem c_slices_swapRangeCmpFunc_api_Dep : compF Tryz.prog Tryz.f139 = some G_slices_swapRangeCmpFunc_api_Dep := by kernel_rfl
theorem gc_slices_swapRangeCmpFunc_api_Dep {args : List DV} {σ : GS} {Post : DV → GS → Prop} (h : @exB Tryz.prog ⟨G_slices_swapRangeCmpFunc_api_Dep.body⟩ (genv0 args G_slices_swapRangeCmpFunc_api_Dep.ntmps) σ ⟨@gretB G_slices_swapRangeCmpFunc_api_Dep.results ⟨Post⟩⟩) : GCall Tryz.prog F_slices_swapRangeCmpFunc_api_Dep args σ Post := gcall_ofB seatfollows Tryz.func139 (by kernel_rfl) c_slices_swapRangeCmpFunc_api_Dep h
noncomputable abbrev G_prefix_Linear : GFun := ⟨52, [(.tmp 2), (.tmp 3)], (.seq (.region [⟨0, ⟨(some 1), none, (.new .box), [(.tmp 0)]⟩, []⟩, ⟨0, ⟨(some 2), none, (.pure .id), [(.const .nils)]⟩, []⟩, ⟨0, ⟨(some 3), none, (.pure .id), [(.const (.int .i64 0))]⟩, []⟩]) (.seq (.seq (.region [⟨0, ⟨(some 10), none, (.load (.load 3 true)), [(.tmp 1)]⟩, []⟩, ⟨0, ⟨(some 11), none, (.call F_prefix_MayDqbf), [(.tmp 10)]⟩, []⟩, ⟨0, ⟨(some 12), none, (.pure (.un .not)), [(.tmp 11)]⟩, []⟩]) (.cond (.tmp 12) (.seq (.region [⟨0, ⟨(some 2), none, (.pure .id), [(.const .nils)]⟩, []⟩, ⟨0, ⟨(some 3), none, (.pure .id), [(.const (.int .i64 2))]⟩, []⟩]) .ret) .skip)) (.seq (.region [⟨0, ⟨(some 13), none, (.pure (.faddr 1)), [(.tmp 1)]⟩, []⟩, ⟨0, ⟨(some 14), none, (.load (.load 1 false)), [(.tmp 13)]⟩, []⟩, ⟨0, ⟨(some 15), none, (.call F_slices_Clone_api_Dep_api_Dep), [(.tmp 14)]⟩, []⟩, ⟨0, ⟨(some 4), none, (.pure .id), [(.tmp 15)]⟩, []⟩]) (.seq (.region [⟨0, ⟨(some 16), none, (.pure .id), [(.tmp 4)]⟩, []⟩, ⟨0, ⟨(some 17), none, (.call F_slices_SortStableFunc_api_Dep_api_Dep), [(.tmp 16), (.const (.func F_prefix_Linear_1 [] []))]⟩, []⟩]) (.seq (.region [⟨0, ⟨(some 5), none, (.pure .id), [(.const .nils)]⟩, []⟩]) (.seq (.region [⟨0, ⟨(some 6), none, (.new (.alloc [.nils])), []⟩, []⟩]) (.seq (.region [⟨0, ⟨(some 18), none, (.pure (.mkfunc F_prefix_Linear_2 0)), [(.tmp 6)]⟩, []⟩, ⟨0, ⟨(some 7), none, (.pure .id), [(.tmp 18)]⟩, []⟩]) (.seq (.seq (.region [⟨0, ⟨(some 19), none, (.pure .id), [(.tmp 4)]⟩, []⟩, ⟨0, ⟨(some 20), none, (.pure .len), [(.tmp 19)]⟩, []⟩, ⟨0, ⟨(some 21), none, (.pure .id), [(.const (.int .i64 0))]⟩, []⟩]) (.block 0 (.loop (.seq (.region [⟨0, ⟨(some 22), none, (.pure (.bin .lss .none)), [(.tmp 21), (.tmp 20)]⟩, []⟩]) (.seq (.cond (.tmp 22) .skip (.exit 0)) (.seq (.block 1 (.seq (.region [⟨0, ⟨(some 23), none, (.pure (.iaddr 2)), [(.tmp 19), (.tmp 21)]⟩, []⟩, ⟨0, ⟨(some 24), none, (.load (.load 2 true)), [(.tmp 23)]⟩, []⟩, ⟨0, ⟨(some 9), none, (.new (.alloc [(.int .i64 0), .nils])), []⟩, []⟩, ⟨0, ⟨none, none, (.imp (.store 2)), [(.tmp 9), (.tmp 24)]⟩, []⟩]) (.seq (.seq (.region [⟨0, ⟨(some 25), none, (.load (.load 1 false)), [(.tmp 6)]⟩, []⟩, ⟨0, ⟨(some 26), none, (.pure (.faddr 1)), [(.tmp 9)]⟩, []⟩, ⟨0, ⟨(some 27), none, (.load (.load 1 false)), [(.tmp 26)]⟩, []⟩, ⟨0, ⟨(some 28), none, (.call F_prefix_part), [(.tmp 25), (.tmp 27)]⟩, []⟩, ⟨0, ⟨(some 29), none, (.pure (.un .not)), [(.tmp 28)]⟩, []⟩]) (.cond (.tmp 29) (.seq (.region [⟨0, ⟨(some 2), none, (.pure .id), [(.const .nils)]⟩, []⟩, ⟨0, ⟨(some 3), none, (.pure .id), [(.const (.int .i64 30))]⟩, []⟩]) .ret) .skip)) (.seq (.region [⟨0, ⟨(some 30), none, (.pure .id), [(.tmp 5)]⟩, []⟩, ⟨1, ⟨(some 31), none, (.pure .id), [(.tmp 7)]⟩, []⟩, ⟨2, ⟨(some 32), none, (.pure (.faddr 1)), [(.tmp 9)]⟩, []⟩, ⟨3, ⟨(some 33), none, (.load (.load 1 false)), [(.tmp 32)]⟩, []⟩, ⟨5, ⟨(some 35), none, (.pure (.faddr 0)), [(.tmp 9)]⟩, []⟩, ⟨6, ⟨(some 36), none, (.load (.load 1 false)), [(.tmp 35)]⟩, []⟩, ⟨7, ⟨(some 37), none, (.new (.bslice 1 [(.int .i64 0)] 1 [(0, 1)])), [(.tmp 36)]⟩, []⟩, ⟨8, ⟨(some 38), none, (.pure (.build [(.bool false), .nils] [(0, 1), (1, 1)])), [(.const (.bool true)), (.tmp 37)]⟩, []⟩, ⟨4, ⟨(some 34), none, .callv, [(.tmp 31), (.tmp 33)]⟩, [⟨(some 36), none, (.load (.load 1 false)), [(.tmp 35)]⟩, ⟨(some 37), none, (.new (.bslice 1 [(.int .i64 0)] 1 [(0, 1)])), [(.tmp 36)]⟩]⟩, ⟨9, ⟨(some 39), none, (.new (.bslice 2 [(.bool false), .nils] 2 [(0, 2), (2, 2)])), [(.tmp 34), (.tmp 38)]⟩, []⟩, ⟨10, ⟨(some 40), none, (.imp (.append 2 32)), [(.tmp 30), (.tmp 39)]⟩, []⟩, ⟨11, ⟨(some 5), none, (.pure .id), [(.tmp 40)]⟩, []⟩]) (.region [⟨0, ⟨(some 41), none, (.pure (.faddr 1)), [(.tmp 9)]⟩, []⟩, ⟨0, ⟨(some 42), none, (.load (.load 1 false)), [(.tmp 41)]⟩, []⟩, ⟨0, ⟨none, none, (.imp (.store 1)), [(.tmp 6), (.tmp 42)]⟩, []⟩]))))) (.region [⟨0, ⟨(some 43), none, (.pure (.bin .add .none)), [(.tmp 21), (.const (.int .i64 1))]⟩, []⟩, ⟨0, ⟨(some 21), none, (.pure .id), [(.tmp 43)]⟩, []⟩]))))))) (.seq (.region [⟨0, ⟨(some 44), none, (.pure .id), [(.tmp 5)]⟩, []⟩, ⟨0, ⟨(some 45), none, (.pure .id), [(.tmp 7)]⟩, []⟩, ⟨0, ⟨(some 46), none, (.pure (.faddr 0)), [(.tmp 1)]⟩, []⟩, ⟨0, ⟨(some 47), none, (.load (.load 1 false)), [(.tmp 46)]⟩, []⟩, ⟨0, ⟨(some 48), none, .callv, [(.tmp 45), (.tmp 47)]⟩, []⟩, ⟨0, ⟨(some 49), none, (.new (.bslice 2 [(.bool false), .nils] 1 [(0, 2)])), [(.tmp 48)]⟩, []⟩, ⟨0, ⟨(some 50), none, (.imp (.append 2 32)), [(.tmp 44), (.tmp 49)]⟩, []⟩, ⟨0, ⟨(some 51), none, (.call F_prefix_joined), [(.tmp 50)]⟩, []⟩, ⟨0, ⟨(some 2), none, (.pure .id), [(.tmp 51)]⟩, []⟩, ⟨0, ⟨(some 3), none, (.pure .id), [(.const (.int .i64 0))]⟩, []⟩]) .ret)))))))))⟩
theorem c_prefix_Linear : compF Tryz.prog Tryz.f20 = some G_prefix_Linear := by kernel_rfl
theorem gc_prefix_Linear {args : List DV} {σ : GS} {Post : DV → GS → Prop} (h : @exB Tryz.prog ⟨G_prefix_Linear.body⟩ (genv0 args G_prefix_Linear.ntmps) σ ⟨@gretB G_prefix_Linear.results ⟨Post⟩⟩) : GCall Tryz.prog F_prefix_Linear args σ Post := gcall_ofB seatfollows Tryz.func20 (by kernel_rfl) c_prefix_Linear h
noncomputable abbrev G_prefix_Linear_1 : GFun := ⟨12, [(.tmp 4)], (.seq (.region [⟨0, ⟨(some 2), none, (.new .box), [(.tmp 0)]⟩, []⟩, ⟨0, ⟨(some 3), none, (.new .box), [(.tmp 1)]⟩, []⟩, ⟨0, ⟨(some 4), none, (.pure .id), [(.const (.int .i64 0))]⟩, []⟩]) (.seq (.region [⟨0, ⟨(some 5), none, (.pure (.faddr 1)), [(.tmp 2)]⟩, []⟩, ⟨0, ⟨(some 6), none, (.load (.load 1 false)), [(.tmp 5)]⟩, []⟩, ⟨0, ⟨(some 7), none, (.pure .len), [(.tmp 6)]⟩, []⟩, ⟨0, ⟨(some 8), none, (.pure (.faddr 1)), [(.tmp 3)]⟩, []⟩, ⟨0, ⟨(some 9), none, (.load (.load 1 false)), [(.tmp 8)]⟩, []⟩, ⟨0, ⟨(some 10), none, (.pure .len), [(.tmp 9)]⟩, []⟩, ⟨0, ⟨(some 11), none, (.call F_cmp_Compare_int), [(.tmp 7), (.tmp 10)]⟩, []⟩, ⟨0, ⟨(some 4), none, (.pure .id), [(.tmp 11)]⟩, []⟩]) .ret))⟩
theorem c_prefix_Linear_1 : compF Tryz.prog Tryz.f65 = some G_prefix_Linear_1 := by kernel_rfl
theorem gc_prefix_Linear_1 {args : List DV} {σ : GS} {Post : DV → GS → Prop} (h : @exB Tryz.prog ⟨G_prefix_Linear_1.body⟩ (genv0 args G_prefix_Linear_1.ntmps) σ ⟨@gretB G_prefix_Linear_1.results ⟨Post⟩⟩) : GCall Tryz.prog F_prefix_Linear_1 args σ Post := gcall_ofB seatfollows Tryz.func65 (by kernel_rfl) c_prefix_Linear_1 h
noncomputable abbrev G_prefix_Linear_2 : GFun := ⟨9, [(.cell 3 2 true)], (.seq (.region [⟨0, ⟨(some 3), none, (.new (.alloc [(.bool false), .nils])), []⟩, []⟩]) (.seq (.region [⟨0, ⟨(some 4), none, (.pure .id), [(.tmp 0)]⟩, []⟩, ⟨0, ⟨(some 5), none, (.call F_slices_Clone_int_int), [(.tmp 4)]⟩, []⟩, ⟨0, ⟨(some 6), none, (.pure (.mkfunc F_prefix_Linear_2_1 0)), [(.tmp 1)]⟩, []⟩, ⟨0, ⟨(some 7), none, (.call F_slices_DeleteFunc_int_int), [(.tmp 5), (.tmp 6)]⟩, []⟩, ⟨0, ⟨(some 8), none, (.pure (.build [(.bool false), .nils] [(1, 1)])), [(.tmp 7)]⟩, []⟩, ⟨0, ⟨none, none, (.imp (.store 2)), [(.tmp 3), (.tmp 8)]⟩, []⟩]) .ret))⟩
theorem c_prefix_Linear_2 : compF Tryz.prog Tryz.f66 = some G_prefix_Linear_2 := by kernel_rfl
theorem gc_prefix_Linear_2 {args : List DV} {σ : GS} {Post : DV → GS → Prop} (h : @exB Tryz.prog ⟨G_prefix_Linear_2.body⟩ (genv0 args G_prefix_Linear_2.ntmps) σ ⟨@gretB G_prefix_Linear_2.results ⟨Post⟩⟩) : GCall Tryz.prog F_prefix_Linear_2 args σ Post := gcall_ofB seatfollows Tryz.func66 (by kernel_rfl) c_prefix_Linear_2 h
noncomputable abbrev G_prefix_Linear_2_1 : GFun := ⟨8, [(.tmp 3)], (.seq (.region [⟨0, ⟨(some 3), none, (.pure .id), [(.const (.bool false))]⟩, []⟩]) (.seq (.region [⟨0, ⟨(some 4), none, (.pure .id), [(.tmp 0)]⟩, []⟩, ⟨0, ⟨(some 5), none, (.new (.bslice 1 [(.int .i64 0)] 1 [(0, 1)])), [(.tmp 4)]⟩, []⟩, ⟨0, ⟨(some 6), none, (.load (.load 1 false)), [(.tmp 1)]⟩, []⟩, ⟨0, ⟨(some 7), none, (.call F_prefix_part), [(.tmp 5), (.tmp 6)]⟩, []⟩, ⟨0, ⟨(some 3), none, (.pure .id), [(.tmp 7)]⟩, []⟩]) .ret))⟩
theorem c_prefix_Linear_2_1 : compF Tryz.prog Tryz.f69 = some G_prefix_Linear_2_1 := by kernel_rfl
theorem gc_prefix_Linear_2_1 {args : List DV} {σ : GS} {Post : DV → GS → Prop} (h : @exB Tryz.prog ⟨G_prefix_Linear_2_1.body⟩ (genv0 args G_prefix_Linear_2_1.ntmps) σ ⟨@gretB G_prefix_Linear_2_1.results ⟨Post⟩⟩) : GCall Tryz.prog F_prefix_Linear_2_1 args σ Post := gcall_ofB seatfollows Tryz.func69 (by kernel_rfl) c_prefix_Linear_2_1 h
noncomputable abbrev G_prefix_part : GFun := ⟨24, [(.tmp 4)], (.seq (.region [⟨0, ⟨(some 4), none, (.pure .id), [(.const (.bool false))]⟩, []⟩]) (.seq (.seq (.region [⟨0, ⟨(some 9), none, (.pure .id), [(.tmp 0)]⟩, []⟩, ⟨0, ⟨(some 10), none, (.pure .len), [(.tmp 9)]⟩, []⟩, ⟨0, ⟨(some 11), none, (.pure .id), [(.const (.int .i64 0))]⟩, []⟩]) (.block 0 (.loop (.seq (.region [⟨0, ⟨(some 12), none, (.pure (.bin .lss .none)), [(.tmp 11), (.tmp 10)]⟩, []⟩]) (.seq (.cond (.tmp 12) .skip (.exit 0)) (.seq (.block 1 (.seq (.region [⟨0, ⟨(some 13), none, (.pure (.iaddr 1)), [(.tmp 9), (.tmp 11)]⟩, []⟩, ⟨0, ⟨(some 14), none, (.load (.load 1 false)), [(.tmp 13)]⟩, []⟩, ⟨0, ⟨(some 6), none, (.pure .id), [(.tmp 14)]⟩, []⟩]) (.seq (.region [⟨0, ⟨(some 16), none, (.pure .id), [(.tmp 1)]⟩, []⟩, ⟨0, ⟨(some 17), none, (.pure .id), [(.tmp 6)]⟩, []⟩, ⟨0, ⟨(some 18), none, (.call F_slices_BinarySearch_int_int), [(.tmp 16), (.tmp 17)]⟩, []⟩, ⟨0, ⟨(some 15), none, (.pure .id), [(.tmp 18)]⟩, []⟩, ⟨0, ⟨(some 19), none, (.pure (.extract 0)), [(.tmp 15)]⟩, []⟩, ⟨0, ⟨(some 20), none, (.pure (.extract 1)), [(.tmp 15)]⟩, []⟩, ⟨0, ⟨(some 7), none, (.pure .id), [(.tmp 19)]⟩, []⟩, ⟨0, ⟨(some 8), none, (.pure .id), [(.tmp 20)]⟩, []⟩]) (.seq (.region [⟨0, ⟨(some 21), none, (.pure .id), [(.tmp 8)]⟩, []⟩, ⟨0, ⟨(some 22), none, (.pure (.un .not)), [(.tmp 21)]⟩, []⟩]) (.cond (.tmp 22) (.seq (.region [⟨0, ⟨(some 4), none, (.pure .id), [(.const (.bool false))]⟩, []⟩]) .ret) .skip))))) (.region [⟨0, ⟨(some 23), none, (.pure (.bin .add .none)), [(.tmp 11), (.const (.int .i64 1))]⟩, []⟩, ⟨0, ⟨(some 11), none, (.pure .id), [(.tmp 23)]⟩, []⟩]))))))) (.seq (.region [⟨0, ⟨(some 4), none, (.pure .id), [(.const (.bool true))]⟩, []⟩]) .ret)))⟩
theorem c_prefix_part : compF Tryz.prog Tryz.f70 = some G_prefix_part := by kernel_rfl
theorem gc_prefix_part {args : List DV} {σ : GS} {Post : DV → GS → Prop} (h : @exB Tryz.prog ⟨G_prefix_part.body⟩ (genv0 args G_prefix_part.ntmps) σ ⟨@gretB G_prefix_part.results ⟨Post⟩⟩) : GCall Tryz.prog F_prefix_part args σ Post := gcall_ofB seatfollows Tryz.func70 (by kernel_rfl) c_prefix_part h
noncomputable abbrev G_slices_BinarySearch_int_int : GFun := ⟨54, [(.tmp 4), (.tmp 5)], (.seq (.region [⟨0, ⟨(some 4), none, (.pure .id), [(.const (.int .i64 0))]⟩, []⟩, ⟨0, ⟨(some 5), none, (.pure .id), [(.const (.bool false))]⟩, []⟩]) (.seq (.region [⟨0, ⟨(some 10), none, (.pure .id), [(.tmp 0)]⟩, []⟩, ⟨0, ⟨(some 11), none, (.pure .len), [(.tmp 10)]⟩, []⟩, ⟨0, ⟨(some 6), none, (.pure .id), [(.tmp 11)]⟩, []⟩]) (.seq (.region [⟨0, ⟨(some 12), none, (.pure .id), [(.tmp 6)]⟩, []⟩, ⟨0, ⟨(some 7), none, (.pure .id), [(.const (.int .i64 0))]⟩, []⟩, ⟨0, ⟨(some 8), none, (.pure .id), [(.tmp 12)]⟩, []⟩]) (.seq (.block 0 (.loop (.seq (.seq (.region [⟨0, ⟨(some 13), none, (.pure .id), [(.tmp 7)]⟩, []⟩, ⟨0, ⟨(some 14), none, (.pure .id), [(.tmp 8)]⟩, []⟩, ⟨0, ⟨(some 15), none, (.pure (.bin .lss .none)), [(.tmp 13), (.tmp 14)]⟩, []⟩]) (.cond (.tmp 15) .skip (.exit 0))) (.block 1 (.seq (.region [⟨0, ⟨(some 16), none, (.pure .id), [(.tmp 7)]⟩, []⟩, ⟨0, ⟨(some 17), none, (.pure .id), [(.tmp 8)]⟩, []⟩, ⟨0, ⟨(some 18), none, (.pure (.bin .add .none)), [(.tmp 16), (.tmp 17)]⟩, []⟩, ⟨0, ⟨(some 19), none, (.pure (.conv .u64)), [(.tmp 18)]⟩, []⟩, ⟨0, ⟨(some 20), none, (.pure (.bin .shr .none)), [(.tmp 19), (.const (.int .u64 1))]⟩, []⟩, ⟨0, ⟨(some 21), none, (.pure (.conv .i64)), [(.tmp 20)]⟩, []⟩, ⟨0, ⟨(some 9), none, (.pure .id), [(.tmp 21)]⟩, []⟩]) (.seq (.region [⟨0, ⟨(some 22), none, (.pure .id), [(.tmp 0)]⟩, []⟩, ⟨0, ⟨(some 23), none, (.pure .id), [(.tmp 9)]⟩, []⟩, ⟨0, ⟨(some 24), none, (.pure (.iaddr 1)), [(.tmp 22), (.tmp 23)]⟩, []⟩, ⟨0, ⟨(some 25), none, (.load (.load 1 false)), [(.tmp 24)]⟩, []⟩, ⟨0, ⟨(some 26), none, (.pure .id), [(.tmp 1)]⟩, []⟩, ⟨0, ⟨(some 27), none, (.call F_cmp_Less_int), [(.tmp 25), (.tmp 26)]⟩, []⟩]) (.cond (.tmp 27) (.region [⟨0, ⟨(some 28), none, (.pure .id), [(.tmp 9)]⟩, []⟩, ⟨0, ⟨(some 29), none, (.pure (.bin .add .none)), [(.tmp 28), (.const (.int .i64 1))]⟩, []⟩, ⟨0, ⟨(some 7), none, (.pure .id), [(.tmp 29)]⟩, []⟩]) (.region [⟨0, ⟨(some 30), none, (.pure .id), [(.tmp 9)]⟩, []⟩, ⟨0, ⟨(some 8), none, (.pure .id), [(.tmp 30)]⟩, []⟩])))))))) (.seq (.region [⟨0, ⟨(some 31), none, (.pure .id), [(.tmp 7)]⟩, []⟩, ⟨0, ⟨(some 32), none, (.pure .id), [(.tmp 7)]⟩, []⟩, ⟨0, ⟨(some 33), none, (.pure .id), [(.tmp 6)]⟩, []⟩, ⟨0, ⟨(some 34), none, (.pure (.bin .lss .none)), [(.tmp 32), (.tmp 33)]⟩, []⟩, ⟨0, ⟨(some 35), none, (.pure .id), [(.tmp 34)]⟩, []⟩, ⟨0, ⟨(some 36), (some (35, true)), (.pure .id), [(.tmp 0)]⟩, []⟩, ⟨0, ⟨(some 37), (some (35, true)), (.pure .id), [(.tmp 7)]⟩, []⟩, ⟨0, ⟨(some 38), (some (35, true)), (.pure (.iaddr 1)), [(.tmp 36), (.tmp 37)]⟩, []⟩, ⟨0, ⟨(some 39), (some (35, true)), (.load (.load 1 false)), [(.tmp 38)]⟩, []⟩, ⟨0, ⟨(some 40), (some (35, true)), (.pure .id), [(.tmp 1)]⟩, []⟩, ⟨0, ⟨(some 41), (some (35, true)), (.pure (.bin .eql .none)), [(.tmp 39), (.tmp 40)]⟩, []⟩, ⟨0, ⟨(some 42), (some (35, true)), (.pure .id), [(.tmp 41)]⟩, []⟩, ⟨0, ⟨(some 43), (some (42, false)), (.pure .id), [(.tmp 0)]⟩, []⟩, ⟨0, ⟨(some 44), (some (42, false)), (.pure .id), [(.tmp 7)]⟩, []⟩, ⟨0, ⟨(some 45), (some (42, false)), (.pure (.iaddr 1)), [(.tmp 43), (.tmp 44)]⟩, []⟩, ⟨0, ⟨(some 46), (some (42, false)), (.load (.load 1 false)), [(.tmp 45)]⟩, []⟩, ⟨0, ⟨(some 47), (some (42, false)), (.call F_slices_isNaN_int), [(.tmp 46)]⟩, []⟩, ⟨0, ⟨(some 48), (some (42, false)), (.pure .id), [(.tmp 47)]⟩, []⟩, ⟨0, ⟨(some 49), (some (48, true)), (.pure .id), [(.tmp 1)]⟩, []⟩, ⟨0, ⟨(some 50), (some (48, true)), (.call F_slices_isNaN_int), [(.tmp 49)]⟩, []⟩, ⟨0, ⟨(some 51), (some (42, false)), (.pure .pick), [(.tmp 48), (.tmp 50), (.const (.bool false))]⟩, []⟩, ⟨0, ⟨(some 52), (some (35, true)), (.pure .pick), [(.tmp 42), (.const (.bool true)), (.tmp 51)]⟩, []⟩, ⟨0, ⟨(some 53), none, (.pure .pick), [(.tmp 35), (.tmp 52), (.const (.bool false))]⟩, []⟩, ⟨0, ⟨(some 4), none, (.pure .id), [(.tmp 31)]⟩, []⟩, ⟨0, ⟨(some 5), none, (.pure .id), [(.tmp 53)]⟩, []⟩]) .ret)))))⟩
theorem c_slices_BinarySearch_int_int : compF Tryz.prog Tryz.f98 = some G_slices_BinarySearch_int_int := by kernel_rfl
theorem gc_slices_BinarySearch_int_int {args : List DV} {σ : GS} {Post : DV → GS → Prop} (h : @exB Tryz.prog ⟨G_slices_BinarySearch_int_int.body⟩ (genv0 args G_slices_BinarySearch_int_int.ntmps) σ ⟨@gretB G_slices_BinarySearch_int_int.results ⟨Post⟩⟩) : GCall Tryz.prog F_slices_BinarySearch_int_int args σ Post := gcall_ofB seatfollows Tryz.func98 (by kernel_rfl) c_slices_BinarySearch_int_int h
noncomputable abbrev G_cmp_isNaN_int : GFun := ⟨6, [(.tmp 2)], (.seq (.region [⟨0, ⟨(some 2), none, (.pure .id), [(.const (.bool false))]⟩, []⟩]) (.seq (.region [⟨0, ⟨(some 3), none, (.pure .id), [(.tmp 0)]⟩, []⟩, ⟨0, ⟨(some 4), none, (.pure .id), [(.tmp 0)]⟩, []⟩, ⟨0, ⟨(some 5), none, (.pure (.bin .neq .none)), [(.tmp 3), (.tmp 4)]⟩, []⟩, ⟨0, ⟨(some 2), none, (.pure .id), [(.tmp 5)]⟩, []⟩]) .ret))⟩
theorem c_cmp_isNaN_int : compF Tryz.prog Tryz.f96 = some G_cmp_isNaN_int := by kernel_rfl
theorem gc_cmp_isNaN_int {args : List DV} {σ : GS} {Post : DV → GS → Prop} (h : @exB Tryz.prog ⟨G_cmp_isNaN_int.body⟩ (genv0 args G_cmp_isNaN_int.ntmps) σ ⟨@gretB G_cmp_isNaN_int.results ⟨Post⟩⟩) : GCall Tryz.prog F_cmp_isNaN_int args σ Post := gcall_ofB seatfollows Tryz.func96 (by kernel_rfl) c_cmp_isNaN_int h
noncomputable abbrev G_cmp_Less_int : GFun := ⟨17, [(.tmp 4)], (.seq (.region [⟨0, ⟨(some 4), none, (.pure .id), [(.const (.bool false))]⟩, []⟩]) (.seq (.region [⟨0, ⟨(some 5), none, (.pure .id), [(.tmp 0)]⟩, []⟩, ⟨0, ⟨(some 6), none, (.call F_cmp_isNaN_int), [(.tmp 5)]⟩, []⟩, ⟨0, ⟨(some 7), none, (.pure .id), [(.tmp 6)]⟩, []⟩, ⟨0, ⟨(some 8), (some (7, true)), (.pure .id), [(.tmp 1)]⟩, []⟩, ⟨0, ⟨(some 9), (some (7, true)), (.call F_cmp_isNaN_int), [(.tmp 8)]⟩, []⟩, ⟨0, ⟨(some 10), (some (7, true)), (.pure (.un .not)), [(.tmp 9)]⟩, []⟩, ⟨0, ⟨(some 11), none, (.pure .pick), [(.tmp 7), (.tmp 10), (.const (.bool false))]⟩, []⟩, ⟨0, ⟨(some 12), none, (.pure .id), [(.tmp 11)]⟩, []⟩, ⟨0, ⟨(some 13), (some (12, false)), (.pure .id), [(.tmp 0)]⟩, []⟩, ⟨0, ⟨(some 14), (some (12, false)), (.pure .id), [(.tmp 1)]⟩, []⟩, ⟨0, ⟨(some 15), (some (12, false)), (.pure (.bin .lss .none)), [(.tmp 13), (.tmp 14)]⟩, []⟩, ⟨0, ⟨(some 16), none, (.pure .pick), [(.tmp 12), (.const (.bool true)), (.tmp 15)]⟩, []⟩, ⟨0, ⟨(some 4), none, (.pure .id), [(.tmp 16)]⟩, []⟩]) .ret))⟩
theorem c_cmp_Less_int : compF Tryz.prog Tryz.f116 = some G_cmp_Less_int := by kernel_rfl
theorem gc_cmp_Less_int {args : List DV} {σ : GS} {Post : DV → GS → Prop} (h : @exB Tryz.prog ⟨G_cmp_Less_int.body⟩ (genv0 args G_cmp_Less_int.ntmps) σ ⟨@gretB G_cmp_Less_int.results ⟨Post⟩⟩) : GCall Tryz.prog F_cmp_Less_int args σ Post := gcall_ofB seatfollows Tryz.func116 (by kernel_rfl) c_cmp_Less_int h
noncomputable abbrev G_slices_isNaN_int : GFun := ⟨6, [(.tmp 2)], (.seq (.region [⟨0, ⟨(some 2), none, (.pure .id), [(.const (.bool false))]⟩, []⟩]) (.seq (.region [⟨0, ⟨(some 3), none, (.pure .id), [(.tmp 0)]⟩, []⟩, ⟨0, ⟨(some 4), none, (.pure .id), [(.tmp 0)]⟩, []⟩, ⟨0, ⟨(some 5), none, (.pure (.bin .neq .none)), [(.tmp 3), (.tmp 4)]⟩, []⟩, ⟨0, ⟨(some 2), none, (.pure .id), [(.tmp 5)]⟩, []⟩]) .ret))⟩
theorem c_slices_isNaN_int : compF Tryz.prog Tryz.f117 = some G_slices_isNaN_int := by kernel_rfl
theorem gc_slices_isNaN_int {args : List DV} {σ : GS} {Post : DV → GS → Prop} (h : @exB Tryz.prog ⟨G_slices_isNaN_int.body⟩ (genv0 args G_slices_isNaN_int.ntmps) σ ⟨@gretB G_slices_isNaN_int.results ⟨Post⟩⟩) : GCall Tryz.prog F_slices_isNaN_int args σ Post := gcall_ofB seatfollows Tryz.func117 (by kernel_rfl) c_slices_isNaN_int h
noncomputable abbrev G_cmp_Compare_int : GFun := ⟨20, [(.tmp 4)], (.seq (.region [⟨0, ⟨(some 4), none, (.pure .id), [(.const (.int .i64 0))]⟩, []⟩]) (.seq (.region [⟨0, ⟨(some 7), none, (.pure .id), [(.tmp 0)]⟩, []⟩, ⟨0, ⟨(some 8), none, (.call F_cmp_isNaN_int), [(.tmp 7)]⟩, []⟩, ⟨0, ⟨(some 5), none, (.pure .id), [(.tmp 8)]⟩, []⟩]) (.seq (.region [⟨0, ⟨(some 9), none, (.pure .id), [(.tmp 1)]⟩, []⟩, ⟨0, ⟨(some 10), none, (.call F_cmp_isNaN_int), [(.tmp 9)]⟩, []⟩, ⟨0, ⟨(some 6), none, (.pure .id), [(.tmp 10)]⟩, []⟩]) (.seq (.seq (.region [⟨0, ⟨(some 11), none, (.pure .id), [(.tmp 5)]⟩, []⟩]) (.cond (.tmp 11) (.seq (.seq (.region [⟨0, ⟨(some 12), none, (.pure .id), [(.tmp 6)]⟩, []⟩]) (.cond (.tmp 12) (.seq (.region [⟨0, ⟨(some 4), none, (.pure .id), [(.const (.int .i64 0))]⟩, []⟩]) .ret) .skip)) (.seq (.region [⟨0, ⟨(some 4), none, (.pure .id), [(.const (.int .i64 (-1)))]⟩, []⟩]) .ret)) .skip)) (.seq (.seq (.region [⟨0, ⟨(some 13), none, (.pure .id), [(.tmp 6)]⟩, []⟩]) (.cond (.tmp 13) (.seq (.region [⟨0, ⟨(some 4), none, (.pure .id), [(.const (.int .i64 1))]⟩, []⟩]) .ret) .skip)) (.seq (.seq (.region [⟨0, ⟨(some 14), none, (.pure .id), [(.tmp 0)]⟩, []⟩, ⟨0, ⟨(some 15), none, (.pure .id), [(.tmp 1)]⟩, []⟩, ⟨0, ⟨(some 16), none, (.pure (.bin .lss .none)), [(.tmp 14), (.tmp 15)]⟩, []⟩]) (.cond (.tmp 16) (.seq (.region [⟨0, ⟨(some 4), none, (.pure .id), [(.const (.int .i64 (-1)))]⟩, []⟩]) .ret) .skip)) (.seq (.seq (.region [⟨0, ⟨(some 17), none, (.pure .id), [(.tmp 0)]⟩, []⟩, ⟨0, ⟨(some 18), none, (.pure .id), [(.tmp 1)]⟩, []⟩, ⟨0, ⟨(some 19), none, (.pure (.bin .gtr .none)), [(.tmp 17), (.tmp 18)]⟩, []⟩]) (.cond (.tmp 19) (.seq (.region [⟨0, ⟨(some 4), none, (.pure .id), [(.const (.int .i64 1))]⟩, []⟩]) .ret) .skip)) (.seq (.region [⟨0, ⟨(some 4), none, (.pure .id), [(.const (.int .i64 0))]⟩, []⟩]) .ret))))))))⟩
theorem c_cmp_Compare_int : compF Tryz.prog Tryz.f62 = some G_cmp_Compare_int := by kernel_rfl
theorem gc_cmp_Compare_int {args : List DV} {σ : GS} {Post : DV → GS → Prop} (h : @exB Tryz.prog ⟨G_cmp_Compare_int.body⟩ (genv0 args G_cmp_Compare_int.ntmps) σ ⟨@gretB G_cmp_Compare_int.results ⟨Post⟩⟩) : GCall Tryz.prog F_cmp_Compare_int args σ Post := gcall_ofB seatfollows Tryz.func62 (by kernel_rfl) c_cmp_Compare_int h
noncomputable abbrev G_slices_Clone_api_Dep_api_Dep : GFun := ⟨8, [(.tmp 2)], (.seq (.region [⟨0, ⟨(some 2), none, (.pure .id), [(.const .nils)]⟩, []⟩]) (.seq (.seq (.region [⟨0, ⟨(some 3), none, (.pure .id), [(.tmp 0)]⟩, []⟩, ⟨0, ⟨(some 4), none, (.eqn false), [(.tmp 3), (.const .nils)]⟩, []⟩]) (.cond (.tmp 4) (.seq (.region [⟨0, ⟨(some 2), none, (.pure .id), [(.const .nils)]⟩, []⟩]) .ret) .skip)) (.seq (.region [⟨0, ⟨(some 5), none, (.new (.bslice 2 [(.int .i64 0), .nils] 0 [])), []⟩, []⟩, ⟨0, ⟨(some 6), none, (.pure .id), [(.tmp 0)]⟩, []⟩, ⟨0, ⟨(some 7), none, (.imp (.append 2 32)), [(.tmp 5), (.tmp 6)]⟩, []⟩, ⟨0, ⟨(some 2), none, (.pure .id), [(.tmp 7)]⟩, []⟩]) .ret)))⟩
theorem c_slices_Clone_api_Dep_api_Dep : compF Tryz.prog Tryz.f63 = some G_slices_Clone_api_Dep_api_Dep := by kernel_rfl
theorem gc_slices_Clone_api_Dep_api_Dep {args : List DV} {σ : GS} {Post : DV → GS → Prop} (h : @exB Tryz.prog ⟨G_slices_Clone_api_Dep_api_Dep.body⟩ (genv0 args G_slices_Clone_api_Dep_api_Dep.ntmps) σ ⟨@gretB G_slices_Clone_api_Dep_api_Dep.results ⟨Post⟩⟩) : GCall Tryz.prog F_slices_Clone_api_Dep_api_Dep args σ Post := gcall_ofB seatfollows Tryz.func63 (by kernel_rfl) c_slices_Clone_api_Dep_api_Dep h
noncomputable abbrev G_prefix_Dqbf : GFun := ⟨56, [(.cell 2 3 true), (.tmp 3)], (.seq (.region [⟨0, ⟨(some 1), none, (.new .box), [(.tmp 0)]⟩, []⟩, ⟨0, ⟨(some 2), none, (.new (.alloc [.nils, .nils, .nils])), []⟩, []⟩, ⟨0, ⟨(some 3), none, (.pure .id), [(.const (.int .i64 0))]⟩, []⟩]) (.seq (.seq (.region [⟨0, ⟨(some 9), none, (.load (.load 2 true)), [(.tmp 1)]⟩, []⟩, ⟨0, ⟨(some 10), none, (.call F_prefix_MayQbf), [(.tmp 9)]⟩, []⟩, ⟨0, ⟨(some 11), none, (.pure (.un .not)), [(.tmp 10)]⟩, []⟩]) (.cond (.tmp 11) (.seq (.region [⟨0, ⟨(some 12), none, (.pure (.build [.nils, .nils, .nils] [])), []⟩, []⟩, ⟨0, ⟨none, none, (.imp (.store 3)), [(.tmp 2), (.tmp 12)]⟩, []⟩, ⟨0, ⟨(some 3), none, (.pure .id), [(.const (.int .i64 2))]⟩, []⟩]) .ret) .skip)) (.seq (.region [⟨0, ⟨(some 13), none, (.pure (.faddr 0)), [(.tmp 1)]⟩, []⟩, ⟨1, ⟨(some 14), none, (.load (.load 1 false)), [(.tmp 13)]⟩, []⟩, ⟨3, ⟨(some 16), none, (.pure (.faddr 1)), [(.tmp 1)]⟩, []⟩, ⟨4, ⟨(some 17), none, (.load (.load 1 false)), [(.tmp 16)]⟩, []⟩, ⟨7, ⟨(some 4), none, (.new (.alloc [.nils, .nils, .nils])), []⟩, []⟩, ⟨2, ⟨(some 15), none, (.call F_prefix_before), [(.tmp 14), (.const (.bool false))]⟩, [⟨(some 17), none, (.load (.load 1 false)), [(.tmp 16)]⟩, ⟨(some 4), none, (.new (.alloc [.nils, .nils, .nils])), []⟩]⟩, ⟨5, ⟨(some 18), none, (.call F_prefix_copied), [(.tmp 17)]⟩, [⟨(some 4), none, (.new (.alloc [.nils, .nils, .nils])), []⟩]⟩, ⟨6, ⟨(some 19), none, (.pure (.build [.nils, .nils, .nils] [(0, 1), (2, 1)])), [(.tmp 15), (.tmp 18)]⟩, []⟩, ⟨8, ⟨none, none, (.imp (.store 3)), [(.tmp 4), (.tmp 19)]⟩, []⟩]) (.seq (.seq (.region [⟨0, ⟨(some 20), none, (.pure (.faddr 0)), [(.tmp 1)]⟩, []⟩, ⟨0, ⟨(some 21), none, (.load (.load 1 false)), [(.tmp 20)]⟩, []⟩, ⟨0, ⟨(some 22), none, (.pure .len), [(.tmp 21)]⟩, []⟩, ⟨0, ⟨(some 23), none, (.pure .id), [(.const (.int .i64 0))]⟩, []⟩]) (.block 0 (.loop (.seq (.region [⟨0, ⟨(some 24), none, (.pure (.bin .lss .none)), [(.tmp 23), (.tmp 22)]⟩, []⟩]) (.seq (.cond (.tmp 24) .skip (.exit 0)) (.seq (.block 1 (.seq (.region [⟨0, ⟨(some 25), none, (.pure .id), [(.tmp 23)]⟩, []⟩, ⟨0, ⟨(some 26), none, (.pure (.iaddr 2)), [(.tmp 21), (.tmp 23)]⟩, []⟩, ⟨0, ⟨(some 27), none, (.load (.load 2 true)), [(.tmp 26)]⟩, []⟩, ⟨0, ⟨(some 6), none, (.new (.alloc [(.bool false), .nils])), []⟩, []⟩, ⟨0, ⟨(some 5), none, (.pure .id), [(.tmp 25)]⟩, []⟩, ⟨0, ⟨none, none, (.imp (.store 2)), [(.tmp 6), (.tmp 27)]⟩, []⟩]) (.seq (.seq (.region [⟨0, ⟨(some 28), none, (.pure (.faddr 0)), [(.tmp 6)]⟩, []⟩, ⟨0, ⟨(some 29), none, (.load (.load 1 false)), [(.tmp 28)]⟩, []⟩, ⟨0, ⟨(some 30), none, (.pure (.un .not)), [(.tmp 29)]⟩, []⟩]) (.cond (.tmp 30) (.exit 1) .skip)) (.seq (.region [⟨0, ⟨(some 31), none, (.pure (.faddr 1)), [(.tmp 6)]⟩, []⟩, ⟨0, ⟨(some 32), none, (.load (.load 1 false)), [(.tmp 31)]⟩, []⟩, ⟨0, ⟨(some 33), none, (.pure .len), [(.tmp 32)]⟩, []⟩, ⟨0, ⟨(some 34), none, (.pure .id), [(.const (.int .i64 0))]⟩, []⟩]) (.block 2 (.loop (.seq (.region [⟨0, ⟨(some 35), none, (.pure (.bin .lss .none)), [(.tmp 34), (.tmp 33)]⟩, []⟩]) (.seq (.cond (.tmp 35) .skip (.exit 2)) (.seq (.block 3 (.seq (.region [⟨0, ⟨(some 36), none, (.pure (.iaddr 1)), [(.tmp 32), (.tmp 34)]⟩, []⟩, ⟨0, ⟨(some 37), none, (.load (.load 1 false)), [(.tmp 36)]⟩, []⟩, ⟨0, ⟨(some 8), none, (.pure .id), [(.tmp 37)]⟩, []⟩]) (.region [⟨0, ⟨(some 38), none, (.pure (.faddr 1)), [(.tmp 4)]⟩, []⟩, ⟨1, ⟨(some 39), none, (.load (.load 1 false)), [(.tmp 38)]⟩, []⟩, ⟨2, ⟨(some 40), none, (.pure .id), [(.tmp 8)]⟩, []⟩, ⟨3, ⟨(some 41), none, (.pure (.faddr 0)), [(.tmp 1)]⟩, []⟩, ⟨4, ⟨(some 42), none, (.load (.load 1 false)), [(.tmp 41)]⟩, []⟩, ⟨5, ⟨(some 43), none, (.pure .id), [(.tmp 5)]⟩, []⟩, ⟨6, ⟨(some 44), none, (.pure (.slice 2 false true false)), [(.tmp 42), (.tmp 43)]⟩, []⟩, ⟨7, ⟨(some 45), none, (.call F_prefix_before), [(.tmp 44), (.const (.bool false))]⟩, [⟨(some 39), none, (.load (.load 1 false)), [(.tmp 38)]⟩]⟩, ⟨8, ⟨(some 46), none, (.pure (.build [(.int .i64 0), .nils] [(0, 1), (1, 1)])), [(.tmp 40), (.tmp 45)]⟩, []⟩, ⟨9, ⟨(some 47), none, (.new (.bslice 2 [(.int .i64 0), .nils] 1 [(0, 2)])), [(.tmp 46)]⟩, []⟩, ⟨10, ⟨(some 48), none, (.imp (.append 2 32)), [(.tmp 39), (.tmp 47)]⟩, []⟩, ⟨11, ⟨(some 49), none, (.pure (.faddr 1)), [(.tmp 4)]⟩, []⟩, ⟨12, ⟨none, none, (.imp (.store 1)), [(.tmp 49), (.tmp 48)]⟩, []⟩]))) (.region [⟨0, ⟨(some 50), none, (.pure (.bin .add .none)), [(.tmp 34), (.const (.int .i64 1))]⟩, []⟩, ⟨0, ⟨(some 34), none, (.pure .id), [(.tmp 50)]⟩, []⟩])))))))))) (.region [⟨0, ⟨(some 51), none, (.pure (.bin .add .none)), [(.tmp 23), (.const (.int .i64 1))]⟩, []⟩, ⟨0, ⟨(some 23), none, (.pure .id), [(.tmp 51)]⟩, []⟩]))))))) (.seq (.region [⟨0, ⟨(some 52), none, (.pure (.faddr 1)), [(.tmp 4)]⟩, []⟩, ⟨0, ⟨(some 53), none, (.load (.load 1 false)), [(.tmp 52)]⟩, []⟩, ⟨0, ⟨(some 54), none, (.call F_slices_SortFunc_api_Dep_api_Dep), [(.tmp 53), (.const (.func F_prefix_Dqbf_1 [] []))]⟩, []⟩]) (.seq (.region [⟨0, ⟨(some 55), none, (.load (.load 3 true)), [(.tmp 4)]⟩, []⟩, ⟨0, ⟨none, none, (.imp (.store 3)), [(.tmp 2), (.tmp 55)]⟩, []⟩, ⟨0, ⟨(some 3), none, (.pure .id), [(.const (.int .i64 0))]⟩, []⟩]) .ret))))))⟩
theorem c_prefix_Dqbf : compF Tryz.prog Tryz.f19 = some G_prefix_Dqbf := by kernel_rfl
theorem gc_prefix_Dqbf {args : List DV} {σ : GS} {Post : DV → GS → Prop} (h : @exB Tryz.prog ⟨G_prefix_Dqbf.body⟩ (genv0 args G_prefix_Dqbf.ntmps) σ ⟨@gretB G_prefix_Dqbf.results ⟨Post⟩⟩) : GCall Tryz.prog F_prefix_Dqbf args σ Post := gcall_ofB seatfollows Tryz.func19 (by kernel_rfl) c_prefix_Dqbf h
noncomputable abbrev G_prefix_copied : GFun := ⟨23, [(.tmp 2)], (.seq (.region [⟨0, ⟨(some 2), none, (.pure .id), [(.const .nils)]⟩, []⟩]) (.seq (.region [⟨0, ⟨(some 6), none, (.pure .id), [(.tmp 0)]⟩, []⟩, ⟨0, ⟨(some 7), none, (.pure .len), [(.tmp 6)]⟩, []⟩, ⟨0, ⟨(some 8), none, (.new (.mslice 1 24 [.nils])), [(.tmp 7), (.tmp 7)]⟩, []⟩, ⟨0, ⟨(some 3), none, (.pure .id), [(.tmp 8)]⟩, []⟩]) (.seq (.seq (.region [⟨0, ⟨(some 9), none, (.pure .id), [(.tmp 0)]⟩, []⟩, ⟨0, ⟨(some 10), none, (.pure .len), [(.tmp 9)]⟩, []⟩, ⟨0, ⟨(some 11), none, (.pure .id), [(.const (.int .i64 0))]⟩, []⟩]) (.block 0 (.loop (.seq (.region [⟨0, ⟨(some 12), none, (.pure (.bin .lss .none)), [(.tmp 11), (.tmp 10)]⟩, []⟩]) (.seq (.cond (.tmp 12) .skip (.exit 0)) (.seq (.block 1 (.seq (.region [⟨0, ⟨(some 13), none, (.pure .id), [(.tmp 11)]⟩, []⟩, ⟨0, ⟨(some 14), none, (.pure (.iaddr 1)), [(.tmp 9), (.tmp 11)]⟩, []⟩, ⟨0, ⟨(some 15), none, (.load (.load 1 false)), [(.tmp 14)]⟩, []⟩, ⟨0, ⟨(some 4), none, (.pure .id), [(.tmp 13)]⟩, []⟩, ⟨0, ⟨(some 5), none, (.pure .id), [(.tmp 15)]⟩, []⟩]) (.region [⟨0, ⟨(some 16), none, (.pure .id), [(.tmp 3)]⟩, []⟩, ⟨0, ⟨(some 17), none, (.pure .id), [(.tmp 4)]⟩, []⟩, ⟨0, ⟨(some 18), none, (.pure .id), [(.tmp 5)]⟩, []⟩, ⟨0, ⟨(some 19), none, (.call F_slices_Clone_int_int), [(.tmp 18)]⟩, []⟩, ⟨0, ⟨(some 20), none, (.pure (.iaddr 1)), [(.tmp 16), (.tmp 17)]⟩, []⟩, ⟨0, ⟨none, none, (.imp (.store 1)), [(.tmp 20), (.tmp 19)]⟩, []⟩]))) (.region [⟨0, ⟨(some 21), none, (.pure (.bin .add .none)), [(.tmp 11), (.const (.int .i64 1))]⟩, []⟩, ⟨0, ⟨(some 11), none, (.pure .id), [(.tmp 21)]⟩, []⟩]))))))) (.seq (.region [⟨0, ⟨(some 22), none, (.pure .id), [(.tmp 3)]⟩, []⟩, ⟨0, ⟨(some 2), none, (.pure .id), [(.tmp 22)]⟩, []⟩]) .ret))))⟩
theorem c_prefix_copied : compF Tryz.prog Tryz.f59 = some G_prefix_copied := by kernel_rfl
theorem gc_prefix_copied {args : List DV} {σ : GS} {Post : DV → GS → Prop} (h : @exB Tryz.prog ⟨G_prefix_copied.body⟩ (genv0 args G_prefix_copied.ntmps) σ ⟨@gretB G_prefix_copied.results ⟨Post⟩⟩) : GCall Tryz.prog F_prefix_copied args σ Post := gcall_ofB seatfollows Tryz.func59 (by kernel_rfl) c_prefix_copied h
noncomputable abbrev G_prefix_Deps : GFun := ⟨20, [(.tmp 4), (.tmp 5)], (.seq (.region [⟨0, ⟨(some 2), none, (.new .box), [(.tmp 0)]⟩, []⟩, ⟨0, ⟨(some 3), none, (.new .box), [(.tmp 1)]⟩, []⟩, ⟨0, ⟨(some 4), none, (.pure .id), [(.const .nils)]⟩, []⟩, ⟨0, ⟨(some 5), none, (.pure .id), [(.const (.bool false))]⟩, []⟩]) (.seq (.region [⟨0, ⟨(some 7), none, (.pure (.faddr 1)), [(.tmp 2)]⟩, []⟩, ⟨0, ⟨(some 8), none, (.load (.load 1 false)), [(.tmp 7)]⟩, []⟩, ⟨0, ⟨(some 9), none, (.pure (.mkfunc F_prefix_Deps_1 0)), [(.tmp 3)]⟩, []⟩, ⟨0, ⟨(some 10), none, (.call F_slices_IndexFunc_api_Dep_api_Dep), [(.tmp 8), (.tmp 9)]⟩, []⟩, ⟨0, ⟨(some 6), none, (.pure .id), [(.tmp 10)]⟩, []⟩]) (.seq (.seq (.region [⟨0, ⟨(some 11), none, (.pure .id), [(.tmp 6)]⟩, []⟩, ⟨0, ⟨(some 12), none, (.pure (.bin .lss .none)), [(.tmp 11), (.const (.int .i64 0))]⟩, []⟩]) (.cond (.tmp 12) (.seq (.region [⟨0, ⟨(some 4), none, (.pure .id), [(.const .nils)]⟩, []⟩, ⟨0, ⟨(some 5), none, (.pure .id), [(.const (.bool false))]⟩, []⟩]) .ret) .skip)) (.seq (.region [⟨0, ⟨(some 13), none, (.pure (.faddr 1)), [(.tmp 2)]⟩, []⟩, ⟨0, ⟨(some 14), none, (.load (.load 1 false)), [(.tmp 13)]⟩, []⟩, ⟨0, ⟨(some 15), none, (.pure .id), [(.tmp 6)]⟩, []⟩, ⟨0, ⟨(some 16), none, (.pure (.iaddr 2)), [(.tmp 14), (.tmp 15)]⟩, []⟩, ⟨0, ⟨(some 17), none, (.pure (.faddr 1)), [(.tmp 16)]⟩, []⟩, ⟨0, ⟨(some 18), none, (.load (.load 1 false)), [(.tmp 17)]⟩, []⟩, ⟨0, ⟨(some 19), none, (.call F_slices_Clone_int_int), [(.tmp 18)]⟩, []⟩, ⟨0, ⟨(some 4), none, (.pure .id), [(.tmp 19)]⟩, []⟩, ⟨0, ⟨(some 5), none, (.pure .id), [(.const (.bool true))]⟩, []⟩]) .ret))))⟩
theorem c_prefix_Deps : compF Tryz.prog Tryz.f27 = some G_prefix_Deps := by kernel_rfl
theorem gc_prefix_Deps {args : List DV} {σ : GS} {Post : DV → GS → Prop} (h : @exB Tryz.prog ⟨G_prefix_Deps.body⟩ (genv0 args G_prefix_Deps.ntmps) σ ⟨@gretB G_prefix_Deps.results ⟨Post⟩⟩) : GCall Tryz.prog F_prefix_Deps args σ Post := gcall_ofB seatfollows Tryz.func27 (by kernel_rfl) c_prefix_Deps h
noncomputable abbrev G_prefix_Deps_1 : GFun := ⟨8, [(.tmp 3)], (.seq (.region [⟨0, ⟨(some 2), none, (.new .box), [(.tmp 0)]⟩, []⟩, ⟨0, ⟨(some 3), none, (.pure .id), [(.const (.bool false))]⟩, []⟩]) (.seq (.region [⟨0, ⟨(some 4), none, (.pure (.faddr 0)), [(.tmp 2)]⟩, []⟩, ⟨0, ⟨(some 5), none, (.load (.load 1 false)), [(.tmp 4)]⟩, []⟩, ⟨0, ⟨(some 6), none, (.load (.load 1 false)), [(.tmp 1)]⟩, []⟩, ⟨0, ⟨(some 7), none, (.pure (.bin .eql .none)), [(.tmp 5), (.tmp 6)]⟩, []⟩, ⟨0, ⟨(some 3), none, (.pure .id), [(.tmp 7)]⟩, []⟩]) .ret))⟩
theorem c_prefix_Deps_1 : compF Tryz.prog Tryz.f78 = some G_prefix_Deps_1 := by kernel_rfl
theorem gc_prefix_Deps_1 {args : List DV} {σ : GS} {Post : DV → GS → Prop} (h : @exB Tryz.prog ⟨G_prefix_Deps_1.body⟩ (genv0 args G_prefix_Deps_1.ntmps) σ ⟨@gretB G_prefix_Deps_1.results ⟨Post⟩⟩) : GCall Tryz.prog F_prefix_Deps_1 args σ Post := gcall_ofB seatfollows Tryz.func78 (by kernel_rfl) c_prefix_Deps_1 h
noncomputable abbrev G_slices_IndexFunc_api_Dep_api_Dep : GFun := ⟨19, [(.tmp 4)], (.seq (.region [⟨0, ⟨(some 4), none, (.pure .id), [(.const (.int .i64 0))]⟩, []⟩]) (.seq (.seq (.region [⟨0, ⟨(some 6), none, (.pure .id), [(.tmp 0)]⟩, []⟩, ⟨0, ⟨(some 7), none, (.pure .len), [(.tmp 6)]⟩, []⟩, ⟨0, ⟨(some 8), none, (.pure .id), [(.const (.int .i64 0))]⟩, []⟩]) (.block 0 (.loop (.seq (.region [⟨0, ⟨(some 9), none, (.pure (.bin .lss .none)), [(.tmp 8), (.tmp 7)]⟩, []⟩]) (.seq (.cond (.tmp 9) .skip (.exit 0)) (.seq (.block 1 (.seq (.region [⟨0, ⟨(some 10), none, (.pure .id), [(.tmp 8)]⟩, []⟩, ⟨0, ⟨(some 5), none, (.pure .id), [(.tmp 10)]⟩, []⟩]) (.seq (.region [⟨0, ⟨(some 11), none, (.pure .id), [(.tmp 1)]⟩, []⟩, ⟨0, ⟨(some 12), none, (.pure .id), [(.tmp 0)]⟩, []⟩, ⟨0, ⟨(some 13), none, (.pure .id), [(.tmp 5)]⟩, []⟩, ⟨0, ⟨(some 14), none, (.pure (.iaddr 2)), [(.tmp 12), (.tmp 13)]⟩, []⟩, ⟨0, ⟨(some 15), none, (.load (.load 2 true)), [(.tmp 14)]⟩, []⟩, ⟨0, ⟨(some 16), none, .callv, [(.tmp 11), (.tmp 15)]⟩, []⟩]) (.cond (.tmp 16) (.seq (.region [⟨0, ⟨(some 17), none, (.pure .id), [(.tmp 5)]⟩, []⟩, ⟨0, ⟨(some 4), none, (.pure .id), [(.tmp 17)]⟩, []⟩]) .ret) .skip)))) (.region [⟨0, ⟨(some 18), none, (.pure (.bin .add .none)), [(.tmp 8), (.const (.int .i64 1))]⟩, []⟩, ⟨0, ⟨(some 8), none, (.pure .id), [(.tmp 18)]⟩, []⟩]))))))) (.seq (.region [⟨0, ⟨(some 4), none, (.pure .id), [(.const (.int .i64 (-1)))]⟩, []⟩]) .ret)))⟩
theorem c_slices_IndexFunc_api_Dep_api_Dep : compF Tryz.prog Tryz.f77 = some G_slices_IndexFunc_api_Dep_api_Dep := by kernel_rfl
theorem gc_slices_IndexFunc_api_Dep_api_Dep {args : List DV} {σ : GS} {Post : DV → GS → Prop} (h : @exB Tryz.prog ⟨G_slices_IndexFunc_api_Dep_api_Dep.body⟩ (genv0 args G_slices_IndexFunc_api_Dep_api_Dep.ntmps) σ ⟨@gretB G_slices_IndexFunc_api_Dep_api_Dep.results ⟨Post⟩⟩) : GCall Tryz.prog F_slices_IndexFunc_api_Dep_api_Dep args σ Post := gcall_ofB seatfollows Tryz.func77 (by kernel_rfl) c_slices_IndexFunc_api_Dep_api_Dep h
noncomputable abbrev G_skolemref03_Dqbf : GFun := ⟨71, [(.cell 2 3 true), (.tmp 3)], (.seq (.region [⟨0, ⟨(some 1), none, (.new .box), [(.tmp 0)]⟩, []⟩, ⟨0, ⟨(some 2), none, (.new (.alloc [.nils, .nils, .nils])), []⟩, []⟩, ⟨0, ⟨(some 3), none, (.pure .id), [(.const (.int .i64 0))]⟩, []⟩]) (.seq (.seq (.region [⟨0, ⟨(some 12), none, (.load (.load 2 true)), [(.tmp 1)]⟩, []⟩, ⟨0, ⟨(some 13), none, (.call F_skolemref03_MayQbf), [(.tmp 12)]⟩, []⟩, ⟨0, ⟨(some 14), none, (.pure (.un .not)), [(.tmp 13)]⟩, []⟩]) (.cond (.tmp 14) (.seq (.region [⟨0, ⟨(some 15), none, (.pure (.build [.nils, .nils, .nils] [])), []⟩, []⟩, ⟨0, ⟨none, none, (.imp (.store 3)), [(.tmp 2), (.tmp 15)]⟩, []⟩, ⟨0, ⟨(some 3), none, (.pure .id), [(.const (.int .i64 2))]⟩, []⟩]) .ret) .skip)) (.seq (.region [⟨0, ⟨(some 16), none, (.pure (.faddr 1)), [(.tmp 1)]⟩, []⟩, ⟨0, ⟨(some 17), none, (.load (.load 1 false)), [(.tmp 16)]⟩, []⟩, ⟨0, ⟨(some 18), none, (.pure (.build [.nils, .nils, .nils] [(2, 1)])), [(.tmp 17)]⟩, []⟩, ⟨0, ⟨(some 4), none, (.new (.alloc [.nils, .nils, .nils])), []⟩, []⟩, ⟨0, ⟨none, none, (.imp (.store 3)), [(.tmp 4), (.tmp 18)]⟩, []⟩]) (.seq (.region [⟨0, ⟨(some 19), none, (.pure (.faddr 0)), [(.tmp 1)]⟩, []⟩, ⟨0, ⟨(some 20), none, (.load (.load 1 false)), [(.tmp 19)]⟩, []⟩, ⟨0, ⟨(some 21), none, (.call F_skolemref03_Vars), [(.tmp 20)]⟩, []⟩, ⟨0, ⟨(some 5), none, (.pure .id), [(.tmp 21)]⟩, []⟩]) (.seq (.seq (.region [⟨0, ⟨(some 6), none, (.pure .id), [(.const (.int .i64 0))]⟩, []⟩]) (.block 0 (.loop (.seq (.seq (.region [⟨0, ⟨(some 22), none, (.pure .id), [(.tmp 6)]⟩, []⟩, ⟨0, ⟨(some 23), none, (.pure .id), [(.tmp 5)]⟩, []⟩, ⟨0, ⟨(some 24), none, (.pure .len), [(.tmp 23)]⟩, []⟩, ⟨0, ⟨(some 25), none, (.pure (.bin .lss .none)), [(.tmp 22), (.tmp 24)]⟩, []⟩]) (.cond (.tmp 25) .skip (.exit 0))) (.seq (.block 1 (.seq (.region [⟨0, ⟨(some 29), none, (.pure (.faddr 0)), [(.tmp 1)]⟩, []⟩, ⟨1, ⟨(some 30), none, (.load (.load 1 false)), [(.tmp 29)]⟩, []⟩, ⟨2, ⟨(some 31), none, (.pure .id), [(.tmp 5)]⟩, []⟩, ⟨3, ⟨(some 32), none, (.pure .id), [(.tmp 6)]⟩, []⟩, ⟨4, ⟨(some 33), none, (.pure (.iaddr 1)), [(.tmp 31), (.tmp 32)]⟩, []⟩, ⟨5, ⟨(some 34), none, (.load (.load 1 false)), [(.tmp 33)]⟩, []⟩, ⟨6, ⟨(some 35), none, (.call F_skolemref03_Find), [(.tmp 30), (.tmp 34)]⟩, []⟩, ⟨7, ⟨(some 28), none, (.pure .id), [(.tmp 35)]⟩, []⟩, ⟨8, ⟨(some 36), none, (.pure (.extract 0)), [(.tmp 28)]⟩, []⟩, ⟨9, ⟨(some 37), none, (.pure (.extract 1)), [(.tmp 28)]⟩, []⟩, ⟨10, ⟨(some 38), none, (.pure (.extract 2)), [(.tmp 28)]⟩, []⟩, ⟨11, ⟨(some 7), none, (.pure .id), [(.tmp 36)]⟩, []⟩, ⟨12, ⟨(some 8), none, (.pure .id), [(.tmp 37)]⟩, []⟩, ⟨13, ⟨(some 9), none, (.pure .id), [(.tmp 38)]⟩, []⟩]) (.seq (.region [⟨0, ⟨(some 39), none, (.pure .id), [(.tmp 8)]⟩, []⟩]) (.cond (.tmp 39) (.seq (.region [⟨0, ⟨(some 41), none, (.pure (.faddr 0)), [(.tmp 1)]⟩, []⟩, ⟨1, ⟨(some 42), none, (.load (.load 1 false)), [(.tmp 41)]⟩, []⟩, ⟨2, ⟨(some 43), none, (.pure .id), [(.tmp 5)]⟩, []⟩, ⟨3, ⟨(some 44), none, (.pure .id), [(.tmp 6)]⟩, []⟩, ⟨4, ⟨(some 45), none, (.pure (.iaddr 1)), [(.tmp 43), (.tmp 44)]⟩, []⟩, ⟨5, ⟨(some 46), none, (.load (.load 1 false)), [(.tmp 45)]⟩, []⟩, ⟨6, ⟨(some 47), none, (.call F_skolemref03_On), [(.tmp 42), (.tmp 46)]⟩, []⟩, ⟨7, ⟨(some 40), none, (.pure .id), [(.tmp 47)]⟩, []⟩, ⟨8, ⟨(some 48), none, (.pure (.extract 0)), [(.tmp 40)]⟩, []⟩, ⟨9, ⟨(some 49), none, (.pure (.extract 1)), [(.tmp 40)]⟩, []⟩, ⟨10, ⟨(some 10), none, (.pure .id), [(.tmp 48)]⟩, []⟩, ⟨11, ⟨(some 11), none, (.pure .id), [(.tmp 49)]⟩, []⟩]) (.region [⟨0, ⟨(some 50), none, (.pure (.faddr 1)), [(.tmp 4)]⟩, []⟩, ⟨1, ⟨(some 51), none, (.load (.load 1 false)), [(.tmp 50)]⟩, []⟩, ⟨2, ⟨(some 52), none, (.pure .id), [(.tmp 5)]⟩, []⟩, ⟨3, ⟨(some 53), none, (.pure .id), [(.tmp 6)]⟩, []⟩, ⟨4, ⟨(some 54), none, (.pure (.iaddr 1)), [(.tmp 52), (.tmp 53)]⟩, []⟩, ⟨5, ⟨(some 55), none, (.load (.load 1 false)), [(.tmp 54)]⟩, []⟩, ⟨6, ⟨(some 56), none, (.pure .id), [(.tmp 10)]⟩, []⟩, ⟨7, ⟨(some 57), none, (.pure (.build [(.int .i64 0), .nils] [(0, 1), (1, 1)])), [(.tmp 55), (.tmp 56)]⟩, []⟩, ⟨8, ⟨(some 58), none, (.new (.bslice 2 [(.int .i64 0), .nils] 1 [(0, 2)])), [(.tmp 57)]⟩, []⟩, ⟨9, ⟨(some 59), none, (.imp (.append 2 32)), [(.tmp 51), (.tmp 58)]⟩, []⟩, ⟨10, ⟨(some 60), none, (.pure (.faddr 1)), [(.tmp 4)]⟩, []⟩, ⟨11, ⟨none, none, (.imp (.store 1)), [(.tmp 60), (.tmp 59)]⟩, []⟩])) (.region [⟨0, ⟨(some 61), none, (.pure (.faddr 0)), [(.tmp 4)]⟩, []⟩, ⟨1, ⟨(some 62), none, (.load (.load 1 false)), [(.tmp 61)]⟩, []⟩, ⟨2, ⟨(some 63), none, (.pure .id), [(.tmp 5)]⟩, []⟩, ⟨3, ⟨(some 64), none, (.pure .id), [(.tmp 6)]⟩, []⟩, ⟨4, ⟨(some 65), none, (.pure (.iaddr 1)), [(.tmp 63), (.tmp 64)]⟩, []⟩, ⟨5, ⟨(some 66), none, (.load (.load 1 false)), [(.tmp 65)]⟩, []⟩, ⟨6, ⟨(some 67), none, (.new (.bslice 1 [(.int .i64 0)] 1 [(0, 1)])), [(.tmp 66)]⟩, []⟩, ⟨7, ⟨(some 68), none, (.imp (.append 1 8)), [(.tmp 62), (.tmp 67)]⟩, []⟩, ⟨8, ⟨(some 69), none, (.pure (.faddr 0)), [(.tmp 4)]⟩, []⟩, ⟨9, ⟨none, none, (.imp (.store 1)), [(.tmp 69), (.tmp 68)]⟩, []⟩]))))) (.region [⟨0, ⟨(some 26), none, (.pure .id), [(.tmp 6)]⟩, []⟩, ⟨0, ⟨(some 27), none, (.pure (.bin .add .none)), [(.tmp 26), (.const (.int .i64 1))]⟩, []⟩, ⟨0, ⟨(some 6), none, (.pure .id), [(.tmp 27)]⟩, []⟩])))))) (.seq (.region [⟨0, ⟨(some 70), none, (.load (.load 3 true)), [(.tmp 4)]⟩, []⟩, ⟨0, ⟨none, none, (.imp (.store 3)), [(.tmp 2), (.tmp 70)]⟩, []⟩, ⟨0, ⟨(some 3), none, (.pure .id), [(.const (.int .i64 0))]⟩, []⟩]) .ret))))))⟩
theorem c_skolemref03_Dqbf : compF Tryz.prog Tryz.f25 = some G_skolemref03_Dqbf := by kernel_rfl
theorem gc_skolemref03_Dqbf {args : List DV} {σ : GS} {Post : DV → GS → Prop} (h : @exB Tryz.prog ⟨G_skolemref03_Dqbf.body⟩ (genv0 args G_skolemref03_Dqbf.ntmps) σ ⟨@gretB G_skolemref03_Dqbf.results ⟨Post⟩⟩) : GCall Tryz.prog F_skolemref03_Dqbf args σ Post := gcall_ofB seatfollows Tryz.func25 (by kernel_rfl) c_skolemref03_Dqbf h
noncomputable abbrev G_skolemref03_Linear : GFun := ⟨175, [(.tmp 2), (.tmp 3)], (.seq (.region [⟨0, ⟨(some 1), none, (.new .box), [(.tmp 0)]⟩, []⟩, ⟨0, ⟨(some 2), none, (.pure .id), [(.const .nils)]⟩, []⟩, ⟨0, ⟨(some 3), none, (.pure .id), [(.const (.int .i64 0))]⟩, []⟩]) (.seq (.seq (.region [⟨0, ⟨(some 15), none, (.load (.load 3 true)), [(.tmp 1)]⟩, []⟩, ⟨0, ⟨(some 16), none, (.call F_skolemref03_MayDqbf), [(.tmp 15)]⟩, []⟩, ⟨0, ⟨(some 17), none, (.pure (.un .not)), [(.tmp 16)]⟩, []⟩]) (.cond (.tmp 17) (.seq (.region [⟨0, ⟨(some 2), none, (.pure .id), [(.const .nils)]⟩, []⟩, ⟨0, ⟨(some 3), none, (.pure .id), [(.const (.int .i64 2))]⟩, []⟩]) .ret) .skip)) (.seq (.seq (.region [⟨0, ⟨(some 4), none, (.pure .id), [(.const (.int .i64 0))]⟩, []⟩]) (.block 0 (.loop (.seq (.seq (.region [⟨0, ⟨(some 18), none, (.pure .id), [(.tmp 4)]⟩, []⟩, ⟨0, ⟨(some 19), none, (.pure (.faddr 1)), [(.tmp 1)]⟩, []⟩, ⟨0, ⟨(some 20), none, (.load (.load 1 false)), [(.tmp 19)]⟩, []⟩, ⟨0, ⟨(some 21), none, (.pure .len), [(.tmp 20)]⟩, []⟩, ⟨0, ⟨(some 22), none, (.pure (.bin .lss .none)), [(.tmp 18), (.tmp 21)]⟩, []⟩]) (.cond (.tmp 22) .skip (.exit 0))) (.seq (.block 1 (.seq (.region [⟨0, ⟨(some 5), none, (.pure .id), [(.const (.int .i64 0))]⟩, []⟩]) (.block 2 (.loop (.seq (.seq (.region [⟨0, ⟨(some 25), none, (.pure .id), [(.tmp 5)]⟩, []⟩, ⟨0, ⟨(some 26), none, (.pure .id), [(.tmp 4)]⟩, []⟩, ⟨0, ⟨(some 27), none, (.pure (.bin .lss .none)), [(.tmp 25), (.tmp 26)]⟩, []⟩]) (.cond (.tmp 27) .skip (.exit 2))) (.seq (.block 3 (.seq (.region [⟨0, ⟨(some 30), none, (.pure (.faddr 1)), [(.tmp 1)]⟩, []⟩, ⟨1, ⟨(some 31), none, (.load (.load 1 false)), [(.tmp 30)]⟩, []⟩, ⟨2, ⟨(some 32), none, (.pure .id), [(.tmp 4)]⟩, []⟩, ⟨3, ⟨(some 33), none, (.pure (.iaddr 2)), [(.tmp 31), (.tmp 32)]⟩, []⟩, ⟨4, ⟨(some 34), none, (.pure (.faddr 1)), [(.tmp 33)]⟩, []⟩, ⟨5, ⟨(some 35), none, (.load (.load 1 false)), [(.tmp 34)]⟩, []⟩, ⟨6, ⟨(some 36), none, (.pure (.faddr 1)), [(.tmp 1)]⟩, []⟩, ⟨7, ⟨(some 37), none, (.load (.load 1 false)), [(.tmp 36)]⟩, []⟩, ⟨8, ⟨(some 38), none, (.pure .id), [(.tmp 5)]⟩, []⟩, ⟨9, ⟨(some 39), none, (.pure (.iaddr 2)), [(.tmp 37), (.tmp 38)]⟩, []⟩, ⟨10, ⟨(some 40), none, (.pure (.faddr 1)), [(.tmp 39)]⟩, []⟩, ⟨11, ⟨(some 41), none, (.load (.load 1 false)), [(.tmp 40)]⟩, []⟩, ⟨12, ⟨(some 42), none, (.call F_skolemref03_Part), [(.tmp 35), (.tmp 41)]⟩, []⟩, ⟨13, ⟨(some 43), none, (.pure (.un .not)), [(.tmp 42)]⟩, []⟩, ⟨14, ⟨(some 44), none, (.pure .id), [(.tmp 43)]⟩, []⟩, ⟨15, ⟨(some 45), (some (44, true)), (.pure (.faddr 1)), [(.tmp 1)]⟩, []⟩, ⟨16, ⟨(some 46), (some (44, true)), (.load (.load 1 false)), [(.tmp 45)]⟩, []⟩, ⟨17, ⟨(some 47), (some (44, true)), (.pure .id), [(.tmp 5)]⟩, []⟩, ⟨18, ⟨(some 48), (some (44, true)), (.pure (.iaddr 2)), [(.tmp 46), (.tmp 47)]⟩, []⟩, ⟨19, ⟨(some 49), (some (44, true)), (.pure (.faddr 1)), [(.tmp 48)]⟩, []⟩, ⟨20, ⟨(some 50), (some (44, true)), (.load (.load 1 false)), [(.tmp 49)]⟩, []⟩, ⟨21, ⟨(some 51), (some (44, true)), (.pure (.faddr 1)), [(.tmp 1)]⟩, []⟩, ⟨22, ⟨(some 52), (some (44, true)), (.load (.load 1 false)), [(.tmp 51)]⟩, []⟩, ⟨23, ⟨(some 53), (some (44, true)), (.pure .id), [(.tmp 4)]⟩, []⟩, ⟨24, ⟨(some 54), (some (44, true)), (.pure (.iaddr 2)), [(.tmp 52), (.tmp 53)]⟩, []⟩, ⟨25, ⟨(some 55), (some (44, true)), (.pure (.faddr 1)), [(.tmp 54)]⟩, []⟩, ⟨26, ⟨(some 56), (some (44, true)), (.load (.load 1 false)), [(.tmp 55)]⟩, []⟩, ⟨27, ⟨(some 57), (some (44, true)), (.call F_skolemref03_Part), [(.tmp 50), (.tmp 56)]⟩, []⟩, ⟨28, ⟨(some 58), (some (44, true)), (.pure (.un .not)), [(.tmp 57)]⟩, []⟩, ⟨29, ⟨(some 59), none, (.pure .pick), [(.tmp 44), (.tmp 58), (.const (.bool false))]⟩, []⟩]) (.cond (.tmp 59) (.seq (.region [⟨0, ⟨(some 2), none, (.pure .id), [(.const .nils)]⟩, []⟩, ⟨0, ⟨(some 3), none, (.pure .id), [(.const (.int .i64 30))]⟩, []⟩]) .ret) .skip))) (.region [⟨0, ⟨(some 28), none, (.pure .id), [(.tmp 5)]⟩, []⟩, ⟨0, ⟨(some 29), none, (.pure (.bin .add .none)), [(.tmp 28), (.const (.int .i64 1))]⟩, []⟩, ⟨0, ⟨(some 5), none, (.pure .id), [(.tmp 29)]⟩, []⟩]))))))) (.region [⟨0, ⟨(some 23), none, (.pure .id), [(.tmp 4)]⟩, []⟩, ⟨0, ⟨(some 24), none, (.pure (.bin .add .none)), [(.tmp 23), (.const (.int .i64 1))]⟩, []⟩, ⟨0, ⟨(some 4), none, (.pure .id), [(.tmp 24)]⟩, []⟩])))))) (.seq (.region [⟨0, ⟨(some 6), none, (.pure .id), [(.const .nils)]⟩, []⟩]) (.seq (.region [⟨0, ⟨(some 7), none, (.pure .id), [(.const .nils)]⟩, []⟩]) (.seq (.seq (.region [⟨0, ⟨(some 8), none, (.pure .id), [(.const (.int .i64 0))]⟩, []⟩]) (.block 4 (.loop (.seq (.seq (.region [⟨0, ⟨(some 60), none, (.pure .id), [(.tmp 8)]⟩, []⟩, ⟨0, ⟨(some 61), none, (.pure (.faddr 0)), [(.tmp 1)]⟩, []⟩, ⟨0, ⟨(some 62), none, (.load (.load 1 false)), [(.tmp 61)]⟩, []⟩, ⟨0, ⟨(some 63), none, (.pure .len), [(.tmp 62)]⟩, []⟩, ⟨0, ⟨(some 64), none, (.pure (.bin .leq .none)), [(.tmp 60), (.tmp 63)]⟩, []⟩]) (.cond (.tmp 64) .skip (.exit 4))) (.seq (.block 5 (.seq (.region [⟨0, ⟨(some 67), none, (.pure (.build [(.bool false), .nils] [])), []⟩, []⟩, ⟨0, ⟨(some 9), none, (.new (.alloc [(.bool false), .nils])), []⟩, []⟩, ⟨0, ⟨none, none, (.imp (.store 2)), [(.tmp 9), (.tmp 67)]⟩, []⟩]) (.seq (.region [⟨0, ⟨(some 68), none, (.pure (.build [(.bool false), .nils] [(0, 1)])), [(.const (.bool true))]⟩, []⟩, ⟨0, ⟨(some 10), none, (.new (.alloc [(.bool false), .nils])), []⟩, []⟩, ⟨0, ⟨none, none, (.imp (.store 2)), [(.tmp 10), (.tmp 68)]⟩, []⟩]) (.seq (.seq (.region [⟨0, ⟨(some 11), none, (.pure .id), [(.const (.int .i64 0))]⟩, []⟩]) (.block 6 (.loop (.seq (.seq (.region [⟨0, ⟨(some 69), none, (.pure .id), [(.tmp 11)]⟩, []⟩, ⟨0, ⟨(some 70), none, (.pure (.faddr 1)), [(.tmp 1)]⟩, []⟩, ⟨0, ⟨(some 71), none, (.load (.load 1 false)), [(.tmp 70)]⟩, []⟩, ⟨0, ⟨(some 72), none, (.pure .len), [(.tmp 71)]⟩, []⟩, ⟨0, ⟨(some 73), none, (.pure (.bin .lss .none)), [(.tmp 69), (.tmp 72)]⟩, []⟩]) (.cond (.tmp 73) .skip (.exit 6))) (.seq (.block 7 (.seq (.seq (.region [⟨0, ⟨(some 76), none, (.pure (.faddr 1)), [(.tmp 1)]⟩, []⟩, ⟨0, ⟨(some 77), none, (.load (.load 1 false)), [(.tmp 76)]⟩, []⟩, ⟨0, ⟨(some 78), none, (.pure .id), [(.tmp 11)]⟩, []⟩, ⟨0, ⟨(some 79), none, (.pure (.iaddr 2)), [(.tmp 77), (.tmp 78)]⟩, []⟩, ⟨0, ⟨(some 80), none, (.pure (.faddr 1)), [(.tmp 79)]⟩, []⟩, ⟨0, ⟨(some 81), none, (.load (.load 1 false)), [(.tmp 80)]⟩, []⟩, ⟨0, ⟨(some 82), none, (.pure .len), [(.tmp 81)]⟩, []⟩, ⟨0, ⟨(some 83), none, (.pure .id), [(.tmp 8)]⟩, []⟩, ⟨0, ⟨(some 84), none, (.pure (.bin .neq .none)), [(.tmp 82), (.tmp 83)]⟩, []⟩]) (.cond (.tmp 84) (.exit 7) .skip)) (.seq (.region [⟨0, ⟨(some 85), none, (.pure (.faddr 1)), [(.tmp 10)]⟩, []⟩, ⟨1, ⟨(some 86), none, (.load (.load 1 false)), [(.tmp 85)]⟩, []⟩, ⟨2, ⟨(some 87), none, (.pure (.faddr 1)), [(.tmp 1)]⟩, []⟩, ⟨3, ⟨(some 88), none, (.load (.load 1 false)), [(.tmp 87)]⟩, []⟩, ⟨4, ⟨(some 89), none, (.pure .id), [(.tmp 11)]⟩, []⟩, ⟨5, ⟨(some 90), none, (.pure (.iaddr 2)), [(.tmp 88), (.tmp 89)]⟩, []⟩, ⟨6, ⟨(some 91), none, (.pure (.faddr 0)), [(.tmp 90)]⟩, []⟩, ⟨7, ⟨(some 92), none, (.load (.load 1 false)), [(.tmp 91)]⟩, []⟩, ⟨8, ⟨(some 93), none, (.new (.bslice 1 [(.int .i64 0)] 1 [(0, 1)])), [(.tmp 92)]⟩, []⟩, ⟨9, ⟨(some 94), none, (.imp (.append 1 8)), [(.tmp 86), (.tmp 93)]⟩, []⟩, ⟨10, ⟨(some 95), none, (.pure (.faddr 1)), [(.tmp 10)]⟩, []⟩, ⟨11, ⟨none, none, (.imp (.store 1)), [(.tmp 95), (.tmp 94)]⟩, []⟩]) (.seq (.region [⟨0, ⟨(some 12), none, (.pure .id), [(.const (.int .i64 0))]⟩, []⟩]) (.block 8 (.loop (.seq (.seq (.region [⟨0, ⟨(some 96), none, (.pure .id), [(.tmp 12)]⟩, []⟩, ⟨0, ⟨(some 97), none, (.pure .id), [(.tmp 8)]⟩, []⟩, ⟨0, ⟨(some 98), none, (.pure (.bin .lss .none)), [(.tmp 96), (.tmp 97)]⟩, []⟩]) (.cond (.tmp 98) .skip (.exit 8))) (.seq (.block 9 (.seq (.region [⟨0, ⟨(some 101), none, (.pure .id), [(.tmp 7)]⟩, []⟩, ⟨0, ⟨(some 102), none, (.pure (.faddr 1)), [(.tmp 1)]⟩, []⟩, ⟨0, ⟨(some 103), none, (.load (.load 1 false)), [(.tmp 102)]⟩, []⟩, ⟨0, ⟨(some 104), none, (.pure .id), [(.tmp 11)]⟩, []⟩, ⟨0, ⟨(some 105), none, (.pure (.iaddr 2)), [(.tmp 103), (.tmp 104)]⟩, []⟩, ⟨0, ⟨(some 106), none, (.pure (.faddr 1)), [(.tmp 105)]⟩, []⟩, ⟨0, ⟨(some 107), none, (.load (.load 1 false)), [(.tmp 106)]⟩, []⟩, ⟨0, ⟨(some 108), none, (.pure .id), [(.tmp 12)]⟩, []⟩, ⟨0, ⟨(some 109), none, (.pure (.iaddr 1)), [(.tmp 107), (.tmp 108)]⟩, []⟩, ⟨0, ⟨(some 110), none, (.load (.load 1 false)), [(.tmp 109)]⟩, []⟩, ⟨0, ⟨(some 111), none, (.call F_skolemref03_Has), [(.tmp 101), (.tmp 110)]⟩, []⟩, ⟨0, ⟨(some 112), none, (.pure (.un .not)), [(.tmp 111)]⟩, []⟩]) (.cond (.tmp 112) (.seq (.region [⟨0, ⟨(some 113), none, (.pure (.faddr 1)), [(.tmp 9)]⟩, []⟩, ⟨1, ⟨(some 114), none, (.load (.load 1 false)), [(.tmp 113)]⟩, []⟩, ⟨2, ⟨(some 115), none, (.pure (.faddr 1)), [(.tmp 1)]⟩, []⟩, ⟨3, ⟨(some 116), none, (.load (.load 1 false)), [(.tmp 115)]⟩, []⟩, ⟨4, ⟨(some 117), none, (.pure .id), [(.tmp 11)]⟩, []⟩, ⟨5, ⟨(some 118), none, (.pure (.iaddr 2)), [(.tmp 116), (.tmp 117)]⟩, []⟩, ⟨6, ⟨(some 119), none, (.pure (.faddr 1)), [(.tmp 118)]⟩, []⟩, ⟨7, ⟨(some 120), none, (.load (.load 1 false)), [(.tmp 119)]⟩, []⟩, ⟨8, ⟨(some 121), none, (.pure .id), [(.tmp 12)]⟩, []⟩, ⟨9, ⟨(some 122), none, (.pure (.iaddr 1)), [(.tmp 120), (.tmp 121)]⟩, []⟩, ⟨10, ⟨(some 123), none, (.load (.load 1 false)), [(.tmp 122)]⟩, []⟩, ⟨11, ⟨(some 124), none, (.new (.bslice 1 [(.int .i64 0)] 1 [(0, 1)])), [(.tmp 123)]⟩, []⟩, ⟨12, ⟨(some 125), none, (.imp (.append 1 8)), [(.tmp 114), (.tmp 124)]⟩, []⟩, ⟨13, ⟨(some 126), none, (.pure (.faddr 1)), [(.tmp 9)]⟩, []⟩, ⟨14, ⟨none, none, (.imp (.store 1)), [(.tmp 126), (.tmp 125)]⟩, []⟩]) (.region [⟨0, ⟨(some 127), none, (.pure .id), [(.tmp 7)]⟩, []⟩, ⟨0, ⟨(some 128), none, (.pure (.faddr 1)), [(.tmp 1)]⟩, []⟩, ⟨0, ⟨(some 129), none, (.load (.load 1 false)), [(.tmp 128)]⟩, []⟩, ⟨0, ⟨(some 130), none, (.pure .id), [(.tmp 11)]⟩, []⟩, ⟨0, ⟨(some 131), none, (.pure (.iaddr 2)), [(.tmp 129), (.tmp 130)]⟩, []⟩, ⟨0, ⟨(some 132), none, (.pure (.faddr 1)), [(.tmp 131)]⟩, []⟩, ⟨0, ⟨(some 133), none, (.load (.load 1 false)), [(.tmp 132)]⟩, []⟩, ⟨0, ⟨(some 134), none, (.pure .id), [(.tmp 12)]⟩, []⟩, ⟨0, ⟨(some 135), none, (.pure (.iaddr 1)), [(.tmp 133), (.tmp 134)]⟩, []⟩, ⟨0, ⟨(some 136), none, (.load (.load 1 false)), [(.tmp 135)]⟩, []⟩, ⟨0, ⟨(some 137), none, (.new (.bslice 1 [(.int .i64 0)] 1 [(0, 1)])), [(.tmp 136)]⟩, []⟩, ⟨0, ⟨(some 138), none, (.imp (.append 1 8)), [(.tmp 127), (.tmp 137)]⟩, []⟩, ⟨0, ⟨(some 7), none, (.pure .id), [(.tmp 138)]⟩, []⟩])) .skip))) (.region [⟨0, ⟨(some 99), none, (.pure .id), [(.tmp 12)]⟩, []⟩, ⟨0, ⟨(some 100), none, (.pure (.bin .add .none)), [(.tmp 99), (.const (.int .i64 1))]⟩, []⟩, ⟨0, ⟨(some 12), none, (.pure .id), [(.tmp 100)]⟩, []⟩]))))))))) (.region [⟨0, ⟨(some 74), none, (.pure .id), [(.tmp 11)]⟩, []⟩, ⟨0, ⟨(some 75), none, (.pure (.bin .add .none)), [(.tmp 74), (.const (.int .i64 1))]⟩, []⟩, ⟨0, ⟨(some 11), none, (.pure .id), [(.tmp 75)]⟩, []⟩])))))) (.region [⟨0, ⟨(some 139), none, (.pure .id), [(.tmp 6)]⟩, []⟩, ⟨0, ⟨(some 140), none, (.load (.load 2 true)), [(.tmp 9)]⟩, []⟩, ⟨0, ⟨(some 141), none, (.load (.load 2 true)), [(.tmp 10)]⟩, []⟩, ⟨0, ⟨(some 142), none, (.new (.bslice 2 [(.bool false), .nils] 2 [(0, 2), (2, 2)])), [(.tmp 140), (.tmp 141)]⟩, []⟩, ⟨0, ⟨(some 143), none, (.imp (.append 2 32)), [(.tmp 139), (.tmp 142)]⟩, []⟩, ⟨0, ⟨(some 6), none, (.pure .id), [(.tmp 143)]⟩, []⟩]))))) (.region [⟨0, ⟨(some 65), none, (.pure .id), [(.tmp 8)]⟩, []⟩, ⟨0, ⟨(some 66), none, (.pure (.bin .add .none)), [(.tmp 65), (.const (.int .i64 1))]⟩, []⟩, ⟨0, ⟨(some 8), none, (.pure .id), [(.tmp 66)]⟩, []⟩])))))) (.seq (.region [⟨0, ⟨(some 144), none, (.pure (.build [(.bool false), .nils] [])), []⟩, []⟩, ⟨0, ⟨(some 13), none, (.new (.alloc [(.bool false), .nils])), []⟩, []⟩, ⟨0, ⟨none, none, (.imp (.store 2)), [(.tmp 13), (.tmp 144)]⟩, []⟩]) (.seq (.seq (.region [⟨0, ⟨(some 14), none, (.pure .id), [(.const (.int .i64 0))]⟩, []⟩]) (.block 10 (.loop (.seq (.seq (.region [⟨0, ⟨(some 145), none, (.pure .id), [(.tmp 14)]⟩, []⟩, ⟨0, ⟨(some 146), none, (.pure (.faddr 0)), [(.tmp 1)]⟩, []⟩, ⟨0, ⟨(some 147), none, (.load (.load 1 false)), [(.tmp 146)]⟩, []⟩, ⟨0, ⟨(some 148), none, (.pure .len), [(.tmp 147)]⟩, []⟩, ⟨0, ⟨(some 149), none, (.pure (.bin .lss .none)), [(.tmp 145), (.tmp 148)]⟩, []⟩]) (.cond (.tmp 149) .skip (.exit 10))) (.seq (.block 11 (.seq (.region [⟨0, ⟨(some 152), none, (.pure .id), [(.tmp 7)]⟩, []⟩, ⟨0, ⟨(some 153), none, (.pure (.faddr 0)), [(.tmp 1)]⟩, []⟩, ⟨0, ⟨(some 154), none, (.load (.load 1 false)), [(.tmp 153)]⟩, []⟩, ⟨0, ⟨(some 155), none, (.pure .id), [(.tmp 14)]⟩, []⟩, ⟨0, ⟨(some 156), none, (.pure (.iaddr 1)), [(.tmp 154), (.tmp 155)]⟩, []⟩, ⟨0, ⟨(some 157), none, (.load (.load 1 false)), [(.tmp 156)]⟩, []⟩, ⟨0, ⟨(some 158), none, (.call F_skolemref03_Has), [(.tmp 152), (.tmp 157)]⟩, []⟩, ⟨0, ⟨(some 159), none, (.pure (.un .not)), [(.tmp 158)]⟩, []⟩]) (.cond (.tmp 159) (.region [⟨0, ⟨(some 160), none, (.pure (.faddr 1)), [(.tmp 13)]⟩, []⟩, ⟨1, ⟨(some 161), none, (.load (.load 1 false)), [(.tmp 160)]⟩, []⟩, ⟨2, ⟨(some 162), none, (.pure (.faddr 0)), [(.tmp 1)]⟩, []⟩, ⟨3, ⟨(some 163), none, (.load (.load 1 false)), [(.tmp 162)]⟩, []⟩, ⟨4, ⟨(some 164), none, (.pure .id), [(.tmp 14)]⟩, []⟩, ⟨5, ⟨(some 165), none, (.pure (.iaddr 1)), [(.tmp 163), (.tmp 164)]⟩, []⟩, ⟨6, ⟨(some 166), none, (.load (.load 1 false)), [(.tmp 165)]⟩, []⟩, ⟨7, ⟨(some 167), none, (.new (.bslice 1 [(.int .i64 0)] 1 [(0, 1)])), [(.tmp 166)]⟩, []⟩, ⟨8, ⟨(some 168), none, (.imp (.append 1 8)), [(.tmp 161), (.tmp 167)]⟩, []⟩, ⟨9, ⟨(some 169), none, (.pure (.faddr 1)), [(.tmp 13)]⟩, []⟩, ⟨10, ⟨none, none, (.imp (.store 1)), [(.tmp 169), (.tmp 168)]⟩, []⟩]) .skip))) (.region [⟨0, ⟨(some 150), none, (.pure .id), [(.tmp 14)]⟩, []⟩, ⟨0, ⟨(some 151), none, (.pure (.bin .add .none)), [(.tmp 150), (.const (.int .i64 1))]⟩, []⟩, ⟨0, ⟨(some 14), none, (.pure .id), [(.tmp 151)]⟩, []⟩])))))) (.seq (.region [⟨0, ⟨(some 170), none, (.pure .id), [(.tmp 6)]⟩, []⟩, ⟨0, ⟨(some 171), none, (.load (.load 2 true)), [(.tmp 13)]⟩, []⟩, ⟨0, ⟨(some 172), none, (.new (.bslice 2 [(.bool false), .nils] 1 [(0, 2)])), [(.tmp 171)]⟩, []⟩, ⟨0, ⟨(some 173), none, (.imp (.append 2 32)), [(.tmp 170), (.tmp 172)]⟩, []⟩, ⟨0, ⟨(some 174), none, (.call F_skolemref03_Joined), [(.tmp 173)]⟩, []⟩, ⟨0, ⟨(some 2), none, (.pure .id), [(.tmp 174)]⟩, []⟩, ⟨0, ⟨(some 3), none, (.pure .id), [(.const (.int .i64 0))]⟩, []⟩]) .ret)))))))))⟩
theorem c_skolemref03_Linear : compF Tryz.prog Tryz.f26 = some G_skolemref03_Linear := by kernel_rfl
theorem gc_skolemref03_Linear {args : List DV} {σ : GS} {Post : DV → GS → Prop} (h : @exB Tryz.prog ⟨G_skolemref03_Linear.body⟩ (genv0 args G_skolemref03_Linear.ntmps) σ ⟨@gretB G_skolemref03_Linear.results ⟨Post⟩⟩) : GCall Tryz.prog F_skolemref03_Linear args σ Post := gcall_ofB seatfollows Tryz.func26 (by kernel_rfl) c_skolemref03_Linear h
noncomputable abbrev G_skolemref03_Deps : GFun := ⟨28, [(.tmp 4), (.tmp 5)], (.seq (.region [⟨0, ⟨(some 2), none, (.new .box), [(.tmp 0)]⟩, []⟩, ⟨0, ⟨(some 4), none, (.pure .id), [(.const .nils)]⟩, []⟩, ⟨0, ⟨(some 5), none, (.pure .id), [(.const (.bool false))]⟩, []⟩]) (.seq (.seq (.region [⟨0, ⟨(some 6), none, (.pure .id), [(.const (.int .i64 0))]⟩, []⟩]) (.block 0 (.loop (.seq (.seq (.region [⟨0, ⟨(some 7), none, (.pure .id), [(.tmp 6)]⟩, []⟩, ⟨0, ⟨(some 8), none, (.pure (.faddr 1)), [(.tmp 2)]⟩, []⟩, ⟨0, ⟨(some 9), none, (.load (.load 1 false)), [(.tmp 8)]⟩, []⟩, ⟨0, ⟨(some 10), none, (.pure .len), [(.tmp 9)]⟩, []⟩, ⟨0, ⟨(some 11), none, (.pure (.bin .lss .none)), [(.tmp 7), (.tmp 10)]⟩, []⟩]) (.cond (.tmp 11) .skip (.exit 0))) (.seq (.block 1 (.seq (.region [⟨0, ⟨(some 14), none, (.pure (.faddr 1)), [(.tmp 2)]⟩, []⟩, ⟨0, ⟨(some 15), none, (.load (.load 1 false)), [(.tmp 14)]⟩, []⟩, ⟨0, ⟨(some 16), none, (.pure .id), [(.tmp 6)]⟩, []⟩, ⟨0, ⟨(some 17), none, (.pure (.iaddr 2)), [(.tmp 15), (.tmp 16)]⟩, []⟩, ⟨0, ⟨(some 18), none, (.pure (.faddr 0)), [(.tmp 17)]⟩, []⟩, ⟨0, ⟨(some 19), none, (.load (.load 1 false)), [(.tmp 18)]⟩, []⟩, ⟨0, ⟨(some 20), none, (.pure .id), [(.tmp 1)]⟩, []⟩, ⟨0, ⟨(some 21), none, (.pure (.bin .eql .none)), [(.tmp 19), (.tmp 20)]⟩, []⟩]) (.cond (.tmp 21) (.seq (.region [⟨0, ⟨(some 22), none, (.pure (.faddr 1)), [(.tmp 2)]⟩, []⟩, ⟨0, ⟨(some 23), none, (.load (.load 1 false)), [(.tmp 22)]⟩, []⟩, ⟨0, ⟨(some 24), none, (.pure .id), [(.tmp 6)]⟩, []⟩, ⟨0, ⟨(some 25), none, (.pure (.iaddr 2)), [(.tmp 23), (.tmp 24)]⟩, []⟩, ⟨0, ⟨(some 26), none, (.pure (.faddr 1)), [(.tmp 25)]⟩, []⟩, ⟨0, ⟨(some 27), none, (.load (.load 1 false)), [(.tmp 26)]⟩, []⟩, ⟨0, ⟨(some 4), none, (.pure .id), [(.tmp 27)]⟩, []⟩, ⟨0, ⟨(some 5), none, (.pure .id), [(.const (.bool true))]⟩, []⟩]) .ret) .skip))) (.region [⟨0, ⟨(some 12), none, (.pure .id), [(.tmp 6)]⟩, []⟩, ⟨0, ⟨(some 13), none, (.pure (.bin .add .none)), [(.tmp 12), (.const (.int .i64 1))]⟩, []⟩, ⟨0, ⟨(some 6), none, (.pure .id), [(.tmp 13)]⟩, []⟩])))))) (.seq (.region [⟨0, ⟨(some 4), none, (.pure .id), [(.const .nils)]⟩, []⟩, ⟨0, ⟨(some 5), none, (.pure .id), [(.const (.bool false))]⟩, []⟩]) .ret)))⟩
theorem c_skolemref03_Deps : compF Tryz.prog Tryz.f28 = some G_skolemref03_Deps := by kernel_rfl
theorem gc_skolemref03_Deps {args : List DV} {σ : GS} {Post : DV → GS → Prop} (h : @exB Tryz.prog ⟨G_skolemref03_Deps.body⟩ (genv0 args G_skolemref03_Deps.ntmps) σ ⟨@gretB G_skolemref03_Deps.results ⟨Post⟩⟩) : GCall Tryz.prog F_skolemref03_Deps args σ Post := gcall_ofB seatfollows Tryz.func28 (by kernel_rfl) c_skolemref03_Deps h
noncomputable abbrev G_skolemref03_Vars : GFun := ⟨21, [(.tmp 2)], (.seq (.region [⟨0, ⟨(some 2), none, (.pure .id), [(.const .nils)]⟩, []⟩]) (.seq (.region [⟨0, ⟨(some 3), none, (.pure .id), [(.const .nils)]⟩, []⟩]) (.seq (.region [⟨0, ⟨(some 6), none, (.pure .id), [(.tmp 0)]⟩, []⟩, ⟨0, ⟨(some 7), none, (.call F_skolemref03_Flat), [(.tmp 6)]⟩, []⟩, ⟨0, ⟨(some 4), none, (.pure .id), [(.tmp 7)]⟩, []⟩]) (.seq (.seq (.region [⟨0, ⟨(some 5), none, (.pure .id), [(.const (.int .i64 0))]⟩, []⟩]) (.block 0 (.loop (.seq (.seq (.region [⟨0, ⟨(some 8), none, (.pure .id), [(.tmp 5)]⟩, []⟩, ⟨0, ⟨(some 9), none, (.pure .id), [(.tmp 4)]⟩, []⟩, ⟨0, ⟨(some 10), none, (.pure .len), [(.tmp 9)]⟩, []⟩, ⟨0, ⟨(some 11), none, (.pure (.bin .lss .none)), [(.tmp 8), (.tmp 10)]⟩, []⟩]) (.cond (.tmp 11) .skip (.exit 0))) (.seq (.block 1 (.region [⟨0, ⟨(some 14), none, (.pure .id), [(.tmp 3)]⟩, []⟩, ⟨0, ⟨(some 15), none, (.pure .id), [(.tmp 4)]⟩, []⟩, ⟨0, ⟨(some 16), none, (.pure .id), [(.tmp 5)]⟩, []⟩, ⟨0, ⟨(some 17), none, (.pure (.iaddr 1)), [(.tmp 15), (.tmp 16)]⟩, []⟩, ⟨0, ⟨(some 18), none, (.load (.load 1 false)), [(.tmp 17)]⟩, []⟩, ⟨0, ⟨(some 19), none, (.call F_skolemref03_Put), [(.tmp 14), (.tmp 18)]⟩, []⟩, ⟨0, ⟨(some 3), none, (.pure .id), [(.tmp 19)]⟩, []⟩])) (.region [⟨0, ⟨(some 12), none, (.pure .id), [(.tmp 5)]⟩, []⟩, ⟨0, ⟨(some 13), none, (.pure (.bin .add .none)), [(.tmp 12), (.const (.int .i64 1))]⟩, []⟩, ⟨0, ⟨(some 5), none, (.pure .id), [(.tmp 13)]⟩, []⟩])))))) (.seq (.region [⟨0, ⟨(some 20), none, (.pure .id), [(.tmp 3)]⟩, []⟩, ⟨0, ⟨(some 2), none, (.pure .id), [(.tmp 20)]⟩, []⟩]) .ret)))))⟩
theorem c_skolemref03_Vars : compF Tryz.prog Tryz.f72 = some G_skolemref03_Vars := by kernel_rfl
theorem gc_skolemref03_Vars {args : List DV} {σ : GS} {Post : DV → GS → Prop} (h : @exB Tryz.prog ⟨G_skolemref03_Vars.body⟩ (genv0 args G_skolemref03_Vars.ntmps) σ ⟨@gretB G_skolemref03_Vars.results ⟨Post⟩⟩) : GCall Tryz.prog F_skolemref03_Vars args σ Post := gcall_ofB seatfollows Tryz.func72 (by kernel_rfl) c_skolemref03_Vars h
noncomputable abbrev G_skolemref03_Find : GFun := ⟨27, [(.tmp 4), (.tmp 5), (.tmp 6)], (.seq (.region [⟨0, ⟨(some 4), none, (.pure .id), [(.const (.int .i64 0))]⟩, []⟩, ⟨0, ⟨(some 5), none, (.pure .id), [(.const (.bool false))]⟩, []⟩, ⟨0, ⟨(some 6), none, (.pure .id), [(.const (.bool false))]⟩, []⟩]) (.seq (.seq (.region [⟨0, ⟨(some 7), none, (.pure .id), [(.const (.int .i64 0))]⟩, []⟩]) (.block 0 (.loop (.seq (.seq (.region [⟨0, ⟨(some 8), none, (.pure .id), [(.tmp 7)]⟩, []⟩, ⟨0, ⟨(some 9), none, (.pure .id), [(.tmp 0)]⟩, []⟩, ⟨0, ⟨(some 10), none, (.pure .len), [(.tmp 9)]⟩, []⟩, ⟨0, ⟨(some 11), none, (.pure (.bin .lss .none)), [(.tmp 8), (.tmp 10)]⟩, []⟩]) (.cond (.tmp 11) .skip (.exit 0))) (.seq (.block 1 (.seq (.region [⟨0, ⟨(some 14), none, (.pure .id), [(.tmp 0)]⟩, []⟩, ⟨0, ⟨(some 15), none, (.pure .id), [(.tmp 7)]⟩, []⟩, ⟨0, ⟨(some 16), none, (.pure (.iaddr 2)), [(.tmp 14), (.tmp 15)]⟩, []⟩, ⟨0, ⟨(some 17), none, (.pure (.faddr 1)), [(.tmp 16)]⟩, []⟩, ⟨0, ⟨(some 18), none, (.load (.load 1 false)), [(.tmp 17)]⟩, []⟩, ⟨0, ⟨(some 19), none, (.pure .id), [(.tmp 1)]⟩, []⟩, ⟨0, ⟨(some 20), none, (.call F_skolemref03_Has), [(.tmp 18), (.tmp 19)]⟩, []⟩]) (.cond (.tmp 20) (.seq (.region [⟨0, ⟨(some 21), none, (.pure .id), [(.tmp 7)]⟩, []⟩, ⟨1, ⟨(some 22), none, (.pure .id), [(.tmp 0)]⟩, []⟩, ⟨2, ⟨(some 23), none, (.pure .id), [(.tmp 7)]⟩, []⟩, ⟨3, ⟨(some 24), none, (.pure (.iaddr 2)), [(.tmp 22), (.tmp 23)]⟩, []⟩, ⟨4, ⟨(some 25), none, (.pure (.faddr 0)), [(.tmp 24)]⟩, []⟩, ⟨5, ⟨(some 26), none, (.load (.load 1 false)), [(.tmp 25)]⟩, []⟩, ⟨6, ⟨(some 4), none, (.pure .id), [(.tmp 21)]⟩, []⟩, ⟨7, ⟨(some 5), none, (.pure .id), [(.tmp 26)]⟩, []⟩, ⟨8, ⟨(some 6), none, (.pure .id), [(.const (.bool true))]⟩, []⟩]) .ret) .skip))) (.region [⟨0, ⟨(some 12), none, (.pure .id), [(.tmp 7)]⟩, []⟩, ⟨0, ⟨(some 13), none, (.pure (.bin .add .none)), [(.tmp 12), (.const (.int .i64 1))]⟩, []⟩, ⟨0, ⟨(some 7), none, (.pure .id), [(.tmp 13)]⟩, []⟩])))))) (.seq (.region [⟨0, ⟨(some 4), none, (.pure .id), [(.const (.int .i64 0))]⟩, []⟩, ⟨0, ⟨(some 5), none, (.pure .id), [(.const (.bool false))]⟩, []⟩, ⟨0, ⟨(some 6), none, (.pure .id), [(.const (.bool false))]⟩, []⟩]) .ret)))⟩
theorem c_skolemref03_Find : compF Tryz.prog Tryz.f74 = some G_skolemref03_Find := by kernel_rfl
theorem gc_skolemref03_Find {args : List DV} {σ : GS} {Post : DV → GS → Prop} (h : @exB Tryz.prog ⟨G_skolemref03_Find.body⟩ (genv0 args G_skolemref03_Find.ntmps) σ ⟨@gretB G_skolemref03_Find.results ⟨Post⟩⟩) : GCall Tryz.prog F_skolemref03_Find args σ Post := gcall_ofB seatfollows Tryz.func74 (by kernel_rfl) c_skolemref03_Find h
noncomputable abbrev G_skolemref03_On : GFun := ⟨59, [(.tmp 4), (.tmp 5)], (.seq (.region [⟨0, ⟨(some 4), none, (.pure .id), [(.const .nils)]⟩, []⟩, ⟨0, ⟨(some 5), none, (.pure .id), [(.const (.int .i64 0))]⟩, []⟩]) (.seq (.seq (.region [⟨0, ⟨(some 12), none, (.pure .id), [(.tmp 0)]⟩, []⟩, ⟨0, ⟨(some 13), none, (.call F_skolemref03_May), [(.tmp 12)]⟩, []⟩, ⟨0, ⟨(some 14), none, (.pure (.un .not)), [(.tmp 13)]⟩, []⟩]) (.cond (.tmp 14) (.seq (.region [⟨0, ⟨(some 4), none, (.pure .id), [(.const .nils)]⟩, []⟩, ⟨0, ⟨(some 5), none, (.pure .id), [(.const (.int .i64 2))]⟩, []⟩]) .ret) .skip)) (.seq (.region [⟨0, ⟨(some 16), none, (.pure .id), [(.tmp 0)]⟩, []⟩, ⟨0, ⟨(some 17), none, (.pure .id), [(.tmp 1)]⟩, []⟩, ⟨0, ⟨(some 18), none, (.call F_skolemref03_Find), [(.tmp 16), (.tmp 17)]⟩, []⟩, ⟨0, ⟨(some 15), none, (.pure .id), [(.tmp 18)]⟩, []⟩, ⟨0, ⟨(some 19), none, (.pure (.extract 0)), [(.tmp 15)]⟩, []⟩, ⟨0, ⟨(some 20), none, (.pure (.extract 1)), [(.tmp 15)]⟩, []⟩, ⟨0, ⟨(some 21), none, (.pure (.extract 2)), [(.tmp 15)]⟩, []⟩, ⟨0, ⟨(some 6), none, (.pure .id), [(.tmp 19)]⟩, []⟩, ⟨0, ⟨(some 7), none, (.pure .id), [(.tmp 20)]⟩, []⟩, ⟨0, ⟨(some 8), none, (.pure .id), [(.tmp 21)]⟩, []⟩]) (.seq (.seq (.region [⟨0, ⟨(some 22), none, (.pure .id), [(.tmp 8)]⟩, []⟩, ⟨0, ⟨(some 23), none, (.pure (.un .not)), [(.tmp 22)]⟩, []⟩]) (.cond (.tmp 23) (.seq (.region [⟨0, ⟨(some 4), none, (.pure .id), [(.const .nils)]⟩, []⟩, ⟨0, ⟨(some 5), none, (.pure .id), [(.const (.int .i64 6))]⟩, []⟩]) .ret) .skip)) (.seq (.region [⟨0, ⟨(some 9), none, (.pure .id), [(.const .nils)]⟩, []⟩]) (.seq (.seq (.region [⟨0, ⟨(some 10), none, (.pure .id), [(.const (.int .i64 0))]⟩, []⟩]) (.block 0 (.loop (.seq (.seq (.region [⟨0, ⟨(some 24), none, (.pure .id), [(.tmp 10)]⟩, []⟩, ⟨0, ⟨(some 25), none, (.pure .id), [(.tmp 6)]⟩, []⟩, ⟨0, ⟨(some 26), none, (.pure (.bin .lss .none)), [(.tmp 24), (.tmp 25)]⟩, []⟩]) (.cond (.tmp 26) .skip (.exit 0))) (.seq (.block 1 (.seq (.region [⟨0, ⟨(some 11), none, (.pure .id), [(.const (.int .i64 0))]⟩, []⟩]) (.block 2 (.loop (.seq (.seq (.region [⟨0, ⟨(some 29), none, (.pure .id), [(.tmp 11)]⟩, []⟩, ⟨0, ⟨(some 30), none, (.pure .id), [(.tmp 0)]⟩, []⟩, ⟨0, ⟨(some 31), none, (.pure .id), [(.tmp 10)]⟩, []⟩, ⟨0, ⟨(some 32), none, (.pure (.iaddr 2)), [(.tmp 30), (.tmp 31)]⟩, []⟩, ⟨0, ⟨(some 33), none, (.pure (.faddr 1)), [(.tmp 32)]⟩, []⟩, ⟨0, ⟨(some 34), none, (.load (.load 1 false)), [(.tmp 33)]⟩, []⟩, ⟨0, ⟨(some 35), none, (.pure .len), [(.tmp 34)]⟩, []⟩, ⟨0, ⟨(some 36), none, (.pure (.bin .lss .none)), [(.tmp 29), (.tmp 35)]⟩, []⟩, ⟨0, ⟨(some 37), none, (.pure .id), [(.tmp 36)]⟩, []⟩, ⟨0, ⟨(some 38), (some (37, true)), (.pure .id), [(.tmp 0)]⟩, []⟩, ⟨0, ⟨(some 39), (some (37, true)), (.pure .id), [(.tmp 10)]⟩, []⟩, ⟨0, ⟨(some 40), (some (37, true)), (.pure (.iaddr 2)), [(.tmp 38), (.tmp 39)]⟩, []⟩, ⟨0, ⟨(some 41), (some (37, true)), (.pure (.faddr 0)), [(.tmp 40)]⟩, []⟩, ⟨0, ⟨(some 42), (some (37, true)), (.load (.load 1 false)), [(.tmp 41)]⟩, []⟩, ⟨0, ⟨(some 43), (some (37, true)), (.pure .id), [(.tmp 7)]⟩, []⟩, ⟨0, ⟨(some 44), (some (37, true)), (.pure (.bin .neq .bool)), [(.tmp 42), (.tmp 43)]⟩, []⟩, ⟨0, ⟨(some 45), none, (.pure .pick), [(.tmp 37), (.tmp 44), (.const (.bool false))]⟩, []⟩]) (.cond (.tmp 45) .skip (.exit 2))) (.seq (.block 3 (.region [⟨0, ⟨(some 48), none, (.pure .id), [(.tmp 9)]⟩, []⟩, ⟨0, ⟨(some 49), none, (.pure .id), [(.tmp 0)]⟩, []⟩, ⟨0, ⟨(some 50), none, (.pure .id), [(.tmp 10)]⟩, []⟩, ⟨0, ⟨(some 51), none, (.pure (.iaddr 2)), [(.tmp 49), (.tmp 50)]⟩, []⟩, ⟨0, ⟨(some 52), none, (.pure (.faddr 1)), [(.tmp 51)]⟩, []⟩, ⟨0, ⟨(some 53), none, (.load (.load 1 false)), [(.tmp 52)]⟩, []⟩, ⟨0, ⟨(some 54), none, (.pure .id), [(.tmp 11)]⟩, []⟩, ⟨0, ⟨(some 55), none, (.pure (.iaddr 1)), [(.tmp 53), (.tmp 54)]⟩, []⟩, ⟨0, ⟨(some 56), none, (.load (.load 1 false)), [(.tmp 55)]⟩, []⟩, ⟨0, ⟨(some 57), none, (.call F_skolemref03_Put), [(.tmp 48), (.tmp 56)]⟩, []⟩, ⟨0, ⟨(some 9), none, (.pure .id), [(.tmp 57)]⟩, []⟩])) (.region [⟨0, ⟨(some 46), none, (.pure .id), [(.tmp 11)]⟩, []⟩, ⟨0, ⟨(some 47), none, (.pure (.bin .add .none)), [(.tmp 46), (.const (.int .i64 1))]⟩, []⟩, ⟨0, ⟨(some 11), none, (.pure .id), [(.tmp 47)]⟩, []⟩]))))))) (.region [⟨0, ⟨(some 27), none, (.pure .id), [(.tmp 10)]⟩, []⟩, ⟨0, ⟨(some 28), none, (.pure (.bin .add .none)), [(.tmp 27), (.const (.int .i64 1))]⟩, []⟩, ⟨0, ⟨(some 10), none, (.pure .id), [(.tmp 28)]⟩, []⟩])))))) (.seq (.region [⟨0, ⟨(some 58), none, (.pure .id), [(.tmp 9)]⟩, []⟩, ⟨0, ⟨(some 4), none, (.pure .id), [(.tmp 58)]⟩, []⟩, ⟨0, ⟨(some 5), none, (.pure .id), [(.const (.int .i64 0))]⟩, []⟩]) .ret)))))))⟩
theorem c_skolemref03_On : compF Tryz.prog Tryz.f75 = some G_skolemref03_On := by kernel_rfl
theorem gc_skolemref03_On {args : List DV} {σ : GS} {Post : DV → GS → Prop} (h : @exB Tryz.prog ⟨G_skolemref03_On.body⟩ (genv0 args G_skolemref03_On.ntmps) σ ⟨@gretB G_skolemref03_On.results ⟨Post⟩⟩) : GCall Tryz.prog F_skolemref03_On args σ Post := gcall_ofB seatfollows Tryz.func75 (by kernel_rfl) c_skolemref03_On h
noncomputable abbrev G_skolemref03_Put : GFun := ⟨49, [(.tmp 4)], (.seq (.region [⟨0, ⟨(some 4), none, (.pure .id), [(.const .nils)]⟩, []⟩]) (.seq (.region [⟨0, ⟨(some 5), none, (.pure .id), [(.const .nils)]⟩, []⟩]) (.seq (.region [⟨0, ⟨(some 6), none, (.pure .id), [(.const (.bool false))]⟩, []⟩]) (.seq (.seq (.region [⟨0, ⟨(some 7), none, (.pure .id), [(.const (.int .i64 0))]⟩, []⟩]) (.block 0 (.loop (.seq (.seq (.region [⟨0, ⟨(some 8), none, (.pure .id), [(.tmp 7)]⟩, []⟩, ⟨0, ⟨(some 9), none, (.pure .id), [(.tmp 0)]⟩, []⟩, ⟨0, ⟨(some 10), none, (.pure .len), [(.tmp 9)]⟩, []⟩, ⟨0, ⟨(some 11), none, (.pure (.bin .lss .none)), [(.tmp 8), (.tmp 10)]⟩, []⟩]) (.cond (.tmp 11) .skip (.exit 0))) (.seq (.block 1 (.seq (.seq (.region [⟨0, ⟨(some 14), none, (.pure .id), [(.tmp 0)]⟩, []⟩, ⟨0, ⟨(some 15), none, (.pure .id), [(.tmp 7)]⟩, []⟩, ⟨0, ⟨(some 16), none, (.pure (.iaddr 1)), [(.tmp 14), (.tmp 15)]⟩, []⟩, ⟨0, ⟨(some 17), none, (.load (.load 1 false)), [(.tmp 16)]⟩, []⟩, ⟨0, ⟨(some 18), none, (.pure .id), [(.tmp 1)]⟩, []⟩, ⟨0, ⟨(some 19), none, (.pure (.bin .eql .none)), [(.tmp 17), (.tmp 18)]⟩, []⟩]) (.cond (.tmp 19) (.seq (.region [⟨0, ⟨(some 20), none, (.pure .id), [(.tmp 0)]⟩, []⟩, ⟨0, ⟨(some 4), none, (.pure .id), [(.tmp 20)]⟩, []⟩]) .ret) .skip)) (.seq (.seq (.region [⟨0, ⟨(some 21), none, (.pure .id), [(.tmp 6)]⟩, []⟩, ⟨0, ⟨(some 22), none, (.pure (.un .not)), [(.tmp 21)]⟩, []⟩, ⟨0, ⟨(some 23), none, (.pure .id), [(.tmp 22)]⟩, []⟩, ⟨0, ⟨(some 24), (some (23, true)), (.pure .id), [(.tmp 0)]⟩, []⟩, ⟨0, ⟨(some 25), (some (23, true)), (.pure .id), [(.tmp 7)]⟩, []⟩, ⟨0, ⟨(some 26), (some (23, true)), (.pure (.iaddr 1)), [(.tmp 24), (.tmp 25)]⟩, []⟩, ⟨0, ⟨(some 27), (some (23, true)), (.load (.load 1 false)), [(.tmp 26)]⟩, []⟩, ⟨0, ⟨(some 28), (some (23, true)), (.pure .id), [(.tmp 1)]⟩, []⟩, ⟨0, ⟨(some 29), (some (23, true)), (.pure (.bin .gtr .none)), [(.tmp 27), (.tmp 28)]⟩, []⟩, ⟨0, ⟨(some 30), none, (.pure .pick), [(.tmp 23), (.tmp 29), (.const (.bool false))]⟩, []⟩]) (.cond (.tmp 30) (.seq (.region [⟨0, ⟨(some 31), none, (.pure .id), [(.tmp 5)]⟩, []⟩, ⟨0, ⟨(some 32), none, (.pure .id), [(.tmp 1)]⟩, []⟩, ⟨0, ⟨(some 33), none, (.new (.bslice 1 [(.int .i64 0)] 1 [(0, 1)])), [(.tmp 32)]⟩, []⟩, ⟨0, ⟨(some 34), none, (.imp (.append 1 8)), [(.tmp 31), (.tmp 33)]⟩, []⟩, ⟨0, ⟨(some 5), none, (.pure .id), [(.tmp 34)]⟩, []⟩]) (.region [⟨0, ⟨(some 6), none, (.pure .id), [(.const (.bool true))]⟩, []⟩])) .skip)) (.region [⟨0, ⟨(some 35), none, (.pure .id), [(.tmp 5)]⟩, []⟩, ⟨0, ⟨(some 36), none, (.pure .id), [(.tmp 0)]⟩, []⟩, ⟨0, ⟨(some 37), none, (.pure .id), [(.tmp 7)]⟩, []⟩, ⟨0, ⟨(some 38), none, (.pure (.iaddr 1)), [(.tmp 36), (.tmp 37)]⟩, []⟩, ⟨0, ⟨(some 39), none, (.load (.load 1 false)), [(.tmp 38)]⟩, []⟩, ⟨0, ⟨(some 40), none, (.new (.bslice 1 [(.int .i64 0)] 1 [(0, 1)])), [(.tmp 39)]⟩, []⟩, ⟨0, ⟨(some 41), none, (.imp (.append 1 8)), [(.tmp 35), (.tmp 40)]⟩, []⟩, ⟨0, ⟨(some 5), none, (.pure .id), [(.tmp 41)]⟩, []⟩])))) (.region [⟨0, ⟨(some 12), none, (.pure .id), [(.tmp 7)]⟩, []⟩, ⟨0, ⟨(some 13), none, (.pure (.bin .add .none)), [(.tmp 12), (.const (.int .i64 1))]⟩, []⟩, ⟨0, ⟨(some 7), none, (.pure .id), [(.tmp 13)]⟩, []⟩])))))) (.seq (.seq (.region [⟨0, ⟨(some 42), none, (.pure .id), [(.tmp 6)]⟩, []⟩, ⟨0, ⟨(some 43), none, (.pure (.un .not)), [(.tmp 42)]⟩, []⟩]) (.cond (.tmp 43) (.region [⟨0, ⟨(some 44), none, (.pure .id), [(.tmp 5)]⟩, []⟩, ⟨0, ⟨(some 45), none, (.pure .id), [(.tmp 1)]⟩, []⟩, ⟨0, ⟨(some 46), none, (.new (.bslice 1 [(.int .i64 0)] 1 [(0, 1)])), [(.tmp 45)]⟩, []⟩, ⟨0, ⟨(some 47), none, (.imp (.append 1 8)), [(.tmp 44), (.tmp 46)]⟩, []⟩, ⟨0, ⟨(some 5), none, (.pure .id), [(.tmp 47)]⟩, []⟩]) .skip)) (.seq (.region [⟨0, ⟨(some 48), none, (.pure .id), [(.tmp 5)]⟩, []⟩, ⟨0, ⟨(some 4), none, (.pure .id), [(.tmp 48)]⟩, []⟩]) .ret))))))⟩
theorem c_skolemref03_Put : compF Tryz.prog Tryz.f99 = some G_skolemref03_Put := by kernel_rfl
theorem gc_skolemref03_Put {args : List DV} {σ : GS} {Post : DV → GS → Prop} (h : @exB Tryz.prog ⟨G_skolemref03_Put.body⟩ (genv0 args G_skolemref03_Put.ntmps) σ ⟨@gretB G_skolemref03_Put.results ⟨Post⟩⟩) : GCall Tryz.prog F_skolemref03_Put args σ Post := gcall_ofB seatfollows Tryz.func99 (by kernel_rfl) c_skolemref03_Put h
noncomputable abbrev G_skolemref03_Joined : GFun := ⟨73, [(.tmp 2)], (.seq (.region [⟨0, ⟨(some 2), none, (.pure .id), [(.const .nils)]⟩, []⟩]) (.seq (.region [⟨0, ⟨(some 3), none, (.pure .id), [(.const .nils)]⟩, []⟩]) (.seq (.seq (.region [⟨0, ⟨(some 4), none, (.pure .id), [(.const (.int .i64 0))]⟩, []⟩]) (.block 0 (.loop (.seq (.seq (.region [⟨0, ⟨(some 6), none, (.pure .id), [(.tmp 4)]⟩, []⟩, ⟨0, ⟨(some 7), none, (.pure .id), [(.tmp 0)]⟩, []⟩, ⟨0, ⟨(some 8), none, (.pure .len), [(.tmp 7)]⟩, []⟩, ⟨0, ⟨(some 9), none, (.pure (.bin .lss .none)), [(.tmp 6), (.tmp 8)]⟩, []⟩]) (.cond (.tmp 9) .skip (.exit 0))) (.seq (.block 1 (.seq (.region [⟨0, ⟨(some 12), none, (.pure .id), [(.tmp 3)]⟩, []⟩, ⟨0, ⟨(some 13), none, (.pure .len), [(.tmp 12)]⟩, []⟩, ⟨0, ⟨(some 5), none, (.pure .id), [(.tmp 13)]⟩, []⟩]) (.seq (.seq (.region [⟨0, ⟨(some 14), none, (.pure .id), [(.tmp 0)]⟩, []⟩, ⟨0, ⟨(some 15), none, (.pure .id), [(.tmp 4)]⟩, []⟩, ⟨0, ⟨(some 16), none, (.pure (.iaddr 2)), [(.tmp 14), (.tmp 15)]⟩, []⟩, ⟨0, ⟨(some 17), none, (.pure (.faddr 1)), [(.tmp 16)]⟩, []⟩, ⟨0, ⟨(some 18), none, (.load (.load 1 false)), [(.tmp 17)]⟩, []⟩, ⟨0, ⟨(some 19), none, (.pure .len), [(.tmp 18)]⟩, []⟩, ⟨0, ⟨(some 20), none, (.pure (.bin .eql .none)), [(.tmp 19), (.const (.int .i64 0))]⟩, []⟩]) (.cond (.tmp 20) (.exit 1) .skip)) (.seq (.region [⟨0, ⟨(some 21), none, (.pure .id), [(.tmp 5)]⟩, []⟩, ⟨1, ⟨(some 22), none, (.pure (.bin .gtr .none)), [(.tmp 21), (.const (.int .i64 0))]⟩, []⟩, ⟨2, ⟨(some 23), none, (.pure .id), [(.tmp 22)]⟩, []⟩, ⟨3, ⟨(some 24), (some (23, true)), (.pure .id), [(.tmp 3)]⟩, []⟩, ⟨4, ⟨(some 25), (some (23, true)), (.pure .id), [(.tmp 5)]⟩, []⟩, ⟨5, ⟨(some 26), (some (23, true)), (.pure (.bin .sub .none)), [(.tmp 25), (.const (.int .i64 1))]⟩, []⟩, ⟨6, ⟨(some 27), (some (23, true)), (.pure (.iaddr 2)), [(.tmp 24), (.tmp 26)]⟩, []⟩, ⟨7, ⟨(some 28), (some (23, true)), (.pure (.faddr 0)), [(.tmp 27)]⟩, []⟩, ⟨8, ⟨(some 29), (some (23, true)), (.load (.load 1 false)), [(.tmp 28)]⟩, []⟩, ⟨9, ⟨(some 30), (some (23, true)), (.pure .id), [(.tmp 0)]⟩, []⟩, ⟨10, ⟨(some 31), (some (23, true)), (.pure .id), [(.tmp 4)]⟩, []⟩, ⟨11, ⟨(some 32), (some (23, true)), (.pure (.iaddr 2)), [(.tmp 30), (.tmp 31)]⟩, []⟩, ⟨12, ⟨(some 33), (some (23, true)), (.pure (.faddr 0)), [(.tmp 32)]⟩, []⟩, ⟨13, ⟨(some 34), (some (23, true)), (.load (.load 1 false)), [(.tmp 33)]⟩, []⟩, ⟨14, ⟨(some 35), (some (23, true)), (.pure (.bin .eql .bool)), [(.tmp 29), (.tmp 34)]⟩, []⟩, ⟨15, ⟨(some 36), none, (.pure .pick), [(.tmp 23), (.tmp 35), (.const (.bool false))]⟩, []⟩]) (.cond (.tmp 36) (.region [⟨0, ⟨(some 37), none, (.pure .id), [(.tmp 3)]⟩, []⟩, ⟨1, ⟨(some 38), none, (.pure .id), [(.tmp 5)]⟩, []⟩, ⟨2, ⟨(some 39), none, (.pure (.bin .sub .none)), [(.tmp 38), (.const (.int .i64 1))]⟩, []⟩, ⟨3, ⟨(some 40), none, (.new (.bslice 1 [(.int .i64 0)] 0 [])), []⟩, []⟩, ⟨4, ⟨(some 41), none, (.pure .id), [(.tmp 3)]⟩, []⟩, ⟨5, ⟨(some 42), none, (.pure .id), [(.tmp 5)]⟩, []⟩, ⟨6, ⟨(some 43), none, (.pure (.bin .sub .none)), [(.tmp 42), (.const (.int .i64 1))]⟩, []⟩, ⟨7, ⟨(some 44), none, (.pure (.iaddr 2)), [(.tmp 41), (.tmp 43)]⟩, []⟩, ⟨8, ⟨(some 45), none, (.pure (.faddr 1)), [(.tmp 44)]⟩, []⟩, ⟨9, ⟨(some 46), none, (.load (.load 1 false)), [(.tmp 45)]⟩, []⟩, ⟨11, ⟨(some 48), none, (.pure .id), [(.tmp 0)]⟩, []⟩, ⟨12, ⟨(some 49), none, (.pure .id), [(.tmp 4)]⟩, []⟩, ⟨13, ⟨(some 50), none, (.pure (.iaddr 2)), [(.tmp 48), (.tmp 49)]⟩, []⟩, ⟨14, ⟨(some 51), none, (.pure (.faddr 1)), [(.tmp 50)]⟩, []⟩, ⟨15, ⟨(some 52), none, (.load (.load 1 false)), [(.tmp 51)]⟩, []⟩, ⟨10, ⟨(some 47), none, (.imp (.append 1 8)), [(.tmp 40), (.tmp 46)]⟩, [⟨(some 52), none, (.load (.load 1 false)), [(.tmp 51)]⟩]⟩, ⟨16, ⟨(some 53), none, (.imp (.append 1 8)), [(.tmp 47), (.tmp 52)]⟩, []⟩, ⟨17, ⟨(some 54), none, (.pure (.iaddr 2)), [(.tmp 37), (.tmp 39)]⟩, []⟩, ⟨18, ⟨(some 55), none, (.pure (.faddr 1)), [(.tmp 54)]⟩, []⟩, ⟨19, ⟨none, none, (.imp (.store 1)), [(.tmp 55), (.tmp 53)]⟩, []⟩]) (.region [⟨0, ⟨(some 56), none, (.pure .id), [(.tmp 3)]⟩, []⟩, ⟨1, ⟨(some 57), none, (.pure .id), [(.tmp 0)]⟩, []⟩, ⟨2, ⟨(some 58), none, (.pure .id), [(.tmp 4)]⟩, []⟩, ⟨3, ⟨(some 59), none, (.pure (.iaddr 2)), [(.tmp 57), (.tmp 58)]⟩, []⟩, ⟨4, ⟨(some 60), none, (.pure (.faddr 0)), [(.tmp 59)]⟩, []⟩, ⟨5, ⟨(some 61), none, (.load (.load 1 false)), [(.tmp 60)]⟩, []⟩, ⟨6, ⟨(some 62), none, (.new (.bslice 1 [(.int .i64 0)] 0 [])), []⟩, []⟩, ⟨7, ⟨(some 63), none, (.pure .id), [(.tmp 0)]⟩, []⟩, ⟨8, ⟨(some 64), none, (.pure .id), [(.tmp 4)]⟩, []⟩, ⟨9, ⟨(some 65), none, (.pure (.iaddr 2)), [(.tmp 63), (.tmp 64)]⟩, []⟩, ⟨10, ⟨(some 66), none, (.pure (.faddr 1)), [(.tmp 65)]⟩, []⟩, ⟨11, ⟨(some 67), none, (.load (.load 1 false)), [(.tmp 66)]⟩, []⟩, ⟨12, ⟨(some 68), none, (.imp (.append 1 8)), [(.tmp 62), (.tmp 67)]⟩, [⟨(some 61), none, (.load (.load 1 false)), [(.tmp 60)]⟩]⟩, ⟨13, ⟨(some 69), none, (.pure (.build [(.bool false), .nils] [(0, 1), (1, 1)])), [(.tmp 61), (.tmp 68)]⟩, []⟩, ⟨14, ⟨(some 70), none, (.new (.bslice 2 [(.bool false), .nils] 1 [(0, 2)])), [(.tmp 69)]⟩, []⟩, ⟨15, ⟨(some 71), none, (.imp (.append 2 32)), [(.tmp 56), (.tmp 70)]⟩, []⟩, ⟨16, ⟨(some 3), none, (.pure .id), [(.tmp 71)]⟩, []⟩])))))) (.region [⟨0, ⟨(some 10), none, (.pure .id), [(.tmp 4)]⟩, []⟩, ⟨0, ⟨(some 11), none, (.pure (.bin .add .none)), [(.tmp 10), (.const (.int .i64 1))]⟩, []⟩, ⟨0, ⟨(some 4), none, (.pure .id), [(.tmp 11)]⟩, []⟩])))))) (.seq (.region [⟨0, ⟨(some 72), none, (.pure .id), [(.tmp 3)]⟩, []⟩, ⟨0, ⟨(some 2), none, (.pure .id), [(.tmp 72)]⟩, []⟩]) .ret))))⟩
theorem c_skolemref03_Joined : compF Tryz.prog Tryz.f76 = some G_skolemref03_Joined := by kernel_rfl
theorem gc_skolemref03_Joined {args : List DV} {σ : GS} {Post : DV → GS → Prop} (h : @exB Tryz.prog ⟨G_skolemref03_Joined.body⟩ (genv0 args G_skolemref03_Joined.ntmps) σ ⟨@gretB G_skolemref03_Joined.results ⟨Post⟩⟩) : GCall Tryz.prog F_skolemref03_Joined args σ Post := gcall_ofB seatfollows Tryz.func76 (by kernel_rfl) c_skolemref03_Joined h
noncomputable abbrev G_skolemlaw03_PrefixTurns : GFun := ⟨92, [(.tmp 6)], (.seq (.region [⟨0, ⟨(some 3), none, (.new .box), [(.tmp 0)]⟩, []⟩, ⟨0, ⟨(some 4), none, (.new .box), [(.tmp 1)]⟩, []⟩, ⟨0, ⟨(some 6), none, (.pure .id), [(.const (.bool false))]⟩, []⟩]) (.seq (.seq (.region [⟨0, ⟨(some 19), none, (.pure (.faddr 0)), [(.tmp 3)]⟩, []⟩, ⟨0, ⟨(some 20), none, (.load (.load 1 false)), [(.tmp 19)]⟩, []⟩, ⟨0, ⟨(some 21), none, (.pure (.faddr 1)), [(.tmp 3)]⟩, []⟩, ⟨0, ⟨(some 22), none, (.load (.load 1 false)), [(.tmp 21)]⟩, []⟩, ⟨0, ⟨(some 23), none, (.call F_skolemlaw03_wide), [(.tmp 20), (.tmp 22), (.const (.int .i64 200))]⟩, []⟩, ⟨0, ⟨(some 24), none, (.pure .id), [(.tmp 23)]⟩, []⟩, ⟨0, ⟨(some 25), (some (24, false)), (.load (.load 3 true)), [(.tmp 4)]⟩, []⟩, ⟨0, ⟨(some 26), (some (24, false)), (.call F_skolemlaw03_broad), [(.tmp 25), (.const (.int .i64 200))]⟩, []⟩, ⟨0, ⟨(some 27), none, (.pure .pick), [(.tmp 24), (.const (.bool true)), (.tmp 26)]⟩, []⟩]) (.cond (.tmp 27) (.seq (.region [⟨0, ⟨(some 28), none, (.call F_skolemlaw03_head), []⟩, []⟩, ⟨0, ⟨(some 6), none, (.pure .id), [(.tmp 28)]⟩, []⟩]) .ret) .skip)) (.seq (.region [⟨0, ⟨(some 30), none, (.load (.load 2 true)), [(.tmp 3)]⟩, []⟩, ⟨0, ⟨(some 31), none, (.call F_prefix_Dqbf), [(.tmp 30)]⟩, []⟩, ⟨0, ⟨(some 29), none, (.pure .id), [(.tmp 31)]⟩, []⟩, ⟨0, ⟨(some 32), none, (.pure (.extract 0)), [(.tmp 29)]⟩, []⟩, ⟨0, ⟨(some 33), none, (.pure (.extract 1)), [(.tmp 29)]⟩, []⟩, ⟨0, ⟨(some 7), none, (.new (.alloc [.nils, .nils, .nils])), []⟩, []⟩, ⟨0, ⟨none, none, (.imp (.store 3)), [(.tmp 7), (.tmp 32)]⟩, []⟩, ⟨0, ⟨(some 8), none, (.pure .id), [(.tmp 33)]⟩, []⟩]) (.seq (.region [⟨0, ⟨(some 35), none, (.load (.load 2 true)), [(.tmp 3)]⟩, []⟩, ⟨0, ⟨(some 36), none, (.call F_skolemref03_Dqbf), [(.tmp 35)]⟩, []⟩, ⟨0, ⟨(some 34), none, (.pure .id), [(.tmp 36)]⟩, []⟩, ⟨0, ⟨(some 37), none, (.pure (.extract 0)), [(.tmp 34)]⟩, []⟩, ⟨0, ⟨(some 38), none, (.pure (.extract 1)), [(.tmp 34)]⟩, []⟩, ⟨0, ⟨(some 9), none, (.new (.alloc [.nils, .nils, .nils])), []⟩, []⟩, ⟨0, ⟨none, none, (.imp (.store 3)), [(.tmp 9), (.tmp 37)]⟩, []⟩, ⟨0, ⟨(some 10), none, (.pure .id), [(.tmp 38)]⟩, []⟩]) (.seq (.region [⟨0, ⟨(some 40), none, (.load (.load 3 true)), [(.tmp 4)]⟩, []⟩, ⟨0, ⟨(some 41), none, (.call F_prefix_Linear), [(.tmp 40)]⟩, []⟩, ⟨0, ⟨(some 39), none, (.pure .id), [(.tmp 41)]⟩, []⟩, ⟨0, ⟨(some 42), none, (.pure (.extract 0)), [(.tmp 39)]⟩, []⟩, ⟨0, ⟨(some 43), none, (.pure (.extract 1)), [(.tmp 39)]⟩, []⟩, ⟨0, ⟨(some 11), none, (.pure .id), [(.tmp 42)]⟩, []⟩, ⟨0, ⟨(some 12), none, (.pure .id), [(.tmp 43)]⟩, []⟩]) (.seq (.region [⟨0, ⟨(some 45), none, (.load (.load 3 true)), [(.tmp 4)]⟩, []⟩, ⟨0, ⟨(some 46), none, (.call F_skolemref03_Linear), [(.tmp 45)]⟩, []⟩, ⟨0, ⟨(some 44), none, (.pure .id), [(.tmp 46)]⟩, []⟩, ⟨0, ⟨(some 47), none, (.pure (.extract 0)), [(.tmp 44)]⟩, []⟩, ⟨0, ⟨(some 48), none, (.pure (.extract 1)), [(.tmp 44)]⟩, []⟩, ⟨0, ⟨(some 13), none, (.pure .id), [(.tmp 47)]⟩, []⟩, ⟨0, ⟨(some 14), none, (.pure .id), [(.tmp 48)]⟩, []⟩]) (.seq (.region [⟨0, ⟨(some 50), none, (.load (.load 3 true)), [(.tmp 4)]⟩, []⟩, ⟨0, ⟨(some 51), none, (.pure .id), [(.tmp 2)]⟩, []⟩, ⟨0, ⟨(some 52), none, (.call F_prefix_Deps), [(.tmp 50), (.tmp 51)]⟩, []⟩, ⟨0, ⟨(some 49), none, (.pure .id), [(.tmp 52)]⟩, []⟩, ⟨0, ⟨(some 53), none, (.pure (.extract 0)), [(.tmp 49)]⟩, []⟩, ⟨0, ⟨(some 54), none, (.pure (.extract 1)), [(.tmp 49)]⟩, []⟩, ⟨0, ⟨(some 15), none, (.pure .id), [(.tmp 53)]⟩, []⟩, ⟨0, ⟨(some 16), none, (.pure .id), [(.tmp 54)]⟩, []⟩]) (.seq (.region [⟨0, ⟨(some 56), none, (.load (.load 3 true)), [(.tmp 4)]⟩, []⟩, ⟨0, ⟨(some 57), none, (.pure .id), [(.tmp 2)]⟩, []⟩, ⟨0, ⟨(some 58), none, (.call F_skolemref03_Deps), [(.tmp 56), (.tmp 57)]⟩, []⟩, ⟨0, ⟨(some 55), none, (.pure .id), [(.tmp 58)]⟩, []⟩, ⟨0, ⟨(some 59), none, (.pure (.extract 0)), [(.tmp 55)]⟩, []⟩, ⟨0, ⟨(some 60), none, (.pure (.extract 1)), [(.tmp 55)]⟩, []⟩, ⟨0, ⟨(some 17), none, (.pure .id), [(.tmp 59)]⟩, []⟩, ⟨0, ⟨(some 18), none, (.pure .id), [(.tmp 60)]⟩, []⟩]) (.seq (.region [⟨0, ⟨(some 61), none, (.load (.load 3 true)), [(.tmp 7)]⟩, []⟩, ⟨0, ⟨(some 62), none, (.load (.load 3 true)), [(.tmp 9)]⟩, []⟩, ⟨0, ⟨(some 63), none, (.call F_skolemref03_SameDqbf), [(.tmp 61), (.tmp 62)]⟩, []⟩, ⟨0, ⟨(some 64), none, (.pure .id), [(.tmp 63)]⟩, []⟩, ⟨0, ⟨(some 65), (some (64, true)), (.pure .id), [(.tmp 8)]⟩, []⟩, ⟨0, ⟨(some 66), (some (64, true)), (.pure .id), [(.tmp 10)]⟩, []⟩, ⟨0, ⟨(some 67), (some (64, true)), (.pure (.bin .eql .none)), [(.tmp 65), (.tmp 66)]⟩, []⟩, ⟨0, ⟨(some 68), none, (.pure .pick), [(.tmp 64), (.tmp 67), (.const (.bool false))]⟩, []⟩, ⟨0, ⟨(some 69), none, (.pure .id), [(.tmp 68)]⟩, []⟩, ⟨0, ⟨(some 70), (some (69, true)), (.pure .id), [(.tmp 11)]⟩, []⟩, ⟨0, ⟨(some 71), (some (69, true)), (.pure .id), [(.tmp 13)]⟩, []⟩, ⟨0, ⟨(some 72), (some (69, true)), (.call F_skolemref03_Same), [(.tmp 70), (.tmp 71)]⟩, []⟩, ⟨0, ⟨(some 73), none, (.pure .pick), [(.tmp 69), (.tmp 72), (.const (.bool false))]⟩, []⟩, ⟨0, ⟨(some 74), none, (.pure .id), [(.tmp 73)]⟩, []⟩, ⟨0, ⟨(some 75), (some (74, true)), (.pure .id), [(.tmp 12)]⟩, []⟩, ⟨0, ⟨(some 76), (some (74, true)), (.pure .id), [(.tmp 14)]⟩, []⟩, ⟨0, ⟨(some 77), (some (74, true)), (.pure (.bin .eql .none)), [(.tmp 75), (.tmp 76)]⟩, []⟩, ⟨0, ⟨(some 78), none, (.pure .pick), [(.tmp 74), (.tmp 77), (.const (.bool false))]⟩, []⟩, ⟨0, ⟨(some 79), none, (.pure .id), [(.tmp 78)]⟩, []⟩, ⟨0, ⟨(some 80), (some (79, true)), (.pure .id), [(.tmp 15)]⟩, []⟩, ⟨0, ⟨(some 81), (some (79, true)), (.pure .id), [(.tmp 17)]⟩, []⟩, ⟨0, ⟨(some 82), (some (79, true)), (.call F_skolemref03_Ints), [(.tmp 80), (.tmp 81)]⟩, []⟩, ⟨0, ⟨(some 83), none, (.pure .pick), [(.tmp 79), (.tmp 82), (.const (.bool false))]⟩, []⟩, ⟨0, ⟨(some 84), none, (.pure .id), [(.tmp 83)]⟩, []⟩, ⟨0, ⟨(some 85), (some (84, true)), (.pure .id), [(.tmp 16)]⟩, []⟩, ⟨0, ⟨(some 86), (some (84, true)), (.pure .id), [(.tmp 18)]⟩, []⟩, ⟨0, ⟨(some 87), (some (84, true)), (.pure (.bin .eql .bool)), [(.tmp 85), (.tmp 86)]⟩, []⟩, ⟨0, ⟨(some 88), none, (.pure .pick), [(.tmp 84), (.tmp 87), (.const (.bool false))]⟩, []⟩, ⟨0, ⟨(some 89), none, (.pure .id), [(.tmp 88)]⟩, []⟩, ⟨0, ⟨(some 90), (some (89, true)), (.call F_skolemlaw03_head), []⟩, []⟩, ⟨0, ⟨(some 91), none, (.pure .pick), [(.tmp 89), (.tmp 90), (.const (.bool false))]⟩, []⟩, ⟨0, ⟨(some 6), none, (.pure .id), [(.tmp 91)]⟩, []⟩]) .ret)))))))))⟩
theorem c_skolemlaw03_PrefixTurns : compF Tryz.prog Tryz.f6 = some G_skolemlaw03_PrefixTurns := by kernel_rfl
theorem gc_skolemlaw03_PrefixTurns {args : List DV} {σ : GS} {Post : DV → GS → Prop} (h : @exB Tryz.prog ⟨G_skolemlaw03_PrefixTurns.body⟩ (genv0 args G_skolemlaw03_PrefixTurns.ntmps) σ ⟨@gretB G_skolemlaw03_PrefixTurns.results ⟨Post⟩⟩) : GCall Tryz.prog F_skolemlaw03_PrefixTurns args σ Post := gcall_ofB seatfollows Tryz.func6 (by kernel_rfl) c_skolemlaw03_PrefixTurns h
end Go.Gh
namespace Go.Gh
open Go.RowKit Go.Proofs
set_option linter.unusedVariables false
set_option linter.unusedSimpArgs false
set_option maxRecDepth 100000
theorem r_Ints_ok {xs ys : List Int} {σ : GS} {Post : DV → GS → Prop} (hl : xs.length < 2 ^ 60) (h : Post (.bool (decide (xs = ys))) σ) : GCall Tryz.prog F_skolemref03_Ints [fints xs, fints ys] σ Post := by
  refine gc_skolemref03_Ints ?_
  by_cases hlen : xs.length = ys.length
  rotate_left
  · have hne : xs ≠ ys := fun e => hlen (by rw [e])
    have hlen' : ¬ ((xs.length : Int) = ys.length) := by omega
    simp [G_skolemref03_Ints, genv0, List.replicate, hlen']
    simpa [hne] using h
  simp [G_skolemref03_Ints, genv0, List.replicate, hlen]
  refine gfor xs.length (fun i e σ' => σ' = σ ∧ (xs = ys ↔ xs.drop i = ys.drop i) ∧ e = mkEnv 26 [(0, fints xs), (1, fints ys), (5, .int .i64 i)]) _ ?_ ⟨rfl, by simp, rfl⟩ ?_
  · simp [mkEnv, List.replicate]
  rintro i _ _ hi ⟨rfl, hI, rfl⟩
  simp [mkEnv, List.replicate]
  by_cases hlt : i < xs.length
  · obtain ⟨x, hx⟩ := nth_lt hlt
    obtain ⟨y, hy⟩ := nth_lt (l := ys) (i := i) (by omega)
    rw [drop_get hx, drop_get hy, List.cons.injEq] at hI
    have es : IntKind.i64.wrap ((i : Int) + 1) = (i : Int) + 1 := by rw [wrap_small] <;> omega
    by_cases c : x = y
    · simp [hlt, hx, hy, c, es]
      exact forK_go _ hlt (by simp [mkEnv, List.replicate]) ⟨rfl, by rw [hI]; simp [c], rfl⟩
    · have hne : xs ≠ ys := fun e => c (hI.1 e).1
      simp [hlt, hx, hy, c]
      simpa [hne] using h
  · have : i = xs.length := by omega
    subst this
    have he : xs = ys := hI.2 (by rw [List.drop_length, hlen, List.drop_length])
    simp
    simpa [he] using h
theorem r_Lists_ok {xs ys : List (List Int)} {σ : GS} {Post : DV → GS → Prop} (hl : ClsSm xs) (h : Post (.bool (decide (xs = ys))) σ) : GCall Tryz.prog F_skolemref03_Lists [fcls xs, fcls ys] σ Post := by
  obtain ⟨hl1, hl2⟩ := hl
  refine gc_skolemref03_Lists ?_
  by_cases hlen : xs.length = ys.length
  rotate_left
  · have hne : xs ≠ ys := fun e => hlen (by rw [e])
    have hlen' : ¬ ((xs.length : Int) = ys.length) := by omega
    simp [G_skolemref03_Lists, genv0, List.replicate, hlen']
    simpa [hne] using h
  simp [G_skolemref03_Lists, genv0, List.replicate, hlen]
  refine gfor xs.length (fun i e σ' => σ' = σ ∧ (xs = ys ↔ xs.drop i = ys.drop i) ∧ e = mkEnv 27 [(0, fcls xs), (1, fcls ys), (5, .int .i64 i)]) _ ?_ ⟨rfl, by simp, rfl⟩ ?_
  · simp [mkEnv, List.replicate]
  rintro i _ _ hi ⟨rfl, hI, rfl⟩
  simp [mkEnv, List.replicate]
  by_cases hlt : i < xs.length
  · obtain ⟨x, hx⟩ := nth_lt hlt
    obtain ⟨y, hy⟩ := nth_lt (l := ys) (i := i) (by omega)
    have hx' := nth_get hx
    have hxl := hl2 x (List.mem_of_getElem? hx')
    rw [drop_get hx, drop_get hy, List.cons.injEq] at hI
    have es : IntKind.i64.wrap ((i : Int) + 1) = (i : Int) + 1 := by rw [wrap_small] <;> omega
    simp [hlt, hx, hy]
    refine r_Ints_ok (by omega) ?_
    by_cases c : x = y
    · simp [c, es]
      exact forK_go _ hlt (by simp [mkEnv, List.replicate]) ⟨rfl, by rw [hI]; simp [c], rfl⟩
    · have hne : xs ≠ ys := fun e => c (hI.1 e).1
      simp [c]
      simpa [hne] using h
  · have : i = xs.length := by omega
    subst this
    have he : xs = ys := hI.2 (by rw [List.drop_length, hlen, List.drop_length])
    simp
    simpa [he] using h
end Go.Gh
namespace Go.Gh
open Go.RowKit Go.Proofs
set_option linter.unusedVariables false
set_option linter.unusedSimpArgs false
set_option maxRecDepth 100000
/-- Two Dqbfs are equal by every field. -/
def sameD (a b : DqbfP) : Bool := decide (a.univ = b.univ ∧ a.exist = b.exist ∧ a.cls = b.cls)
theorem r_SameDqbf_ok {a b : DqbfP} {σ : GS} {Post : DV → GS → Prop} (ha : a.Sm) (h : Post (.bool (sameD a b)) σ) : GCall Tryz.prog F_skolemref03_SameDqbf [a.enc, b.enc] σ Post := by
  have h1 := ha.univ
  have h2 := ha.exist.1
  have h3 := ha.exist.2
  refine GCall.say (r := .bool (sameD a b)) ?_ rfl h
  refine gc_skolemref03_SameDqbf ?_
  simp [G_skolemref03_SameDqbf, genv0, List.replicate]
  refine r_Ints_ok (by omega) ?_
  by_cases c2 : a.univ = b.univ
  rotate_left
  · simp [c2, sameD]
  by_cases hlen : a.exist.length = b.exist.length
  rotate_left
  · have hne : a.exist ≠ b.exist := fun e => hlen (by rw [e])
    have hlen' : ¬ ((a.exist.length : Int) = b.exist.length) := by omega
    simp [c2, hlen', hne, sameD]
  simp [c2, hlen]
  refine r_Lists_ok ha.cls ?_
  by_cases c3 : a.cls = b.cls
  rotate_left
  · simp [c3, sameD]
  simp [c3]
  obtain ⟨A, hA⟩ : ∃ A, GObj.row false (edqbf a) = A := ⟨_, rfl⟩
  obtain ⟨B, hB⟩ : ∃ B, GObj.row false (edqbf b) = B := ⟨_, rfl⟩
  rw [hA, hB]
  refine gfor a.exist.length (fun i e σ' => σ' = σ ++ [A, B] ∧ (a.exist = b.exist ↔ a.exist.drop i = b.exist.drop i) ∧ e = mkEnv 65 [(2, .ptr σ.length 0), (3, .ptr (σ.length + 1) 0), (5, .int .i64 i)]) _ ?_ ⟨rfl, by simp, rfl⟩ ?_
  · simp [mkEnv, List.replicate]
  rintro i _ _ hi ⟨rfl, hI, rfl⟩
  simp [mkEnv, List.replicate, ← hA, ← hB]
  by_cases hlt : i < a.exist.length
  · obtain ⟨x, hx⟩ := nth_lt hlt
    obtain ⟨y, hy⟩ := nth_lt (l := b.exist) (i := i) (by omega)
    have hx' := nth_get hx
    have hxl := h3 x (List.mem_of_getElem? hx')
    rw [drop_get hx, drop_get hy, List.cons.injEq] at hI
    have es : IntKind.i64.wrap ((i : Int) + 1) = (i : Int) + 1 := by rw [wrap_small] <;> omega
    obtain ⟨x1, x2⟩ := x
    obtain ⟨y1, y2⟩ := y
    by_cases e1 : x1 = y1
    · simp [hlt, hx, hy, e1]
      refine r_Ints_ok (by simp at hxl; omega) ?_
      by_cases c : x2 = y2
      · simp [c, es]
        exact forK_go _ hlt (by simp [mkEnv, List.replicate]) ⟨by rw [hA, hB], by rw [hI]; simp [c, e1], rfl⟩
      · have hne : a.exist ≠ b.exist := fun e => by have := (hI.1 e).1; simp [c] at this
        simp [c, hne, sameD]
    · have hne : a.exist ≠ b.exist := fun e => by have := (hI.1 e).1; simp [e1] at this
      simp [hlt, hx, hy, e1, hne, sameD]
  · have : i = a.exist.length := by omega
    subst this
    have he : a.exist = b.exist := hI.2 (by rw [List.drop_length, hlen, List.drop_length])
    simp [he, sameD, c2, c3]
/-- Whatever it says of the size. -/
theorem l_wide_any {p : List Blk} {c : List (List Int)} {most : Int} {σ : GS} {Post : DV → GS → Prop} (hp : p.length < 2 ^ 60) (hc : c.length < 2 ^ 60) (h : ∀ b, Post (.bool b) σ) : GCall Tryz.prog F_skolemlaw03_wide [fblks p, fcls c, .int .i64 most] σ Post := by
  refine gc_skolemlaw03_wide ?_
  simp [G_skolemlaw03_wide, genv0, List.replicate]
  refine gfor p.length (fun i e σ' => σ' = σ ∧ ∃ n, e = mkEnv 45 [(0, fblks p), (1, fcls c), (2, .int .i64 most), (7, .int .i64 n), (8, .int .i64 i)]) _ ?_ ⟨rfl, IntKind.i64.wrap ((p.length : Int) + c.length), rfl⟩ ?_
  · simp [mkEnv, List.replicate]
  rintro i _ σ hi ⟨rfl, n, rfl⟩
  simp [mkEnv, List.replicate]
  by_cases hlt : i < p.length
  · obtain ⟨x, hx⟩ := nth_lt hlt
    have es : IntKind.i64.wrap ((i : Int) + 1) = (i : Int) + 1 := by rw [wrap_small] <;> omega
    simp [hlt, hx, es]
    exact forK_go _ hlt (by simp [mkEnv, List.replicate]) ⟨rfl, IntKind.i64.wrap (n + x.2.length), rfl⟩
  have : i = p.length := by omega
  subst this
  simp
  refine gfor c.length (fun i e σ' => σ' = σ ∧ ∃ n, e = mkEnv 45 [(1, fcls c), (2, .int .i64 most), (7, .int .i64 n), (9, .int .i64 i)]) _ ?_ ⟨rfl, n, rfl⟩ ?_
  · simp [mkEnv, List.replicate]
  rintro i _ _ hi ⟨rfl, n, rfl⟩
  simp [mkEnv, List.replicate]
  by_cases hlt : i < c.length
  · obtain ⟨x, hx⟩ := nth_lt hlt
    have es : IntKind.i64.wrap ((i : Int) + 1) = (i : Int) + 1 := by rw [wrap_small] <;> omega
    simp [hlt, hx, es]
    exact forK_go _ hlt (by simp [mkEnv, List.replicate]) ⟨rfl, IntKind.i64.wrap (n + x.length), rfl⟩
  have : i = c.length := by omega
  subst this
  simp
  exact h _
theorem l_wide_nil {c : List (List Int)} {most : Int} {σ : GS} {Post : DV → GS → Prop} (hc : c.length < 2 ^ 60) (h : ∀ b, Post (.bool b) σ) : GCall Tryz.prog F_skolemlaw03_wide [.nils, fcls c, .int .i64 most] σ Post := by
  refine GCall.reads (args' := [fblks [], fcls c, .int .i64 most]) (.cons (.nils 2) (.cons (.same _) (.cons (.same _) .nil))) (l_wide_any (by simp) hc h)
theorem l_broad_any {d : DqbfP} {most : Int} {σ : GS} {Post : DV → GS → Prop} (hd : d.Sm) (h : ∀ b, Post (.bool b) σ) : GCall Tryz.prog F_skolemlaw03_broad [d.enc, .int .i64 most] σ Post := by
  have h1 := hd.exist.1
  have h2 := hd.cls.1
  refine gcall_sayB ?_ h
  refine gc_skolemlaw03_broad ?_
  simp [G_skolemlaw03_broad, genv0, List.replicate]
  obtain ⟨A, hA⟩ : ∃ A, GObj.row false [fints d.univ, fdeps d.exist, fcls d.cls] = A := ⟨_, rfl⟩
  rw [hA]
  refine gfor d.exist.length (fun i e σ' => σ' = σ ++ [A] ∧ ∃ n, e = mkEnv 39 [(1, .int .i64 most), (2, .ptr σ.length 0), (5, .int .i64 n), (6, .int .i64 i)]) _ ?_ ⟨rfl, IntKind.i64.wrap ((d.univ.length : Int) + d.exist.length), rfl⟩ ?_
  · simp [mkEnv, List.replicate]
  rintro i _ _ hi ⟨rfl, n, rfl⟩
  simp [mkEnv, List.replicate, ← hA]
  by_cases hlt : i < d.exist.length
  · obtain ⟨x, hx⟩ := nth_lt hlt
    have es : IntKind.i64.wrap ((i : Int) + 1) = (i : Int) + 1 := by rw [wrap_small] <;> omega
    simp [hlt, hx, es]
    exact forK_go _ hlt (by simp [mkEnv, List.replicate]) ⟨by rw [hA], IntKind.i64.wrap (n + x.2.length), rfl⟩
  have : i = d.exist.length := by omega
  subst this
  by_cases c : most < n
  · simp [c]
  · simp [c]
    refine l_wide_nil (by omega) fun b => ?_
    simp
end Go.Gh
namespace Go.Gh
open Go.RowKit Go.Proofs
set_option linter.unusedVariables false
set_option linter.unusedSimpArgs false
set_option maxRecDepth 100000
theorem r_Has_ok {a : List Int} {x : Int} {σ : GS} {Post : DV → GS → Prop} (hl : a.length < 2 ^ 60) (h : Post (.bool (a.contains x)) σ) : GCall Tryz.prog F_skolemref03_Has [fints a, .int .i64 x] σ Post := by
  refine gc_skolemref03_Has ?_
  simp [G_skolemref03_Has, genv0, List.replicate]
  refine gfor a.length (fun i e σ' => σ' = σ ∧ a.contains x = (a.drop i).contains x ∧ e = mkEnv 18 [(0, fints a), (1, .int .i64 x), (5, .int .i64 i)]) _ ?_ ⟨rfl, by simp, rfl⟩ ?_
  · simp [mkEnv, List.replicate]
  rintro i _ _ hi ⟨rfl, hI, rfl⟩
  simp [mkEnv, List.replicate]
  by_cases hlt : i < a.length
  · obtain ⟨y, hy⟩ := nth_lt hlt
    rw [drop_get hy, List.contains_cons] at hI
    have es : IntKind.i64.wrap ((i : Int) + 1) = (i : Int) + 1 := by rw [wrap_small] <;> omega
    by_cases c : y = x
    · have c' : (x == y) = true := by simp [c]
      simp [hlt, hy, c]
      rw [hI, c'] at h; simpa using h
    · have c' : (x == y) = false := by simpa using fun e => c e.symm
      simp [hlt, hy, c, es]
      exact forK_go _ hlt (by simp [mkEnv, List.replicate]) ⟨rfl, by rw [hI, c']; simp, rfl⟩
  · have : i = a.length := by omega
    subst this
    simp
    rw [hI] at h; simpa using h
theorem r_single_ok {l : List Int} {σ : GS} {Post : DV → GS → Prop} (hl : l.length < 2 ^ 60) (h : Post (.bool (singleS [] l)) σ) : GCall Tryz.prog F_skolemref03_single [fints l] σ Post := by
  refine gc_skolemref03_single ?_
  simp [G_skolemref03_single, genv0, List.replicate]
  refine gfor l.length (fun i e σ' => σ' = σ ∧ singleS [] l = singleS (l.take i) (l.drop i) ∧ e = mkEnv 32 [(0, fints l), (3, .int .i64 i)]) _ ?_ ⟨rfl, by simp, rfl⟩ ?_
  · simp [mkEnv, List.replicate]
  rintro i _ _ hi ⟨rfl, hI, rfl⟩
  simp [mkEnv, List.replicate]
  by_cases hlt : i < l.length
  · obtain ⟨y, hy⟩ := nth_lt hlt
    have hy' := nth_get hy
    rw [drop_get hy', singleS] at hI
    have es : IntKind.i64.wrap ((i : Int) + 1) = (i : Int) + 1 := by rw [wrap_small] <;> omega
    have hsl : gpure (.slice 1 false true false) [fints l, .int .i64 i] = some (fints (l.take i)) := by
      simp only [gpure, gslice, if_true, gbm, Option.bind_some, gbh, gbl, gbound, List.length_map]
      rw [if_pos (by omega)]
      simp [List.map_take]
    by_cases h1 : 1 ≤ y
    rotate_left
    · have h1' : y < 1 := by omega
      simp [hlt, hy, h1']
      rw [hI] at h; simpa [isVar, h1] using h
    have h1' : ¬ y < 1 := by omega
    by_cases h2 : y ≤ 65536
    rotate_left
    · have h2' : 65536 < y := by omega
      simp [hlt, hy, h1', h2']
      rw [hI] at h; simpa [isVar, h1, h2] using h
    have h2' : ¬ 65536 < y := by omega
    simp [hlt, hy, h1', h2', hsl]
    refine r_Has_ok (by simp; omega) ?_
    by_cases c : (l.take i).contains y = true
    · rw [c]
      simp
      rw [hI, c] at h; simpa using h
    · have c' : (l.take i).contains y = false := by simpa using c
      rw [c']
      simp [es]
      exact forK_go _ hlt (by simp [mkEnv, List.replicate]) ⟨rfl, by rw [hI, c', take_get hy']; simp [isVar, h1, h2], rfl⟩
  · have : i = l.length := by omega
    subst this
    simp
    rw [hI] at h; simpa [singleS] using h
theorem r_Flat_ok {p : List Blk} {σ : GS} {Post : DV → GS → Prop} (hp : lensB p < 2 ^ 40) (h : Post (fints (flatB p)) σ) : GCall Tryz.prog F_skolemref03_Flat [fblks p] σ Post := by
  have hlb := lensB_flat p
  refine GCall.pure (r := fints (flatB p)) ?_ (by simp) h
  refine gc_skolemref03_Flat ?_
  simp [G_skolemref03_Flat, genv0, List.replicate]
  refine gfor p.length (fun i e σ' => Fr σ.length σ σ' ∧ ∃ s, Own σ.length 1 eint σ' s (flatB (p.take i)) ∧ e = mkEnv 19 [(0, fblks p), (3, s), (4, .int .i64 i)]) _ ?_ ⟨.rfl', .nils, by simpa using Own.nil, rfl⟩ ?_
  · simp [mkEnv, List.replicate]
  rintro i _ σ' hi ⟨hF, s, hO, rfl⟩
  simp [mkEnv, List.replicate]
  by_cases hlt : i < p.length
  · obtain ⟨b, hb⟩ := nth_lt hlt
    have hb' := nth_get hb
    have es : IntKind.i64.wrap ((i : Int) + 1) = (i : Int) + 1 := by rw [wrap_small] <;> omega
    have htk : flatB (p.take (i + 1)) = flatB (p.take i) ++ b.2 := by rw [take_get hb', flatB_append]; simp
    have hle : (flatB (p.take i)).length + b.2.length ≤ (flatB p).length := by
      have : flatB p = flatB (p.take (i + 1)) ++ flatB (p.drop (i + 1)) := by rw [← flatB_append, List.take_append_drop]
      rw [this, htk]; simp
    have hge := hF.len
    obtain ⟨s', σ2, q1, q2, q3, q4, q5, q6, q7⟩ := hO.append (by_ := 8) (x := fints b.2) (ys := b.2) (fun _ => rfl) (by simpa [flatMap_flatten] using gread_fsl (σ := σ') (sz := 1) (es := b.2.map eint)) (by simp [glen]) (by simp) hge (by omega) (by decide)
    simp [hlt, hb, q1, es]
    exact forK_go _ hlt (by simp [mkEnv, List.replicate]) ⟨hF.trans q3, s', by rw [htk]; exact q2, rfl⟩
  · have : i = p.length := by omega
    subst this
    rw [List.take_length] at hO
    simp
    exact ⟨hF, hO.rd (fun _ => rfl) fun i hi => .inl hi⟩
theorem altB_step {prev : Option Bool} {b : Blk} {p : List Blk} : altB prev (b :: p) = (!b.2.isEmpty && decide (prev ≠ some b.1) && altB (some b.1) p) := rfl
/-- The quantifier of the block before. -/
def prevB (p : List Blk) : Nat → Option Bool
  | 0 => none
  | i + 1 => (p[i]?).map (·.1)
theorem r_May_ok {p : List Blk} {σ : GS} {Post : DV → GS → Prop} (hp : lensB p < 2 ^ 40) (h : Post (.bool (mayB p)) σ) : GCall Tryz.prog F_skolemref03_May [fblks p] σ Post := by
  have hlb := lensB_flat p
  refine GCall.say (r := .bool (mayB p)) ?_ rfl h
  refine gc_skolemref03_May ?_
  simp [G_skolemref03_May, genv0, List.replicate]
  refine gfor p.length (fun i e σ' => σ' = σ ∧ altB none p = altB (prevB p i) (p.drop i) ∧ e = mkEnv 45 [(0, fblks p), (3, .int .i64 i)]) _ ?_ ⟨rfl, by simp [prevB], rfl⟩ ?_
  · simp [mkEnv, List.replicate]
  rintro i _ _ hi ⟨rfl, hI, rfl⟩
  simp [mkEnv, List.replicate]
  by_cases hlt : i < p.length
  · obtain ⟨b, hb⟩ := nth_lt hlt
    have hb' := nth_get hb
    rw [drop_get hb', altB_step] at hI
    have es : IntKind.i64.wrap ((i : Int) + 1) = (i : Int) + 1 := by rw [wrap_small] <;> omega
    by_cases h0 : b.2.length = 0
    · have h0' : b.2 = [] := List.length_eq_zero_iff.1 h0
      simp [hlt, hb, h0']
      simp [mayB, hI, h0']
      exact .rfl'
    have h0' : ¬ (b.2 = []) := fun e => h0 (by rw [e]; rfl)
    have h0'' : ¬ ((b.2.length : Int) = 0) := by omega
    cases i with
    | zero =>
      simp [hlt, hb, h0', h0'']
      exact forK_go _ hlt (by simp [mkEnv, List.replicate]) ⟨rfl, by simp [hI, prevB, hb', h0'], rfl⟩
    | succ i =>
      obtain ⟨c, hc⟩ := nth_lt (l := p) (i := i) (by omega)
      have hc' := nth_get hc
      have ew' : IntKind.i64.wrap (i : Int) = i := by rw [wrap_small] <;> omega
      have hge : (0 : Int) ≤ (i : Int) + 1 := by omega
      have hgt : (0 : Int) < (i : Int) + 1 := by omega
      have htn : ((i : Int) + 1).toNat = i + 1 := by omega
      have es2 : IntKind.i64.wrap ((i : Int) + 1 + 1) = (i : Int) + 1 + 1 := by rw [wrap_small] <;> omega
      by_cases he : c.1 = b.1
      · simp [hlt, hb, h0', h0'', hge, hgt, htn, ew', hc, he]
        simp [mayB, hI, prevB, hc', he]
        exact .rfl'
      · have he2 : (c.1 == b.1) = false := by simpa using he
        simp [hlt, hb, h0', h0'', hge, hgt, htn, ew', hc, he2, es2]
        exact forK_go _ hlt (by simp [mkEnv, List.replicate]) ⟨rfl, by simp [hI, prevB, hc', he, h0', hb'], rfl⟩
  · have : i = p.length := by omega
    subst this
    rw [List.drop_length] at hI
    have hI' : altB none p = true := hI
    simp
    refine r_Flat_ok hp ?_
    by_cases c : (flatB p).length ≤ 1024
    · have c' : ((flatB p).length : Int) ≤ 1024 := by omega
      simp [c']
      refine r_single_ok (by omega) ?_
      simp [mayB, hI', c]
      exact .rfl'
    · have c' : ¬ ((flatB p).length : Int) ≤ 1024 := by omega
      simp [c']
      simp [mayB, c]
      exact .rfl'
end Go.Gh
namespace Go.Gh
open Go.RowKit Go.Proofs
set_option linter.unusedVariables false
set_option linter.unusedSimpArgs false
set_option maxRecDepth 100000
theorem p_each_ok {p : List Blk} {σ : GS} {Post : DV → GS → Prop} (k : Post (.func F_prefix_each_1 [] [.fptr [fblks p]]) σ) : GCall Tryz.prog F_prefix_each [fblks p] σ Post := by
  refine GCall.pure (r := .func F_prefix_each_1 [] [.fptr [fblks p]]) ?_ (by have := closed_fblks p; simp [DV.closed, closeds] at this ⊢; exact this) k
  refine gc_prefix_each ?_
  simp [G_prefix_each, genv0, List.replicate]
  exact .func .nil (.cons (.ptr (id := σ.length) (off := 0) (ro := false) (cs := [fblks p]) (.inl (Nat.le_refl _)) (by simp) (.cons (.same _) .nil)) .nil)
theorem p_each1_ok {p : List Blk} {L : Nat} {σ : GS} {Post : DV → GS → Prop} (hp : lensB p < 2 ^ 40) (I : Nat → GS → Prop) (J : GS → Prop) (hI : ∀ n σ' o, I n σ' → I n (σ' ++ [o])) (h0 : I 0 σ)
    (hr : ∀ n i v σ', (prs 0 p)[n]? = some (i, v) → I n σ' → GRound Tryz.prog L [.int .i64 (i : Nat), .int .i64 v] σ' fun r σ'' => (r = .bool true ∧ I (n + 1) σ'') ∨ (r = .bool false ∧ J σ''))
    (k : ∀ σ', I (flatB p).length σ' → Post (.tuple []) σ') (kj : ∀ σ', J σ' → Post (.tuple []) σ') : GCall Tryz.prog F_prefix_each_1 [.yield L, .fptr [fblks p]] σ Post := by
  have hlb := lensB_flat p
  refine gc_prefix_each_1 ?_
  simp [G_prefix_each_1, genv0, List.replicate]
  refine gfor p.length (fun i e σ' => I (flatB (p.take i)).length σ' ∧ e = mkEnv 28 [(0, .yield L), (7, fblks p), (8, .int .i64 p.length), (9, .int .i64 i)]) _ ?_ ⟨by simpa using h0, rfl⟩ ?_
  · simp [mkEnv, List.replicate]
  rintro i _ σ1 hi ⟨hI1, rfl⟩
  simp [mkEnv, List.replicate]
  by_cases hlt : i < p.length
  rotate_left
  · have : i = p.length := by omega
    subst this
    rw [List.take_length] at hI1
    simp
    exact k _ hI1
  obtain ⟨b, hb⟩ := nth_lt hlt
  have hb' := nth_get hb
  have hbm := lensB_mem (List.mem_of_getElem? hb')
  have es : IntKind.i64.wrap ((i : Int) + 1) = (i : Int) + 1 := by rw [wrap_small] <;> omega
  simp [hlt, hb]
  refine gfor b.2.length (fun j e σ' => I ((flatB (p.take i)).length + j) σ' ∧ e = mkEnv 28 [(0, .yield L), (3, .int .i64 i), (7, fblks p), (8, .int .i64 p.length), (9, .int .i64 i), (15, fints b.2), (16, .int .i64 b.2.length), (17, .int .i64 j)]) _ ?_ ⟨hI _ _ _ hI1, rfl⟩ ?_
  · simp [mkEnv, List.replicate]
  rintro j _ σ2 hj ⟨hI2, rfl⟩
  simp [mkEnv, List.replicate]
  by_cases hjl : j < b.2.length
  · obtain ⟨v, hv⟩ := nth_lt hjl
    have hv' := nth_get hv
    have es2 : IntKind.i64.wrap ((j : Int) + 1) = (j : Int) + 1 := by rw [wrap_small] <;> omega
    simp [hjl, hv]
    refine (hr _ i v σ2 (prs_at hb' hv') hI2).mono ?_
    rintro r σ3 (⟨rfl, h3⟩ | ⟨rfl, h3⟩)
    · simp [es2]
      exact forK_go _ hjl (by simp [mkEnv, List.replicate]) ⟨by rw [← Nat.add_assoc]; exact h3, rfl⟩
    · simp
      exact kj _ h3
  · have : j = b.2.length := by omega
    subst this
    simp [es]
    refine forK_go _ hlt (by simp [mkEnv, List.replicate]) ⟨?_, rfl⟩
    rw [flatB_take hb', List.length_append]; exact hI2
theorem grange_ret {id : Nat} {env e0 : Env} {ps : List Tmp} {a b : Code} {Q : Exit → Env → GS → Prop} {σ : GS} (h : σ[id]? = some (.loop ⟨e0, ps, a, b, .done, some .ret⟩)) (k : Q .ret env (σ.set id (.loop ⟨e0, ps, a, b, .exhausted, some .ret⟩))) : grange id env Q σ := ⟨_, h, by simp, k⟩
theorem roundK_ret {id : Nat} {Post : Bx (DV → GS → Prop)} {env e0 : Env} {ps : List Tmp} {a b : Code} {σ : GS} (h : σ[id]? = some (.loop ⟨e0, ps, a, b, .busy, none⟩)) (k : Post.val (.bool false) (σ.set id (.loop ⟨e0, ps, a, b, .done, some .ret⟩))) : @roundK id Post .ret env σ := ⟨_, h, k⟩
end Go.Gh
namespace Go.Gh
open Go.RowKit Go.Proofs
set_option linter.unusedVariables false
set_option linter.unusedSimpArgs false
set_option maxRecDepth 100000
theorem count_round {σ : GS} {env : Env} {M : GObj} {τ : GS} {i : Nat} {v : Int} {E : List (Int × DV)} {Post : DV → GS → Prop}
    (hlen : env.length = 27) (h2 : env[2]? = some (.ptr σ.length 0)) (h3 : env[3]? = some (.ptr (σ.length + 1) 0)) (h4 : env[4]? = some (.ptr (σ.length + 3) 0))
    (hM : ∀ τ, MpO kint (σ ++ (.row false [.int .i64 0] :: .row false [.bool false] :: M :: τ)) (σ.length + 2) E) (hE : ∀ k u, kget k E = some u → u = .bool true)
    (k1 : isVar v = true → kget v E = none → ∀ M' τ', (∀ τ, MpO kint (σ ++ (.row false [.int .i64 0] :: .row false [.bool false] :: M' :: τ)) (σ.length + 2) (kset v (.bool true) E)) → Post (.bool true) (σ ++ (.row false [.int .i64 0] :: .row false [.bool false] :: M' :: .row false [.map (σ.length + 2)] :: .loop (lgR env [10, 11] (rngA Tryz.f38 0) (rngB Tryz.f38 0)) :: τ')))
    (k0 : (isVar v = true → (kget v E).isSome = true) → ∀ τ', Post (.bool false) (σ ++ (.row false [.int .i64 0] :: .row false [.bool false] :: M :: .row false [.map (σ.length + 2)] :: .loop ⟨env, [10, 11], rngA Tryz.f38 0, rngB Tryz.f38 0, .done, some .ret⟩ :: τ'))) :
    GRound Tryz.prog (σ.length + 4) [.int .i64 i, .int .i64 v] (σ ++ (.row false [.int .i64 0] :: .row false [.bool false] :: M :: .row false [.map (σ.length + 2)] :: .loop (lgR env [10, 11] (rngA Tryz.f38 0) (rngB Tryz.f38 0)) :: τ)) Post := by
  refine round_of (env := env) (ps := [10, 11]) (a := rngA Tryz.f38 0) (b := rngB Tryz.f38 0) seatfollows (by simp) ca_prefix_count_0 cb_prefix_count_0 rfl ?_
  have h2' : ∀ h, env[2]'h = .ptr σ.length 0 := fun h => by rw [List.getElem?_eq_getElem h] at h2; exact Option.some.inj h2
  have h3' : ∀ h, env[3]'h = .ptr (σ.length + 1) 0 := fun h => by rw [List.getElem?_eq_getElem h] at h3; exact Option.some.inj h3
  have h4' : ∀ h, env[4]'h = .ptr (σ.length + 3) 0 := fun h => by rw [List.getElem?_eq_getElem h] at h4; exact Option.some.inj h4
  have hlk : ∀ τ, gload (.lookup (.int .i64) (.bool false) false) [.map (σ.length + 2), .int .i64 v] (σ ++ (.row false [.int .i64 0] :: .row false [.bool false] :: M :: τ)) = some (.bool (kget v E).isSome) := fun τ => by
    rw [(hM τ).lookup (kt := .int .i64) v (.bool false) false]
    cases hk : kget v E with
    | none => rfl
    | some u => rw [hE _ _ hk]; rfl
  simp [GA_prefix_count_0, GB_prefix_count_0, putAll, List.getElem?_set, hlen, h2', h3', h4', lgR]
  by_cases c1 : 1 ≤ v
  rotate_left
  · have c1' : v < 1 := by omega
    simp [c1', List.getElem?_set, hlen, h2', h3', h4']
    refine roundK_ret (e0 := env) (ps := [10, 11]) (a := rngA Tryz.f38 0) (b := rngB Tryz.f38 0) (by simp) ?_
    rw [set_tail]
    exact k0 (fun h => by simp [isVar, c1] at h) _
  have c1' : ¬ v < 1 := by omega
  by_cases c2 : v ≤ 65536
  rotate_left
  · have c2' : 65536 < v := by omega
    simp [c1', c2', List.getElem?_set, hlen, h2', h3', h4']
    refine roundK_ret (e0 := env) (ps := [10, 11]) (a := rngA Tryz.f38 0) (b := rngB Tryz.f38 0) (by simp) ?_
    rw [set_tail]
    exact k0 (fun h => by simp [isVar, c2] at h) _
  have c2' : ¬ 65536 < v := by omega
  simp [c1', c2', List.getElem?_set, hlen, h2', h3', h4', hlk]
  cases hk : kget v E with
  | some u =>
    simp [List.getElem?_set, hlen, h2', h3', h4']
    refine roundK_ret (e0 := env) (ps := [10, 11]) (a := rngA Tryz.f38 0) (b := rngB Tryz.f38 0) (by simp) ?_
    rw [set_tail]
    exact k0 (fun _ => by simp [hk]) _
  | none =>
    obtain ⟨o, q1, q2⟩ := (hM (.row false [.map (σ.length + 2)] :: .loop ⟨env, [10, 11], rngA Tryz.f38 0, rngB Tryz.f38 0, .busy, none⟩ :: τ)).set (kt := .int .i64) v (.bool true)
    rw [set_tail] at q1 q2
    simp [List.getElem?_set, hlen, h2', h3', h4', q1]
    refine roundK_normal (e0 := env) (ps := [10, 11]) (a := rngA Tryz.f38 0) (b := rngB Tryz.f38 0) (by simp) ?_
    rw [set_tail]
    exact k1 (by simp [isVar, c1, c2]) hk _ _ fun τ1 => q2.fit (by simp)
/-- A set of numbers as a map to true. -/
def setE (l : List Int) : List (Int × DV) := l.map fun v => (v, .bool true)
theorem setE_keys (l : List Int) : (setE l).map (·.1) = l := by simp [setE, Function.comp_def]
theorem setE_true {l : List Int} (k : Int) (u : DV) (h : kget k (setE l) = some u) : u = .bool true := by
  obtain ⟨v, _, he⟩ := List.mem_map.1 (kget_mem h)
  cases he; rfl
theorem setE_some {l : List Int} {k : Int} : (kget k (setE l)).isSome = l.contains k := by
  cases h : kget k (setE l) with
  | none =>
    have := kget_none.1 h
    rw [setE_keys] at this
    simp [this]
  | some u =>
    have : k ∈ (setE l).map (·.1) := List.mem_map.2 ⟨_, kget_mem h, rfl⟩
    rw [setE_keys] at this
    simp [this]
theorem setE_push {l : List Int} {v : Int} (h : kget v (setE l) = none) : kset v (.bool true) (setE l) = setE (l ++ [v]) := by
  rw [kset_new (kget_none.1 h)]; simp [setE]
theorem count_walk {p : List Blk} {σ : GS} {env : Env} (hp : lensB p < 2 ^ 40) (hlen : env.length = 27) (h2 : env[2]? = some (.ptr σ.length 0)) (h3 : env[3]? = some (.ptr (σ.length + 1) 0)) (h4 : env[4]? = some (.ptr (σ.length + 3) 0)) {Q : Exit → Env → GS → Prop}
    (kN : singleS [] (flatB p) = true → ∀ M o τ, (∀ τ, MpO kint (σ ++ (.row false [.int .i64 0] :: .row false [.bool false] :: M :: τ)) (σ.length + 2) (setE (flatB p))) → Q .normal env (σ ++ (.row false [.int .i64 0] :: .row false [.bool false] :: M :: .row false [.map (σ.length + 2)] :: o :: τ)))
    (kR : singleS [] (flatB p) = false → ∀ M o τ, Q .ret env (σ ++ (.row false [.int .i64 0] :: .row false [.bool false] :: M :: .row false [.map (σ.length + 2)] :: o :: τ))) :
    GCall Tryz.prog F_prefix_each_1 [.yield (σ.length + 4), .fptr [fblks p]] (σ ++ [.row false [.int .i64 0], .row false [.bool false], .mp [] ([], 0), .row false [.map (σ.length + 2)], .loop (lgR env [10, 11] (rngA Tryz.f38 0) (rngB Tryz.f38 0))]) fun _ σ' => grange (σ.length + 4) env Q σ' := by
  refine p_each1_ok hp (fun n σ' => singleS [] (flatB p) = singleS ((flatB p).take n) ((flatB p).drop n) ∧ ∃ M τ, σ' = σ ++ (.row false [.int .i64 0] :: .row false [.bool false] :: M :: .row false [.map (σ.length + 2)] :: .loop (lgR env [10, 11] (rngA Tryz.f38 0) (rngB Tryz.f38 0)) :: τ) ∧ ∀ τ, MpO kint (σ ++ (.row false [.int .i64 0] :: .row false [.bool false] :: M :: τ)) (σ.length + 2) (setE ((flatB p).take n)))
    (fun σ' => singleS [] (flatB p) = false ∧ ∃ M τ, σ' = σ ++ (.row false [.int .i64 0] :: .row false [.bool false] :: M :: .row false [.map (σ.length + 2)] :: .loop ⟨env, [10, 11], rngA Tryz.f38 0, rngB Tryz.f38 0, .done, some .ret⟩ :: τ)) ?_ ?_ ?_ ?_ ?_
  · rintro n _ o ⟨h, M, τ, rfl, hM⟩
    exact ⟨h, M, τ ++ [o], by simp, hM⟩
  · refine ⟨by simp, _, [], rfl, fun τ => ?_⟩
    exact ⟨by simp [setE], ([], 0), ⟨by simp [setE], by simp, by simp⟩, by simp [kenc, setE]⟩
  · rintro n i v _ hn ⟨h, M, τ, rfl, hM⟩
    have hv : (flatB p)[n]? = some v := by
      have := congrArg (fun o => o.map (·.2)) hn
      simpa [← List.getElem?_map, prs_snd] using this
    rw [drop_get hv, singleS] at h
    refine count_round hlen h2 h3 h4 hM (fun k u => setE_true k u) (fun c1 c2 M' τ' hM' => .inl ⟨rfl, ?_, M', τ', rfl, ?_⟩) fun c τ' => .inr ⟨rfl, ?_, M, τ', rfl⟩
    · have : ((flatB p).take n).contains v = false := by rw [← setE_some, c2]; rfl
      rw [h, c1, this, take_get hv]; simp
    · rw [setE_push c2, ← take_get hv] at hM'; exact hM'
    · rw [h]
      cases hc : isVar v with
      | false => rfl
      | true =>
        have := c hc
        rw [setE_some] at this
        rw [this]; rfl
  · rintro _ ⟨h, M, τ, rfl, hM⟩
    rw [List.take_length] at hM
    rw [List.drop_length, singleS] at h
    refine grange_normal (e0 := env) (ps := [10, 11]) (a := rngA Tryz.f38 0) (b := rngB Tryz.f38 0) (by simp) ?_
    rw [set_tail]
    exact kN h _ _ _ hM
  · rintro _ ⟨h, M, τ, rfl⟩
    refine grange_ret (e0 := env) (ps := [10, 11]) (a := rngA Tryz.f38 0) (b := rngB Tryz.f38 0) (by simp) ?_
    rw [set_tail]
    exact kR h _ _ _
theorem p_count_ok {p : List Blk} {σ : GS} {Post : DV → GS → Prop} (hp : lensB p < 2 ^ 40) (h : Post (.tuple [.int .i64 (if singleS [] (flatB p) = true then (flatB p).length else 0), .bool (singleS [] (flatB p))]) σ) : GCall Tryz.prog F_prefix_count [fblks p] σ Post := by
  refine GCall.say (r := .tuple [.int .i64 (if singleS [] (flatB p) = true then (flatB p).length else 0), .bool (singleS [] (flatB p))]) ?_ (by simp) h
  refine gc_prefix_count ?_
  simp [G_prefix_count, genv0, List.replicate]
  refine p_each_ok ?_
  simp
  refine rangeB_intro ?_
  simp
  refine count_walk hp (by simp) (by simp) (by simp) (by simp) (fun hs M o τ hM => ?_) (fun hs M o τ => ?_)
  · have hml : gload .mlen [.map (σ.length + 2)] (σ ++ (.row false [.int .i64 0] :: .row false [.bool false] :: M :: .row false [.map (σ.length + 2)] :: o :: τ)) = some (.int .i64 (flatB p).length) := by
      rw [(hM _).mlen]; simp [setE]
    simp [hml, hs]
  · simp [hs]
end Go.Gh
namespace Go.Gh
open Go.RowKit Go.Proofs
set_option linter.unusedVariables false
set_option linter.unusedSimpArgs false
set_option maxRecDepth 100000
theorem p_May_ok {p : List Blk} {σ : GS} {Post : DV → GS → Prop} (hp : lensB p < 2 ^ 40) (h : Post (.bool (mayB p)) σ) : GCall Tryz.prog F_prefix_May [fblks p] σ Post := by
  have hlb := lensB_flat p
  refine GCall.say (r := .bool (mayB p)) ?_ rfl h
  refine gc_prefix_May ?_
  simp [G_prefix_May, genv0, List.replicate]
  refine gfor p.length (fun i e σ' => Fr σ.length σ σ' ∧ altB none p = altB (prevB p i) (p.drop i) ∧ e = mkEnv 44 [(0, fblks p), (7, fblks p), (8, .int .i64 p.length), (9, .int .i64 i)]) _ ?_ ⟨.rfl', by simp [prevB], rfl⟩ ?_
  · simp [mkEnv, List.replicate]
  rintro i _ σ1 hi ⟨hF, hI, rfl⟩
  simp [mkEnv, List.replicate]
  by_cases hlt : i < p.length
  · obtain ⟨b, hb⟩ := nth_lt hlt
    have hb' := nth_get hb
    rw [drop_get hb', altB_step] at hI
    have es : IntKind.i64.wrap ((i : Int) + 1) = (i : Int) + 1 := by rw [wrap_small] <;> omega
    by_cases h0 : b.2.length = 0
    · have h0' : b.2 = [] := List.length_eq_zero_iff.1 h0
      simp [hlt, hb, h0']
      simp [mayB, hI, h0']
      exact hF.app _
    have h0' : ¬ (b.2 = []) := fun e => h0 (by rw [e]; rfl)
    have h0'' : ¬ ((b.2.length : Int) = 0) := by omega
    cases i with
    | zero =>
      simp [hlt, hb, h0', h0'']
      exact forK_go _ hlt (by simp [mkEnv, List.replicate]) ⟨hF.app _, by simp [hI, prevB, hb', h0'], rfl⟩
    | succ i =>
      obtain ⟨c, hc⟩ := nth_lt (l := p) (i := i) (by omega)
      have hc' := nth_get hc
      have ew' : IntKind.i64.wrap (i : Int) = i := by rw [wrap_small] <;> omega
      have hge : (0 : Int) ≤ (i : Int) + 1 := by omega
      have hgt : (0 : Int) < (i : Int) + 1 := by omega
      have htn : ((i : Int) + 1).toNat = i + 1 := by omega
      have es2 : IntKind.i64.wrap ((i : Int) + 1 + 1) = (i : Int) + 1 + 1 := by rw [wrap_small] <;> omega
      by_cases he : c.1 = b.1
      · simp [hlt, hb, h0', h0'', hge, hgt, htn, ew', hc, he]
        simp [mayB, hI, prevB, hc', he]
        exact hF.app _
      · have he2 : (c.1 == b.1) = false := by simpa using he
        simp [hlt, hb, h0', h0'', hge, hgt, htn, ew', hc, he2, es2]
        exact forK_go _ hlt (by simp [mkEnv, List.replicate]) ⟨hF.app _, by simp [hI, prevB, hc', he, h0', hb'], rfl⟩
  · have : i = p.length := by omega
    subst this
    rw [List.drop_length] at hI
    have hI' : altB none p = true := hI
    simp
    refine p_count_ok hp ?_
    cases hs : singleS [] (flatB p) with
    | false =>
      simp
      simp [mayB, hs]
      exact hF
    | true =>
      by_cases c : (flatB p).length ≤ 1024
      · have c' : ((flatB p).length : Int) ≤ 1024 := by omega
        simp [c']
        simp [mayB, hI', c, hs]
        exact hF
      · have c' : ¬ ((flatB p).length : Int) ≤ 1024 := by omega
        simp [c']
        simp [mayB, c]
        exact hF
theorem p_abs_ok {x : Int} {σ : GS} {Post : DV → GS → Prop} (h : Post (.int .i64 (absW x)) σ) : GCall Tryz.prog F_prefix_abs [.int .i64 x] σ Post := by
  refine gc_prefix_abs ?_
  simp [G_prefix_abs, genv0, List.replicate]
  exact h
theorem r_Abs_ok {x : Int} {σ : GS} {Post : DV → GS → Prop} (h : Post (.int .i64 (if x < 0 then IntKind.i64.wrap (-x) else x)) σ) : GCall Tryz.prog F_skolemref03_Abs [.int .i64 x] σ Post := by
  refine gc_skolemref03_Abs ?_
  by_cases c : x < 0
  · simp [G_skolemref03_Abs, genv0, List.replicate, c]
    simpa [c] using h
  · simp [G_skolemref03_Abs, genv0, List.replicate, c]
    simpa [c] using h
end Go.Gh
namespace Go.Gh
open Go.RowKit Go.Proofs
set_option linter.unusedVariables false
set_option linter.unusedSimpArgs false
set_option maxRecDepth 100000
def CapOk (s : DV) : Prop := ∀ a b n z c, s = .slice a b n z (some c) → n ≤ c
theorem append_cap {sz by_ : Nat} {s x v : DV} {σ σ' : GS} (h : gappend sz by_ s x σ = some (v, σ')) (hs : CapOk s) : CapOk v := by
  unfold gappend at h
  repeat' (split at h)
  all_goals first | (cases h; done) | skip
  all_goals
    cases h
    first
    | exact hs
    | (intro a b n z c e; cases e; done)
    | (intro a b n z c e; cases e; assumption)
theorem clone_ok {s : DV} {xs : List Int} {n : Nat} {σ : GS} {Post : DV → GS → Prop} (hq : nilq s ≠ []) (hn : true ∈ nilq s → xs = []) (hr : ∀ τ, gread 1 s (σ ++ τ) = some (xs.flatMap eint)) (hg : glen s = xs.length) (hl : xs.length < 2 ^ 43) (hnn : n ≤ σ.length)
    (k : ∀ s' σ', Own n 1 eint σ' s' xs → Fr σ.length σ σ' → (∀ i, s'.has i → σ.length ≤ i) → CapOk s' → Post s' σ') : GCall Tryz.prog F_slices_Clone_int_int [s] σ Post := by
  refine gc_slices_Clone_int_int ?_
  simp [G_slices_Clone_int_int, genv0, List.replicate]
  refine eqn_any hq fun b hb => ?_
  cases b with
  | true =>
    have := hn hb
    subst this
    simp
    exact k .nils σ .nil (.refl (Nat.le_refl _)) (fun i ⟨_, _, _, _, e⟩ => by cases e) (fun _ _ _ _ _ e => by cases e)
  | false =>
    have h0 : Own σ.length 1 eint (σ ++ [.row false (gzeros [.int .i64 0] 0)]) (.slice σ.length 0 0 1 (some 0)) ([] : List Int) := .inr ⟨σ.length, some 0, [], Nat.le_refl _, by simp, by simp [gzeros], fun c hc => by cases hc; simp⟩
    obtain ⟨s', σ', q1, q2, q3, q4, q5, q6, _⟩ := h0.append (by_ := 8) (ys := xs) (x := s) (fun _ => rfl) (hr _) hg (fun y _ => by simp) (by simp) (by simp; omega) (by decide)
    simp [q1]
    refine k s' σ' (by simpa using q2.weaken hnn) (((Fr.refl (Nat.le_refl _)).app _).trans q3) (fun i hi => ?_) (append_cap (sz := 1) (by_ := 8) (s := .slice σ.length 0 0 1 (some 0)) q1 (fun _ _ _ _ _ e => by cases e; exact Nat.le_refl _))
    exact q2.has_ge hi
theorem clone_frz {xs : List Int} {n : Nat} {σ : GS} {Post : DV → GS → Prop} (hl : xs.length < 2 ^ 43) (hnn : n ≤ σ.length)
    (k : ∀ s' σ', Own n 1 eint σ' s' xs → Fr σ.length σ σ' → (∀ i, s'.has i → σ.length ≤ i) → CapOk s' → Post s' σ') : GCall Tryz.prog F_slices_Clone_int_int [fints xs] σ Post := by
  refine clone_ok ?_ ?_ (fun τ => ?_) (by simp [glen]) hl hnn k
  · simp only [nilq]; split <;> simp
  · simp only [nilq, List.length_map]; intro h; split at h
    · simp at h
    · exact List.length_eq_zero_iff.1 (by omega)
  · simp [gread, flatMap_flatten]
theorem idx_live {f : FuncId} {pre caps : List DV} {n : Nat} {s : DV} {xs : List Int} {p : Int → Bool} {σ : GS} {Post : DV → GS → Prop} (ho : Own n 1 eint σ s xs) (hl : xs.length < 2 ^ 60)
    (hf : ∀ x ∈ xs, ∀ K : DV → GS → Prop, K (.bool (p x)) σ → GCall Tryz.prog f (pre ++ .int .i64 x :: caps) σ K) (h : Post (.int .i64 (idxF p 0 xs)) σ) :
    GCall Tryz.prog F_slices_IndexFunc_int_int [s, .func f pre caps] σ Post := by
  refine gc_slices_IndexFunc_int_int ?_
  simp [G_slices_IndexFunc_int_int, genv0, List.replicate, ho.len]
  refine gfor xs.length (fun i e σ' => σ' = σ ∧ idxF p 0 xs = idxF p i (xs.drop i) ∧ e = mkEnv 19 [(0, s), (1, .func f pre caps), (7, .int .i64 xs.length), (8, .int .i64 i)]) _ ?_ ⟨rfl, by simp, rfl⟩ ?_
  · simp [mkEnv, List.replicate]
  rintro i _ _ hi ⟨rfl, hI, rfl⟩
  simp [mkEnv, List.replicate]
  by_cases hlt : i < xs.length
  · obtain ⟨y, hy⟩ := get_lt hlt
    rw [drop_get hy] at hI
    obtain ⟨id, g1, g2, g3, g4⟩ := ho.get (fun _ => rfl) hy (k := .i64)
    have g5 := g4 0 (by omega)
    simp at g2 g5
    simp [hlt, g2, g5]
    refine hf y (List.mem_of_getElem? hy) _ ?_
    by_cases h1 : p y = true
    · simp [h1]
      simpa [hI, idxF, h1] using h
    · simp [h1, wrap_suc (show i < _ by omega)]
      exact forK_go _ hlt (by simp [mkEnv, List.replicate]) ⟨rfl, by simp [hI, idxF, h1], rfl⟩
  · have : i = xs.length := by omega
    subst this
    simp
    simpa [hI, idxF] using h
theorem idxF_split {p : Int → Bool} {xs : List Int} {i : Nat} {x : Int} (h1 : xs[i]? = some x) (h3 : p x = true) (h4 : ∀ j y, j < i → xs[j]? = some y → p y = false) : (xs.take (i + 1)).filter (fun v => !p v) = xs.take i ∧ (xs.take i).length = i := by
  have hi := get_dom h1
  refine ⟨?_, by simp; omega⟩
  rw [take_get h1, List.filter_append]
  simp [h3]
  intro a ha
  obtain ⟨j, hj⟩ := List.mem_iff_getElem?.1 ha
  rw [List.getElem?_take] at hj
  split at hj
  · exact h4 j a (by assumption) hj
  · cases hj
theorem del_ok {f : FuncId} {pre caps : List DV} {n : Nat} {s : DV} {xs : List Int} {p : Int → Bool} {σ : GS} {Post : DV → GS → Prop} (ho : Own n 1 eint σ s xs) (hcap : CapOk s) (hl : xs.length < 2 ^ 40)
    (hf : ∀ x ∈ xs, ∀ σ', (∀ j, ¬ s.has j → σ'[j]? = σ[j]?) → ∀ K : DV → GS → Prop, K (.bool (p x)) σ' → GCall Tryz.prog f (pre ++ .int .i64 x :: caps) σ' K)
    (k : ∀ σ', (∀ j, ¬ s.has j → σ'[j]? = σ[j]?) → σ'.length = σ.length → Post (fints (xs.filter fun v => !p v)) σ') : GCall Tryz.prog F_slices_DeleteFunc_int_int [s, .func f pre caps] σ Post := by
  have fin : ∀ (σ' : GS) (s' : DV) (ys : List Int), Own n 1 eint σ' s' ys → (∀ j, s'.has j → s.has j) → (∀ j, ¬ s.has j → σ'[j]? = σ[j]?) → σ'.length = σ.length → ys = xs.filter (fun v => !p v) → ∃ S v', Rd (Go.Gh.frz S σ') (RO (Go.Gh.frz S σ')) s' v' ∧ Post v' (Go.Gh.frz S σ') := by
    rintro σ' s' ys h1 h2 h3 h4 rfl
    refine ⟨fun i => s'.idOf == some i, _, h1.rdF fun _ => rfl, k _ (fun j hj => ?_) (by rw [frz_len, h4])⟩
    rw [frz_off (h1.idOf_has fun hh => hj (h2 j hh))]; exact h3 j hj
  refine GCall.out ?_
  refine gc_slices_DeleteFunc_int_int ?_
  simp [G_slices_DeleteFunc_int_int, genv0, List.replicate]
  refine idx_live ho (by omega) (fun x hx K hK => hf x hx σ (fun _ _ => rfl) K hK) ?_
  rcases idxF_cases p xs 0 with ⟨h1, h2⟩ | ⟨i0, x0, h1, h2, h3, h4⟩
  · simp [h1]
    exact fin σ s xs ho (fun _ h => h) (fun _ _ => rfl) rfl (List.filter_eq_self.2 fun a ha => by simp [h2 a ha]).symm
  rw [Nat.zero_add] at h1
  have hi0 := get_dom h2
  have hne : ¬ ((i0 : Int) = -1) := by omega
  have ew : IntKind.i64.wrap ((i0 : Int) + 1) = (i0 : Int) + 1 := by rw [wrap_small] <;> omega
  obtain ⟨f1, f2⟩ := idxF_split h2 h3 h4
  rw [h1]
  simp [hne, ew]
  rcases ho with ⟨_, rfl⟩ | ⟨id, cap, rest, hge, rfl, hrow, hcp⟩
  · simp at hi0
  have hhas : ∀ t, t = id → (DV.slice id 0 xs.length 1 cap).has t := fun t e => by subst e; exact ⟨_, _, _, _, rfl⟩
  obtain ⟨N, hN⟩ : ∃ N, xs.length = N := ⟨_, rfl⟩
  have hrow' : σ[id]? = some (.row false (xs.map (.int .i64) ++ rest)) := by rw [hrow, flatMap_one]
  rw [hN]
  refine gwhile (mkEnv 42 [(0, .slice id 0 N 1 cap), (1, .func f pre caps), (5, .int .i64 i0), (6, .int .i64 ((i0 + 1 : Nat) : Int))]) (N - (i0 + 1)) (fun m e σ' => ∃ (j i : Nat) (ys : List Int), m = N - j ∧ j ≤ N ∧ i < j ∧ e = mkEnv 42 [(0, .slice id 0 N 1 cap), (1, .func f pre caps), (5, .int .i64 i), (6, .int .i64 j)] ∧ σ'[id]? = some (.row false (ys.map (.int .i64) ++ rest)) ∧ ys.length = N ∧ ys.take i = (xs.take j).filter (fun v => !p v) ∧ ys.drop j = xs.drop j ∧ (∀ t, t ≠ id → σ'[t]? = σ[t]?) ∧ σ'.length = σ.length) ?_ ⟨i0 + 1, i0, xs, rfl, by omega, by omega, rfl, hrow', hN, f1.symm, rfl, fun _ _ => rfl, rfl⟩ ?_
  · simp [mkEnv, List.replicate]
  rintro m _ σ' ⟨j, i, ys, rfl, hj, hij, rfl, hr, hyl, hyi, hyj, hoth, hlen⟩
  simp [mkEnv, List.replicate]
  by_cases hlt : j < N
  · obtain ⟨y, hy⟩ := get_lt (xs := xs) (i := j) (by omega)
    have hyy : ys[j]? = some y := by
      have := congrArg (fun l => l[0]?) hyj
      simpa [hy] using this
    have hia := iaddr_own (id := id) (n := N) (sz := 1) (i := j) (k := .i64) (cap := cap) hlt
    have hib := iaddr_own (id := id) (n := N) (sz := 1) (i := i) (k := .i64) (cap := cap) (by omega)
    simp only [Nat.mul_one] at hia hib
    have hld : gload (.load 1 false) [.ptr id j] σ' = some (.int .i64 y) := by
      rw [ld_at hr, List.getElem?_append_left (by simp; omega)]; simp [hyy]
    have es : IntKind.i64.wrap ((j : Int) + 1) = ((j + 1 : Nat) : Int) := wrap_suc (by omega)
    have es2 : IntKind.i64.wrap ((i : Int) + 1) = ((i + 1 : Nat) : Int) := wrap_suc (by omega)
    simp [hlt, hia, hld]
    refine hf y (List.mem_of_getElem? hy) σ' (fun t ht => hoth t fun e => ht (hhas t e)) _ ?_
    by_cases hp : p y = true
    · simp [hp, es]
      refine whK_go (N - (j + 1)) _ (by omega) ?_ ⟨j + 1, i, ys, rfl, by omega, by omega, rfl, hr, hyl, ?_, ?_, hoth, hlen⟩
      · simp [mkEnv, List.replicate]
      · rw [take_get hy, List.filter_append, hyi]; simp [hp]
      · have := congrArg (List.drop 1) hyj; simpa [List.drop_drop, Nat.add_comm] using this
    · have hsto : gimp (.store 1) [.ptr id i, .int .i64 y] σ' = some (.tuple [], σ'.set id (.row false ((ys.set i y).map (.int .i64) ++ rest))) := by
        simp only [gimp, hr, DV.cells]
        rw [if_pos ⟨rfl, by simp; omega, rfl⟩, over_one (by simp; omega), List.set_append_left _ _ (by simp; omega), List.map_set]
      simp [hp, hib, hsto, es, es2]
      refine whK_go (N - (j + 1)) _ (by omega) ?_ ⟨j + 1, i + 1, ys.set i y, rfl, by omega, by omega, rfl, ?_, by simp [hyl], ?_, ?_, fun t ht => ?_, by simpa using hlen⟩
      · simp [mkEnv, List.replicate]
      · rw [List.getElem?_set_self (get_dom hr)]; simp
      · rw [take_get hy, List.filter_append, ← hyi]
        rw [List.take_succ_eq_append_getElem (by simp; omega), List.take_set, List.set_eq_of_length_le (by simp; omega)]
        simp [hp]
      · rw [List.drop_set_of_lt (by omega)]
        have := congrArg (List.drop 1) hyj; simpa [List.drop_drop, Nat.add_comm] using this
      · rw [List.getElem?_set_ne (Ne.symm ht)]; exact hoth t ht
  · have : j = N := by omega
    subst this
    rw [← hN, List.take_length] at hyi
    have hcl : ∀ c, cap = some c → j ≤ c := fun c hc => by rw [← hN]; exact hcap id 0 xs.length 1 c (by rw [hc])
    have hcg : j ≤ cap.getD j := by cases hc : cap with
      | none => simp
      | some c => simp; exact hcl c hc
    have hsl1 : gpure (.slice 1 true false false) [.slice id 0 j 1 cap, .int .i64 i] = some (.slice id i (j - i) 1 (cap.map fun c => c - i)) := by
      simp only [gpure, gslice, if_true, gbm, Option.bind_some, gbh, gbl, gbound]
      rw [if_pos ⟨rfl, hcg⟩]
      simp only [Option.bind_some]
      rw [if_pos (by omega)]
      cases cap <;> simp
    have hsl2 : gpure (.slice 1 false true false) [.slice id 0 j 1 cap, .int .i64 i] = some (.slice id 0 i 1 cap) := by
      simp only [gpure, gslice, if_true, gbm, Option.bind_some, gbh, gbl, gbound]
      rw [if_pos (by omega)]
      simp only [Option.bind_some]
      cases cap <;> simp
    have hclr : gimp (.clear 1 [.int .i64 0]) [.slice id i (j - i) 1 (cap.map fun c => c - i)] σ' = some (.tuple [], σ'.set id (.row false ((ys.take i).map (.int .i64) ++ (List.replicate (j - i) (.int .i64 0) ++ rest)))) := by
      simp only [gimp, hr]
      rw [if_neg (by omega), if_pos trivial, if_pos ⟨by simp; omega, by simp [gzeros]⟩]
      congr 3
      unfold over
      simp only [gzeros, List.length_replicate, Nat.mul_one]
      rw [List.take_append_of_le_length (by simp; omega), ← List.map_take, List.drop_append, List.drop_eq_nil_of_le (by simp; omega)]
      simp
      rw [show i + (j - i) - ys.length = 0 by omega]; simp
    simp [hsl1, hclr, hsl2]
    refine fin _ _ ((ys.take i)) (.inr ⟨id, cap, List.replicate (j - i) (.int .i64 0) ++ rest, hge, by simp; omega, ?_, fun c hc => ?_⟩) (fun t ⟨_, _, _, _, e⟩ => ⟨_, _, _, _, by cases e; rfl⟩) (fun t ht => ?_) (by simpa using hlen) hyi
    · rw [List.getElem?_set_self (get_dom hr), flatMap_one, List.map_take]
    · have := hcp c hc
      simp at this ⊢; omega
    · rw [List.getElem?_set_ne fun e => ht (hhas t e.symm)]
      exact hoth t fun e => ht (hhas t e)
end Go.Gh
namespace Go.Gh
open Go.RowKit Go.Proofs
set_option linter.unusedVariables false
set_option linter.unusedSimpArgs false
set_option maxRecDepth 100000
/-- Where a block stands, by its index. -/
def plD (p : List Blk) (k : Nat) : DV := placeV (k, ((p[k]?).map (·.1)).getD false)
theorem place_round {p : List Blk} {σ : GS} {env : Env} {M : GObj} {τ : GS} {i : Nat} {v : Int} {b : Blk} {E : List (Int × DV)} {Post : DV → GS → Prop} (hp : lensB p < 2 ^ 40) (hb : p[i]? = some b)
    (hlen : env.length = 31) (h1 : env[1]? = some (.ptr σ.length 0)) (h3 : env[3]? = some (.ptr (σ.length + 2) 0))
    (hM : ∀ τ, MpO kint (σ ++ (.row false [fblks p] :: M :: τ)) (σ.length + 1) E) (hE : ∀ k u, kget k E = some u → ∃ x, u = placeV x)
    (k1 : ∀ M' τ', (∀ τ, MpO kint (σ ++ (.row false [fblks p] :: M' :: τ)) (σ.length + 1) (plStep (plD p) E (i, v))) → Post (.bool true) (σ ++ (.row false [fblks p] :: M' :: .row false [.map (σ.length + 1)] :: .loop (lgR env [11, 12] (rngA Tryz.f43 0) (rngB Tryz.f43 0)) :: τ'))) :
    GRound Tryz.prog (σ.length + 3) [.int .i64 i, .int .i64 v] (σ ++ (.row false [fblks p] :: M :: .row false [.map (σ.length + 1)] :: .loop (lgR env [11, 12] (rngA Tryz.f43 0) (rngB Tryz.f43 0)) :: τ)) Post := by
  refine round_of (env := env) (ps := [11, 12]) (a := rngA Tryz.f43 0) (b := rngB Tryz.f43 0) seatfollows (by simp) ca_prefix_places_0 cb_prefix_places_0 rfl ?_
  have h1' : ∀ h, env[1]'h = .ptr σ.length 0 := fun h => by rw [List.getElem?_eq_getElem h] at h1; exact Option.some.inj h1
  have h3' : ∀ h, env[3]'h = .ptr (σ.length + 2) 0 := fun h => by rw [List.getElem?_eq_getElem h] at h3; exact Option.some.inj h3
  have hb2 : nth p i = some b := hb
  have hlk : ∀ τ, gload (.lookup (.int .i64) (.agg [.int .i64 0, .bool false]) true) [.map (σ.length + 1), .int .i64 v] (σ ++ (.row false [fblks p] :: M :: τ)) = some (match kget v E with | some u => .tuple [u, .bool true] | none => .tuple [.agg [.int .i64 0, .bool false], .bool false]) := fun τ => by
    rw [(hM τ).lookup (kt := .int .i64) v _ true]
    cases hk : kget v E <;> rfl
  simp [GA_prefix_places_0, GB_prefix_places_0, putAll, List.getElem?_set, hlen, h1', h3', lgR, hlk]
  cases hk : kget v E with
  | some u =>
    obtain ⟨x, rfl⟩ := hE _ _ hk
    simp [placeV, List.getElem?_set, hlen, h1', h3']
    refine roundK_normal (e0 := env) (ps := [11, 12]) (a := rngA Tryz.f43 0) (b := rngB Tryz.f43 0) (by simp) ?_
    rw [set_tail]
    refine k1 _ _ fun τ1 => ?_
    unfold plStep; rw [if_pos (by simp [hk])]
    exact hM τ1
  | none =>
    simp [List.getElem?_set, hlen, h1', h3', hb2, fill_flat2]
    obtain ⟨o, q1, q2⟩ := (hM (.row false [.map (σ.length + 1)] :: .loop ⟨env, [11, 12], rngA Tryz.f43 0, rngB Tryz.f43 0, .busy, none⟩ :: (τ ++ [.row false [.int .i64 0, .bool false]]))).set (kt := .int .i64) v (plD p i)
    rw [set_tail] at q1 q2
    have hd : plD p i = .agg [.int .i64 i, .bool b.1] := by simp [plD, placeV, hb]
    rw [hd] at q1
    simp at q1
    simp [q1]
    refine roundK_normal (e0 := env) (ps := [11, 12]) (a := rngA Tryz.f43 0) (b := rngB Tryz.f43 0) (by simp) ?_
    rw [set_tail]
    refine k1 _ _ fun τ1 => ?_
    unfold plStep; rw [if_neg (by simp [hk])]
    rw [kset_new (kget_none.1 hk)] at q2
    exact q2.fit (by simp)
theorem plE_place {p : List Blk} (l : List (Nat × Int)) : ∀ E, (∀ (k : Int) u, kget k E = some u → ∃ x, u = placeV x) → ∀ (k : Int) u, kget k (l.foldl (plStep (plD p)) E) = some u → ∃ x, u = placeV x := by
  intro E hE k u h
  rw [plE_get] at h
  cases hk : kget k E with
  | some w => rw [hk] at h; cases h; exact hE _ _ hk
  | none =>
    rw [hk] at h
    simp only [Option.map_eq_some_iff] at h
    obtain ⟨x, _, rfl⟩ := h
    exact ⟨_, rfl⟩
theorem plE_final (p : List Blk) : PlaceE p (plE (plD p) (prs 0 p)) := by
  intro v
  unfold plE
  rw [plE_get]
  simp only [kget]
  refine findO_prs (plD p) v p 0 fun j b hj => ?_
  simp [plD, hj]
theorem place_walk {p : List Blk} {σ : GS} {env : Env} (hp : lensB p < 2 ^ 40) (hlen : env.length = 31) (h1 : env[1]? = some (.ptr σ.length 0)) (h3 : env[3]? = some (.ptr (σ.length + 2) 0)) {Q : Exit → Env → GS → Prop}
    (kN : ∀ M o τ, (∀ τ, MpO kint (σ ++ (.row false [fblks p] :: M :: τ)) (σ.length + 1) (plE (plD p) (prs 0 p))) → Q .normal env (σ ++ (.row false [fblks p] :: M :: .row false [.map (σ.length + 1)] :: o :: τ))) :
    GCall Tryz.prog F_prefix_each_1 [.yield (σ.length + 3), .fptr [fblks p]] (σ ++ [.row false [fblks p], .mp [] ([], 0), .row false [.map (σ.length + 1)], .loop (lgR env [11, 12] (rngA Tryz.f43 0) (rngB Tryz.f43 0))]) fun _ σ' => grange (σ.length + 3) env Q σ' := by
  refine p_each1_ok hp (fun n σ' => ∃ M τ, σ' = σ ++ (.row false [fblks p] :: M :: .row false [.map (σ.length + 1)] :: .loop (lgR env [11, 12] (rngA Tryz.f43 0) (rngB Tryz.f43 0)) :: τ) ∧ ∀ τ, MpO kint (σ ++ (.row false [fblks p] :: M :: τ)) (σ.length + 1) (plE (plD p) ((prs 0 p).take n)))
    (fun σ' => False) ?_ ?_ ?_ ?_ ?_
  · rintro n _ o ⟨M, τ, rfl, hM⟩
    exact ⟨M, τ ++ [o], by simp, hM⟩
  · refine ⟨_, [], rfl, fun τ => ?_⟩
    exact ⟨by simp [plE], ([], 0), ⟨by simp [plE], by simp, by simp⟩, by simp [kenc, plE]⟩
  · rintro n i v _ hn ⟨M, τ, rfl, hM⟩
    obtain ⟨b, _, hb, _⟩ := prs_mem (List.mem_of_getElem? hn)
    refine place_round hp (by simpa using hb) hlen h1 h3 hM (plE_place _ _ fun k u h => by simp [kget] at h) fun M' τ' hM' => .inl ⟨rfl, M', τ', rfl, fun τ1 => ?_⟩
    have := hM' τ1
    unfold plE at this ⊢
    rw [take_get hn, List.foldl_append]
    exact this
  · rintro _ ⟨M, τ, rfl, hM⟩
    have hM' : ∀ τ, MpO kint (σ ++ (.row false [fblks p] :: M :: τ)) (σ.length + 1) (plE (plD p) (prs 0 p)) := fun τ => by
      have := hM τ
      rw [List.take_of_length_le (by rw [prs_len]; omega)] at this
      exact this
    refine grange_normal (e0 := env) (ps := [11, 12]) (a := rngA Tryz.f43 0) (b := rngB Tryz.f43 0) (by simp) ?_
    rw [set_tail]
    exact kN _ _ _ hM'
  · rintro _ h
    exact h.elim
/-- The places of numbers: a map of the call's own. -/
theorem p_places_ok {p : List Blk} {σ : GS} {Post : DV → GS → Prop} (hp : lensB p < 2 ^ 40) (k : ∀ E σ', PlaceE p E → E = plE (plD p) (prs 0 p) → MpO kint σ' (σ.length + 1) E → Fr σ.length σ σ' → Post (.map (σ.length + 1)) σ') : GCall Tryz.prog F_prefix_places [fblks p] σ Post := by
  refine gc_prefix_places ?_
  simp [G_prefix_places, genv0, List.replicate]
  refine p_each_ok ?_
  simp
  refine rangeB_intro ?_
  simp
  refine place_walk hp (by simp) (by simp) (by simp) fun M o τ hM => ?_
  simp
  exact k _ _ (plE_final p) rfl (hM _) (Fr.rfl'.app _)
end Go.Gh
namespace Go.Gh
open Go.RowKit Go.Proofs
set_option linter.unusedVariables false
set_option linter.unusedSimpArgs false
set_option maxRecDepth 100000
theorem place_lookup {p : List Blk} {E : List (Int × DV)} {σ : GS} {id : Nat} (hE : PlaceE p E) (hM : MpO kint σ id E) (v : Int) : gload (.lookup (.int .i64) (.agg [.int .i64 0, .bool false]) true) [.map id, .int .i64 v] σ = some (match findO 0 p v with | some x => .tuple [placeV x, .bool true] | none => .tuple [.agg [.int .i64 0, .bool false], .bool false]) := by
  rw [hM.lookup (kt := .int .i64) v _ true, hE v]
  cases findO 0 p v <;> rfl
end Go.Gh
namespace Go.Gh
open Go.RowKit Go.Proofs
set_option linter.unusedVariables false
set_option linter.unusedSimpArgs false
set_option maxRecDepth 100000
end Go.Gh
