/-
  Proved: AigValues: the values and the tables of the graph are those of the reference.
  Part 7 of 8. Conditions: none. A verified frame that runs compiled texts over a ghost heap, the contracts of the functions that the statement reaches, and the plain law.
-/
import Derived.Test.YtmlkkjkjigpjjaaGreatXV6
import Derived.Test.YtmlkkjkjigpjjaaGreatProg
import Derived.KernelRfl
namespace Go.Gh
open Go.Proofs
abbrev F_skolemlaw06_AigValues : Nat := 7
abbrev F_aig_Eval : Nat := 39
abbrev F_skolemref06_Eval : Nat := 40
abbrev F_aig_Table : Nat := 41
abbrev F_skolemref06_Table : Nat := 42
abbrev F_skolemlaw06_bools : Nat := 43
abbrev F_aig_run : Nat := 106
abbrev F_aig_Eval_1 : Nat := 107
abbrev F_slices_BinarySearchFunc_int_int_int : Nat := 108
abbrev F_aig_Eval_1_1 : Nat := 109
abbrev F_slices_Contains_int_int : Nat := 110
abbrev F_aig_value : Nat := 111
abbrev F_skolemref06_Of : Nat := 112
abbrev F_skolemref06_All : Nat := 113
abbrev F_skolemref06_On : Nat := 114
abbrev F_aig_Table_1 : Nat := 116
abbrev F_skolemref06_different : Nat := 117
abbrev F_slices_Index_int_int : Nat := 164
noncomputable abbrev G_aig_Eval : GFun := ⟨29, [(.tmp 6), (.tmp 7)], (.seq (.region [⟨0, ⟨(some 3), none, (.new .box), [(.tmp 0)]⟩, []⟩, ⟨0, ⟨(some 5), none, (.new .box), [(.tmp 2)]⟩, []⟩, ⟨0, ⟨(some 6), none, (.pure .id), [(.const (.bool false))]⟩, []⟩, ⟨0, ⟨(some 7), none, (.pure .id), [(.const (.int .i64 0))]⟩, []⟩]) (.seq (.seq (.region [⟨0, ⟨(some 9), none, (.load (.load 2 true)), [(.tmp 3)]⟩, []⟩, ⟨0, ⟨(some 10), none, (.pure .id), [(.tmp 1)]⟩, []⟩, ⟨0, ⟨(some 11), none, (.new (.bslice 1 [(.int .i64 0)] 1 [(0, 1)])), [(.tmp 10)]⟩, []⟩, ⟨0, ⟨(some 12), none, (.call F_aig_all), [(.tmp 9), (.tmp 11)]⟩, []⟩, ⟨0, ⟨(some 13), none, (.pure (.un .not)), [(.tmp 12)]⟩, []⟩, ⟨0, ⟨(some 14), none, (.pure .id), [(.tmp 13)]⟩, []⟩, ⟨0, ⟨(some 15), (some (14, false)), (.load (.load 1 false)), [(.tmp 5)]⟩, []⟩, ⟨0, ⟨(some 16), (some (14, false)), (.call F_aig_normal), [(.tmp 15)]⟩, []⟩, ⟨0, ⟨(some 17), (some (14, false)), (.pure (.un .not)), [(.tmp 16)]⟩, []⟩, ⟨0, ⟨(some 18), none, (.pure .pick), [(.tmp 14), (.const (.bool true)), (.tmp 17)]⟩, []⟩]) (.cond (.tmp 18) (.seq (.region [⟨0, ⟨(some 6), none, (.pure .id), [(.const (.bool false))]⟩, []⟩, ⟨0, ⟨(some 7), none, (.pure .id), [(.const (.int .i64 2))]⟩, []⟩]) .ret) .skip)) (.seq (.region [⟨0, ⟨(some 19), none, (.load (.load 2 true)), [(.tmp 3)]⟩, []⟩, ⟨0, ⟨(some 20), none, (.call F_aig_nodes), [(.tmp 19)]⟩, []⟩, ⟨0, ⟨(some 21), none, (.new (.mslice 1 1 [(.bool false)])), [(.tmp 20), (.tmp 20)]⟩, []⟩, ⟨0, ⟨(some 8), none, (.pure .id), [(.tmp 21)]⟩, []⟩]) (.seq (.region [⟨0, ⟨(some 22), none, (.load (.load 2 true)), [(.tmp 3)]⟩, []⟩, ⟨0, ⟨(some 23), none, (.pure .id), [(.tmp 8)]⟩, []⟩, ⟨0, ⟨(some 24), none, (.pure (.mkfunc F_aig_Eval_1 0)), [(.tmp 5)]⟩, []⟩, ⟨0, ⟨(some 25), none, (.call F_aig_run), [(.tmp 22), (.tmp 23), (.tmp 24)]⟩, []⟩]) (.seq (.region [⟨0, ⟨(some 26), none, (.pure .id), [(.tmp 8)]⟩, []⟩, ⟨0, ⟨(some 27), none, (.pure .id), [(.tmp 1)]⟩, []⟩, ⟨0, ⟨(some 28), none, (.call F_aig_value), [(.tmp 26), (.tmp 27)]⟩, []⟩, ⟨0, ⟨(some 6), none, (.pure .id), [(.tmp 28)]⟩, []⟩, ⟨0, ⟨(some 7), none, (.pure .id), [(.const (.int .i64 0))]⟩, []⟩]) .ret)))))⟩
theorem c_aig_Eval : compF Tryz.prog Tryz.f39 = some G_aig_Eval := by kernel_rfl
theorem gc_aig_Eval {args : List DV} {σ : GS} {Post : DV → GS → Prop} (h : @exB Tryz.prog ⟨G_aig_Eval.body⟩ (genv0 args G_aig_Eval.ntmps) σ ⟨@gretB G_aig_Eval.results ⟨Post⟩⟩) : GCall Tryz.prog F_aig_Eval args σ Post := gcall_ofB seatfollows Tryz.func39 (by kernel_rfl) c_aig_Eval h
noncomputable abbrev G_aig_Eval_1 : GFun := ⟨18, [(.tmp 3)], (.seq (.region [⟨0, ⟨(some 3), none, (.pure .id), [(.const (.bool false))]⟩, []⟩]) (.seq (.region [⟨0, ⟨(some 7), none, (.load (.load 1 false)), [(.tmp 1)]⟩, []⟩, ⟨0, ⟨(some 8), none, (.pure .id), [(.tmp 0)]⟩, []⟩, ⟨0, ⟨(some 9), none, (.call F_slices_BinarySearchFunc_int_int_int), [(.tmp 7), (.tmp 8), (.const (.func F_aig_Eval_1_1 [] []))]⟩, []⟩, ⟨0, ⟨(some 6), none, (.pure .id), [(.tmp 9)]⟩, []⟩, ⟨0, ⟨(some 10), none, (.pure (.extract 0)), [(.tmp 6)]⟩, []⟩, ⟨0, ⟨(some 11), none, (.pure (.extract 1)), [(.tmp 6)]⟩, []⟩, ⟨0, ⟨(some 4), none, (.pure .id), [(.tmp 10)]⟩, []⟩, ⟨0, ⟨(some 5), none, (.pure .id), [(.tmp 11)]⟩, []⟩]) (.seq (.region [⟨0, ⟨(some 12), none, (.pure .id), [(.tmp 5)]⟩, []⟩, ⟨0, ⟨(some 13), none, (.pure .id), [(.tmp 12)]⟩, []⟩, ⟨0, ⟨(some 14), (some (13, true)), (.load (.load 1 false)), [(.tmp 1)]⟩, []⟩, ⟨0, ⟨(some 15), (some (13, true)), (.pure .id), [(.tmp 0)]⟩, []⟩, ⟨0, ⟨(some 16), (some (13, true)), (.call F_slices_Contains_int_int), [(.tmp 14), (.tmp 15)]⟩, []⟩, ⟨0, ⟨(some 17), none, (.pure .pick), [(.tmp 13), (.tmp 16), (.const (.bool false))]⟩, []⟩, ⟨0, ⟨(some 3), none, (.pure .id), [(.tmp 17)]⟩, []⟩]) .ret)))⟩
theorem c_aig_Eval_1 : compF Tryz.prog Tryz.f107 = some G_aig_Eval_1 := by kernel_rfl
theorem gc_aig_Eval_1 {args : List DV} {σ : GS} {Post : DV → GS → Prop} (h : @exB Tryz.prog ⟨G_aig_Eval_1.body⟩ (genv0 args G_aig_Eval_1.ntmps) σ ⟨@gretB G_aig_Eval_1.results ⟨Post⟩⟩) : GCall Tryz.prog F_aig_Eval_1 args σ Post := gcall_ofB seatfollows Tryz.func107 (by kernel_rfl) c_aig_Eval_1 h
noncomputable abbrev G_slices_BinarySearchFunc_int_int_int : GFun := ⟨49, [(.tmp 6), (.tmp 7)], (.seq (.region [⟨0, ⟨(some 6), none, (.pure .id), [(.const (.int .i64 0))]⟩, []⟩, ⟨0, ⟨(some 7), none, (.pure .id), [(.const (.bool false))]⟩, []⟩]) (.seq (.region [⟨0, ⟨(some 12), none, (.pure .id), [(.tmp 0)]⟩, []⟩, ⟨0, ⟨(some 13), none, (.pure .len), [(.tmp 12)]⟩, []⟩, ⟨0, ⟨(some 8), none, (.pure .id), [(.tmp 13)]⟩, []⟩]) (.seq (.region [⟨0, ⟨(some 14), none, (.pure .id), [(.tmp 8)]⟩, []⟩, ⟨0, ⟨(some 9), none, (.pure .id), [(.const (.int .i64 0))]⟩, []⟩, ⟨0, ⟨(some 10), none, (.pure .id), [(.tmp 14)]⟩, []⟩]) (.seq (.block 0 (.loop (.seq (.seq (.region [⟨0, ⟨(some 15), none, (.pure .id), [(.tmp 9)]⟩, []⟩, ⟨0, ⟨(some 16), none, (.pure .id), [(.tmp 10)]⟩, []⟩, ⟨0, ⟨(some 17), none, (.pure (.bin .lss .none)), [(.tmp 15), (.tmp 16)]⟩, []⟩]) (.cond (.tmp 17) .skip (.exit 0))) (.block 1 (.seq (.region [⟨0, ⟨(some 18), none, (.pure .id), [(.tmp 9)]⟩, []⟩, ⟨0, ⟨(some 19), none, (.pure .id), [(.tmp 10)]⟩, []⟩, ⟨0, ⟨(some 20), none, (.pure (.bin .add .none)), [(.tmp 18), (.tmp 19)]⟩, []⟩, ⟨0, ⟨(some 21), none, (.pure (.conv .u64)), [(.tmp 20)]⟩, []⟩, ⟨0, ⟨(some 22), none, (.pure (.bin .shr .none)), [(.tmp 21), (.const (.int .u64 1))]⟩, []⟩, ⟨0, ⟨(some 23), none, (.pure (.conv .i64)), [(.tmp 22)]⟩, []⟩, ⟨0, ⟨(some 11), none, (.pure .id), [(.tmp 23)]⟩, []⟩]) (.seq (.region [⟨0, ⟨(some 24), none, (.pure .id), [(.tmp 2)]⟩, []⟩, ⟨0, ⟨(some 25), none, (.pure .id), [(.tmp 0)]⟩, []⟩, ⟨0, ⟨(some 26), none, (.pure .id), [(.tmp 11)]⟩, []⟩, ⟨0, ⟨(some 27), none, (.pure (.iaddr 1)), [(.tmp 25), (.tmp 26)]⟩, []⟩, ⟨0, ⟨(some 28), none, (.load (.load 1 false)), [(.tmp 27)]⟩, []⟩, ⟨0, ⟨(some 29), none, (.pure .id), [(.tmp 1)]⟩, []⟩, ⟨0, ⟨(some 30), none, .callv, [(.tmp 24), (.tmp 28), (.tmp 29)]⟩, []⟩, ⟨0, ⟨(some 31), none, (.pure (.bin .lss .none)), [(.tmp 30), (.const (.int .i64 0))]⟩, []⟩]) (.cond (.tmp 31) (.region [⟨0, ⟨(some 32), none, (.pure .id), [(.tmp 11)]⟩, []⟩, ⟨0, ⟨(some 33), none, (.pure (.bin .add .none)), [(.tmp 32), (.const (.int .i64 1))]⟩, []⟩, ⟨0, ⟨(some 9), none, (.pure .id), [(.tmp 33)]⟩, []⟩]) (.region [⟨0, ⟨(some 34), none, (.pure .id), [(.tmp 11)]⟩, []⟩, ⟨0, ⟨(some 10), none, (.pure .id), [(.tmp 34)]⟩, []⟩])))))))) (.seq (.region [⟨0, ⟨(some 35), none, (.pure .id), [(.tmp 9)]⟩, []⟩, ⟨0, ⟨(some 36), none, (.pure .id), [(.tmp 9)]⟩, []⟩, ⟨0, ⟨(some 37), none, (.pure .id), [(.tmp 8)]⟩, []⟩, ⟨0, ⟨(some 38), none, (.pure (.bin .lss .none)), [(.tmp 36), (.tmp 37)]⟩, []⟩, ⟨0, ⟨(some 39), none, (.pure .id), [(.tmp 38)]⟩, []⟩, ⟨0, ⟨(some 40), (some (39, true)), (.pure .id), [(.tmp 2)]⟩, []⟩, ⟨0, ⟨(some 41), (some (39, true)), (.pure .id), [(.tmp 0)]⟩, []⟩, ⟨0, ⟨(some 42), (some (39, true)), (.pure .id), [(.tmp 9)]⟩, []⟩, ⟨0, ⟨(some 43), (some (39, true)), (.pure (.iaddr 1)), [(.tmp 41), (.tmp 42)]⟩, []⟩, ⟨0, ⟨(some 44), (some (39, true)), (.load (.load 1 false)), [(.tmp 43)]⟩, []⟩, ⟨0, ⟨(some 45), (some (39, true)), (.pure .id), [(.tmp 1)]⟩, []⟩, ⟨0, ⟨(some 46), (some (39, true)), .callv, [(.tmp 40), (.tmp 44), (.tmp 45)]⟩, []⟩, ⟨0, ⟨(some 47), (some (39, true)), (.pure (.bin .eql .none)), [(.tmp 46), (.const (.int .i64 0))]⟩, []⟩, ⟨0, ⟨(some 48), none, (.pure .pick), [(.tmp 39), (.tmp 47), (.const (.bool false))]⟩, []⟩, ⟨0, ⟨(some 6), none, (.pure .id), [(.tmp 35)]⟩, []⟩, ⟨0, ⟨(some 7), none, (.pure .id), [(.tmp 48)]⟩, []⟩]) .ret)))))⟩
theorem c_slices_BinarySearchFunc_int_int_int : compF Tryz.prog Tryz.f108 = some G_slices_BinarySearchFunc_int_int_int := by kernel_rfl
theorem gc_slices_BinarySearchFunc_int_int_int {args : List DV} {σ : GS} {Post : DV → GS → Prop} (h : @exB Tryz.prog ⟨G_slices_BinarySearchFunc_int_int_int.body⟩ (genv0 args G_slices_BinarySearchFunc_int_int_int.ntmps) σ ⟨@gretB G_slices_BinarySearchFunc_int_int_int.results ⟨Post⟩⟩) : GCall Tryz.prog F_slices_BinarySearchFunc_int_int_int args σ Post := gcall_ofB seatfollows Tryz.func108 (by kernel_rfl) c_slices_BinarySearchFunc_int_int_int h
noncomputable abbrev G_aig_Eval_1_1 : GFun := ⟨11, [(.tmp 4)], (.seq (.region [⟨0, ⟨(some 4), none, (.pure .id), [(.const (.int .i64 0))]⟩, []⟩]) (.seq (.region [⟨0, ⟨(some 5), none, (.pure .id), [(.tmp 0)]⟩, []⟩, ⟨0, ⟨(some 6), none, (.pure .id), [(.tmp 0)]⟩, []⟩, ⟨0, ⟨(some 7), none, (.pure (.un .neg)), [(.tmp 6)]⟩, []⟩, ⟨0, ⟨(some 8), none, (.pure .mx), [(.tmp 5), (.tmp 7)]⟩, []⟩, ⟨0, ⟨(some 9), none, (.pure .id), [(.tmp 1)]⟩, []⟩, ⟨0, ⟨(some 10), none, (.pure (.bin .sub .none)), [(.tmp 8), (.tmp 9)]⟩, []⟩, ⟨0, ⟨(some 4), none, (.pure .id), [(.tmp 10)]⟩, []⟩]) .ret))⟩
theorem c_aig_Eval_1_1 : compF Tryz.prog Tryz.f109 = some G_aig_Eval_1_1 := by kernel_rfl
theorem gc_aig_Eval_1_1 {args : List DV} {σ : GS} {Post : DV → GS → Prop} (h : @exB Tryz.prog ⟨G_aig_Eval_1_1.body⟩ (genv0 args G_aig_Eval_1_1.ntmps) σ ⟨@gretB G_aig_Eval_1_1.results ⟨Post⟩⟩) : GCall Tryz.prog F_aig_Eval_1_1 args σ Post := gcall_ofB seatfollows Tryz.func109 (by kernel_rfl) c_aig_Eval_1_1 h
noncomputable abbrev G_slices_Contains_int_int : GFun := ⟨9, [(.tmp 4)], (.seq (.region [⟨0, ⟨(some 4), none, (.pure .id), [(.const (.bool false))]⟩, []⟩]) (.seq (.region [⟨0, ⟨(some 5), none, (.pure .id), [(.tmp 0)]⟩, []⟩, ⟨0, ⟨(some 6), none, (.pure .id), [(.tmp 1)]⟩, []⟩, ⟨0, ⟨(some 7), none, (.call F_slices_Index_int_int), [(.tmp 5), (.tmp 6)]⟩, []⟩, ⟨0, ⟨(some 8), none, (.pure (.bin .geq .none)), [(.tmp 7), (.const (.int .i64 0))]⟩, []⟩, ⟨0, ⟨(some 4), none, (.pure .id), [(.tmp 8)]⟩, []⟩]) .ret))⟩
theorem c_slices_Contains_int_int : compF Tryz.prog Tryz.f110 = some G_slices_Contains_int_int := by kernel_rfl
theorem gc_slices_Contains_int_int {args : List DV} {σ : GS} {Post : DV → GS → Prop} (h : @exB Tryz.prog ⟨G_slices_Contains_int_int.body⟩ (genv0 args G_slices_Contains_int_int.ntmps) σ ⟨@gretB G_slices_Contains_int_int.results ⟨Post⟩⟩) : GCall Tryz.prog F_slices_Contains_int_int args σ Post := gcall_ofB seatfollows Tryz.func110 (by kernel_rfl) c_slices_Contains_int_int h
noncomputable abbrev G_slices_Index_int_int : GFun := ⟨19, [(.tmp 4)], (.seq (.region [⟨0, ⟨(some 4), none, (.pure .id), [(.const (.int .i64 0))]⟩, []⟩]) (.seq (.seq (.region [⟨0, ⟨(some 6), none, (.pure .id), [(.tmp 0)]⟩, []⟩, ⟨0, ⟨(some 7), none, (.pure .len), [(.tmp 6)]⟩, []⟩, ⟨0, ⟨(some 8), none, (.pure .id), [(.const (.int .i64 0))]⟩, []⟩]) (.block 0 (.loop (.seq (.region [⟨0, ⟨(some 9), none, (.pure (.bin .lss .none)), [(.tmp 8), (.tmp 7)]⟩, []⟩]) (.seq (.cond (.tmp 9) .skip (.exit 0)) (.seq (.block 1 (.seq (.region [⟨0, ⟨(some 10), none, (.pure .id), [(.tmp 8)]⟩, []⟩, ⟨0, ⟨(some 5), none, (.pure .id), [(.tmp 10)]⟩, []⟩]) (.seq (.region [⟨0, ⟨(some 11), none, (.pure .id), [(.tmp 1)]⟩, []⟩, ⟨0, ⟨(some 12), none, (.pure .id), [(.tmp 0)]⟩, []⟩, ⟨0, ⟨(some 13), none, (.pure .id), [(.tmp 5)]⟩, []⟩, ⟨0, ⟨(some 14), none, (.pure (.iaddr 1)), [(.tmp 12), (.tmp 13)]⟩, []⟩, ⟨0, ⟨(some 15), none, (.load (.load 1 false)), [(.tmp 14)]⟩, []⟩, ⟨0, ⟨(some 16), none, (.pure (.bin .eql .none)), [(.tmp 11), (.tmp 15)]⟩, []⟩]) (.cond (.tmp 16) (.seq (.region [⟨0, ⟨(some 17), none, (.pure .id), [(.tmp 5)]⟩, []⟩, ⟨0, ⟨(some 4), none, (.pure .id), [(.tmp 17)]⟩, []⟩]) .ret) .skip)))) (.region [⟨0, ⟨(some 18), none, (.pure (.bin .add .none)), [(.tmp 8), (.const (.int .i64 1))]⟩, []⟩, ⟨0, ⟨(some 8), none, (.pure .id), [(.tmp 18)]⟩, []⟩]))))))) (.seq (.region [⟨0, ⟨(some 4), none, (.pure .id), [(.const (.int .i64 (-1)))]⟩, []⟩]) .ret)))⟩
theorem c_slices_Index_int_int : compF Tryz.prog Tryz.f164 = some G_slices_Index_int_int := by kernel_rfl
theorem gc_slices_Index_int_int {args : List DV} {σ : GS} {Post : DV → GS → Prop} (h : @exB Tryz.prog ⟨G_slices_Index_int_int.body⟩ (genv0 args G_slices_Index_int_int.ntmps) σ ⟨@gretB G_slices_Index_int_int.results ⟨Post⟩⟩) : GCall Tryz.prog F_slices_Index_int_int args σ Post := gcall_ofB seatfollows Tryz.func164 (by kernel_rfl) c_slices_Index_int_int h
noncomputable abbrev G_aig_run : GFun := ⟨55, [], (.seq (.region [⟨0, ⟨(some 3), none, (.new .box), [(.tmp 0)]⟩, []⟩]) (.seq (.seq (.region [⟨0, ⟨(some 11), none, (.pure (.faddr 0)), [(.tmp 3)]⟩, []⟩, ⟨0, ⟨(some 12), none, (.load (.load 1 false)), [(.tmp 11)]⟩, []⟩, ⟨0, ⟨(some 13), none, (.pure .len), [(.tmp 12)]⟩, []⟩, ⟨0, ⟨(some 14), none, (.pure .id), [(.const (.int .i64 0))]⟩, []⟩]) (.block 0 (.loop (.seq (.region [⟨0, ⟨(some 15), none, (.pure (.bin .lss .none)), [(.tmp 14), (.tmp 13)]⟩, []⟩]) (.seq (.cond (.tmp 15) .skip (.exit 0)) (.seq (.block 1 (.seq (.region [⟨0, ⟨(some 16), none, (.pure .id), [(.tmp 14)]⟩, []⟩, ⟨0, ⟨(some 17), none, (.pure (.iaddr 1)), [(.tmp 12), (.tmp 14)]⟩, []⟩, ⟨0, ⟨(some 18), none, (.load (.load 1 false)), [(.tmp 17)]⟩, []⟩, ⟨0, ⟨(some 6), none, (.pure .id), [(.tmp 16)]⟩, []⟩, ⟨0, ⟨(some 7), none, (.pure .id), [(.tmp 18)]⟩, []⟩]) (.region [⟨0, ⟨(some 19), none, (.pure .id), [(.tmp 1)]⟩, []⟩, ⟨0, ⟨(some 20), none, (.pure .id), [(.tmp 6)]⟩, []⟩, ⟨0, ⟨(some 21), none, (.pure (.bin .add .none)), [(.tmp 20), (.const (.int .i64 1))]⟩, []⟩, ⟨0, ⟨(some 22), none, (.pure .id), [(.tmp 2)]⟩, []⟩, ⟨0, ⟨(some 23), none, (.pure .id), [(.tmp 7)]⟩, []⟩, ⟨0, ⟨(some 24), none, .callv, [(.tmp 22), (.tmp 23)]⟩, []⟩, ⟨0, ⟨(some 25), none, (.pure (.iaddr 1)), [(.tmp 19), (.tmp 21)]⟩, []⟩, ⟨0, ⟨none, none, (.imp (.store 1)), [(.tmp 25), (.tmp 24)]⟩, []⟩]))) (.region [⟨0, ⟨(some 26), none, (.pure (.bin .add .none)), [(.tmp 14), (.const (.int .i64 1))]⟩, []⟩, ⟨0, ⟨(some 14), none, (.pure .id), [(.tmp 26)]⟩, []⟩]))))))) (.seq (.region [⟨0, ⟨(some 27), none, (.pure (.faddr 0)), [(.tmp 3)]⟩, []⟩, ⟨0, ⟨(some 28), none, (.load (.load 1 false)), [(.tmp 27)]⟩, []⟩, ⟨0, ⟨(some 29), none, (.pure .len), [(.tmp 28)]⟩, []⟩, ⟨0, ⟨(some 30), none, (.pure (.bin .add .none)), [(.const (.int .i64 1)), (.tmp 29)]⟩, []⟩, ⟨0, ⟨(some 8), none, (.pure .id), [(.tmp 30)]⟩, []⟩]) (.seq (.region [⟨0, ⟨(some 31), none, (.pure (.faddr 1)), [(.tmp 3)]⟩, []⟩, ⟨0, ⟨(some 32), none, (.load (.load 1 false)), [(.tmp 31)]⟩, []⟩, ⟨0, ⟨(some 33), none, (.pure .len), [(.tmp 32)]⟩, []⟩, ⟨0, ⟨(some 34), none, (.pure .id), [(.const (.int .i64 0))]⟩, []⟩]) (.block 2 (.loop (.seq (.region [⟨0, ⟨(some 35), none, (.pure (.bin .lss .none)), [(.tmp 34), (.tmp 33)]⟩, []⟩]) (.seq (.cond (.tmp 35) .skip (.exit 2)) (.seq (.block 3 (.seq (.region [⟨0, ⟨(some 36), none, (.pure .id), [(.tmp 34)]⟩, []⟩, ⟨0, ⟨(some 37), none, (.pure (.iaddr 2)), [(.tmp 32), (.tmp 34)]⟩, []⟩, ⟨0, ⟨(some 38), none, (.load (.load 2 true)), [(.tmp 37)]⟩, []⟩, ⟨0, ⟨(some 10), none, (.new (.alloc [(.int .i64 0), (.int .i64 0)])), []⟩, []⟩, ⟨0, ⟨(some 9), none, (.pure .id), [(.tmp 36)]⟩, []⟩, ⟨0, ⟨none, none, (.imp (.store 2)), [(.tmp 10), (.tmp 38)]⟩, []⟩]) (.region [⟨0, ⟨(some 39), none, (.pure .id), [(.tmp 1)]⟩, []⟩, ⟨0, ⟨(some 40), none, (.pure .id), [(.tmp 8)]⟩, []⟩, ⟨0, ⟨(some 41), none, (.pure .id), [(.tmp 9)]⟩, []⟩, ⟨0, ⟨(some 42), none, (.pure (.bin .add .none)), [(.tmp 40), (.tmp 41)]⟩, []⟩, ⟨0, ⟨(some 43), none, (.pure .id), [(.tmp 1)]⟩, []⟩, ⟨0, ⟨(some 44), none, (.pure (.iarr 2 1)), [(.tmp 10), (.const (.int .i64 0))]⟩, []⟩, ⟨0, ⟨(some 45), none, (.load (.load 1 false)), [(.tmp 44)]⟩, []⟩, ⟨0, ⟨(some 46), none, (.call F_aig_value), [(.tmp 43), (.tmp 45)]⟩, []⟩, ⟨0, ⟨(some 47), none, (.pure .id), [(.tmp 46)]⟩, []⟩, ⟨0, ⟨(some 48), (some (47, true)), (.pure .id), [(.tmp 1)]⟩, []⟩, ⟨0, ⟨(some 49), (some (47, true)), (.pure (.iarr 2 1)), [(.tmp 10), (.const (.int .i64 1))]⟩, []⟩, ⟨0, ⟨(some 50), (some (47, true)), (.load (.load 1 false)), [(.tmp 49)]⟩, []⟩, ⟨0, ⟨(some 51), (some (47, true)), (.call F_aig_value), [(.tmp 48), (.tmp 50)]⟩, []⟩, ⟨0, ⟨(some 52), none, (.pure .pick), [(.tmp 47), (.tmp 51), (.const (.bool false))]⟩, []⟩, ⟨0, ⟨(some 53), none, (.pure (.iaddr 1)), [(.tmp 39), (.tmp 42)]⟩, []⟩, ⟨0, ⟨none, none, (.imp (.store 1)), [(.tmp 53), (.tmp 52)]⟩, []⟩]))) (.region [⟨0, ⟨(some 54), none, (.pure (.bin .add .none)), [(.tmp 34), (.const (.int .i64 1))]⟩, []⟩, ⟨0, ⟨(some 34), none, (.pure .id), [(.tmp 54)]⟩, []⟩]))))))))))⟩
theorem c_aig_run : compF Tryz.prog Tryz.f106 = some G_aig_run := by kernel_rfl
theorem gc_aig_run {args : List DV} {σ : GS} {Post : DV → GS → Prop} (h : @exB Tryz.prog ⟨G_aig_run.body⟩ (genv0 args G_aig_run.ntmps) σ ⟨@gretB G_aig_run.results ⟨Post⟩⟩) : GCall Tryz.prog F_aig_run args σ Post := gcall_ofB seatfollows Tryz.func106 (by kernel_rfl) c_aig_run h
noncomputable abbrev G_aig_value : GFun := ⟨14, [(.tmp 4)], (.seq (.region [⟨0, ⟨(some 4), none, (.pure .id), [(.const (.bool false))]⟩, []⟩]) (.seq (.region [⟨0, ⟨(some 5), none, (.pure .id), [(.tmp 0)]⟩, []⟩, ⟨0, ⟨(some 6), none, (.pure .id), [(.tmp 1)]⟩, []⟩, ⟨0, ⟨(some 7), none, (.pure (.bin .shr .none)), [(.tmp 6), (.const (.int .u64 1))]⟩, []⟩, ⟨0, ⟨(some 8), none, (.pure (.iaddr 1)), [(.tmp 5), (.tmp 7)]⟩, []⟩, ⟨0, ⟨(some 9), none, (.load (.load 1 false)), [(.tmp 8)]⟩, []⟩, ⟨0, ⟨(some 10), none, (.pure .id), [(.tmp 1)]⟩, []⟩, ⟨0, ⟨(some 11), none, (.pure (.bin .and .none)), [(.tmp 10), (.const (.int .i64 1))]⟩, []⟩, ⟨0, ⟨(some 12), none, (.pure (.bin .eql .none)), [(.tmp 11), (.const (.int .i64 1))]⟩, []⟩, ⟨0, ⟨(some 13), none, (.pure (.bin .neq .bool)), [(.tmp 9), (.tmp 12)]⟩, []⟩, ⟨0, ⟨(some 4), none, (.pure .id), [(.tmp 13)]⟩, []⟩]) .ret))⟩
theorem c_aig_value : compF Tryz.prog Tryz.f111 = some G_aig_value := by kernel_rfl
theorem gc_aig_value {args : List DV} {σ : GS} {Post : DV → GS → Prop} (h : @exB Tryz.prog ⟨G_aig_value.body⟩ (genv0 args G_aig_value.ntmps) σ ⟨@gretB G_aig_value.results ⟨Post⟩⟩) : GCall Tryz.prog F_aig_value args σ Post := gcall_ofB seatfollows Tryz.func111 (by kernel_rfl) c_aig_value h
noncomputable abbrev G_aig_Table : GFun := ⟨74, [(.tmp 6), (.tmp 7)], (.seq (.region [⟨0, ⟨(some 3), none, (.new .box), [(.tmp 0)]⟩, []⟩, ⟨0, ⟨(some 6), none, (.pure .id), [(.const .nils)]⟩, []⟩, ⟨0, ⟨(some 7), none, (.pure .id), [(.const (.int .i64 0))]⟩, []⟩]) (.seq (.region [⟨0, ⟨(some 16), none, (.new .mmap), []⟩, []⟩, ⟨0, ⟨(some 8), none, (.new (.alloc [.nilmap])), []⟩, []⟩, ⟨0, ⟨none, none, (.imp (.store 1)), [(.tmp 8), (.tmp 16)]⟩, []⟩]) (.seq (.seq (.region [⟨0, ⟨(some 17), none, (.pure .id), [(.tmp 2)]⟩, []⟩, ⟨0, ⟨(some 18), none, (.pure .len), [(.tmp 17)]⟩, []⟩, ⟨0, ⟨(some 19), none, (.pure .id), [(.const (.int .i64 0))]⟩, []⟩]) (.block 0 (.loop (.seq (.region [⟨0, ⟨(some 20), none, (.pure (.bin .lss .none)), [(.tmp 19), (.tmp 18)]⟩, []⟩]) (.seq (.cond (.tmp 20) .skip (.exit 0)) (.seq (.block 1 (.seq (.region [⟨0, ⟨(some 21), none, (.pure .id), [(.tmp 19)]⟩, []⟩, ⟨0, ⟨(some 22), none, (.pure (.iaddr 1)), [(.tmp 17), (.tmp 19)]⟩, []⟩, ⟨0, ⟨(some 23), none, (.load (.load 1 false)), [(.tmp 22)]⟩, []⟩, ⟨0, ⟨(some 9), none, (.pure .id), [(.tmp 21)]⟩, []⟩, ⟨0, ⟨(some 10), none, (.pure .id), [(.tmp 23)]⟩, []⟩]) (.seq (.seq (.region [⟨0, ⟨(some 25), none, (.load (.load 1 false)), [(.tmp 8)]⟩, []⟩, ⟨0, ⟨(some 26), none, (.pure .id), [(.tmp 10)]⟩, []⟩, ⟨0, ⟨(some 27), none, (.load (.lookup (.int .i64) (.int .i64 0) true)), [(.tmp 25), (.tmp 26)]⟩, []⟩, ⟨0, ⟨(some 24), none, (.pure .id), [(.tmp 27)]⟩, []⟩, ⟨0, ⟨(some 28), none, (.pure (.extract 0)), [(.tmp 24)]⟩, []⟩, ⟨0, ⟨(some 29), none, (.pure (.extract 1)), [(.tmp 24)]⟩, []⟩, ⟨0, ⟨(some 11), none, (.pure .id), [(.tmp 28)]⟩, []⟩, ⟨0, ⟨(some 12), none, (.pure .id), [(.tmp 29)]⟩, []⟩]) (.seq (.region [⟨0, ⟨(some 30), none, (.pure .id), [(.tmp 12)]⟩, []⟩, ⟨0, ⟨(some 31), none, (.pure .id), [(.tmp 30)]⟩, []⟩, ⟨0, ⟨(some 32), (some (31, false)), (.pure .id), [(.tmp 10)]⟩, []⟩, ⟨0, ⟨(some 33), (some (31, false)), (.call F_aig_variable), [(.tmp 32)]⟩, []⟩, ⟨0, ⟨(some 34), (some (31, false)), (.pure (.un .not)), [(.tmp 33)]⟩, []⟩, ⟨0, ⟨(some 35), none, (.pure .pick), [(.tmp 31), (.const (.bool true)), (.tmp 34)]⟩, []⟩]) (.cond (.tmp 35) (.seq (.region [⟨0, ⟨(some 6), none, (.pure .id), [(.const .nils)]⟩, []⟩, ⟨0, ⟨(some 7), none, (.pure .id), [(.const (.int .i64 2))]⟩, []⟩]) .ret) .skip))) (.region [⟨0, ⟨(some 36), none, (.load (.load 1 false)), [(.tmp 8)]⟩, []⟩, ⟨0, ⟨(some 37), none, (.pure .id), [(.tmp 10)]⟩, []⟩, ⟨0, ⟨(some 38), none, (.pure .id), [(.tmp 9)]⟩, []⟩, ⟨0, ⟨none, none, (.imp (.mset (.int .i64))), [(.tmp 36), (.tmp 37), (.tmp 38)]⟩, []⟩])))) (.region [⟨0, ⟨(some 39), none, (.pure (.bin .add .none)), [(.tmp 19), (.const (.int .i64 1))]⟩, []⟩, ⟨0, ⟨(some 19), none, (.pure .id), [(.tmp 39)]⟩, []⟩]))))))) (.seq (.block 2 (.seq (.region [⟨0, ⟨(some 41), none, (.load (.load 2 true)), [(.tmp 3)]⟩, []⟩, ⟨0, ⟨(some 42), none, (.pure .id), [(.tmp 1)]⟩, []⟩, ⟨0, ⟨(some 43), none, (.new (.bslice 1 [(.int .i64 0)] 1 [(0, 1)])), [(.tmp 42)]⟩, []⟩, ⟨0, ⟨(some 44), none, (.call F_aig_all), [(.tmp 41), (.tmp 43)]⟩, []⟩, ⟨0, ⟨(some 45), none, (.pure (.un .not)), [(.tmp 44)]⟩, []⟩, ⟨0, ⟨(some 40), none, (.pure .id), [(.tmp 45)]⟩, []⟩]) (.cond (.tmp 40) (.seq (.region [⟨0, ⟨(some 6), none, (.pure .id), [(.const .nils)]⟩, []⟩, ⟨0, ⟨(some 7), none, (.pure .id), [(.const (.int .i64 2))]⟩, []⟩]) .ret) (.seq (.region [⟨0, ⟨(some 47), none, (.pure .id), [(.tmp 2)]⟩, []⟩, ⟨0, ⟨(some 48), none, (.pure .len), [(.tmp 47)]⟩, []⟩, ⟨0, ⟨(some 49), none, (.pure (.bin .gtr .none)), [(.tmp 48), (.const (.int .i64 16))]⟩, []⟩, ⟨0, ⟨(some 46), none, (.pure .id), [(.tmp 49)]⟩, []⟩]) (.cond (.tmp 46) (.seq (.region [⟨0, ⟨(some 6), none, (.pure .id), [(.const .nils)]⟩, []⟩, ⟨0, ⟨(some 7), none, (.pure .id), [(.const (.int .i64 3))]⟩, []⟩]) .ret) .skip))))) (.seq (.region [⟨0, ⟨(some 50), none, (.pure .id), [(.tmp 2)]⟩, []⟩, ⟨0, ⟨(some 51), none, (.pure .len), [(.tmp 50)]⟩, []⟩, ⟨0, ⟨(some 52), none, (.pure (.bin .shl .none)), [(.const (.int .i64 1)), (.tmp 51)]⟩, []⟩, ⟨0, ⟨(some 53), none, (.new (.mslice 1 1 [(.bool false)])), [(.tmp 52), (.tmp 52)]⟩, []⟩, ⟨0, ⟨(some 13), none, (.pure .id), [(.tmp 53)]⟩, []⟩]) (.seq (.region [⟨0, ⟨(some 54), none, (.load (.load 2 true)), [(.tmp 3)]⟩, []⟩, ⟨0, ⟨(some 55), none, (.call F_aig_nodes), [(.tmp 54)]⟩, []⟩, ⟨0, ⟨(some 56), none, (.new (.mslice 1 1 [(.bool false)])), [(.tmp 55), (.tmp 55)]⟩, []⟩, ⟨0, ⟨(some 14), none, (.pure .id), [(.tmp 56)]⟩, []⟩]) (.seq (.seq (.region [⟨0, ⟨(some 57), none, (.pure .id), [(.tmp 13)]⟩, []⟩, ⟨0, ⟨(some 58), none, (.pure .len), [(.tmp 57)]⟩, []⟩, ⟨0, ⟨(some 59), none, (.pure .id), [(.const (.int .i64 0))]⟩, []⟩]) (.block 3 (.loop (.seq (.region [⟨0, ⟨(some 60), none, (.pure (.bin .lss .none)), [(.tmp 59), (.tmp 58)]⟩, []⟩]) (.seq (.cond (.tmp 60) .skip (.exit 3)) (.seq (.block 4 (.seq (.region [⟨0, ⟨(some 61), none, (.pure .id), [(.tmp 59)]⟩, []⟩, ⟨0, ⟨(some 15), none, (.new (.alloc [(.int .i64 0)])), []⟩, []⟩, ⟨0, ⟨none, none, (.imp (.store 1)), [(.tmp 15), (.tmp 61)]⟩, []⟩]) (.seq (.region [⟨0, ⟨(some 62), none, (.load (.load 2 true)), [(.tmp 3)]⟩, []⟩, ⟨0, ⟨(some 63), none, (.pure .id), [(.tmp 14)]⟩, []⟩, ⟨0, ⟨(some 64), none, (.pure (.mkfunc F_aig_Table_1 0)), [(.tmp 8), (.tmp 15)]⟩, []⟩, ⟨0, ⟨(some 65), none, (.call F_aig_run), [(.tmp 62), (.tmp 63), (.tmp 64)]⟩, []⟩]) (.region [⟨0, ⟨(some 66), none, (.pure .id), [(.tmp 13)]⟩, []⟩, ⟨1, ⟨(some 67), none, (.load (.load 1 false)), [(.tmp 15)]⟩, []⟩, ⟨2, ⟨(some 68), none, (.pure .id), [(.tmp 14)]⟩, []⟩, ⟨3, ⟨(some 69), none, (.pure .id), [(.tmp 1)]⟩, []⟩, ⟨4, ⟨(some 70), none, (.call F_aig_value), [(.tmp 68), (.tmp 69)]⟩, [⟨(some 67), none, (.load (.load 1 false)), [(.tmp 15)]⟩]⟩, ⟨5, ⟨(some 71), none, (.pure (.iaddr 1)), [(.tmp 66), (.tmp 67)]⟩, []⟩, ⟨6, ⟨none, none, (.imp (.store 1)), [(.tmp 71), (.tmp 70)]⟩, []⟩])))) (.region [⟨0, ⟨(some 72), none, (.pure (.bin .add .none)), [(.tmp 59), (.const (.int .i64 1))]⟩, []⟩, ⟨0, ⟨(some 59), none, (.pure .id), [(.tmp 72)]⟩, []⟩]))))))) (.seq (.region [⟨0, ⟨(some 73), none, (.pure .id), [(.tmp 13)]⟩, []⟩, ⟨0, ⟨(some 6), none, (.pure .id), [(.tmp 73)]⟩, []⟩, ⟨0, ⟨(some 7), none, (.pure .id), [(.const (.int .i64 0))]⟩, []⟩]) .ret))))))))⟩
theorem c_aig_Table : compF Tryz.prog Tryz.f41 = some G_aig_Table := by kernel_rfl
theorem gc_aig_Table {args : List DV} {σ : GS} {Post : DV → GS → Prop} (h : @exB Tryz.prog ⟨G_aig_Table.body⟩ (genv0 args G_aig_Table.ntmps) σ ⟨@gretB G_aig_Table.results ⟨Post⟩⟩) : GCall Tryz.prog F_aig_Table args σ Post := gcall_ofB seatfollows Tryz.func41 (by kernel_rfl) c_aig_Table h
noncomputable abbrev G_aig_Table_1 : GFun := ⟨21, [(.tmp 4)], (.seq (.region [⟨0, ⟨(some 4), none, (.pure .id), [(.const (.bool false))]⟩, []⟩]) (.seq (.region [⟨0, ⟨(some 8), none, (.load (.load 1 false)), [(.tmp 1)]⟩, []⟩, ⟨0, ⟨(some 9), none, (.pure .id), [(.tmp 0)]⟩, []⟩, ⟨0, ⟨(some 10), none, (.load (.lookup (.int .i64) (.int .i64 0) true)), [(.tmp 8), (.tmp 9)]⟩, []⟩, ⟨0, ⟨(some 7), none, (.pure .id), [(.tmp 10)]⟩, []⟩, ⟨0, ⟨(some 11), none, (.pure (.extract 0)), [(.tmp 7)]⟩, []⟩, ⟨0, ⟨(some 12), none, (.pure (.extract 1)), [(.tmp 7)]⟩, []⟩, ⟨0, ⟨(some 5), none, (.pure .id), [(.tmp 11)]⟩, []⟩, ⟨0, ⟨(some 6), none, (.pure .id), [(.tmp 12)]⟩, []⟩]) (.seq (.region [⟨0, ⟨(some 13), none, (.pure .id), [(.tmp 6)]⟩, []⟩, ⟨0, ⟨(some 14), none, (.pure .id), [(.tmp 13)]⟩, []⟩, ⟨0, ⟨(some 15), (some (14, true)), (.load (.load 1 false)), [(.tmp 2)]⟩, []⟩, ⟨0, ⟨(some 16), (some (14, true)), (.pure .id), [(.tmp 5)]⟩, []⟩, ⟨0, ⟨(some 17), (some (14, true)), (.pure (.bin .shr .none)), [(.tmp 15), (.tmp 16)]⟩, []⟩, ⟨0, ⟨(some 18), (some (14, true)), (.pure (.bin .and .none)), [(.tmp 17), (.const (.int .i64 1))]⟩, []⟩, ⟨0, ⟨(some 19), (some (14, true)), (.pure (.bin .eql .none)), [(.tmp 18), (.const (.int .i64 1))]⟩, []⟩, ⟨0, ⟨(some 20), none, (.pure .pick), [(.tmp 14), (.tmp 19), (.const (.bool false))]⟩, []⟩, ⟨0, ⟨(some 4), none, (.pure .id), [(.tmp 20)]⟩, []⟩]) .ret)))⟩
theorem c_aig_Table_1 : compF Tryz.prog Tryz.f116 = some G_aig_Table_1 := by kernel_rfl
theorem gc_aig_Table_1 {args : List DV} {σ : GS} {Post : DV → GS → Prop} (h : @exB Tryz.prog ⟨G_aig_Table_1.body⟩ (genv0 args G_aig_Table_1.ntmps) σ ⟨@gretB G_aig_Table_1.results ⟨Post⟩⟩) : GCall Tryz.prog F_aig_Table_1 args σ Post := gcall_ofB seatfollows Tryz.func116 (by kernel_rfl) c_aig_Table_1 h
noncomputable abbrev G_skolemref06_Eval : GFun := ⟨23, [(.tmp 6), (.tmp 7)], (.seq (.region [⟨0, ⟨(some 3), none, (.new .box), [(.tmp 0)]⟩, []⟩, ⟨0, ⟨(some 6), none, (.pure .id), [(.const (.bool false))]⟩, []⟩, ⟨0, ⟨(some 7), none, (.pure .id), [(.const (.int .i64 0))]⟩, []⟩]) (.seq (.seq (.region [⟨0, ⟨(some 8), none, (.load (.load 2 true)), [(.tmp 3)]⟩, []⟩, ⟨0, ⟨(some 9), none, (.pure .id), [(.tmp 1)]⟩, []⟩, ⟨0, ⟨(some 10), none, (.call F_skolemref06_Has), [(.tmp 8), (.tmp 9)]⟩, []⟩, ⟨0, ⟨(some 11), none, (.pure (.un .not)), [(.tmp 10)]⟩, []⟩, ⟨0, ⟨(some 12), none, (.pure .id), [(.tmp 11)]⟩, []⟩, ⟨0, ⟨(some 13), (some (12, false)), (.pure .id), [(.tmp 2)]⟩, []⟩, ⟨0, ⟨(some 14), (some (12, false)), (.call F_skolemref05_Normal), [(.tmp 13)]⟩, []⟩, ⟨0, ⟨(some 15), (some (12, false)), (.pure (.un .not)), [(.tmp 14)]⟩, []⟩, ⟨0, ⟨(some 16), none, (.pure .pick), [(.tmp 12), (.const (.bool true)), (.tmp 15)]⟩, []⟩]) (.cond (.tmp 16) (.seq (.region [⟨0, ⟨(some 6), none, (.pure .id), [(.const (.bool false))]⟩, []⟩, ⟨0, ⟨(some 7), none, (.pure .id), [(.const (.int .i64 2))]⟩, []⟩]) .ret) .skip)) (.seq (.region [⟨0, ⟨(some 17), none, (.load (.load 2 true)), [(.tmp 3)]⟩, []⟩, ⟨1, ⟨(some 18), none, (.pure .id), [(.tmp 2)]⟩, []⟩, ⟨4, ⟨(some 21), none, (.pure .id), [(.tmp 1)]⟩, []⟩, ⟨2, ⟨(some 19), none, (.call F_skolemref06_On), [(.tmp 18)]⟩, [⟨(some 17), none, (.load (.load 2 true)), [(.tmp 3)]⟩]⟩, ⟨3, ⟨(some 20), none, (.call F_skolemref06_All), [(.tmp 17), (.tmp 19)]⟩, []⟩, ⟨5, ⟨(some 22), none, (.call F_skolemref06_Of), [(.tmp 20), (.tmp 21)]⟩, []⟩, ⟨6, ⟨(some 6), none, (.pure .id), [(.tmp 22)]⟩, []⟩, ⟨7, ⟨(some 7), none, (.pure .id), [(.const (.int .i64 0))]⟩, []⟩]) .ret)))⟩
theorem c_skolemref06_Eval : compF Tryz.prog Tryz.f40 = some G_skolemref06_Eval := by kernel_rfl
theorem gc_skolemref06_Eval {args : List DV} {σ : GS} {Post : DV → GS → Prop} (h : @exB Tryz.prog ⟨G_skolemref06_Eval.body⟩ (genv0 args G_skolemref06_Eval.ntmps) σ ⟨@gretB G_skolemref06_Eval.results ⟨Post⟩⟩) : GCall Tryz.prog F_skolemref06_Eval args σ Post := gcall_ofB seatfollows Tryz.func40 (by kernel_rfl) c_skolemref06_Eval h
noncomputable abbrev G_skolemref06_Table : GFun := ⟨58, [(.tmp 6), (.tmp 7)], (.seq (.region [⟨0, ⟨(some 3), none, (.new .box), [(.tmp 0)]⟩, []⟩, ⟨0, ⟨(some 6), none, (.pure .id), [(.const .nils)]⟩, []⟩, ⟨0, ⟨(some 7), none, (.pure .id), [(.const (.int .i64 0))]⟩, []⟩]) (.seq (.seq (.region [⟨0, ⟨(some 12), none, (.load (.load 2 true)), [(.tmp 3)]⟩, []⟩, ⟨0, ⟨(some 13), none, (.pure .id), [(.tmp 1)]⟩, []⟩, ⟨0, ⟨(some 14), none, (.call F_skolemref06_Has), [(.tmp 12), (.tmp 13)]⟩, []⟩, ⟨0, ⟨(some 15), none, (.pure (.un .not)), [(.tmp 14)]⟩, []⟩, ⟨0, ⟨(some 16), none, (.pure .id), [(.tmp 15)]⟩, []⟩, ⟨0, ⟨(some 17), (some (16, false)), (.pure .id), [(.tmp 2)]⟩, []⟩, ⟨0, ⟨(some 18), (some (16, false)), (.call F_skolemref06_different), [(.tmp 17)]⟩, []⟩, ⟨0, ⟨(some 19), (some (16, false)), (.pure (.un .not)), [(.tmp 18)]⟩, []⟩, ⟨0, ⟨(some 20), none, (.pure .pick), [(.tmp 16), (.const (.bool true)), (.tmp 19)]⟩, []⟩]) (.cond (.tmp 20) (.seq (.region [⟨0, ⟨(some 6), none, (.pure .id), [(.const .nils)]⟩, []⟩, ⟨0, ⟨(some 7), none, (.pure .id), [(.const (.int .i64 2))]⟩, []⟩]) .ret) .skip)) (.seq (.seq (.region [⟨0, ⟨(some 21), none, (.pure .id), [(.tmp 2)]⟩, []⟩, ⟨0, ⟨(some 22), none, (.pure .len), [(.tmp 21)]⟩, []⟩, ⟨0, ⟨(some 23), none, (.pure (.bin .gtr .none)), [(.tmp 22), (.const (.int .i64 16))]⟩, []⟩]) (.cond (.tmp 23) (.seq (.region [⟨0, ⟨(some 6), none, (.pure .id), [(.const .nils)]⟩, []⟩, ⟨0, ⟨(some 7), none, (.pure .id), [(.const (.int .i64 3))]⟩, []⟩]) .ret) .skip)) (.seq (.region [⟨0, ⟨(some 8), none, (.pure .id), [(.const .nils)]⟩, []⟩]) (.seq (.region [⟨0, ⟨(some 24), none, (.new (.mslice 1 1 [(.bool false)])), [(.const (.int .i64 65537)), (.const (.int .i64 65537))]⟩, []⟩, ⟨0, ⟨(some 9), none, (.pure .id), [(.tmp 24)]⟩, []⟩]) (.seq (.seq (.region [⟨0, ⟨(some 10), none, (.pure .id), [(.const (.int .i64 0))]⟩, []⟩]) (.block 0 (.loop (.seq (.seq (.region [⟨0, ⟨(some 25), none, (.pure .id), [(.tmp 10)]⟩, []⟩, ⟨0, ⟨(some 26), none, (.pure .id), [(.tmp 2)]⟩, []⟩, ⟨0, ⟨(some 27), none, (.pure .len), [(.tmp 26)]⟩, []⟩, ⟨0, ⟨(some 28), none, (.pure (.bin .shl .none)), [(.const (.int .i64 1)), (.tmp 27)]⟩, []⟩, ⟨0, ⟨(some 29), none, (.pure (.bin .lss .none)), [(.tmp 25), (.tmp 28)]⟩, []⟩]) (.cond (.tmp 29) .skip (.exit 0))) (.seq (.block 1 (.seq (.seq (.region [⟨0, ⟨(some 11), none, (.pure .id), [(.const (.int .i64 0))]⟩, []⟩]) (.block 2 (.loop (.seq (.seq (.region [⟨0, ⟨(some 32), none, (.pure .id), [(.tmp 11)]⟩, []⟩, ⟨0, ⟨(some 33), none, (.pure .id), [(.tmp 2)]⟩, []⟩, ⟨0, ⟨(some 34), none, (.pure .len), [(.tmp 33)]⟩, []⟩, ⟨0, ⟨(some 35), none, (.pure (.bin .lss .none)), [(.tmp 32), (.tmp 34)]⟩, []⟩]) (.cond (.tmp 35) .skip (.exit 2))) (.seq (.block 3 (.region [⟨0, ⟨(some 38), none, (.pure .id), [(.tmp 9)]⟩, []⟩, ⟨1, ⟨(some 39), none, (.pure .id), [(.tmp 2)]⟩, []⟩, ⟨2, ⟨(some 40), none, (.pure .id), [(.tmp 11)]⟩, []⟩, ⟨3, ⟨(some 41), none, (.pure (.iaddr 1)), [(.tmp 39), (.tmp 40)]⟩, []⟩, ⟨4, ⟨(some 42), none, (.load (.load 1 false)), [(.tmp 41)]⟩, []⟩, ⟨5, ⟨(some 43), none, (.pure .id), [(.tmp 10)]⟩, []⟩, ⟨6, ⟨(some 44), none, (.pure .id), [(.tmp 11)]⟩, []⟩, ⟨7, ⟨(some 45), none, (.pure (.bin .shr .none)), [(.tmp 43), (.tmp 44)]⟩, []⟩, ⟨8, ⟨(some 46), none, (.pure (.bin .and .none)), [(.tmp 45), (.const (.int .i64 1))]⟩, []⟩, ⟨9, ⟨(some 47), none, (.pure (.bin .eql .none)), [(.tmp 46), (.const (.int .i64 1))]⟩, []⟩, ⟨10, ⟨(some 48), none, (.pure (.iaddr 1)), [(.tmp 38), (.tmp 42)]⟩, []⟩, ⟨11, ⟨none, none, (.imp (.store 1)), [(.tmp 48), (.tmp 47)]⟩, []⟩])) (.region [⟨0, ⟨(some 36), none, (.pure .id), [(.tmp 11)]⟩, []⟩, ⟨0, ⟨(some 37), none, (.pure (.bin .add .none)), [(.tmp 36), (.const (.int .i64 1))]⟩, []⟩, ⟨0, ⟨(some 11), none, (.pure .id), [(.tmp 37)]⟩, []⟩])))))) (.region [⟨0, ⟨(some 49), none, (.pure .id), [(.tmp 8)]⟩, []⟩, ⟨0, ⟨(some 50), none, (.load (.load 2 true)), [(.tmp 3)]⟩, []⟩, ⟨0, ⟨(some 51), none, (.pure .id), [(.tmp 9)]⟩, []⟩, ⟨0, ⟨(some 52), none, (.call F_skolemref06_All), [(.tmp 50), (.tmp 51)]⟩, []⟩, ⟨0, ⟨(some 53), none, (.pure .id), [(.tmp 1)]⟩, []⟩, ⟨0, ⟨(some 54), none, (.call F_skolemref06_Of), [(.tmp 52), (.tmp 53)]⟩, []⟩, ⟨0, ⟨(some 55), none, (.new (.bslice 1 [(.bool false)] 1 [(0, 1)])), [(.tmp 54)]⟩, []⟩, ⟨0, ⟨(some 56), none, (.imp (.append 1 1)), [(.tmp 49), (.tmp 55)]⟩, []⟩, ⟨0, ⟨(some 8), none, (.pure .id), [(.tmp 56)]⟩, []⟩]))) (.region [⟨0, ⟨(some 30), none, (.pure .id), [(.tmp 10)]⟩, []⟩, ⟨0, ⟨(some 31), none, (.pure (.bin .add .none)), [(.tmp 30), (.const (.int .i64 1))]⟩, []⟩, ⟨0, ⟨(some 10), none, (.pure .id), [(.tmp 31)]⟩, []⟩])))))) (.seq (.region [⟨0, ⟨(some 57), none, (.pure .id), [(.tmp 8)]⟩, []⟩, ⟨0, ⟨(some 6), none, (.pure .id), [(.tmp 57)]⟩, []⟩, ⟨0, ⟨(some 7), none, (.pure .id), [(.const (.int .i64 0))]⟩, []⟩]) .ret)))))))⟩
theorem c_skolemref06_Table : compF Tryz.prog Tryz.f42 = some G_skolemref06_Table := by kernel_rfl
theorem gc_skolemref06_Table {args : List DV} {σ : GS} {Post : DV → GS → Prop} (h : @exB Tryz.prog ⟨G_skolemref06_Table.body⟩ (genv0 args G_skolemref06_Table.ntmps) σ ⟨@gretB G_skolemref06_Table.results ⟨Post⟩⟩) : GCall Tryz.prog F_skolemref06_Table args σ Post := gcall_ofB seatfollows Tryz.func42 (by kernel_rfl) c_skolemref06_Table h
noncomputable abbrev G_skolemref06_All : GFun := ⟨64, [(.tmp 4)], (.seq (.region [⟨0, ⟨(some 2), none, (.new .box), [(.tmp 0)]⟩, []⟩, ⟨0, ⟨(some 4), none, (.pure .id), [(.const .nils)]⟩, []⟩]) (.seq (.region [⟨0, ⟨(some 8), none, (.load (.load 2 true)), [(.tmp 2)]⟩, []⟩, ⟨0, ⟨(some 9), none, (.call F_skolemref06_Nodes), [(.tmp 8)]⟩, []⟩, ⟨0, ⟨(some 10), none, (.new (.mslice 1 1 [(.bool false)])), [(.tmp 9), (.tmp 9)]⟩, []⟩, ⟨0, ⟨(some 5), none, (.pure .id), [(.tmp 10)]⟩, []⟩]) (.seq (.seq (.region [⟨0, ⟨(some 6), none, (.pure .id), [(.const (.int .i64 0))]⟩, []⟩]) (.block 0 (.loop (.seq (.seq (.region [⟨0, ⟨(some 11), none, (.pure .id), [(.tmp 6)]⟩, []⟩, ⟨0, ⟨(some 12), none, (.pure (.faddr 0)), [(.tmp 2)]⟩, []⟩, ⟨0, ⟨(some 13), none, (.load (.load 1 false)), [(.tmp 12)]⟩, []⟩, ⟨0, ⟨(some 14), none, (.pure .len), [(.tmp 13)]⟩, []⟩, ⟨0, ⟨(some 15), none, (.pure (.bin .lss .none)), [(.tmp 11), (.tmp 14)]⟩, []⟩]) (.cond (.tmp 15) .skip (.exit 0))) (.seq (.block 1 (.region [⟨0, ⟨(some 18), none, (.pure .id), [(.tmp 5)]⟩, []⟩, ⟨0, ⟨(some 19), none, (.pure .id), [(.tmp 6)]⟩, []⟩, ⟨0, ⟨(some 20), none, (.pure (.bin .add .none)), [(.tmp 19), (.const (.int .i64 1))]⟩, []⟩, ⟨0, ⟨(some 21), none, (.pure .id), [(.tmp 1)]⟩, []⟩, ⟨0, ⟨(some 22), none, (.pure (.faddr 0)), [(.tmp 2)]⟩, []⟩, ⟨0, ⟨(some 23), none, (.load (.load 1 false)), [(.tmp 22)]⟩, []⟩, ⟨0, ⟨(some 24), none, (.pure .id), [(.tmp 6)]⟩, []⟩, ⟨0, ⟨(some 25), none, (.pure (.iaddr 1)), [(.tmp 23), (.tmp 24)]⟩, []⟩, ⟨0, ⟨(some 26), none, (.load (.load 1 false)), [(.tmp 25)]⟩, []⟩, ⟨0, ⟨(some 27), none, (.pure (.iaddr 1)), [(.tmp 21), (.tmp 26)]⟩, []⟩, ⟨0, ⟨(some 28), none, (.load (.load 1 false)), [(.tmp 27)]⟩, []⟩, ⟨0, ⟨(some 29), none, (.pure (.iaddr 1)), [(.tmp 18), (.tmp 20)]⟩, []⟩, ⟨0, ⟨none, none, (.imp (.store 1)), [(.tmp 29), (.tmp 28)]⟩, []⟩])) (.region [⟨0, ⟨(some 16), none, (.pure .id), [(.tmp 6)]⟩, []⟩, ⟨0, ⟨(some 17), none, (.pure (.bin .add .none)), [(.tmp 16), (.const (.int .i64 1))]⟩, []⟩, ⟨0, ⟨(some 6), none, (.pure .id), [(.tmp 17)]⟩, []⟩])))))) (.seq (.seq (.region [⟨0, ⟨(some 7), none, (.pure .id), [(.const (.int .i64 0))]⟩, []⟩]) (.block 2 (.loop (.seq (.seq (.region [⟨0, ⟨(some 30), none, (.pure .id), [(.tmp 7)]⟩, []⟩, ⟨0, ⟨(some 31), none, (.pure (.faddr 1)), [(.tmp 2)]⟩, []⟩, ⟨0, ⟨(some 32), none, (.load (.load 1 false)), [(.tmp 31)]⟩, []⟩, ⟨0, ⟨(some 33), none, (.pure .len), [(.tmp 32)]⟩, []⟩, ⟨0, ⟨(some 34), none, (.pure (.bin .lss .none)), [(.tmp 30), (.tmp 33)]⟩, []⟩]) (.cond (.tmp 34) .skip (.exit 2))) (.seq (.block 3 (.region [⟨0, ⟨(some 37), none, (.pure .id), [(.tmp 5)]⟩, []⟩, ⟨1, ⟨(some 38), none, (.pure (.faddr 0)), [(.tmp 2)]⟩, []⟩, ⟨2, ⟨(some 39), none, (.load (.load 1 false)), [(.tmp 38)]⟩, []⟩, ⟨3, ⟨(some 40), none, (.pure .len), [(.tmp 39)]⟩, []⟩, ⟨4, ⟨(some 41), none, (.pure (.bin .add .none)), [(.const (.int .i64 1)), (.tmp 40)]⟩, []⟩, ⟨5, ⟨(some 42), none, (.pure .id), [(.tmp 7)]⟩, []⟩, ⟨6, ⟨(some 43), none, (.pure (.bin .add .none)), [(.tmp 41), (.tmp 42)]⟩, []⟩, ⟨7, ⟨(some 44), none, (.pure .id), [(.tmp 5)]⟩, []⟩, ⟨8, ⟨(some 45), none, (.pure (.faddr 1)), [(.tmp 2)]⟩, []⟩, ⟨9, ⟨(some 46), none, (.load (.load 1 false)), [(.tmp 45)]⟩, []⟩, ⟨10, ⟨(some 47), none, (.pure .id), [(.tmp 7)]⟩, []⟩, ⟨11, ⟨(some 48), none, (.pure (.iaddr 2)), [(.tmp 46), (.tmp 47)]⟩, []⟩, ⟨12, ⟨(some 49), none, (.pure (.iarr 2 1)), [(.tmp 48), (.const (.int .i64 0))]⟩, []⟩, ⟨13, ⟨(some 50), none, (.load (.load 1 false)), [(.tmp 49)]⟩, []⟩, ⟨14, ⟨(some 51), none, (.call F_skolemref06_Of), [(.tmp 44), (.tmp 50)]⟩, [⟨(some 39), none, (.load (.load 1 false)), [(.tmp 38)]⟩]⟩, ⟨15, ⟨(some 52), none, (.pure .id), [(.tmp 51)]⟩, []⟩, ⟨16, ⟨(some 53), (some (52, true)), (.pure .id), [(.tmp 5)]⟩, []⟩, ⟨17, ⟨(some 54), (some (52, true)), (.pure (.faddr 1)), [(.tmp 2)]⟩, []⟩, ⟨18, ⟨(some 55), (some (52, true)), (.load (.load 1 false)), [(.tmp 54)]⟩, []⟩, ⟨19, ⟨(some 56), (some (52, true)), (.pure .id), [(.tmp 7)]⟩, []⟩, ⟨20, ⟨(some 57), (some (52, true)), (.pure (.iaddr 2)), [(.tmp 55), (.tmp 56)]⟩, []⟩, ⟨21, ⟨(some 58), (some (52, true)), (.pure (.iarr 2 1)), [(.tmp 57), (.const (.int .i64 1))]⟩, []⟩, ⟨22, ⟨(some 59), (some (52, true)), (.load (.load 1 false)), [(.tmp 58)]⟩, []⟩, ⟨23, ⟨(some 60), (some (52, true)), (.call F_skolemref06_Of), [(.tmp 53), (.tmp 59)]⟩, [⟨(some 39), none, (.load (.load 1 false)), [(.tmp 38)]⟩]⟩, ⟨24, ⟨(some 61), none, (.pure .pick), [(.tmp 52), (.tmp 60), (.const (.bool false))]⟩, []⟩, ⟨25, ⟨(some 62), none, (.pure (.iaddr 1)), [(.tmp 37), (.tmp 43)]⟩, []⟩, ⟨26, ⟨none, none, (.imp (.store 1)), [(.tmp 62), (.tmp 61)]⟩, []⟩])) (.region [⟨0, ⟨(some 35), none, (.pure .id), [(.tmp 7)]⟩, []⟩, ⟨0, ⟨(some 36), none, (.pure (.bin .add .none)), [(.tmp 35), (.const (.int .i64 1))]⟩, []⟩, ⟨0, ⟨(some 7), none, (.pure .id), [(.tmp 36)]⟩, []⟩])))))) (.seq (.region [⟨0, ⟨(some 63), none, (.pure .id), [(.tmp 5)]⟩, []⟩, ⟨0, ⟨(some 4), none, (.pure .id), [(.tmp 63)]⟩, []⟩]) .ret)))))⟩
theorem c_skolemref06_All : compF Tryz.prog Tryz.f113 = some G_skolemref06_All := by kernel_rfl
theorem gc_skolemref06_All {args : List DV} {σ : GS} {Post : DV → GS → Prop} (h : @exB Tryz.prog ⟨G_skolemref06_All.body⟩ (genv0 args G_skolemref06_All.ntmps) σ ⟨@gretB G_skolemref06_All.results ⟨Post⟩⟩) : GCall Tryz.prog F_skolemref06_All args σ Post := gcall_ofB seatfollows Tryz.func113 (by kernel_rfl) c_skolemref06_All h
noncomputable abbrev G_skolemref06_Of : GFun := ⟨14, [(.tmp 4)], (.seq (.region [⟨0, ⟨(some 4), none, (.pure .id), [(.const (.bool false))]⟩, []⟩]) (.seq (.region [⟨0, ⟨(some 5), none, (.pure .id), [(.tmp 0)]⟩, []⟩, ⟨0, ⟨(some 6), none, (.pure .id), [(.tmp 1)]⟩, []⟩, ⟨0, ⟨(some 7), none, (.pure (.bin .quo .none)), [(.tmp 6), (.const (.int .i64 2))]⟩, []⟩, ⟨0, ⟨(some 8), none, (.pure (.iaddr 1)), [(.tmp 5), (.tmp 7)]⟩, []⟩, ⟨0, ⟨(some 9), none, (.load (.load 1 false)), [(.tmp 8)]⟩, []⟩, ⟨0, ⟨(some 10), none, (.pure .id), [(.tmp 1)]⟩, []⟩, ⟨0, ⟨(some 11), none, (.pure (.bin .rem .none)), [(.tmp 10), (.const (.int .i64 2))]⟩, []⟩, ⟨0, ⟨(some 12), none, (.pure (.bin .eql .none)), [(.tmp 11), (.const (.int .i64 1))]⟩, []⟩, ⟨0, ⟨(some 13), none, (.pure (.bin .neq .bool)), [(.tmp 9), (.tmp 12)]⟩, []⟩, ⟨0, ⟨(some 4), none, (.pure .id), [(.tmp 13)]⟩, []⟩]) .ret))⟩
theorem c_skolemref06_Of : compF Tryz.prog Tryz.f112 = some G_skolemref06_Of := by kernel_rfl
theorem gc_skolemref06_Of {args : List DV} {σ : GS} {Post : DV → GS → Prop} (h : @exB Tryz.prog ⟨G_skolemref06_Of.body⟩ (genv0 args G_skolemref06_Of.ntmps) σ ⟨@gretB G_skolemref06_Of.results ⟨Post⟩⟩) : GCall Tryz.prog F_skolemref06_Of args σ Post := gcall_ofB seatfollows Tryz.func112 (by kernel_rfl) c_skolemref06_Of h
noncomputable abbrev G_skolemref06_On : GFun := ⟨24, [(.tmp 2)], (.seq (.region [⟨0, ⟨(some 2), none, (.pure .id), [(.const .nils)]⟩, []⟩]) (.seq (.region [⟨0, ⟨(some 5), none, (.new (.mslice 1 1 [(.bool false)])), [(.const (.int .i64 65537)), (.const (.int .i64 65537))]⟩, []⟩, ⟨0, ⟨(some 3), none, (.pure .id), [(.tmp 5)]⟩, []⟩]) (.seq (.seq (.region [⟨0, ⟨(some 4), none, (.pure .id), [(.const (.int .i64 0))]⟩, []⟩]) (.block 0 (.loop (.seq (.seq (.region [⟨0, ⟨(some 6), none, (.pure .id), [(.tmp 4)]⟩, []⟩, ⟨0, ⟨(some 7), none, (.pure .id), [(.tmp 0)]⟩, []⟩, ⟨0, ⟨(some 8), none, (.pure .len), [(.tmp 7)]⟩, []⟩, ⟨0, ⟨(some 9), none, (.pure (.bin .lss .none)), [(.tmp 6), (.tmp 8)]⟩, []⟩]) (.cond (.tmp 9) .skip (.exit 0))) (.seq (.block 1 (.seq (.region [⟨0, ⟨(some 12), none, (.pure .id), [(.tmp 0)]⟩, []⟩, ⟨0, ⟨(some 13), none, (.pure .id), [(.tmp 4)]⟩, []⟩, ⟨0, ⟨(some 14), none, (.pure (.iaddr 1)), [(.tmp 12), (.tmp 13)]⟩, []⟩, ⟨0, ⟨(some 15), none, (.load (.load 1 false)), [(.tmp 14)]⟩, []⟩, ⟨0, ⟨(some 16), none, (.pure (.bin .gtr .none)), [(.tmp 15), (.const (.int .i64 0))]⟩, []⟩]) (.cond (.tmp 16) (.region [⟨0, ⟨(some 17), none, (.pure .id), [(.tmp 3)]⟩, []⟩, ⟨0, ⟨(some 18), none, (.pure .id), [(.tmp 0)]⟩, []⟩, ⟨0, ⟨(some 19), none, (.pure .id), [(.tmp 4)]⟩, []⟩, ⟨0, ⟨(some 20), none, (.pure (.iaddr 1)), [(.tmp 18), (.tmp 19)]⟩, []⟩, ⟨0, ⟨(some 21), none, (.load (.load 1 false)), [(.tmp 20)]⟩, []⟩, ⟨0, ⟨(some 22), none, (.pure (.iaddr 1)), [(.tmp 17), (.tmp 21)]⟩, []⟩, ⟨0, ⟨none, none, (.imp (.store 1)), [(.tmp 22), (.const (.bool true))]⟩, []⟩]) .skip))) (.region [⟨0, ⟨(some 10), none, (.pure .id), [(.tmp 4)]⟩, []⟩, ⟨0, ⟨(some 11), none, (.pure (.bin .add .none)), [(.tmp 10), (.const (.int .i64 1))]⟩, []⟩, ⟨0, ⟨(some 4), none, (.pure .id), [(.tmp 11)]⟩, []⟩])))))) (.seq (.region [⟨0, ⟨(some 23), none, (.pure .id), [(.tmp 3)]⟩, []⟩, ⟨0, ⟨(some 2), none, (.pure .id), [(.tmp 23)]⟩, []⟩]) .ret))))⟩
theorem c_skolemref06_On : compF Tryz.prog Tryz.f114 = some G_skolemref06_On := by kernel_rfl
theorem gc_skolemref06_On {args : List DV} {σ : GS} {Post : DV → GS → Prop} (h : @exB Tryz.prog ⟨G_skolemref06_On.body⟩ (genv0 args G_skolemref06_On.ntmps) σ ⟨@gretB G_skolemref06_On.results ⟨Post⟩⟩) : GCall Tryz.prog F_skolemref06_On args σ Post := gcall_ofB seatfollows Tryz.func114 (by kernel_rfl) c_skolemref06_On h
noncomputable abbrev G_skolemref06_different : GFun := ⟨39, [(.tmp 2)], (.seq (.region [⟨0, ⟨(some 2), none, (.pure .id), [(.const (.bool false))]⟩, []⟩]) (.seq (.region [⟨0, ⟨(some 5), none, (.new (.mslice 1 1 [(.bool false)])), [(.const (.int .i64 65537)), (.const (.int .i64 65537))]⟩, []⟩, ⟨0, ⟨(some 3), none, (.pure .id), [(.tmp 5)]⟩, []⟩]) (.seq (.seq (.region [⟨0, ⟨(some 4), none, (.pure .id), [(.const (.int .i64 0))]⟩, []⟩]) (.block 0 (.loop (.seq (.seq (.region [⟨0, ⟨(some 6), none, (.pure .id), [(.tmp 4)]⟩, []⟩, ⟨0, ⟨(some 7), none, (.pure .id), [(.tmp 0)]⟩, []⟩, ⟨0, ⟨(some 8), none, (.pure .len), [(.tmp 7)]⟩, []⟩, ⟨0, ⟨(some 9), none, (.pure (.bin .lss .none)), [(.tmp 6), (.tmp 8)]⟩, []⟩]) (.cond (.tmp 9) .skip (.exit 0))) (.seq (.block 1 (.seq (.seq (.region [⟨0, ⟨(some 12), none, (.pure .id), [(.tmp 0)]⟩, []⟩, ⟨0, ⟨(some 13), none, (.pure .id), [(.tmp 4)]⟩, []⟩, ⟨0, ⟨(some 14), none, (.pure (.iaddr 1)), [(.tmp 12), (.tmp 13)]⟩, []⟩, ⟨0, ⟨(some 15), none, (.load (.load 1 false)), [(.tmp 14)]⟩, []⟩, ⟨0, ⟨(some 16), none, (.pure (.bin .lss .none)), [(.tmp 15), (.const (.int .i64 1))]⟩, []⟩, ⟨0, ⟨(some 17), none, (.pure .id), [(.tmp 16)]⟩, []⟩, ⟨0, ⟨(some 18), (some (17, false)), (.pure .id), [(.tmp 0)]⟩, []⟩, ⟨0, ⟨(some 19), (some (17, false)), (.pure .id), [(.tmp 4)]⟩, []⟩, ⟨0, ⟨(some 20), (some (17, false)), (.pure (.iaddr 1)), [(.tmp 18), (.tmp 19)]⟩, []⟩, ⟨0, ⟨(some 21), (some (17, false)), (.load (.load 1 false)), [(.tmp 20)]⟩, []⟩, ⟨0, ⟨(some 22), (some (17, false)), (.pure (.bin .gtr .none)), [(.tmp 21), (.const (.int .i64 65536))]⟩, []⟩, ⟨0, ⟨(some 23), none, (.pure .pick), [(.tmp 17), (.const (.bool true)), (.tmp 22)]⟩, []⟩, ⟨0, ⟨(some 24), none, (.pure .id), [(.tmp 23)]⟩, []⟩, ⟨0, ⟨(some 25), (some (24, false)), (.pure .id), [(.tmp 3)]⟩, []⟩, ⟨0, ⟨(some 26), (some (24, false)), (.pure .id), [(.tmp 0)]⟩, []⟩, ⟨0, ⟨(some 27), (some (24, false)), (.pure .id), [(.tmp 4)]⟩, []⟩, ⟨0, ⟨(some 28), (some (24, false)), (.pure (.iaddr 1)), [(.tmp 26), (.tmp 27)]⟩, []⟩, ⟨0, ⟨(some 29), (some (24, false)), (.load (.load 1 false)), [(.tmp 28)]⟩, []⟩, ⟨0, ⟨(some 30), (some (24, false)), (.pure (.iaddr 1)), [(.tmp 25), (.tmp 29)]⟩, []⟩, ⟨0, ⟨(some 31), (some (24, false)), (.load (.load 1 false)), [(.tmp 30)]⟩, []⟩, ⟨0, ⟨(some 32), none, (.pure .pick), [(.tmp 24), (.const (.bool true)), (.tmp 31)]⟩, []⟩]) (.cond (.tmp 32) (.seq (.region [⟨0, ⟨(some 2), none, (.pure .id), [(.const (.bool false))]⟩, []⟩]) .ret) .skip)) (.region [⟨0, ⟨(some 33), none, (.pure .id), [(.tmp 3)]⟩, []⟩, ⟨0, ⟨(some 34), none, (.pure .id), [(.tmp 0)]⟩, []⟩, ⟨0, ⟨(some 35), none, (.pure .id), [(.tmp 4)]⟩, []⟩, ⟨0, ⟨(some 36), none, (.pure (.iaddr 1)), [(.tmp 34), (.tmp 35)]⟩, []⟩, ⟨0, ⟨(some 37), none, (.load (.load 1 false)), [(.tmp 36)]⟩, []⟩, ⟨0, ⟨(some 38), none, (.pure (.iaddr 1)), [(.tmp 33), (.tmp 37)]⟩, []⟩, ⟨0, ⟨none, none, (.imp (.store 1)), [(.tmp 38), (.const (.bool true))]⟩, []⟩]))) (.region [⟨0, ⟨(some 10), none, (.pure .id), [(.tmp 4)]⟩, []⟩, ⟨0, ⟨(some 11), none, (.pure (.bin .add .none)), [(.tmp 10), (.const (.int .i64 1))]⟩, []⟩, ⟨0, ⟨(some 4), none, (.pure .id), [(.tmp 11)]⟩, []⟩])))))) (.seq (.region [⟨0, ⟨(some 2), none, (.pure .id), [(.const (.bool true))]⟩, []⟩]) .ret))))⟩
theorem c_skolemref06_different : compF Tryz.prog Tryz.f117 = some G_skolemref06_different := by kernel_rfl
theorem gc_skolemref06_different {args : List DV} {σ : GS} {Post : DV → GS → Prop} (h : @exB Tryz.prog ⟨G_skolemref06_different.body⟩ (genv0 args G_skolemref06_different.ntmps) σ ⟨@gretB G_skolemref06_different.results ⟨Post⟩⟩) : GCall Tryz.prog F_skolemref06_different args σ Post := gcall_ofB seatfollows Tryz.func117 (by kernel_rfl) c_skolemref06_different h
noncomputable abbrev G_skolemlaw06_bools : GFun := ⟨26, [(.tmp 4)], (.seq (.region [⟨0, ⟨(some 4), none, (.pure .id), [(.const (.bool false))]⟩, []⟩]) (.seq (.seq (.region [⟨0, ⟨(some 6), none, (.pure .id), [(.tmp 0)]⟩, []⟩, ⟨0, ⟨(some 7), none, (.pure .len), [(.tmp 6)]⟩, []⟩, ⟨0, ⟨(some 8), none, (.pure .id), [(.tmp 1)]⟩, []⟩, ⟨0, ⟨(some 9), none, (.pure .len), [(.tmp 8)]⟩, []⟩, ⟨0, ⟨(some 10), none, (.pure (.bin .neq .none)), [(.tmp 7), (.tmp 9)]⟩, []⟩]) (.cond (.tmp 10) (.seq (.region [⟨0, ⟨(some 4), none, (.pure .id), [(.const (.bool false))]⟩, []⟩]) .ret) .skip)) (.seq (.seq (.region [⟨0, ⟨(some 11), none, (.pure .id), [(.tmp 0)]⟩, []⟩, ⟨0, ⟨(some 12), none, (.pure .len), [(.tmp 11)]⟩, []⟩, ⟨0, ⟨(some 13), none, (.pure .id), [(.const (.int .i64 0))]⟩, []⟩]) (.block 0 (.loop (.seq (.region [⟨0, ⟨(some 14), none, (.pure (.bin .lss .none)), [(.tmp 13), (.tmp 12)]⟩, []⟩]) (.seq (.cond (.tmp 14) .skip (.exit 0)) (.seq (.block 1 (.seq (.region [⟨0, ⟨(some 15), none, (.pure .id), [(.tmp 13)]⟩, []⟩, ⟨0, ⟨(some 5), none, (.pure .id), [(.tmp 15)]⟩, []⟩]) (.seq (.region [⟨0, ⟨(some 16), none, (.pure .id), [(.tmp 0)]⟩, []⟩, ⟨1, ⟨(some 17), none, (.pure .id), [(.tmp 5)]⟩, []⟩, ⟨2, ⟨(some 18), none, (.pure (.iaddr 1)), [(.tmp 16), (.tmp 17)]⟩, []⟩, ⟨3, ⟨(some 19), none, (.load (.load 1 false)), [(.tmp 18)]⟩, []⟩, ⟨4, ⟨(some 20), none, (.pure .id), [(.tmp 1)]⟩, []⟩, ⟨5, ⟨(some 21), none, (.pure .id), [(.tmp 5)]⟩, []⟩, ⟨6, ⟨(some 22), none, (.pure (.iaddr 1)), [(.tmp 20), (.tmp 21)]⟩, []⟩, ⟨7, ⟨(some 23), none, (.load (.load 1 false)), [(.tmp 22)]⟩, []⟩, ⟨8, ⟨(some 24), none, (.pure (.bin .neq .bool)), [(.tmp 19), (.tmp 23)]⟩, []⟩]) (.cond (.tmp 24) (.seq (.region [⟨0, ⟨(some 4), none, (.pure .id), [(.const (.bool false))]⟩, []⟩]) .ret) .skip)))) (.region [⟨0, ⟨(some 25), none, (.pure (.bin .add .none)), [(.tmp 13), (.const (.int .i64 1))]⟩, []⟩, ⟨0, ⟨(some 13), none, (.pure .id), [(.tmp 25)]⟩, []⟩]))))))) (.seq (.region [⟨0, ⟨(some 4), none, (.pure .id), [(.const (.bool true))]⟩, []⟩]) .ret))))⟩
theorem c_skolemlaw06_bools : compF Tryz.prog Tryz.f43 = some G_skolemlaw06_bools := by kernel_rfl
theorem gc_skolemlaw06_bools {args : List DV} {σ : GS} {Post : DV → GS → Prop} (h : @exB Tryz.prog ⟨G_skolemlaw06_bools.body⟩ (genv0 args G_skolemlaw06_bools.ntmps) σ ⟨@gretB G_skolemlaw06_bools.results ⟨Post⟩⟩) : GCall Tryz.prog F_skolemlaw06_bools args σ Post := gcall_ofB seatfollows Tryz.func43 (by kernel_rfl) c_skolemlaw06_bools h
noncomputable abbrev G_skolemlaw06_AigValues : GFun := ⟨90, [(.tmp 8)], (.seq (.region [⟨0, ⟨(some 4), none, (.new .box), [(.tmp 0)]⟩, []⟩, ⟨0, ⟨(some 8), none, (.pure .id), [(.const (.bool false))]⟩, []⟩]) (.seq (.seq (.region [⟨0, ⟨(some 17), none, (.load (.load 2 true)), [(.tmp 4)]⟩, []⟩, ⟨0, ⟨(some 18), none, (.new (.bslice 2 [.nils, .nils] 1 [(0, 2)])), [(.tmp 17)]⟩, []⟩, ⟨0, ⟨(some 19), none, (.call F_skolemlaw06_great), [(.tmp 18)]⟩, []⟩, ⟨0, ⟨(some 20), none, (.pure .id), [(.tmp 19)]⟩, []⟩, ⟨0, ⟨(some 21), (some (20, false)), (.pure .id), [(.tmp 2)]⟩, []⟩, ⟨0, ⟨(some 22), (some (20, false)), (.pure .len), [(.tmp 21)]⟩, []⟩, ⟨0, ⟨(some 23), (some (20, false)), (.pure (.bin .gtr .none)), [(.tmp 22), (.const (.int .i64 200))]⟩, []⟩, ⟨0, ⟨(some 24), none, (.pure .pick), [(.tmp 20), (.const (.bool true)), (.tmp 23)]⟩, []⟩, ⟨0, ⟨(some 25), none, (.pure .id), [(.tmp 24)]⟩, []⟩, ⟨0, ⟨(some 26), (some (25, false)), (.pure .id), [(.tmp 3)]⟩, []⟩, ⟨0, ⟨(some 27), (some (25, false)), (.pure .len), [(.tmp 26)]⟩, []⟩, ⟨0, ⟨(some 28), (some (25, false)), (.pure (.bin .gtr .none)), [(.tmp 27), (.const (.int .i64 200))]⟩, []⟩, ⟨0, ⟨(some 29), none, (.pure .pick), [(.tmp 25), (.const (.bool true)), (.tmp 28)]⟩, []⟩]) (.cond (.tmp 29) (.seq (.region [⟨0, ⟨(some 30), none, (.call F_skolemlaw06_works), []⟩, []⟩, ⟨0, ⟨(some 8), none, (.pure .id), [(.tmp 30)]⟩, []⟩]) .ret) .skip)) (.seq (.seq (.region [⟨0, ⟨(some 31), none, (.pure .id), [(.tmp 3)]⟩, []⟩, ⟨0, ⟨(some 32), none, (.pure .len), [(.tmp 31)]⟩, []⟩, ⟨0, ⟨(some 33), none, (.pure (.bin .gtr .none)), [(.tmp 32), (.const (.int .i64 8))]⟩, []⟩, ⟨0, ⟨(some 34), none, (.pure .id), [(.tmp 33)]⟩, []⟩, ⟨0, ⟨(some 35), (some (34, true)), (.pure .id), [(.tmp 3)]⟩, []⟩, ⟨0, ⟨(some 36), (some (34, true)), (.pure .len), [(.tmp 35)]⟩, []⟩, ⟨0, ⟨(some 37), (some (34, true)), (.pure (.bin .leq .none)), [(.tmp 36), (.const (.int .i64 16))]⟩, []⟩, ⟨0, ⟨(some 38), none, (.pure .pick), [(.tmp 34), (.tmp 37), (.const (.bool false))]⟩, []⟩]) (.cond (.tmp 38) (.region [⟨0, ⟨(some 39), none, (.pure .id), [(.tmp 3)]⟩, []⟩, ⟨0, ⟨(some 40), none, (.pure (.slice 1 false true false)), [(.tmp 39), (.const (.int .i64 8))]⟩, []⟩, ⟨0, ⟨(some 3), none, (.pure .id), [(.tmp 40)]⟩, []⟩]) .skip)) (.seq (.region [⟨0, ⟨(some 42), none, (.load (.load 2 true)), [(.tmp 4)]⟩, []⟩, ⟨0, ⟨(some 43), none, (.pure .id), [(.tmp 1)]⟩, []⟩, ⟨0, ⟨(some 44), none, (.pure .id), [(.tmp 2)]⟩, []⟩, ⟨0, ⟨(some 45), none, (.call F_aig_Eval), [(.tmp 42), (.tmp 43), (.tmp 44)]⟩, []⟩, ⟨0, ⟨(some 41), none, (.pure .id), [(.tmp 45)]⟩, []⟩, ⟨0, ⟨(some 46), none, (.pure (.extract 0)), [(.tmp 41)]⟩, []⟩, ⟨0, ⟨(some 47), none, (.pure (.extract 1)), [(.tmp 41)]⟩, []⟩, ⟨0, ⟨(some 9), none, (.pure .id), [(.tmp 46)]⟩, []⟩, ⟨0, ⟨(some 10), none, (.pure .id), [(.tmp 47)]⟩, []⟩]) (.seq (.region [⟨0, ⟨(some 49), none, (.load (.load 2 true)), [(.tmp 4)]⟩, []⟩, ⟨0, ⟨(some 50), none, (.pure .id), [(.tmp 1)]⟩, []⟩, ⟨0, ⟨(some 51), none, (.pure .id), [(.tmp 2)]⟩, []⟩, ⟨0, ⟨(some 52), none, (.call F_skolemref06_Eval), [(.tmp 49), (.tmp 50), (.tmp 51)]⟩, []⟩, ⟨0, ⟨(some 48), none, (.pure .id), [(.tmp 52)]⟩, []⟩, ⟨0, ⟨(some 53), none, (.pure (.extract 0)), [(.tmp 48)]⟩, []⟩, ⟨0, ⟨(some 54), none, (.pure (.extract 1)), [(.tmp 48)]⟩, []⟩, ⟨0, ⟨(some 11), none, (.pure .id), [(.tmp 53)]⟩, []⟩, ⟨0, ⟨(some 12), none, (.pure .id), [(.tmp 54)]⟩, []⟩]) (.seq (.region [⟨0, ⟨(some 56), none, (.load (.load 2 true)), [(.tmp 4)]⟩, []⟩, ⟨0, ⟨(some 57), none, (.pure .id), [(.tmp 1)]⟩, []⟩, ⟨0, ⟨(some 58), none, (.pure .id), [(.tmp 3)]⟩, []⟩, ⟨0, ⟨(some 59), none, (.call F_aig_Table), [(.tmp 56), (.tmp 57), (.tmp 58)]⟩, []⟩, ⟨0, ⟨(some 55), none, (.pure .id), [(.tmp 59)]⟩, []⟩, ⟨0, ⟨(some 60), none, (.pure (.extract 0)), [(.tmp 55)]⟩, []⟩, ⟨0, ⟨(some 61), none, (.pure (.extract 1)), [(.tmp 55)]⟩, []⟩, ⟨0, ⟨(some 13), none, (.pure .id), [(.tmp 60)]⟩, []⟩, ⟨0, ⟨(some 14), none, (.pure .id), [(.tmp 61)]⟩, []⟩]) (.seq (.region [⟨0, ⟨(some 63), none, (.load (.load 2 true)), [(.tmp 4)]⟩, []⟩, ⟨0, ⟨(some 64), none, (.pure .id), [(.tmp 1)]⟩, []⟩, ⟨0, ⟨(some 65), none, (.pure .id), [(.tmp 3)]⟩, []⟩, ⟨0, ⟨(some 66), none, (.call F_skolemref06_Table), [(.tmp 63), (.tmp 64), (.tmp 65)]⟩, []⟩, ⟨0, ⟨(some 62), none, (.pure .id), [(.tmp 66)]⟩, []⟩, ⟨0, ⟨(some 67), none, (.pure (.extract 0)), [(.tmp 62)]⟩, []⟩, ⟨0, ⟨(some 68), none, (.pure (.extract 1)), [(.tmp 62)]⟩, []⟩, ⟨0, ⟨(some 15), none, (.pure .id), [(.tmp 67)]⟩, []⟩, ⟨0, ⟨(some 16), none, (.pure .id), [(.tmp 68)]⟩, []⟩]) (.seq (.region [⟨0, ⟨(some 69), none, (.pure .id), [(.tmp 9)]⟩, []⟩, ⟨0, ⟨(some 70), none, (.pure .id), [(.tmp 11)]⟩, []⟩, ⟨0, ⟨(some 71), none, (.pure (.bin .eql .bool)), [(.tmp 69), (.tmp 70)]⟩, []⟩, ⟨0, ⟨(some 72), none, (.pure .id), [(.tmp 71)]⟩, []⟩, ⟨0, ⟨(some 73), (some (72, true)), (.pure .id), [(.tmp 10)]⟩, []⟩, ⟨0, ⟨(some 74), (some (72, true)), (.pure .id), [(.tmp 12)]⟩, []⟩, ⟨0, ⟨(some 75), (some (72, true)), (.pure (.bin .eql .none)), [(.tmp 73), (.tmp 74)]⟩, []⟩, ⟨0, ⟨(some 76), none, (.pure .pick), [(.tmp 72), (.tmp 75), (.const (.bool false))]⟩, []⟩, ⟨0, ⟨(some 77), none, (.pure .id), [(.tmp 76)]⟩, []⟩, ⟨0, ⟨(some 78), (some (77, true)), (.pure .id), [(.tmp 13)]⟩, []⟩, ⟨0, ⟨(some 79), (some (77, true)), (.pure .id), [(.tmp 15)]⟩, []⟩, ⟨0, ⟨(some 80), (some (77, true)), (.call F_skolemlaw06_bools), [(.tmp 78), (.tmp 79)]⟩, []⟩, ⟨0, ⟨(some 81), none, (.pure .pick), [(.tmp 77), (.tmp 80), (.const (.bool false))]⟩, []⟩, ⟨0, ⟨(some 82), none, (.pure .id), [(.tmp 81)]⟩, []⟩, ⟨0, ⟨(some 83), (some (82, true)), (.pure .id), [(.tmp 14)]⟩, []⟩, ⟨0, ⟨(some 84), (some (82, true)), (.pure .id), [(.tmp 16)]⟩, []⟩, ⟨0, ⟨(some 85), (some (82, true)), (.pure (.bin .eql .none)), [(.tmp 83), (.tmp 84)]⟩, []⟩, ⟨0, ⟨(some 86), none, (.pure .pick), [(.tmp 82), (.tmp 85), (.const (.bool false))]⟩, []⟩, ⟨0, ⟨(some 87), none, (.pure .id), [(.tmp 86)]⟩, []⟩, ⟨0, ⟨(some 88), (some (87, true)), (.call F_skolemlaw06_works), []⟩, []⟩, ⟨0, ⟨(some 89), none, (.pure .pick), [(.tmp 87), (.tmp 88), (.const (.bool false))]⟩, []⟩, ⟨0, ⟨(some 8), none, (.pure .id), [(.tmp 89)]⟩, []⟩]) .ret))))))))⟩
theorem c_skolemlaw06_AigValues : compF Tryz.prog Tryz.f7 = some G_skolemlaw06_AigValues := by kernel_rfl
theorem gc_skolemlaw06_AigValues {args : List DV} {σ : GS} {Post : DV → GS → Prop} (h : @exB Tryz.prog ⟨G_skolemlaw06_AigValues.body⟩ (genv0 args G_skolemlaw06_AigValues.ntmps) σ ⟨@gretB G_skolemlaw06_AigValues.results ⟨Post⟩⟩) : GCall Tryz.prog F_skolemlaw06_AigValues args σ Post := gcall_ofB seatfollows Tryz.func7 (by kernel_rfl) c_skolemlaw06_AigValues h
end Go.Gh
namespace Go.Gh
open Go.RowKit Go.Proofs
set_option linter.unusedVariables false
set_option linter.unusedSimpArgs false
theorem index_ok {xs : List Int} {x : Int} {σ : GS} {Post : DV → GS → Prop} (hl : xs.length < 2 ^ 60) (h : Post (.int .i64 (idxF (fun y => decide (x = y)) 0 xs)) σ) : GCall Tryz.prog F_slices_Index_int_int [fints xs, .int .i64 x] σ Post := by
  refine gc_slices_Index_int_int ?_
  simp [G_slices_Index_int_int, genv0, List.replicate]
  refine gfor xs.length (fun i e σ' => σ' = σ ∧ idxF (fun y => decide (x = y)) 0 xs = idxF (fun y => decide (x = y)) i (xs.drop i) ∧ e = mkEnv 19 [(0, fints xs), (1, .int .i64 x), (7, .int .i64 xs.length), (8, .int .i64 i)]) _ ?_ ⟨rfl, by simp, rfl⟩ ?_
  · simp [mkEnv, List.replicate]
  rintro i _ _ hi ⟨rfl, hI, rfl⟩
  simp [mkEnv, List.replicate]
  by_cases hlt : i < xs.length
  · obtain ⟨y, hy⟩ := nth_lt hlt
    rw [drop_get hy] at hI
    simp only [idxF, decide_eq_true_eq] at hI
    by_cases h1 : x = y
    · simp [hlt, hy, h1]
      rw [if_pos h1] at hI
      rw [hI] at h; exact h
    · simp [hlt, hy, h1, wrap_suc (show i < _ by omega)]
      exact forK_go _ hlt (by simp [mkEnv, List.replicate]) ⟨rfl, by rw [hI, if_neg h1], rfl⟩
  · have : i = xs.length := by omega
    subst this
    simp
    simpa [hI, idxF] using h
theorem contains_eq (xs : List Int) (x : Int) : (xs.any fun y => decide (x = y)) = xs.contains x := by
  induction xs with
  | nil => rfl
  | cons y xs ih => simp only [List.any_cons, List.contains_cons, ih]; rfl
theorem contains_ok {xs : List Int} {x : Int} {σ : GS} {Post : DV → GS → Prop} (hl : xs.length < 2 ^ 60) (h : Post (.bool (xs.contains x)) σ) : GCall Tryz.prog F_slices_Contains_int_int [fints xs, .int .i64 x] σ Post := by
  refine gc_slices_Contains_int_int ?_
  simp [G_slices_Contains_int_int, genv0, List.replicate]
  refine index_ok hl ?_
  rw [← contains_eq, ← idxF_any _ 0] at h
  simpa using h
theorem bsearch_ok {f : FuncId} {pre caps : List DV} {xs : List Int} {t : Int} {c : Int → Int} {k : Nat} {σ : GS} {Post : DV → GS → Prop} (hl : xs.length < 2 ^ 60)
    (hf : ∀ x ∈ xs, ∀ K : DV → GS → Prop, K (.int .i64 (c x)) σ → GCall Tryz.prog f (pre ++ .int .i64 x :: .int .i64 t :: caps) σ K) (hk : k ≤ xs.length)
    (hlow : ∀ (i : Nat) (x : Int), i < k → xs[i]? = some x → c x < 0) (hhi : ∀ (i : Nat) (x : Int), k ≤ i → xs[i]? = some x → 0 ≤ c x)
    (h : Post (.tuple [.int .i64 k, .bool (match xs[k]? with | some x => decide (c x = 0) | none => false)]) σ) :
    GCall Tryz.prog F_slices_BinarySearchFunc_int_int_int [fints xs, .int .i64 t, .func f pre caps] σ Post := by
  refine gc_slices_BinarySearchFunc_int_int_int ?_
  simp [G_slices_BinarySearchFunc_int_int_int, genv0, List.replicate]
  refine gwhile (mkEnv 49 [(0, fints xs), (1, .int .i64 t), (2, .func f pre caps), (8, .int .i64 xs.length), (9, .int .i64 (0 : Nat)), (10, .int .i64 xs.length)]) xs.length (fun m e σ' => σ' = σ ∧ ∃ i j : Nat, i ≤ k ∧ k ≤ j ∧ j ≤ xs.length ∧ m = j - i ∧ e = mkEnv 49 [(0, fints xs), (1, .int .i64 t), (2, .func f pre caps), (8, .int .i64 xs.length), (9, .int .i64 i), (10, .int .i64 j)]) ?_ ⟨rfl, 0, xs.length, by omega, hk, by omega, rfl, rfl⟩ ?_
  · simp [mkEnv, List.replicate]
  rintro m _ _ ⟨rfl, i, j, h1, h2, h3, rfl, rfl⟩
  simp [mkEnv, List.replicate]
  by_cases hlt : i < j
  · have e1 : IntKind.i64.wrap ((i : Int) + j) = i + j := by rw [wrap_small] <;> omega
    have e2 : IntKind.u64.wrap ((i : Int) + j) = i + j := by rw [u64_small] <;> omega
    have e3 : gbin .shr .none (.int .u64 ((i : Int) + j)) (.int .u64 1) = some (.int .u64 (((i + j) / 2 : Nat) : Int)) := by
      rw [gb_shr, if_neg (by omega)]
      have : (min ((1 : Int).toNat) IntKind.u64.bits) = 1 := by decide
      rw [this]
      congr 2
      rw [Int.fdiv_eq_ediv_of_nonneg _ (by decide)]
      omega
    have e4 : IntKind.i64.wrap (((i + j) / 2 : Nat) : Int) = (((i + j) / 2 : Nat) : Int) := by rw [wrap_small] <;> omega
    obtain ⟨m, hm⟩ : ∃ m, (i + j) / 2 = m := ⟨_, rfl⟩
    rw [hm] at e3 e4
    obtain ⟨y, hy⟩ := nth_lt (l := xs) (i := m) (by omega)
    simp [hlt, e1, e2, e3, e4, hy, -gb_shr]
    refine hf y (List.mem_of_getElem? hy) _ ?_
    by_cases hc : c y < 0
    · have hmk : m < k := by
        rcases Nat.lt_or_ge m k with h' | h'
        · exact h'
        · have := hhi m y h' hy; omega
      simp [hc, wrap_suc (show m < _ by omega)]
      refine whK_go (j - (m + 1)) _ (by omega) ?_ ⟨rfl, m + 1, j, by omega, h2, h3, rfl, rfl⟩
      simp [mkEnv, List.replicate]
    · have hmk : k ≤ m := by
        rcases Nat.lt_or_ge m k with h' | h'
        · have := hlow m y h' hy; omega
        · exact h'
      simp [hc]
      refine whK_go (m - i) _ (by omega) ?_ ⟨rfl, i, m, h1, hmk, by omega, rfl, rfl⟩
      simp [mkEnv, List.replicate]
  · have hik : i = k := by omega
    subst hik
    simp [hlt]
    by_cases hkl : i < xs.length
    · obtain ⟨y, hy⟩ := nth_lt hkl
      have hy' : xs[i]? = some y := hy
      simp [hkl, hy]
      refine hf y (List.mem_of_getElem? hy) _ ?_
      rw [hy'] at h
      simpa using h
    · have hy' : xs[i]? = none := List.getElem?_eq_none (by omega)
      rw [hy'] at h
      simp [hkl]
      simpa using h
theorem aig_Eval_1_1_ok {l x : Int} {σ : GS} {Post : DV → GS → Prop} (hl : isVar (gabs l) = true) (hx : -9223372036854700000 ≤ x ∧ x < 9223372036854700000) (h : Post (.int .i64 (gabs l - x)) σ) : GCall Tryz.prog F_aig_Eval_1_1 [.int .i64 l, .int .i64 x] σ Post := by
  refine gc_aig_Eval_1_1 ?_
  have hv := hl
  simp only [isVar, Bool.and_eq_true, decide_eq_true_eq] at hv
  have e : IntKind.i64.wrap (gabs l - x) = gabs l - x := by rw [wrap_small] <;> omega
  simp [G_aig_Eval_1_1, genv0, List.replicate, max_abs hl, e]
  exact h
/-- Where the literals of variables from x on begin. -/
theorem normR_split {x : Int} : ∀ {a : List Int} {s : Int}, normR s a = true → ∃ k, k ≤ a.length ∧ (∀ (i : Nat) (y : Int), i < k → a[i]? = some y → gabs y < x) ∧ (∀ (i : Nat) (y : Int), k ≤ i → a[i]? = some y → x ≤ gabs y)
  | [], s, _ => ⟨0, by simp, fun i y h => absurd h (Nat.not_lt_zero _), fun i y _ h => by simp at h⟩
  | z :: a, s, h => by
    simp only [normR, Bool.and_eq_true, decide_eq_true_eq] at h
    obtain ⟨⟨h1, h2⟩, h3⟩ := h
    obtain ⟨k, k1, k2, k3⟩ := normR_split (x := x) h3
    by_cases hz : gabs z < x
    · refine ⟨k + 1, by simp; omega, fun i y hi hy => ?_, fun i y hi hy => ?_⟩
      · cases i with
        | zero => simp at hy; subst hy; exact hz
        | succ i => exact k2 i y (by omega) (by simpa using hy)
      · cases i with
        | zero => omega
        | succ i => exact k3 i y (by omega) (by simpa using hy)
    · have hall : ∀ {a : List Int} {s : Int}, normR s a = true → ∀ (i : Nat) (y : Int), a[i]? = some y → s < gabs y := by
        intro a
        induction a with
        | nil => intro s _ i y hy; simp at hy
        | cons u a ih =>
          intro s hs i y hy
          simp only [normR, Bool.and_eq_true, decide_eq_true_eq] at hs
          cases i with
          | zero => simp at hy; subst hy; exact hs.1.2
          | succ i => have := ih hs.2 i y (by simpa using hy); omega
      refine ⟨0, by simp, fun i y hi => absurd hi (Nat.not_lt_zero _), fun i y _ hy => ?_⟩
      cases i with
      | zero => simp at hy; subst hy; omega
      | succ i => have := hall h3 i y (by simpa using hy); omega
theorem aig_Eval_1_ok {a : List Int} {x : Int} {id : Nat} {σ : GS} {Post : DV → GS → Prop} (hb : gload (.load 1 false) [.ptr id 0] σ = some (fints a)) (hl : a.length < 2 ^ 60) (hn : normal a = true) (hx : isVar x = true) (h : Post (.bool (a.contains x)) σ) :
    GCall Tryz.prog F_aig_Eval_1 [.int .i64 x, .ptr id 0] σ Post := by
  rw [normal_eq] at hn
  have hv := normR_vars hn
  have hxr := hx
  simp only [isVar, Bool.and_eq_true, decide_eq_true_eq] at hxr
  obtain ⟨k, k1, k2, k3⟩ := normR_split (x := x) hn
  refine gc_aig_Eval_1 ?_
  simp [G_aig_Eval_1, genv0, List.replicate, hb]
  refine bsearch_ok (pre := []) (caps := []) (c := fun y => gabs y - x) (k := k) hl (fun y hy K hK => aig_Eval_1_1_ok (hv y hy) (by omega) hK) k1 (fun i y hi hy => by have := k2 i y hi hy; show gabs y - x < 0; omega) (fun i y hi hy => by have := k3 i y hi hy; show 0 ≤ gabs y - x; omega) ?_
  have hno : ∀ b : Bool, (match a[k]? with | some y => decide (gabs y - x = 0) | none => false) = b → b = false → a.contains x = false := by
    rintro b hb rfl
    rw [Bool.eq_false_iff]
    intro hc
    obtain ⟨i, hi⟩ := List.mem_iff_getElem?.1 (List.contains_iff_mem.1 hc)
    have hgx := gabs_pos hx
    have hik : k ≤ i := by
      rcases Nat.lt_or_ge i k with h' | h'
      · have := k2 i x h' hi; omega
      · exact h'
    -- what lies at k is no greater
    have hasc : ∀ {a : List Int} {s : Int}, normR s a = true → ∀ (i j : Nat) (y z : Int), i < j → a[i]? = some y → a[j]? = some z → gabs y < gabs z := by
      intro a
      induction a with
      | nil => intro s _ i j y z _ hy; simp at hy
      | cons u a ih =>
        intro s hs i j y z hij hy hz
        simp only [normR, Bool.and_eq_true, decide_eq_true_eq] at hs
        cases j with
        | zero => omega
        | succ j =>
          cases i with
          | zero =>
            simp at hy; subst hy
            have hall : ∀ {a : List Int} {s : Int}, normR s a = true → ∀ (i : Nat) (y : Int), a[i]? = some y → s < gabs y := by
              intro a
              induction a with
              | nil => intro s _ i y hy; simp at hy
              | cons u a ih =>
                intro s hs i y hy
                simp only [normR, Bool.and_eq_true, decide_eq_true_eq] at hs
                cases i with
                | zero => simp at hy; subst hy; exact hs.1.2
                | succ i => have := ih hs.2 i y (by simpa using hy); omega
            exact hall hs.2 j z (by simpa using hz)
          | succ i => exact ih hs.2 i j y z (by omega) (by simpa using hy) (by simpa using hz)
    have hkl : k < a.length := Nat.lt_of_le_of_lt hik (get_dom hi)
    obtain ⟨y, hy⟩ := get_lt hkl
    rw [hy] at hb
    simp at hb
    have h1 := k3 k y (Nat.le_refl _) hy
    rcases Nat.lt_or_ge k i with h' | h'
    · have := hasc hn k i y x h' hy hi; omega
    · have : i = k := by omega
      subst this
      rw [hy] at hi; cases hi
      omega
  generalize hbb : (match a[k]? with | some y => decide (gabs y - x = 0) | none => false) = b at *
  cases b with
  | false =>
    simp
    rw [hno false rfl rfl] at h; exact h
  | true =>
    simp [hb]
    refine contains_ok hl ?_
    simpa using h
theorem aig_value_ok {vs : List Bool} {e : Int} {σ : GS} {Post : DV → GS → Prop} (h0 : 0 ≤ e) (h1 : e < 2 * vs.length) (hl : vs.length < 2 ^ 60) (h : Post (.bool (edgeV vs e)) σ) : GCall Tryz.prog F_aig_value [fbools vs, .int .i64 e] σ Post := by
  refine gc_aig_value ?_
  obtain ⟨y, hy⟩ := nth_lt (l := vs) (i := (e / 2).toNat) (by omega)
  have hy' : vs[(e / 2).toNat]? = some y := hy
  have h2 : 0 ≤ e / 2 := by omega
  simp [G_aig_value, genv0, List.replicate, -gb_shr, shr_one h0, bits_and_one h0 (by omega), h2, hy]
  simpa [edgeV, List.getD, hy'] using h
theorem aig_value_row {vs : List Bool} {e : Int} {id : Nat} {cap : Option Nat} {σ : GS} {Post : DV → GS → Prop} (hr : σ[id]? = some (.row false (bools vs))) (h0 : 0 ≤ e) (h1 : e < 2 * vs.length) (hl : vs.length < 2 ^ 60) (h : Post (.bool (edgeV vs e)) σ) :
    GCall Tryz.prog F_aig_value [.slice id 0 vs.length 1 cap, .int .i64 e] σ Post :=
  GCall.borrow (.cons (rd_bools hr trivial) (.cons (.same _) .nil)) (by simp) rfl (aig_value_ok h0 h1 hl rfl) h
theorem edgeV_app {vs us : List Bool} {e : Int} (h : (e / 2).toNat < vs.length) : edgeV (vs ++ us) e = edgeV vs e := by
  unfold edgeV; rw [List.getD_eq_getElem?_getD, List.getElem?_append_left h, ← List.getD_eq_getElem?_getD]
/-- The state of run: the row of values, and the box of the graph. -/
structure RunSt (σ0 σ' : GS) (id : Nat) (g : AigP) (vs : List Bool) : Prop where
  row : σ'[id]? = some (.row false (bools vs))
  box : σ'[σ0.length]? = some (.row false [fints g.ins, fands g.ands])
  len : σ0.length < σ'.length
  oth : ∀ j, j ≠ id → j < σ0.length → σ'[j]? = σ0[j]?
theorem RunSt.set {σ0 σ' : GS} {id : Nat} {g : AigP} {vs : List Bool} (h : RunSt σ0 σ' id g vs) (hid : id < σ0.length) (i : Nat) (b : Bool) (τ : GS) : RunSt σ0 (σ'.set id (.row false (bools (vs.set i b))) ++ τ) id g (vs.set i b) := by
  have hl := h.len
  refine ⟨?_, ?_, by simp; omega, fun j hj hlt => ?_⟩
  · rw [List.getElem?_append_left (by simp; omega), List.getElem?_set_self (by omega)]
  · rw [List.getElem?_append_left (by simp; omega), List.getElem?_set_ne (by omega)]; exact h.box
  · rw [List.getElem?_append_left (by simp; omega), List.getElem?_set_ne (fun e => hj e.symm)]; exact h.oth j hj hlt
theorem aig_run_ok {g : AigP} {vs : List Bool} {id : Nat} {cap : Option Nat} {f : FuncId} {pre caps : List DV} {on : Int → Bool} {σ : GS} {Post : DV → GS → Prop} (hs : g.Sm) (hm : g.may = true) (hr : σ[id]? = some (.row false (bools vs))) (hvl : vs.length = g.nodes) (hv0 : vs[0]? = some false)
    (hf : ∀ x ∈ g.ins, ∀ σ', (∀ j, j ≠ id → j < σ.length → σ'[j]? = σ[j]?) → ∀ K : DV → GS → Prop, K (.bool (on x)) σ' → GCall Tryz.prog f (pre ++ .int .i64 x :: caps) σ' K)
    (h : Post (.tuple []) (σ.set id (.row false (bools (g.vals on))))) : GCall Tryz.prog F_aig_run [g.enc, .slice id 0 vs.length 1 cap, .func f pre caps] σ Post := by
  have h1 := hs.ins
  have h2 := hs.ands
  have hid := get_dom hr
  have hn := AigP.may_nodes hm
  have hnn : g.nodes = 1 + g.ins.length + g.ands.length := rfl
  have hok : andsOk (2 * (1 + g.ins.length)) g.ands = true := by
    simp only [AigP.may, Bool.and_eq_true] at hm; exact hm.2
  refine GCall.cut ?_
  refine gc_aig_run ?_
  simp [G_aig_run, genv0, List.replicate]
  have hst0 : RunSt σ (σ ++ [.row false [fints g.ins, fands g.ands]]) id g vs := ⟨getE_append hr, by simp, by simp, fun j _ hj => List.getElem?_append_left hj⟩
  obtain ⟨r0, rfl⟩ : ∃ r0, vs = false :: r0 := by
    cases vs with
    | nil => simp at hv0
    | cons a l => simp at hv0; exact ⟨l, by rw [hv0]⟩
  obtain ⟨n, hnv⟩ : ∃ n, (false :: r0).length = n := ⟨_, rfl⟩
  rw [hnv] at hvl
  simp only [List.length_cons] at hnv
  have hvn : ∀ us : List Bool, us.length = n → DV.slice id 0 n 1 cap = .slice id 0 us.length 1 cap := fun us h => by rw [h]
  simp only [List.length_cons, hnv]
  refine gfor g.ins.length (fun i e σ' => (∃ r, RunSt σ σ' id g ((false :: (g.ins.take i).map on) ++ r) ∧ 1 + i + r.length = n) ∧ e = mkEnv 55 [(1, .slice id 0 n 1 cap), (2, .func f pre caps), (3, .ptr σ.length 0), (12, fints g.ins), (13, .int .i64 g.ins.length), (14, .int .i64 i)]) _ ?_ ⟨⟨r0, hst0, by omega⟩, rfl⟩ ?_
  · simp [mkEnv, List.replicate]
  rintro i _ σ1 hi ⟨⟨r, hst, hrl⟩, rfl⟩
  simp [mkEnv, List.replicate]
  by_cases hlt : i < g.ins.length
  · obtain ⟨y, hy⟩ := nth_lt hlt
    have hpl : (false :: (g.ins.take i).map on).length = i + 1 := by simp; omega
    cases r with
    | nil => simp at hrl; omega
    | cons z r =>
    simp at hrl
    have e1 := iaddr_own (id := id) (n := n) (sz := 1) (i := i + 1) (k := .i64) (cap := cap) (by omega)
    have e2 := store_bool (b := on y) hst.row (i := i + 1) (by simp; omega)
    simp only [Nat.mul_one] at e1
    rw [show (((i + 1 : Nat)) : Int) = (i : Int) + 1 by omega] at e1
    have hst' := hst.set hid (i + 1) (on y) []
    rw [set_mid hpl.symm, List.append_nil] at hst'
    rw [set_mid hpl.symm] at e2
    simp only [List.cons_append, List.nil_append] at e2
    simp [hlt, hy, wrap_suc (show i < _ by omega)]
    refine hf y (List.mem_of_getElem? hy) σ1 hst.oth _ ?_
    simp at e2
    simp [e1, e2, wrap_suc (show i < _ by omega)]
    refine forK_go _ hlt (by simp [mkEnv, List.replicate]) ⟨⟨r, ?_, by omega⟩, rfl⟩
    have hy' : g.ins[i]? = some y := hy
    simpa [take_get hy'] using hst'
  · have : i = g.ins.length := by omega
    subst this
    rw [List.take_length] at hst
    have e0 : IntKind.i64.wrap (1 + (g.ins.length : Int)) = 1 + g.ins.length := by rw [wrap_small] <;> omega
    simp [ld_at hst.box, e0]
    refine gfor g.ands.length (fun i e σ' => (∃ r, RunSt σ σ' id g ((g.ands.take i).foldl andStep (false :: g.ins.map on) ++ r) ∧ 1 + g.ins.length + i + r.length = n) ∧ e = mkEnv 55 [(1, .slice id 0 n 1 cap), (8, .int .i64 (1 + g.ins.length)), (32, fands g.ands), (33, .int .i64 g.ands.length), (34, .int .i64 i)]) _ ?_ ⟨⟨r, by simpa using hst, by omega⟩, rfl⟩ ?_
    · simp [mkEnv, List.replicate]
    clear hst e0 hi hst0 σ1 hlt hrl r
    rintro i _ σ1 hi ⟨⟨r, hst, hrl⟩, rfl⟩
    simp [mkEnv, List.replicate]
    by_cases hlt : i < g.ands.length
    · obtain ⟨p, hp⟩ := nth_lt hlt
      have hp' : g.ands[i]? = some p := hp
      obtain ⟨q1, q2, q3, q4⟩ := andsOk_get hok hp
      have hl1 := hst.len
      cases r with
      | nil => simp at hrl; omega
      | cons z r =>
      simp at hrl
      have hpl : ((g.ands.take i).foldl andStep (false :: g.ins.map on)).length = 1 + g.ins.length + i := by rw [foldl_andStep_len]; simp; omega
      obtain ⟨P, hP⟩ : ∃ P, (g.ands.take i).foldl andStep (false :: g.ins.map on) = P := ⟨_, rfl⟩
      have hfin : (g.ands.take (i + 1)).foldl andStep (false :: g.ins.map on) = P ++ [edgeV P p.1 && edgeV P p.2] := by rw [fold_take hp', hP]; rfl
      rw [hP] at hst hpl
      have e0 : IntKind.i64.wrap (1 + (g.ins.length : Int) + i) = ((1 + g.ins.length + i : Nat) : Int) := by rw [wrap_small] <;> omega
      have e1 := iaddr_own (id := id) (n := n) (sz := 1) (i := 1 + g.ins.length + i) (k := .i64) (cap := cap) (by omega)
      simp only [Nat.mul_one] at e1
      have hrow' : ∀ τ, (σ1 ++ τ)[id]? = some (.row false (bools (P ++ z :: r))) := fun τ => getE_append hst.row
      have hus : (P ++ z :: r).length = n := by simp; omega
      have hval : ∀ e : Int, 0 ≤ e → e < 2 * (1 + g.ins.length) + 2 * i → edgeV (P ++ z :: r) e = edgeV P e := fun e he1 he2 => edgeV_app (by omega)
      have hset : ∀ (b : Bool) (τ : GS), gimp (.store 1) [.ptr id (1 + g.ins.length + i), .bool b] (σ1 ++ τ) = some (.tuple [], σ1.set id (.row false (bools (P ++ b :: r))) ++ τ) := fun b τ => by
        rw [st_app (by omega), store_bool hst.row (by omega), set_mid hpl.symm]; rfl
      have hst' : ∀ (b : Bool) (τ : GS), RunSt σ (σ1.set id (.row false (bools (P ++ b :: r))) ++ τ) id g (P ++ b :: r) := fun b τ => by
        have := hst.set hid (1 + g.ins.length + i) b τ
        rwa [set_mid hpl.symm] at this
      simp [hlt, hp, e0]
      rw [← hus]
      refine aig_value_row (hrow' _) q1 (by omega) (by omega) ?_
      rw [hval _ q1 q3, hus]
      by_cases b1 : edgeV P p.1 = true
      · simp [b1]
        rw [← hus]
        refine aig_value_row (hrow' _) q2 (by omega) (by omega) ?_
        rw [hval _ q2 q4, hus]
        simp at e1
        simp [e1, hset, wrap_suc (show i < _ by omega)]
        refine forK_go _ hlt (by simp [mkEnv, List.replicate]) ⟨⟨r, ?_, by omega⟩, rfl⟩
        rw [hfin, b1]
        simpa using hst' (edgeV P p.2) _
      · simp at e1
        simp [b1, e1, hset, wrap_suc (show i < _ by omega)]
        refine forK_go _ hlt (by simp [mkEnv, List.replicate]) ⟨⟨r, ?_, by omega⟩, rfl⟩
        simp only [Bool.not_eq_true] at b1
        rw [hfin, b1]
        simpa using hst' false _
    · have : i = g.ands.length := by omega
      subst this
      rw [List.take_length] at hst
      have : r = [] := List.length_eq_zero_iff.1 (by omega)
      subst this
      have hl1 := hst.len
      have hvals : g.ands.foldl andStep (false :: g.ins.map on) ++ [] = g.vals on := by rw [List.append_nil]; rfl
      rw [hvals] at hst
      simp
      have htk : σ1.take σ.length = σ.set id (.row false (bools (g.vals on))) := by
        apply List.ext_getElem?
        intro j
        rw [List.getElem?_take]
        by_cases hj : j < σ.length
        · rw [if_pos hj]
          by_cases hji : j = id
          · subst hji; rw [hst.row, List.getElem?_set_self hid]
          · rw [hst.oth j hji hj, List.getElem?_set_ne (fun e => hji e.symm)]
        · rw [if_neg hj, List.getElem?_eq_none (by simp; omega)]
      refine ⟨fun j o hj ho => ?_, rfl, by rw [htk]; exact h⟩
      by_cases hji : j = id
      · subst hji; rw [hst.row] at ho; cases ho; exact .inr (unders_bools _ _)
      · rw [hst.oth j hji hj] at ho; exact .inl ho
/-- The value of an edge under an assignment, and the error. -/
def AigP.eval (g : AigP) (e : Int) (a : List Int) : Bool × Int := if g.all [e] && normal a then (edgeV (g.vals a.contains) e, 0) else (false, 2)
theorem aig_Eval_ok {g : AigP} {e : Int} {a : List Int} {σ : GS} {Post : DV → GS → Prop} (hs : g.Sm) (hl : a.length < 2 ^ 60) (h6 : I64 a) (h : Post (.tuple [.bool (g.eval e a).1, .int .i64 (g.eval e a).2]) σ) : GCall Tryz.prog F_aig_Eval [g.enc, .int .i64 e, fints a] σ Post := by
  refine GCall.say (r := .tuple [.bool (g.eval e a).1, .int .i64 (g.eval e a).2]) ?_ rfl h
  refine gc_aig_Eval ?_
  simp [G_aig_Eval, genv0, List.replicate]
  refine GCall.borrow (args' := [g.enc, fints [e]]) (r := .bool (g.all [e])) (.cons (.same _) (.cons (rd_ints (vs := [e]) (ro := false) (cap := some 1) (by simp) trivial) .nil)) (by simp) rfl (aig_all_ok hs (by simp) rfl) ?_
  by_cases ha : g.all [e] = true
  · simp [ha]
    refine aig_normal_ok hl h6 ?_
    by_cases hn : normal a = true
    · have hm := AigP.all_may ha
      have hnn := AigP.may_nodes hm
      obtain ⟨he0, he1⟩ := AigP.all_has ha (List.mem_singleton_self e)
      simp [hn]
      refine aig_nodes_ok hs ?_
      simp [mslice_bools (show g.nodes < 2 ^ 40 by omega)]
      obtain ⟨vs, hvs⟩ : ∃ vs, List.replicate g.nodes false = vs := ⟨_, rfl⟩
      have hvl : vs.length = g.nodes := by rw [← hvs]; simp
      have hpos : 0 < g.nodes := by unfold AigP.nodes; omega
      have hv0 : vs[0]? = some false := by rw [← hvs]; simp [hpos]
      rw [show List.replicate g.nodes (DV.bool false) = bools vs by rw [← hvs]; simp [bools]]
      have e1 : (DV.slice (σ.length + (0 + 1 + 1 + 1)) 0 g.nodes 1 (some g.nodes)) = .slice (σ.length + 3) 0 vs.length 1 (some g.nodes) := by rw [hvl]
      rw [← hvl]
      refine aig_run_ok (on := a.contains) (pre := []) hs hm (by simp) hvl hv0 (fun x hx σ' hf K hK => ?_) ?_
      · refine aig_Eval_1_ok (id := σ.length + 1) ?_ hl hn (insOk_vars (AigP.may_ins hm) x hx) hK
        rw [ld_at ((hf (σ.length + 1) (by omega) (by simp)).trans (show _ = some (GObj.row false [fints a]) by simp))]
        rfl
      · simp
        rw [hvl, ← AigP.vals_len g a.contains]
        refine aig_value_row (by simp) he0 (by rw [AigP.vals_len]; omega) (by rw [AigP.vals_len]; omega) ?_
        simp [AigP.eval, ha, hn]
    · simp [hn, AigP.eval]
  · simp [ha, AigP.eval]
end Go.Gh
namespace Go.Gh
open Go.RowKit Go.Proofs
set_option linter.unusedVariables false
set_option linter.unusedSimpArgs false
set_option maxRecDepth 100000
theorem ref_Of_ok {vs : List Bool} {e : Int} {σ : GS} {Post : DV → GS → Prop} (h0 : 0 ≤ e) (h1 : e < 2 * vs.length) (hl : vs.length < 2 ^ 50) (h : Post (.bool (edgeV vs e)) σ) : GCall Tryz.prog F_skolemref06_Of [fbools vs, .int .i64 e] σ Post := by
  refine gc_skolemref06_Of ?_
  obtain ⟨y, hy⟩ := nth_lt (l := vs) (i := (e / 2).toNat) (by omega)
  have hy' : vs[(e / 2).toNat]? = some y := hy
  have h2 : 0 ≤ e / 2 := by omega
  have ew : IntKind.i64.wrap (e / 2) = e / 2 := by rw [wrap_small] <;> omega
  simp [G_skolemref06_Of, genv0, List.replicate, tdiv_two h0, tmod_two h0, ew, h2, hy]
  simpa [edgeV, List.getD, hy'] using h
theorem ref_Of_row {vs : List Bool} {e : Int} {id n : Nat} {cap : Option Nat} {σ : GS} {Post : DV → GS → Prop} (hr : σ[id]? = some (.row false (bools vs))) (hn : vs.length = n) (h0 : 0 ≤ e) (h1 : e < 2 * vs.length) (hl : vs.length < 2 ^ 50) (h : Post (.bool (edgeV vs e)) σ) :
    GCall Tryz.prog F_skolemref06_Of [.slice id 0 n 1 cap, .int .i64 e] σ Post := by
  subst hn
  exact GCall.borrow (.cons (rd_bools hr trivial) (.cons (.same _) .nil)) (by simp) rfl (ref_Of_ok h0 h1 hl rfl) h
/-- Which variables a list of truths says to be true. -/
def onF (on : List Bool) (v : Int) : Bool := on.getD v.toNat false
/-- How a slice of truths reads, whatever is laid behind. -/
def Vb (σ : GS) (s : DV) (on : List Bool) : Prop := ∀ (k : Nat) (b : Bool), on[k]? = some b → ∃ p, gpure (.iaddr 1) [s, .int .i64 (k : Int)] = some p ∧ ∀ τ, gload (.load 1 false) [p] (σ ++ τ) = some (.bool b)
theorem ref_All_gen {g : AigP} {on : List Bool} {s : DV} {σ : GS} {Post : DV → GS → Prop} (hm : g.may = true) (hon : on.length = 65537) (hV : Vb σ s on) (h : Post (fbools (g.vals (onF on))) σ) : GCall Tryz.prog F_skolemref06_All [g.enc, s] σ Post := by
  have hnn := AigP.may_nodes hm
  have hn : g.nodes = 1 + g.ins.length + g.ands.length := rfl
  have hs : g.Sm := ⟨by omega, by omega⟩
  have hok : ∀ {i : Nat} {p : Int × Int}, g.ands[i]? = some p → _ := fun {i p} h => andsOk_get (AigP.may_ands hm) (i := i) (p := p) h
  have hvar := insOk_vars (AigP.may_ins hm)
  have hvl := AigP.vals_len g (onF on)
  obtain ⟨n, hne⟩ : ∃ n, g.nodes = n := ⟨_, rfl⟩
  refine GCall.pure (r := fbools (g.vals (onF on))) ?_ (by simp) h
  refine gc_skolemref06_All ?_
  simp [G_skolemref06_All, genv0, List.replicate]
  refine ref_Nodes_ok hs ?_
  rw [hne] at hvl ⊢
  simp [mslice_bools (show n < 2 ^ 40 by omega)]
  have hr0 : List.replicate n (DV.bool false) = bools (List.replicate n false) := by simp [bools]
  rw [hr0]
  obtain ⟨A, hA⟩ : ∃ A, GObj.row false [fints g.ins, fands g.ands] = A := ⟨_, rfl⟩
  rw [hA]
  have hld : ∀ τ, gload (.load 1 false) [.ptr σ.length 0] (σ ++ A :: τ) = some (fints g.ins) := fun τ => by simp [← hA]
  have hld1 : ∀ τ, gload (.load 1 false) [.ptr σ.length 1] (σ ++ A :: τ) = some (fands g.ands) := fun τ => by simp [← hA]
  have hldz : ∀ τ, gload (.load 1 false) [.ptr 0 0] (A :: τ) = some (fints g.ins) := fun τ => by simp [← hA]
  have hldz1 : ∀ τ, gload (.load 1 false) [.ptr 0 1] (A :: τ) = some (fands g.ands) := fun τ => by simp [← hA]
  refine gfor g.ins.length (fun i e σ' => (∃ r, σ' = σ ++ (A :: .row false (bools ((false :: (g.ins.take i).map (onF on)) ++ r)) :: []) ∧ 1 + i + r.length = n) ∧ e = mkEnv 64 [(1, s), (2, .ptr σ.length 0), (5, .slice (σ.length + 1) 0 n 1 (some n)), (6, .int .i64 i)]) _ ?_ ⟨⟨List.replicate (n - 1) false, ?_, by simp; omega⟩, rfl⟩ ?_
  · simp [mkEnv, List.replicate]
  · obtain ⟨q, rfl⟩ : ∃ q, n = q + 1 := ⟨n - 1, by omega⟩
    simp [List.replicate_succ]
  rintro i _ _ hi ⟨⟨r, rfl, hrl⟩, rfl⟩
  simp [mkEnv, List.replicate]
  by_cases hlt : i < g.ins.length
  · obtain ⟨y, hy⟩ := nth_lt hlt
    have hy' := nth_get hy
    have hv := hvar y (List.mem_of_getElem? hy')
    simp only [isVar, Bool.and_eq_true, decide_eq_true_eq] at hv
    obtain ⟨b, hb⟩ := nth_lt (l := on) (i := y.toNat) (by omega)
    have hob : onF on y = b := by unfold onF; rw [List.getD_eq_getElem?_getD, nth_get hb]; rfl
    have es : IntKind.i64.wrap ((i : Int) + 1) = (i : Int) + 1 := by rw [wrap_small] <;> omega
    obtain ⟨pt, hp1, hp2⟩ := hV y.toNat b (nth_get hb)
    rw [show ((y.toNat : Nat) : Int) = y by omega] at hp1
    have hia := iaddr_own (id := σ.length + 1) (n := n) (sz := 1) (i := i + 1) (k := .i64) (cap := some n) (by omega)
    simp only [Nat.mul_one, Int.natCast_add, Int.natCast_one] at hia
    cases r with
    | nil => simp at hrl; omega
    | cons z r =>
    simp at hrl
    have hl2 : (List.take i (List.map (DV.bool ∘ onF on) g.ins)).length = i := by simp; omega
    simp [hldz, hldz1, hld, hlt, hy, hp1, hp2, es, hia, hl2]
    refine forK_go _ hlt (by simp [mkEnv, List.replicate]) ⟨⟨r, ?_, by omega⟩, rfl⟩
    rw [take_get hy']
    simp [hob, Function.comp_def]
  · have : i = g.ins.length := by omega
    subst this
    have htk : List.take g.ins.length (List.map (DV.bool ∘ onF on) g.ins) = List.map (DV.bool ∘ onF on) g.ins := List.take_of_length_le (by simp)
    simp [hldz, htk]
    refine gfor g.ands.length (fun i e σ' => (∃ r, σ' = σ ++ (A :: .row false (bools ((g.ands.take i).foldl andStep (false :: g.ins.map (onF on)) ++ r)) :: []) ∧ 1 + g.ins.length + i + r.length = n) ∧ e = mkEnv 64 [(2, .ptr σ.length 0), (5, .slice (σ.length + 1) 0 n 1 (some n)), (7, .int .i64 i)]) _ ?_ ⟨⟨r, by simp, by omega⟩, rfl⟩ ?_
    · simp [mkEnv, List.replicate]
    clear hrl r hlt hi
    rintro i _ _ hi ⟨⟨r, rfl, hrl⟩, rfl⟩
    simp [mkEnv, List.replicate]
    by_cases hlt : i < g.ands.length
    · obtain ⟨p, hp⟩ := nth_lt hlt
      have hp' := nth_get hp
      obtain ⟨p1, p2, p3, p4⟩ := hok hp'
      have es : IntKind.i64.wrap ((i : Int) + 1) = (i : Int) + 1 := by rw [wrap_small] <;> omega
      have ew : IntKind.i64.wrap (1 + (g.ins.length : Int)) = 1 + g.ins.length := by rw [wrap_small] <;> omega
      have ew2 : IntKind.i64.wrap (1 + (g.ins.length : Int) + i) = 1 + g.ins.length + i := by rw [wrap_small] <;> omega
      have hia := iaddr_own (id := σ.length + 1) (n := n) (sz := 1) (i := 1 + g.ins.length + i) (k := .i64) (cap := some n) (by omega)
      rw [show (((1 + g.ins.length + i : Nat)) : Int) = 1 + (g.ins.length : Int) + i by omega, Nat.mul_one] at hia
      obtain ⟨P, hP⟩ : ∃ P, (g.ands.take i).foldl andStep (false :: g.ins.map (onF on)) = P := ⟨_, rfl⟩
      have hpl : P.length = 1 + g.ins.length + i := by rw [← hP, foldl_andStep_len]; simp; omega
      have hfin : (g.ands.take (i + 1)).foldl andStep (false :: g.ins.map (onF on)) = P ++ [edgeV P p.1 && edgeV P p.2] := by rw [fold_take hp', hP]; rfl
      cases r with
      | nil => simp at hrl; omega
      | cons z r =>
      simp at hrl
      have hval : ∀ e : Int, 0 ≤ e → e < 2 * (1 + g.ins.length) + 2 * i → edgeV (P ++ z :: r) e = edgeV P e := fun e he1 he2 => edgeV_app (by omega)
      have hrow : (σ ++ (A :: .row false (bools (P ++ z :: r)) :: []))[σ.length + 1]? = some (.row false (bools (P ++ z :: r))) := by simp
      simp at hrow
      have hlt2 : 1 + g.ins.length + i < P.length + (r.length + 1) := by omega
      have hset : ∀ b : Bool, (List.map DV.bool P ++ DV.bool z :: List.map DV.bool r).set (1 + g.ins.length + i) (.bool b) = List.map DV.bool P ++ DV.bool b :: List.map DV.bool r := fun b => by
        rw [show 1 + g.ins.length + i = (List.map DV.bool P).length by simp [hpl], List.set_append_right _ _ (Nat.le_refl _)]; simp
      rw [hP]
      simp [hldz, hldz1, hlt, hp, ew, ew2]
      refine ref_Of_row (vs := P ++ z :: r) (by simp [hrow]) (by simp; omega) p1 (by simp; omega) (by simp; omega) ?_
      rw [hval _ p1 p3]
      by_cases b1 : edgeV P p.1 = true
      · simp [b1, hldz, hldz1, hp, ew, ew2]
        refine ref_Of_row (vs := P ++ z :: r) (by simp [hrow]) (by simp; omega) p2 (by simp; omega) (by simp; omega) ?_
        rw [hval _ p2 p4]
        simp [hia, hlt2, hset, es, ew2, hldz]
        refine forK_go _ hlt (by simp [mkEnv, List.replicate]) ⟨⟨r, ?_, by omega⟩, rfl⟩
        rw [hfin, b1]; simp
      · simp only [Bool.not_eq_true] at b1
        simp [b1, hia, hlt2, hset, es, ew2, hldz]
        refine forK_go _ hlt (by simp [mkEnv, List.replicate]) ⟨⟨r, ?_, by omega⟩, rfl⟩
        rw [hfin, b1]; simp
    · have : i = g.ands.length := by omega
      subst this
      rw [List.take_length]
      have : r = [] := List.length_eq_zero_iff.1 (by omega)
      subst this
      have hvals : g.ands.foldl andStep (false :: g.ins.map (onF on)) = g.vals (onF on) := rfl
      rw [hvals]
      simp [hldz1]
      subst hvl
      exact rd_bools (ro := false) (by simp) (.inl (by omega))
theorem ref_All_ok {g : AigP} {on : List Bool} {σ : GS} {Post : DV → GS → Prop} (hm : g.may = true) (hon : on.length = 65537) (h : Post (fbools (g.vals (onF on))) σ) : GCall Tryz.prog F_skolemref06_All [g.enc, fbools on] σ Post :=
  ref_All_gen hm hon (fun k b hk => ⟨.fptr [.bool b], by
    have : nth on k = some b := hk
    simp [this], fun τ => rfl⟩) h
theorem vb_row {σ : GS} {id n : Nat} {cap : Option Nat} {on : List Bool} (h : σ[id]? = some (.row false (bools on))) (hn : on.length = n) : Vb σ (.slice id 0 n 1 cap) on := fun k b hk => by
  have hlt := get_dom hk
  have hia := iaddr_own (id := id) (n := n) (sz := 1) (i := k) (k := .i64) (cap := cap) (by omega)
  rw [Nat.mul_one] at hia
  exact ⟨.ptr id k, hia, fun τ => by rw [ld_app (get_dom h)]; exact ld_bools h hk⟩
def onL (a : List Int) : List Bool := a.foldl (fun m x => if 0 < x then m.set x.toNat true else m) (List.replicate 65537 false)
theorem onL_step_len (m : List Bool) : ∀ a : List Int, (a.foldl (fun m x => if 0 < x then m.set x.toNat true else m) m).length = m.length
  | [] => rfl
  | x :: a => by rw [List.foldl_cons, onL_step_len _ a]; split <;> simp
theorem onL_len (a : List Int) : (onL a).length = 65537 := by unfold onL; rw [onL_step_len, List.length_replicate]
theorem getD_set_b {m : List Bool} {a j : Nat} (ha : a < m.length) (b : Bool) : (m.set a b).getD j false = if a = j then b else m.getD j false := by
  rw [List.getD_eq_getElem?_getD, List.getD_eq_getElem?_getD, List.getElem?_set]
  split
  · rename_i e; subst e; simp [ha]
  · rfl
theorem onL_fold {v : Int} (hv : isVar v = true) : ∀ (a : List Int) (m : List Bool), m.length = 65537 → (∀ x ∈ a, 0 < x → x ≤ 65536) → onF (a.foldl (fun m x => if 0 < x then m.set x.toNat true else m) m) v = (onF m v || a.contains v)
  | [], m, _, _ => by simp
  | x :: a, m, hl, hx => by
    have hv' := hv
    simp only [isVar, Bool.and_eq_true, decide_eq_true_eq] at hv'
    rw [List.foldl_cons]
    by_cases h0 : 0 < x
    · rw [if_pos h0, onL_fold hv a _ (by simpa using hl) fun y hy => hx y (List.mem_cons_of_mem _ hy)]
      have hxl := hx x List.mem_cons_self h0
      unfold onF
      rw [getD_set_b (by omega), List.contains_cons]
      by_cases e : x.toNat = v.toNat
      · have : v = x := by omega
        rw [if_pos e]; simp [this]
      · have : (v == x) = false := by simp; omega
        rw [if_neg e, this]; simp
    · rw [if_neg h0, onL_fold hv a _ hl fun y hy => hx y (List.mem_cons_of_mem _ hy), List.contains_cons]
      have : (v == x) = false := by simp; omega
      rw [this]; simp
theorem onL_val {a : List Int} (hn : normal a = true) (h6 : I64 a) {v : Int} (hv : isVar v = true) : onF (onL a) v = a.contains v := by
  unfold onL
  rw [onL_fold hv a _ List.length_replicate fun x hx h0 => ?_]
  · have : onF (List.replicate 65537 false) v = false := by
      unfold onF; rw [List.getD_eq_getElem?_getD, List.getElem?_replicate]; split <;> rfl
    rw [this]; simp
  · rw [normal_eq] at hn
    have h1 := normR_vars hn x hx
    have h2 := gabs_eq (h6 x hx) h1
    rw [if_neg (by omega)] at h2
    rw [h2] at h1
    simp only [isVar, Bool.and_eq_true, decide_eq_true_eq] at h1; omega
theorem ref_On_ok {a : List Int} {σ : GS} {Post : DV → GS → Prop} (hl : a.length < 2 ^ 50) (hn : normal a = true) (h6 : I64 a) (h : Post (fbools (onL a)) σ) : GCall Tryz.prog F_skolemref06_On [fints a] σ Post := by
  have hr : ∀ x ∈ a, 0 < x → x ≤ 65536 := fun x hx h0 => by
    rw [normal_eq] at hn
    have h1 := normR_vars hn x hx
    have h2 := gabs_eq (h6 x hx) h1
    rw [if_neg (by omega)] at h2
    rw [h2] at h1
    simp only [isVar, Bool.and_eq_true, decide_eq_true_eq] at h1; omega
  have hll := onL_len a
  refine GCall.pure (r := fbools (onL a)) ?_ (by simp) h
  refine gc_skolemref06_On ?_
  have hms := mslice_bools (show 65537 < 2 ^ 40 by decide) .i64 .i64
  rw [show ((65537 : Nat) : Int) = 65537 from rfl] at hms
  obtain ⟨m0, hm0⟩ : ∃ m0, List.replicate 65537 false = m0 := ⟨_, rfl⟩
  rw [hm0] at hms
  have hm0l : m0.length = 65537 := by rw [← hm0, List.length_replicate]
  simp [G_skolemref06_On, genv0, List.replicate, hms]
  refine gfor a.length (fun i e σ' => (∃ m, σ' = σ ++ (.row false (bools m) :: []) ∧ m.length = 65537 ∧ (a.drop i).foldl (fun m x => if 0 < x then m.set x.toNat true else m) m = onL a) ∧ e = mkEnv 24 [(0, fints a), (3, .slice σ.length 0 65537 1 (some 65537)), (4, .int .i64 i)]) _ ?_ ⟨⟨m0, by simp, hm0l, by rw [List.drop_zero, ← hm0]; rfl⟩, rfl⟩ ?_
  · simp [mkEnv, List.replicate]
  rintro i _ _ hi ⟨⟨m, rfl, hml, hI⟩, rfl⟩
  simp [mkEnv, List.replicate]
  by_cases hlt : i < a.length
  · obtain ⟨y, hy⟩ := nth_lt hlt
    have hy' := nth_get hy
    rw [drop_get hy', List.foldl_cons] at hI
    have es : IntKind.i64.wrap ((i : Int) + 1) = (i : Int) + 1 := by rw [wrap_small] <;> omega
    by_cases c : 0 < y
    · have hyl := hr y (List.mem_of_getElem? hy') c
      have hia := iaddr_own (id := σ.length) (n := 65537) (sz := 1) (i := y.toNat) (k := .i64) (cap := some 65537) (by omega)
      rw [show ((y.toNat : Nat) : Int) = y by omega, Nat.mul_one] at hia
      have hlm : y.toNat < m.length := by omega
      rw [if_pos c] at hI
      simp [hlt, hy, c, hia, hlm, es]
      exact forK_go _ hlt (by simp [mkEnv, List.replicate]) ⟨⟨_, by simp [List.map_set], by simpa using hml, hI⟩, rfl⟩
    · rw [if_neg c] at hI
      simp [hlt, hy, c, es]
      exact forK_go _ hlt (by simp [mkEnv, List.replicate]) ⟨⟨m, rfl, hml, hI⟩, rfl⟩
  · have : i = a.length := by omega
    subst this
    rw [List.drop_length] at hI
    have hI' : m = onL a := hI
    subst hI'
    simp
    have := rd_bools (σ := σ ++ [.row false (bools (onL a))]) (ok := OkN σ.length (σ ++ [.row false (bools (onL a))])) (id := σ.length) (ro := false) (vs := onL a) (cap := some 65537) (by simp) (.inl (Nat.le_refl _))
    rw [hll] at this
    exact this
theorem ref_Eval_ok {g : AigP} {e : Int} {a : List Int} {σ : GS} {Post : DV → GS → Prop} (hs : g.Sm) (hl : a.length < 2 ^ 50) (h6 : I64 a) (h : Post (.tuple [.bool (g.eval e a).1, .int .i64 (g.eval e a).2]) σ) : GCall Tryz.prog F_skolemref06_Eval [g.enc, .int .i64 e, fints a] σ Post := by
  refine GCall.say (r := .tuple [.bool (g.eval e a).1, .int .i64 (g.eval e a).2]) ?_ rfl h
  refine gc_skolemref06_Eval ?_
  simp [G_skolemref06_Eval, genv0, List.replicate]
  refine ref_Has_ok hs ?_
  by_cases ha : g.all [e] = true
  rotate_left
  · simp [ha, AigP.eval]
  simp [ha]
  refine ref_Normal_ok hl ?_
  by_cases hn : normal a = true
  rotate_left
  · simp [hn, AigP.eval]
  have hm := AigP.all_may ha
  have hnn := AigP.may_nodes hm
  obtain ⟨he0, he1⟩ := AigP.all_has ha (List.mem_singleton_self e)
  have hvar := insOk_vars (AigP.may_ins hm)
  have hveq : g.vals (onF (onL a)) = g.vals a.contains := by
    unfold AigP.vals
    rw [List.map_congr_left fun v hv => onL_val hn h6 (hvar v hv)]
  simp [hn]
  refine ref_On_ok hl hn h6 ?_
  simp
  refine ref_All_ok hm (onL_len a) ?_
  simp
  refine ref_Of_ok he0 (by rw [AigP.vals_len]; omega) (by rw [AigP.vals_len]; omega) ?_
  rw [hveq]
  simp [AigP.eval, ha, hn]
theorem bools_ok {xs ys : List Bool} {σ : GS} {Post : DV → GS → Prop} (hl : xs.length < 2 ^ 60) (h : Post (.bool (decide (xs = ys))) σ) : GCall Tryz.prog F_skolemlaw06_bools [fbools xs, fbools ys] σ Post := by
  refine gc_skolemlaw06_bools ?_
  by_cases hlen : xs.length = ys.length
  rotate_left
  · have hne : xs ≠ ys := fun e => hlen (by rw [e])
    have hlen' : ¬ ((xs.length : Int) = ys.length) := by omega
    simp [G_skolemlaw06_bools, genv0, List.replicate, hlen']
    simpa [hne] using h
  simp [G_skolemlaw06_bools, genv0, List.replicate, hlen]
  refine gfor ys.length (fun i e σ' => σ' = σ ∧ (xs = ys ↔ xs.drop i = ys.drop i) ∧ e = mkEnv 26 [(0, fbools xs), (1, fbools ys), (12, .int .i64 ys.length), (13, .int .i64 i)]) _ ?_ ⟨rfl, by simp, rfl⟩ ?_
  · simp [mkEnv, List.replicate]
  rintro i _ _ hi ⟨rfl, hI, rfl⟩
  simp [mkEnv, List.replicate]
  by_cases hlt : i < ys.length
  · obtain ⟨x, hx⟩ := nth_lt (l := xs) (i := i) (by omega)
    obtain ⟨y, hy⟩ := nth_lt hlt
    rw [drop_get hx, drop_get hy, List.cons.injEq] at hI
    have es : IntKind.i64.wrap ((i : Int) + 1) = (i : Int) + 1 := by rw [wrap_small] <;> omega
    by_cases c : x = y
    · simp [hlt, hx, hy, c, es]
      exact forK_go _ hlt (by simp [mkEnv, List.replicate]) ⟨rfl, by rw [hI]; simp [c], rfl⟩
    · have hne : xs ≠ ys := fun e => c (hI.1 e).1
      have cb : (x != y) = true := by simpa using c
      simp [hlt, hx, hy, cb]
      simpa [hne] using h
  · have : i = ys.length := by omega
    subst this
    have he : xs = ys := hI.2 (by rw [← hlen, List.drop_length, hlen, List.drop_length])
    simp
    simpa [he] using h
end Go.Gh
namespace Go.Gh
open Go.RowKit Go.Proofs
set_option linter.unusedVariables false
set_option linter.unusedSimpArgs false
set_option maxRecDepth 100000
def bitOf (i k : Nat) : Bool := decide (i / 2 ^ k % 2 = 1)
def tabOn (vars : List Int) (i : Nat) (v : Int) : Bool := if 0 ≤ idxF (fun x => decide (x = v)) 0 vars then bitOf i (idxF (fun x => decide (x = v)) 0 vars).toNat else false
/-- Are numbers different variables? -/
def diffV (vars : List Int) : Bool := vars.all isVar && decide vars.Nodup
def AigP.table (g : AigP) (e : Int) (vars : List Int) : List Bool × Int :=
  if (g.all [e] && diffV vars) = true then if 16 < vars.length then ([], 3) else ((List.range (2 ^ vars.length)).map fun i => edgeV (g.vals (tabOn vars i)) e, 0) else ([], 2)
theorem shl_one {n : Nat} (h : n ≤ 16) (t : ET) : gbin .shl t (.int .i64 1) (.int .i64 (n : Int)) = some (.int .i64 ((2 ^ n : Nat) : Int)) := by
  rw [gb_shl, if_neg (by omega)]
  have h1 : 2 ^ n ≤ 2 ^ 16 := Nat.pow_le_pow_right (by decide) h
  have h3 : min ((n : Int).toNat) IntKind.i64.bits = n := by simp [IntKind.bits]; omega
  have hc : (2 : Int) ^ n = ((2 ^ n : Nat) : Int) := by simp
  obtain ⟨q, hq⟩ : ∃ q, 2 ^ n = q := ⟨_, rfl⟩
  rw [hq] at h1 hc ⊢
  rw [h3, hc, Int.one_mul, wrap_small] <;> omega
theorem shr_nat {i k : Nat} (hk : k < 64) (t : ET) : gbin .shr t (.int .i64 (i : Int)) (.int .i64 (k : Int)) = some (.int .i64 ((i / 2 ^ k : Nat) : Int)) := by
  rw [gb_shr, if_neg (by omega)]
  have h3 : min ((k : Int).toNat) IntKind.i64.bits = k := by simp [IntKind.bits]; omega
  rw [h3, Int.fdiv_eq_ediv_of_nonneg _ (Int.le_of_lt (Int.pow_pos (by decide)))]
  simp
theorem diffV_bad {vars : List Int} {i : Nat} {y : Int} (hy : vars[i]? = some y) (h : isVar y = false ∨ y ∈ vars.take i) : diffV vars = false := by
  unfold diffV
  rcases h with h | h
  · have : vars.all isVar = false := by
      rw [Bool.eq_false_iff]; intro hh
      rw [List.all_eq_true.1 hh y (List.mem_of_getElem? hy)] at h; cases h
    rw [this]; rfl
  · have : ¬ vars.Nodup := fun hn => nodup_take hn hy h
    simp [this]
theorem aig_Table_1_ok {x : Int} {i id to bx : Nat} {vars : List Int} {E : List (Int × DV)} {σ : GS} {Post : DV → GS → Prop} (h1 : σ[id]? = some (.row false [.map to])) (h2 : MpO kint σ to E) (h3 : σ[bx]? = some (.row false [.int .i64 i])) (hl : vars.length ≤ 16) (hi : i < 2 ^ 50)
    (hE : kget x E = if 0 ≤ idxF (fun y => decide (y = x)) 0 vars then some (kint (idxF (fun y => decide (y = x)) 0 vars)) else none) (h : Post (.bool (tabOn vars i x)) σ) : GCall Tryz.prog F_aig_Table_1 [.int .i64 x, .ptr id 0, .ptr bx 0] σ Post := by
  refine gc_aig_Table_1 ?_
  have hl1 : gload (.load 1 false) [.ptr id 0] σ = some (.map to) := by rw [ld_at h1]; rfl
  have hl3 : gload (.load 1 false) [.ptr bx 0] σ = some (.int .i64 i) := by rw [ld_at h3]; rfl
  have hlk : gload (.lookup (.int .i64) (.int .i64 0) true) [.map to, .int .i64 x] σ = _ := h2.lookup (kt := .int .i64) x (.int .i64 0) true
  rw [hE] at hlk
  have hlt := idxF_lt (p := fun y => decide (y = x)) (l := vars) (k := 0)
  obtain ⟨K, hK⟩ : ∃ K, idxF (fun y => decide (y = x)) 0 vars = K := ⟨_, rfl⟩
  unfold tabOn at h
  rw [hK] at hlk hlt h
  by_cases c : 0 ≤ K
  · obtain ⟨k, rfl⟩ := Int.eq_ofNat_of_zero_le c
    have hs := shr_nat (i := i) (k := k) (by omega) .none
    have hd : i / 2 ^ k < 2 ^ 50 := Nat.lt_of_le_of_lt (Nat.div_le_self _ _) hi
    rw [if_pos c] at hlk h
    simp only [Int.toNat_natCast] at h
    unfold bitOf at h
    obtain ⟨q, hq⟩ : ∃ q, i / 2 ^ k = q := ⟨_, rfl⟩
    rw [hq] at hs hd h
    have hb := bits_and_one (e := (q : Int)) (by omega) (by omega)
    simp at hlk
    simp [G_aig_Table_1, genv0, List.replicate, hl1, hlk, hl3, -gb_shr, hs, hb]
    have he : decide ((q : Int) % 2 = 1) = decide (q % 2 = 1) := by rw [decide_eq_decide]; omega
    rw [he]
    exact h
  · rw [if_neg c] at hlk h
    simp at hlk
    simp [G_aig_Table_1, genv0, List.replicate, hl1, hlk]
    exact h
theorem run_n {g : AigP} {vs : List Bool} {id n : Nat} {cap : Option Nat} {f : FuncId} {pre caps : List DV} {on : Int → Bool} {σ : GS} {Post : DV → GS → Prop} (hs : g.Sm) (hm : g.may = true) (hr : σ[id]? = some (.row false (bools vs))) (hn : vs.length = n) (hvl : n = g.nodes) (hv0 : vs[0]? = some false)
    (hf : ∀ x ∈ g.ins, ∀ σ', (∀ j, j ≠ id → j < σ.length → σ'[j]? = σ[j]?) → ∀ K : DV → GS → Prop, K (.bool (on x)) σ' → GCall Tryz.prog f (pre ++ .int .i64 x :: caps) σ' K)
    (h : Post (.tuple []) (σ.set id (.row false (bools (g.vals on))))) : GCall Tryz.prog F_aig_run [g.enc, .slice id 0 n 1 cap, .func f pre caps] σ Post := by
  subst hn
  exact aig_run_ok hs hm hr hvl hv0 hf h
theorem value_n {vs : List Bool} {e : Int} {id n : Nat} {cap : Option Nat} {σ : GS} {Post : DV → GS → Prop} (hr : σ[id]? = some (.row false (bools vs))) (hn : vs.length = n) (h0 : 0 ≤ e) (h1 : e < 2 * vs.length) (hl : vs.length < 2 ^ 50) (h : Post (.bool (edgeV vs e)) σ) :
    GCall Tryz.prog F_aig_value [.slice id 0 n 1 cap, .int .i64 e] σ Post := by
  subst hn
  exact aig_value_row hr h0 h1 (by omega) h
theorem vals_zero (g : AigP) (on : Int → Bool) : (g.vals on)[0]? = some false := by
  unfold AigP.vals
  have : ∀ (l : List (Int × Int)) (vs : List Bool), vs[0]? = some false → (l.foldl andStep vs)[0]? = some false := by
    intro l
    induction l with
    | nil => intro vs h; exact h
    | cons p l ih => intro vs h; rw [List.foldl_cons]; exact ih _ (by unfold andStep; rw [List.getElem?_append_left (get_dom h)]; exact h)
  exact this _ _ rfl
set_option maxHeartbeats 4000000 in
theorem aig_Table_ok {g : AigP} {e : Int} {vars : List Int} {σ : GS} {Post : DV → GS → Prop} (hs : g.Sm) (hl : vars.length < 2 ^ 50) (h : Post (.tuple [fbools (g.table e vars).1, .int .i64 (g.table e vars).2]) σ) : GCall Tryz.prog F_aig_Table [g.enc, .int .i64 e, fints vars] σ Post := by
  refine GCall.pure (r := .tuple [fbools (g.table e vars).1, .int .i64 (g.table e vars).2]) ?_ (by simp) h
  refine gc_aig_Table ?_
  simp [G_aig_Table, genv0, List.replicate, galloc]
  have err : ∀ (σ' : GS) (k : Int), g.table e vars = ([], k) → Rd σ' (OkN σ.length σ') (.tuple [.nils, .int .i64 k]) (.tuple [fbools (g.table e vars).1, .int .i64 (g.table e vars).2]) := fun σ' k hk => by
    rw [hk]; exact .tuple (.cons (.nils 1) (.cons (.same _) .nil))
  refine gfor vars.length (fun i e' σ' => e' = mkEnv 74 [(1, .int .i64 e), (2, fints vars), (3, .ptr σ.length 0), (8, .ptr (σ.length + 2) 0), (17, fints vars), (18, .int .i64 vars.length), (19, .int .i64 i)] ∧
      σ'[σ.length]? = some (.row false [fints g.ins, fands g.ands]) ∧ σ'[σ.length + 2]? = some (.row false [.map (σ.length + 1)]) ∧ (∃ E, MpO kint σ' (σ.length + 1) E ∧ ∀ v, kget v E = if 0 ≤ idxF (fun y => decide (y = v)) 0 (vars.take i) then some (kint (idxF (fun y => decide (y = v)) 0 (vars.take i))) else none) ∧ diffV (vars.take i) = true ∧ Fr σ.length σ σ' ∧ σ'.length = σ.length + 3) _ ?_ ⟨rfl, by simp, by simp, ⟨[], ⟨by simp, ([], 0), ⟨rfl, by simp, by simp⟩, by simp [kenc]⟩, fun v => by simp [kget, idxF]⟩, by simp [diffV], Fr.self _, by simp⟩ ?_
  · simp [mkEnv, List.replicate]
  rintro i _ σ' hi ⟨rfl, hA, hD, ⟨E, hM, hE⟩, hdf, hF, hlen⟩
  have hldD : gload (.load 1 false) [.ptr (σ.length + 2) 0] σ' = some (.map (σ.length + 1)) := by rw [ld_at hD]; rfl
  simp [mkEnv, List.replicate]
  by_cases hlt : i < vars.length
  · obtain ⟨y, hy⟩ := nth_lt hlt
    have hy' := nth_get hy
    have es : IntKind.i64.wrap ((i : Int) + 1) = (i : Int) + 1 := by rw [wrap_small] <;> omega
    have hlk : gload (.lookup (.int .i64) (.int .i64 0) true) [.map (σ.length + 1), .int .i64 y] σ' = _ := hM.lookup (kt := .int .i64) y (.int .i64 0) true
    rw [hE] at hlk
    have bad : (isVar y = false ∨ y ∈ vars.take i) → g.table e vars = ([], 2) := fun hb => by
      unfold AigP.table; rw [if_neg (by rw [diffV_bad hy' hb]; simp)]
    by_cases c1 : 0 ≤ idxF (fun z => decide (z = y)) 0 (vars.take i)
    · rw [if_pos c1] at hlk
      simp at hlk
      have hmem : y ∈ vars.take i := by
        rcases idxF_cases (fun z => decide (z = y)) (vars.take i) 0 with ⟨g1, _⟩ | ⟨k, z, g1, g2, g3, _⟩
        · omega
        · simp at g3; subst g3; exact List.mem_of_getElem? g2
      simp [hlt, hy, hldD, hlk]
      exact ⟨hF, err _ _ (bad (.inr hmem))⟩
    · have c1n := idxF_neg c1
      rw [if_neg c1] at hlk
      simp at hlk
      simp [hlt, hy, hldD, hlk]
      refine aig_variable_ok ?_
      by_cases c2 : isVar y = true
      rotate_left
      · simp [c2]
        exact ⟨hF, err _ _ (bad (.inl (by simpa using c2)))⟩
      obtain ⟨o, ho1, ho2⟩ := hM.set (kt := .int .i64) y (.int .i64 i)
      replace ho1 : gimp (.mset (.int .i64)) [.map (σ.length + 1), .int .i64 y, .int .i64 i] σ' = _ := ho1
      have hno : y ∉ vars.take i := fun hm => by
        rcases idxF_cases (fun z => decide (z = y)) (vars.take i) 0 with ⟨_, g2⟩ | ⟨k, z, g1, _⟩
        · have := g2 y hm; simp at this
        · omega
      simp [c2, hldD, ho1, es]
      refine forK_go _ hlt (by simp [mkEnv, List.replicate]) ⟨rfl, ?_, ?_, ⟨_, ho2, fun v => ?_⟩, ?_, hF.set (by omega) _, by simpa using hlen⟩
      · rw [List.getElem?_set_ne (by omega)]; exact hA
      · rw [List.getElem?_set_ne (by omega)]; exact hD
      · rw [kget_set, take_get hy', idxF_append, hE]
        by_cases hv : v = y
        · subst hv
          rw [if_pos rfl, if_neg c1]
          have hmin : (vars.take i).length = i := by rw [List.length_take]; omega
          simp [idxF]
          omega
        · have hvy : ¬ y = v := fun e => hv e.symm
          rw [if_neg hv]
          by_cases c3 : 0 ≤ idxF (fun z => decide (z = v)) 0 (vars.take i)
          · simp [c3]
          · simp [c3, idxF, hvy]
      · rw [take_get hy']
        unfold diffV at hdf ⊢
        simp only [Bool.and_eq_true, decide_eq_true_eq] at hdf ⊢
        refine ⟨by rw [List.all_append, hdf.1]; simp [c2], ?_⟩
        rw [List.nodup_append]
        refine ⟨hdf.2, by simp, fun a ha b hb => ?_⟩
        simp at hb; subst hb; exact fun e => hno (e ▸ ha)
  · have : i = vars.length := by omega
    subst this
    rw [List.take_length] at hE hdf
    have hldA : gload (.load 2 true) [.ptr σ.length 0] σ' = some g.enc := by rw [ld_agg hA]; rfl
    simp [hldA]
    refine all_one (e := e) hs (by simp) ?_
    by_cases c1 : g.all [e] = true
    rotate_left
    · simp [c1]
      exact ⟨hF.app _, err _ _ (by unfold AigP.table; rw [if_neg (by simp [c1])])⟩
    simp [c1]
    by_cases c2 : (16 : Int) < vars.length
    · simp [c2]
      exact ⟨hF.app _, err _ _ (by unfold AigP.table; rw [if_pos (by simp [c1, hdf]), if_pos (by omega)])⟩
    have hl16 : vars.length ≤ 16 := by omega
    have hsp : g.table e vars = ((List.range (2 ^ vars.length)).map fun i => edgeV (g.vals (tabOn vars i)) e, 0) := by
      unfold AigP.table; rw [if_pos (by simp [c1, hdf]), if_neg (by omega)]
    rw [hsp]
    obtain ⟨N, hN⟩ : ∃ N, 2 ^ vars.length = N := ⟨_, rfl⟩
    have hNle : N ≤ 65536 := by rw [← hN]; exact Nat.pow_le_pow_right (by decide) hl16
    have hsh := shl_one hl16 .none
    rw [hN] at hsh ⊢
    have hm := AigP.all_may c1
    have hnn := AigP.may_nodes hm
    obtain ⟨he0, he1⟩ := AigP.all_has c1 (List.mem_singleton_self e)
    have hgn : g.nodes = 1 + g.ins.length + g.ands.length := rfl
    have hvar := insOk_vars (AigP.may_ins hm)
    obtain ⟨n, hne⟩ : ∃ n, g.nodes = n := ⟨_, rfl⟩
    have hldA' : ∀ τ, gload (.load 2 true) [.ptr σ.length 0] (σ' ++ τ) = some g.enc := fun τ => by rw [ld_agg (getE_append hA)]; rfl
    have hms : galloc (.mslice 1 1 [.bool false]) [.int .i64 (N : Int), .int .i64 (N : Int)] = some (.row false (bools (List.replicate N false)), fun id => .slice id 0 N 1 (some N)) := mslice_bools (by omega) _ _
    have hms2 : galloc (.mslice 1 1 [.bool false]) [.int .i64 (n : Int), .int .i64 (n : Int)] = some (.row false (bools (List.replicate n false)), fun id => .slice id 0 n 1 (some n)) := mslice_bools (by omega) _ _
    obtain ⟨R0, hR0⟩ : ∃ R, List.replicate N false = R := ⟨_, rfl⟩
    obtain ⟨V0, hV0⟩ : ∃ R, List.replicate n false = R := ⟨_, rfl⟩
    have hR0l : R0.length = N := by rw [← hR0]; exact List.length_replicate
    have hV0l : V0.length = n := by rw [← hV0]; exact List.length_replicate
    have hV00 : V0[0]? = some false := by rw [← hV0, List.getElem?_replicate, if_pos (by omega)]
    rw [hR0] at hms
    rw [hV0] at hms2
    simp [c2, hsh, hms, hldA', -gb_shl]
    refine aig_nodes_ok hs ?_
    rw [hne]
    simp [hms2]
    refine gfor N (fun i e' τ => e' = mkEnv 74 [(1, .int .i64 e), (3, .ptr σ.length 0), (8, .ptr (σ.length + 2) 0), (13, .slice (σ.length + 4) 0 N 1 (some N)), (14, .slice (σ.length + 5) 0 n 1 (some n)), (58, .int .i64 N), (59, .int .i64 i)] ∧
        (∀ j, j < σ.length + 3 → τ[j]? = σ'[j]?) ∧ (∃ z, τ[σ.length + 4]? = some (.row false (bools ((List.range i).map (fun i => edgeV (g.vals (tabOn vars i)) e) ++ z))) ∧ i + z.length = N) ∧ (∃ V, τ[σ.length + 5]? = some (.row false (bools V)) ∧ V.length = n ∧ V[0]? = some false) ∧ σ.length + 6 ≤ τ.length) _ ?_ ⟨rfl, fun j hj => List.getElem?_append_left (by omega), ⟨R0, by
          have : (σ' ++ [GObj.row false [.int .i64 e], .row false (bools R0), .row false (bools V0)])[σ'.length + 1]? = some (.row false (bools R0)) := by simp
          rw [hlen] at this; simpa using this, by omega⟩, ⟨V0, by
          have : (σ' ++ [GObj.row false [.int .i64 e], .row false (bools R0), .row false (bools V0)])[σ'.length + 2]? = some (.row false (bools V0)) := by simp
          rw [hlen] at this; simpa using this, hV0l, hV00⟩, by simp; omega⟩ ?_
    · simp [mkEnv, List.replicate, hlen, hR0l]
    clear hlt hi
    rintro i _ τ hi ⟨rfl, hb, ⟨z, hrow, hzl⟩, ⟨V, hV, hVl, hV1⟩, hτl⟩
    simp [mkEnv, List.replicate]
    by_cases hlt : i < N
    · obtain ⟨X, hX⟩ : ∃ X, [GObj.row false [.int .i64 (i : Int)]] = X := ⟨_, rfl⟩
      have es : IntKind.i64.wrap ((i : Int) + 1) = (i : Int) + 1 := by rw [wrap_small] <;> omega
      have hAτ := (hb _ (by omega)).trans hA
      have hldτ : gload (.load 2 true) [.ptr σ.length 0] (τ ++ X) = some g.enc := by rw [ld_agg (getE_append hAτ)]; rfl
      simp [hlt]
      rw [hX]
      simp [hldτ]
      refine run_n (pre := []) (on := tabOn vars i) hs hm (getE_append hV) hVl hne.symm hV1 (fun x hx σ2 hk K hK => ?_) ?_
      · have hk' : ∀ j, j < σ.length + 3 → σ2[j]? = σ'[j]? := fun j hj => (hk j (by omega) (by simp; omega)).trans ((List.getElem?_append_left (by omega)).trans (hb j hj))
        refine aig_Table_1_ok (i := i) ((hk' _ (by omega)).trans hD) (hM.fit (hk' _ (by omega))) ?_ hl16 (by omega) (hE x) hK
        rw [hk _ (by omega) (by rw [← hX]; simp), ← hX]; simp
      · have hXl : X.length = 1 := by rw [← hX]; rfl
        obtain ⟨τ2, hτ2⟩ : ∃ τ2, (τ ++ X).set (σ.length + 5) (.row false (bools (g.vals (tabOn vars i)))) = τ2 := ⟨_, rfl⟩
        have hne2 : ∀ j, j ≠ σ.length + 5 → τ2[j]? = (τ ++ X)[j]? := fun j hj => by rw [← hτ2]; exact List.getElem?_set_ne (Ne.symm hj)
        have hl2 : τ2.length = τ.length + 1 := by rw [← hτ2]; simp [hXl]
        have hv2 : τ2[σ.length + 5]? = some (.row false (bools (g.vals (tabOn vars i)))) := by rw [← hτ2, List.getElem?_set_self (by simp [hXl]; omega)]
        have hi2 : gload (.load 1 false) [.ptr τ.length 0] τ2 = some (.int .i64 i) := by
          have : τ2[τ.length]? = some (.row false [.int .i64 (i : Int)]) := by rw [hne2 _ (by omega), ← hX]; simp
          rw [ld_at this]; rfl
        have hr2 := (hne2 (σ.length + 4) (by omega)).trans (getE_append (τ := X) hrow)
        have hgl := AigP.vals_len g (tabOn vars i)
        rw [hτ2]
        simp [hi2]
        refine value_n hv2 (by omega) he0 (by omega) (by omega) ?_
        cases z with
        | nil => simp at hzl; omega
        | cons z0 z =>
        simp at hzl
        have hia := iaddr_own (id := σ.length + 4) (n := N) (sz := 1) (i := i) (k := .i64) (cap := some N) hlt
        rw [Nat.mul_one] at hia
        have hsto := store_bool (b := edgeV (g.vals (tabOn vars i)) e) hr2 (i := i) (by simp)
        rw [set_mid (by simp)] at hsto
        simp [hi2, hia, hsto, es]
        refine forK_go _ hlt (by simp [mkEnv, List.replicate]) ⟨rfl, fun j hj => ?_, ⟨z, ?_, by omega⟩, ⟨g.vals (tabOn vars i), ?_, by rw [hgl, hne], vals_zero _ _⟩, by simp; omega⟩
        · rw [List.getElem?_set_ne (by omega), hne2 _ (by omega), List.getElem?_append_left (by omega)]; exact hb j hj
        · rw [List.getElem?_set_self (by omega), List.range_succ]; simp
        · rw [List.getElem?_set_ne (by omega)]; exact hv2
    · have : i = N := by omega
      subst this
      have : z = [] := List.length_eq_zero_iff.1 (by omega)
      subst this
      rw [List.append_nil] at hrow
      simp
      refine ⟨⟨by omega, fun j hj => (hb j (by omega)).trans (hF.get j hj)⟩, .tuple (.cons ?_ (.cons (.same _) .nil))⟩
      have := rd_bools (ok := OkN σ.length τ) (cap := some i) hrow (.inl (by omega))
      simpa using this
end Go.Gh
namespace Go.Gh
open Go.RowKit Go.Proofs
set_option linter.unusedVariables false
set_option linter.unusedSimpArgs false
set_option maxRecDepth 100000
theorem diffV_push {l : List Int} {y : Int} (h : diffV l = true) (hy : isVar y = true) (hn : y ∉ l) : diffV (l ++ [y]) = true := by
  unfold diffV at h ⊢
  simp only [Bool.and_eq_true, decide_eq_true_eq] at h ⊢
  refine ⟨by rw [List.all_append, h.1]; simp [hy], ?_⟩
  rw [List.nodup_append]
  refine ⟨h.2, by simp, fun a ha b hb => ?_⟩
  simp at hb; subst hb; exact fun e => hn (e ▸ ha)
theorem onF_none (v : Int) : onF (List.replicate 65537 false) v = false := by
  unfold onF; rw [List.getD_eq_getElem?_getD, List.getElem?_replicate]; split <;> rfl
theorem onF_set {L : List Bool} (hl : L.length = 65537) {y v : Int} (hy : isVar y = true) (hv : isVar v = true) (b : Bool) : onF (L.set y.toNat b) v = if v = y then b else onF L v := by
  simp only [isVar, Bool.and_eq_true, decide_eq_true_eq] at hy hv
  unfold onF
  rw [getD_set_b (by omega)]
  by_cases h : v = y
  · subst h; rw [if_pos rfl, if_pos rfl]
  · rw [if_neg (by omega), if_neg h]
theorem ref_different_ok {vars : List Int} {σ : GS} {Post : DV → GS → Prop} (hl : vars.length < 2 ^ 50) (h : Post (.bool (diffV vars)) σ) : GCall Tryz.prog F_skolemref06_different [fints vars] σ Post := by
  refine GCall.say (r := .bool (diffV vars)) ?_ rfl h
  refine gc_skolemref06_different ?_
  have hms := mslice_bools (show 65537 < 2 ^ 40 by decide) .i64 .i64
  rw [show ((65537 : Nat) : Int) = 65537 from rfl] at hms
  obtain ⟨m0, hm0⟩ : ∃ m0, List.replicate 65537 false = m0 := ⟨_, rfl⟩
  rw [hm0] at hms
  have hm0l : m0.length = 65537 := by rw [← hm0]; exact List.length_replicate
  simp [G_skolemref06_different, genv0, List.replicate, hms]
  refine gfor vars.length (fun i e σ' => (∃ m, σ' = σ ++ (.row false (bools m) :: []) ∧ m.length = 65537 ∧ ∀ v, isVar v = true → onF m v = (vars.take i).contains v) ∧ diffV (vars.take i) = true ∧ e = mkEnv 39 [(0, fints vars), (3, .slice σ.length 0 65537 1 (some 65537)), (4, .int .i64 i)]) _ ?_ ⟨⟨m0, by simp, hm0l, fun v _ => by rw [← hm0, onF_none]; simp⟩, by simp [diffV], rfl⟩ ?_
  · simp [mkEnv, List.replicate]
  rintro i _ _ hi ⟨⟨m, rfl, hml, hI⟩, hdf, rfl⟩
  simp [mkEnv, List.replicate]
  by_cases hlt : i < vars.length
  · obtain ⟨y, hy⟩ := nth_lt hlt
    have hy' := nth_get hy
    have es : IntKind.i64.wrap ((i : Int) + 1) = (i : Int) + 1 := by rw [wrap_small] <;> omega
    by_cases c1 : y < 1
    · have hv : isVar y = false := by unfold isVar; simp; omega
      simp [hlt, hy, c1, diffV_bad hy' (.inl hv)]
    by_cases c2 : 65536 < y
    · have hv : isVar y = false := by unfold isVar; simp; omega
      simp [hlt, hy, c1, c2, diffV_bad hy' (.inl hv)]
    have hv : isVar y = true := by unfold isVar; simp; omega
    have hia := iaddr_own (id := σ.length) (n := 65537) (sz := 1) (i := y.toNat) (k := .i64) (cap := some 65537) (by omega)
    rw [show ((y.toNat : Nat) : Int) = y by omega, Nat.mul_one] at hia
    obtain ⟨b, hb⟩ := get_lt (xs := m) (i := y.toNat) (by omega)
    have hbv : onF m y = b := by unfold onF; rw [List.getD_eq_getElem?_getD, hb]; rfl
    rw [hI y hv] at hbv
    have hlm : y.toNat < m.length := by omega
    by_cases c3 : y ∈ vars.take i
    · have : b = true := by rw [← hbv]; exact List.contains_iff_mem.2 c3
      subst this
      simp [hlt, hy, c1, c2, hia, hb, diffV_bad hy' (.inr c3)]
    · have : b = false := by rw [← hbv, Bool.eq_false_iff]; exact fun hh => c3 (List.contains_iff_mem.1 hh)
      subst this
      have hbe : m[y.toNat] = false := (List.getElem?_eq_some_iff.1 hb).2
      simp [hlt, hy, c1, c2, hia, hb, hlm, hbe, es]
      refine forK_go _ hlt (by simp [mkEnv, List.replicate]) ⟨⟨m.set y.toNat true, by simp [List.map_set], by simpa using hml, fun v hv' => ?_⟩, ?_, rfl⟩
      · rw [onF_set hml hv hv', take_get hy', hI v hv']
        by_cases e : v = y
        · subst e; simp
        · simp [e]
      · rw [take_get hy']; exact diffV_push hdf hv c3
  · have : i = vars.length := by omega
    subst this
    rw [List.take_length] at hdf
    simp [hdf]
theorem idxF_at {vars : List Int} (hn : vars.Nodup) {k : Nat} {y : Int} (h : vars[k]? = some y) : idxF (fun x => decide (x = y)) 0 vars = (k : Int) := by
  rcases idxF_cases (fun x => decide (x = y)) vars 0 with ⟨_, h2⟩ | ⟨i, x, h1, h2, h3, _⟩
  · have := h2 y (List.mem_of_getElem? h); simp at this
  · simp at h3; subst h3
    obtain ⟨a1, a2⟩ := List.getElem?_eq_some_iff.1 h
    obtain ⟨b1, b2⟩ := List.getElem?_eq_some_iff.1 h2
    have := (List.getElem_inj hn (h₀ := a1) (h₁ := b1)).1 (a2.trans b2.symm)
    rw [h1, this]; omega
theorem tabOn_at {vars : List Int} (hn : vars.Nodup) {k i : Nat} {y : Int} (h : vars[k]? = some y) : tabOn vars i y = bitOf i k := by
  unfold tabOn; rw [idxF_at hn h, if_pos (by omega)]; simp
theorem tabOn_not {vars : List Int} {i : Nat} {v : Int} (h : v ∉ vars) : tabOn vars i v = false := by
  unfold tabOn
  rcases idxF_cases (fun x => decide (x = v)) vars 0 with ⟨h1, _⟩ | ⟨k, x, _, h2, h3, _⟩
  · rw [h1]; rfl
  · simp at h3; subst h3; exact absurd (List.mem_of_getElem? h2) h
abbrev ebl (b : Bool) : List DV := [.bool b]
set_option maxHeartbeats 4000000 in
theorem ref_Table_ok {g : AigP} {e : Int} {vars : List Int} {σ : GS} {Post : DV → GS → Prop} (hs : g.Sm) (hl : vars.length < 2 ^ 50) (h : Post (.tuple [fbools (g.table e vars).1, .int .i64 (g.table e vars).2]) σ) : GCall Tryz.prog F_skolemref06_Table [g.enc, .int .i64 e, fints vars] σ Post := by
  refine GCall.pure (r := .tuple [fbools (g.table e vars).1, .int .i64 (g.table e vars).2]) ?_ (by simp) h
  refine gc_skolemref06_Table ?_
  have err : ∀ (σ' : GS) (k : Int), g.table e vars = ([], k) → Rd σ' (OkN σ.length σ') (.tuple [.nils, .int .i64 k]) (.tuple [fbools (g.table e vars).1, .int .i64 (g.table e vars).2]) := fun σ' k hk => by
    rw [hk]; exact .tuple (.cons (.nils 1) (.cons (.same _) .nil))
  simp [G_skolemref06_Table, genv0, List.replicate]
  refine ref_Has_ok hs ?_
  by_cases c1 : g.all [e] = true
  rotate_left
  · simp [c1]
    exact err _ _ (by unfold AigP.table; rw [if_neg (by simp [c1])])
  simp [c1]
  refine ref_different_ok hl ?_
  by_cases hdf : diffV vars = true
  rotate_left
  · simp [hdf]
    exact err _ _ (by unfold AigP.table; rw [if_neg (by simp [hdf])])
  simp [hdf]
  by_cases c2 : (16 : Int) < vars.length
  · simp [c2]
    exact err _ _ (by unfold AigP.table; rw [if_pos (by simp [c1, hdf]), if_pos (by omega)])
  have hl16 : vars.length ≤ 16 := by omega
  have hsp : g.table e vars = ((List.range (2 ^ vars.length)).map fun i => edgeV (g.vals (tabOn vars i)) e, 0) := by
    unfold AigP.table; rw [if_pos (by simp [c1, hdf]), if_neg (by omega)]
  rw [hsp]
  obtain ⟨N, hN⟩ : ∃ N, 2 ^ vars.length = N := ⟨_, rfl⟩
  have hNle : N ≤ 65536 := by rw [← hN]; exact Nat.pow_le_pow_right (by decide) hl16
  have hsh := shl_one hl16 .none
  rw [hN] at hsh ⊢
  have hm := AigP.all_may c1
  have hnn := AigP.may_nodes hm
  obtain ⟨he0, he1⟩ := AigP.all_has c1 (List.mem_singleton_self e)
  have hgn : g.nodes = 1 + g.ins.length + g.ands.length := rfl
  have hvar := insOk_vars (AigP.may_ins hm)
  have hdv : (∀ v ∈ vars, isVar v = true) ∧ vars.Nodup := by
    unfold diffV at hdf; simp only [Bool.and_eq_true, decide_eq_true_eq, List.all_eq_true] at hdf; exact hdf
  have hms := mslice_bools (show 65537 < 2 ^ 40 by decide) .i64 .i64
  rw [show ((65537 : Nat) : Int) = 65537 from rfl] at hms
  obtain ⟨m0, hm0⟩ : ∃ m0, List.replicate 65537 false = m0 := ⟨_, rfl⟩
  rw [hm0] at hms
  have hm0l : m0.length = 65537 := by rw [← hm0]; exact List.length_replicate
  simp [c2, hms]
  refine gfor N (fun i e' τ => (∃ s, e' = mkEnv 58 [(1, .int .i64 e), (2, fints vars), (3, .ptr σ.length 0), (8, s), (9, .slice (σ.length + 1) 0 65537 1 (some 65537)), (10, .int .i64 i)] ∧ Own (σ.length + 2) 1 ebl τ s ((List.range i).map fun i => edgeV (g.vals (tabOn vars i)) e)) ∧
      τ[σ.length]? = some (.row false [fints g.ins, fands g.ands]) ∧ (∃ L, τ[σ.length + 1]? = some (.row false (bools L)) ∧ L.length = 65537 ∧ ∀ v, isVar v = true → v ∉ vars → onF L v = false) ∧ Fr σ.length σ τ) _ ?_ ⟨⟨.nils, rfl, .nil⟩, by simp, ⟨m0, by simp, hm0l, fun v _ _ => by rw [← hm0]; exact onF_none v⟩, Fr.self _⟩ ?_
  · simp [mkEnv, List.replicate]
  rintro i _ τ hi ⟨⟨s, rfl, hO⟩, hA, ⟨L, hL, hLl, hLo⟩, hF⟩
  have hlen : σ.length + 2 ≤ τ.length := by have := get_dom hL; omega
  simp [mkEnv, List.replicate, -gb_shl, hsh]
  by_cases hlt : i < N
  · have es : IntKind.i64.wrap ((i : Int) + 1) = (i : Int) + 1 := by rw [wrap_small] <;> omega
    have hlt' : (i : Int) < N := by omega
    simp [hlt]
    refine gfor vars.length (fun k e' τ' => e' = mkEnv 58 [(1, .int .i64 e), (2, fints vars), (3, .ptr σ.length 0), (8, s), (9, .slice (σ.length + 1) 0 65537 1 (some 65537)), (10, .int .i64 i), (11, .int .i64 k)] ∧ (∀ j, j ≠ σ.length + 1 → τ'[j]? = τ[j]?) ∧ τ'.length = τ.length ∧
        ∃ L', τ'[σ.length + 1]? = some (.row false (bools L')) ∧ L'.length = 65537 ∧ (∀ v, isVar v = true → v ∉ vars → onF L' v = false) ∧ ∀ (j : Nat) v, j < k → vars[j]? = some v → onF L' v = tabOn vars i v) _ ?_ ⟨rfl, fun _ _ => rfl, rfl, L, hL, hLl, hLo, fun j v hj => absurd hj (Nat.not_lt_zero _)⟩ ?_
    · simp [mkEnv, List.replicate]
    rintro k _ τ' hk ⟨rfl, hoth, htl, L', hL', hLl', hLo', hLk⟩
    simp [mkEnv, List.replicate]
    by_cases hkl : k < vars.length
    · obtain ⟨y, hy⟩ := nth_lt hkl
      have hy' := nth_get hy
      have hyv := hdv.1 y (List.mem_of_getElem? hy')
      have hyr := hyv
      simp only [isVar, Bool.and_eq_true, decide_eq_true_eq] at hyr
      have eks : IntKind.i64.wrap ((k : Int) + 1) = (k : Int) + 1 := by rw [wrap_small] <;> omega
      have hshr := shr_nat (i := i) (k := k) (by omega) .none
      have hd : i / 2 ^ k ≤ i := Nat.div_le_self _ _
      obtain ⟨q, hq⟩ : ∃ q, i / 2 ^ k = q := ⟨_, rfl⟩
      have hbit : tabOn vars i y = decide ((q : Int) % 2 = 1) := by
        rw [tabOn_at hdv.2 hy']; unfold bitOf; rw [hq, decide_eq_decide]; omega
      rw [hq] at hshr hd
      have hb := bits_and_one (e := (q : Int)) (by omega) (by omega)
      have hia := iaddr_own (id := σ.length + 1) (n := 65537) (sz := 1) (i := y.toNat) (k := .i64) (cap := some 65537) (by omega)
      rw [show ((y.toNat : Nat) : Int) = y by omega, Nat.mul_one] at hia
      have hsto := store_bool (b := decide ((q : Int) % 2 = 1)) hL' (i := y.toNat) (by omega)
      simp [hkl, hy, -gb_shr, hshr, hb, hia, hsto, eks]
      refine forK_go _ hkl (by simp [mkEnv, List.replicate]) ⟨rfl, fun j hj => ?_, by simpa using htl, L'.set y.toNat (decide ((q : Int) % 2 = 1)), ?_, by simpa using hLl', fun v hv hno => ?_, fun j v hj hjv => ?_⟩
      · rw [List.getElem?_set_ne (Ne.symm hj)]; exact hoth j hj
      · rw [List.getElem?_set_self (get_dom hL')]; simp [List.map_set]
      · rw [onF_set hLl' hyv hv, if_neg (fun e => hno (by rw [e]; exact List.mem_of_getElem? hy'))]; exact hLo' v hv hno
      · have hv := hdv.1 v (List.mem_of_getElem? hjv)
        rw [onF_set hLl' hyv hv]
        by_cases e : v = y
        · rw [if_pos e, e, hbit]
        · rw [if_neg e]
          refine hLk j v ?_ hjv
          rcases Nat.lt_or_ge j k with h' | h'
          · exact h'
          · have : j = k := by omega
            subst this; rw [hy'] at hjv; cases hjv; exact absurd rfl e
    · have : k = vars.length := by omega
      subst this
      have hon : ∀ v, isVar v = true → onF L' v = tabOn vars i v := fun v hv => by
        by_cases hm' : v ∈ vars
        · obtain ⟨j, hj⟩ := List.mem_iff_getElem?.1 hm'
          exact hLk j v (get_dom hj) hj
        · rw [hLo' v hv hm', tabOn_not hm']
      have hveq : g.vals (onF L') = g.vals (tabOn vars i) := by
        unfold AigP.vals
        rw [List.map_congr_left fun v hv => hon v (hvar v hv)]
      have hA' := (hoth _ (by omega)).trans hA
      have hldA : gload (.load 2 true) [.ptr σ.length 0] τ' = some g.enc := by rw [ld_agg hA']; rfl
      have hgl := AigP.vals_len g (tabOn vars i)
      simp [hldA]
      refine ref_All_gen hm hLl' (vb_row hL' hLl') ?_
      rw [hveq]
      simp
      refine ref_Of_ok he0 (by omega) (by omega) ?_
      have hO' : Own (σ.length + 2) 1 ebl τ' s ((List.range i).map fun i => edgeV (g.vals (tabOn vars i)) e) := hO.fit fun j hj => hoth j (by have := hO.has_ge hj; omega)
      obtain ⟨s', σ1, q1, q2, q3, q4, q5, q6⟩ := hO'.push (by_ := 1) (edgeV (g.vals (tabOn vars i)) e) (fun _ => rfl) (by simp) (by omega) (by simp; omega) (by decide)
      have hbs : ∀ b : Bool, galloc (.bslice 1 [.bool false] 1 [(0, 1)]) [.bool b] = some (.row false [.bool b], fun id => .slice id 0 1 1 (some 1)) := fun b => ga_b1_flat rfl
      simp [hbs, q1, es]
      refine forK_go _ hlt (by simp [mkEnv, List.replicate]) ⟨⟨s', rfl, ?_⟩, (q3.get _ (by omega)).trans hA', ⟨L', (q3.get _ (by omega)).trans hL', hLl', hLo'⟩, ⟨by omega, fun j hj => by rw [q3.get _ (by omega), hoth _ (by omega)]; exact hF.get j hj⟩⟩
      rw [List.range_succ, List.map_append]; simpa using q2
  · have : i = N := by omega
    subst this
    simp
    exact ⟨hF, .tuple (.cons (hO.rd (fun _ => rfl) fun i hi => .inl (by omega)) (.cons (.same _) .nil))⟩
theorem table_len (g : AigP) (e : Int) (vars : List Int) : (g.table e vars).1.length < 2 ^ 60 := by
  unfold AigP.table
  split
  · split
    · simp
    · have : 2 ^ vars.length ≤ 2 ^ 16 := Nat.pow_le_pow_right (by decide) (by omega)
      simp only [List.length_map, List.length_range]
      omega
  · simp
set_option maxHeartbeats 4000000 in
theorem values_ok {g : AigP} {e : Int} {a vars : List Int} {σ : GS} {Post : DV → GS → Prop} (h1 : g.ins.length < 2 ^ 47) (h2 : g.ands.length < 2 ^ 47) (hl : a.length < 2 ^ 47) (hv : vars.length < 2 ^ 47) (h6 : I64 a) (k : ∀ σ', Post (.bool true) σ') : GCall Tryz.prog F_skolemlaw06_AigValues [g.enc, .int .i64 e, fints a, fints vars] σ Post := by
  refine gc_skolemlaw06_AigValues ?_
  simp [G_skolemlaw06_AigValues, genv0, List.replicate]
  refine great_one (g := g) (by simp) ?_
  by_cases c1 : g.great = true
  · simp [c1]
    refine works_ok ?_
    simp
    exact k _
  have hs : g.Sm := ⟨by omega, by omega⟩
  simp [c1]
  by_cases c2 : (200 : Int) < a.length
  · simp [c2]
    refine works_ok ?_
    simp
    exact k _
  simp [c2]
  by_cases c3 : (200 : Int) < vars.length
  · simp [c3]
    refine works_ok ?_
    simp
    exact k _
  simp [c3]
  have fin : ∀ ws : List Int, True := fun _ => trivial
  have hsl : 8 ≤ vars.length → gpure (.slice 1 false true false) [fints vars, .int .i64 8] = some (fints (vars.take 8)) := fun h8 => by
    simp only [gpure, gslice, if_true, gbm, Option.bind_some, gbh, gbl, gbound, List.length_map]
    rw [if_pos (by omega)]
    simp [List.map_take]
  by_cases c4 : (8 : Int) < vars.length
  · by_cases c5 : (vars.length : Int) ≤ 16
    · obtain ⟨ws, hws⟩ : ∃ ws, vars.take 8 = ws := ⟨_, rfl⟩
      have hwl : ws.length ≤ 200 := by rw [← hws, List.length_take]; omega
      have h8 := hsl (by omega)
      rw [hws] at h8
      simp [c4, c5, h8]
      obtain ⟨E, hE⟩ : ∃ E, g.eval e a = E := ⟨_, rfl⟩
      have htl := table_len g e ws
      obtain ⟨T, hT⟩ : ∃ T, g.table e ws = T := ⟨_, rfl⟩
      refine aig_Eval_ok hs (by omega) h6 ?_
      rw [hE]
      simp
      refine ref_Eval_ok hs (by omega) h6 ?_
      rw [hE]
      simp
      refine aig_Table_ok hs (by omega) ?_
      rw [hT]
      simp
      refine ref_Table_ok hs (by omega) ?_
      rw [hT] at htl ⊢
      simp
      refine bools_ok htl ?_
      simp
      refine works_ok ?_
      simp
      exact k _
    · simp [c4, c5]
      obtain ⟨E, hE⟩ : ∃ E, g.eval e a = E := ⟨_, rfl⟩
      have htl := table_len g e vars
      obtain ⟨T, hT⟩ : ∃ T, g.table e vars = T := ⟨_, rfl⟩
      refine aig_Eval_ok hs (by omega) h6 ?_
      rw [hE]
      simp
      refine ref_Eval_ok hs (by omega) h6 ?_
      rw [hE]
      simp
      refine aig_Table_ok hs (by omega) ?_
      rw [hT]
      simp
      refine ref_Table_ok hs (by omega) ?_
      rw [hT] at htl ⊢
      simp
      refine bools_ok htl ?_
      simp
      refine works_ok ?_
      simp
      exact k _
  · simp [c4]
    obtain ⟨E, hE⟩ : ∃ E, g.eval e a = E := ⟨_, rfl⟩
    have htl := table_len g e vars
    obtain ⟨T, hT⟩ : ∃ T, g.table e vars = T := ⟨_, rfl⟩
    refine aig_Eval_ok hs (by omega) h6 ?_
    rw [hE]
    simp
    refine ref_Eval_ok hs (by omega) h6 ?_
    rw [hE]
    simp
    refine aig_Table_ok hs (by omega) ?_
    rw [hT]
    simp
    refine ref_Table_ok hs (by omega) ?_
    rw [hT] at htl ⊢
    simp
    refine bools_ok htl ?_
    simp
    refine works_ok ?_
    simp
    exact k _
end Go.Gh
