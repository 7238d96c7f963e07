/-
  Proved: enc's clauses of graphs.
  Part 6 of 9. Conditions: none. A verified frame that runs compiled texts over a ghost heap, the contracts of the functions that the statement reaches, and the plain law.
-/
import Derived.Test.YtdpbcckkdccmlaaGreatXP5
import Derived.Test.YtdpbcckkdccmlaaGreatProg
import Derived.KernelRfl
import Derived.Shelf.SlSortCmp.NoneTotal
namespace Go.Gh
end Go.Gh
namespace Go.Gh
open Go.Proofs
theorem seatfollows : Tryz.prog.follows .mixedOrders = true := by kernel_rfl
abbrev F_slices_ContainsFunc_int_int : Nat := 80
abbrev F_aig_May : Nat := 83
abbrev F_slices_Backward__2_int__2_int : Nat := 85
abbrev F_aig_nodes : Nat := 120
abbrev F_slices_IndexFunc_int_int : Nat := 140
abbrev F_slices_Clone_int_int : Nat := 145
abbrev F_aig_inputs : Nat := 153
abbrev F_slices_Backward__2_int__2_int_1 : Nat := 154
abbrev F_aig_variable : Nat := 187
noncomputable abbrev G_aig_variable : GFun := ⟨9, [(.tmp 2)], (.seq (.region [⟨0, ⟨(some 2), none, (.pure .id), [(.const (.bool false))]⟩, []⟩]) (.seq (.region [⟨0, ⟨(some 3), none, (.pure .id), [(.tmp 0)]⟩, []⟩, ⟨0, ⟨(some 4), none, (.pure (.bin .geq .none)), [(.tmp 3), (.const (.int .i64 1))]⟩, []⟩, ⟨0, ⟨(some 5), none, (.pure .id), [(.tmp 4)]⟩, []⟩, ⟨0, ⟨(some 6), (some (5, true)), (.pure .id), [(.tmp 0)]⟩, []⟩, ⟨0, ⟨(some 7), (some (5, true)), (.pure (.bin .leq .none)), [(.tmp 6), (.const (.int .i64 65536))]⟩, []⟩, ⟨0, ⟨(some 8), none, (.pure .pick), [(.tmp 5), (.tmp 7), (.const (.bool false))]⟩, []⟩, ⟨0, ⟨(some 2), none, (.pure .id), [(.tmp 8)]⟩, []⟩]) .ret))⟩
theorem c_aig_variable : compF Tryz.prog Tryz.f187 = some G_aig_variable := by kernel_rfl
theorem gc_aig_variable {args : List DV} {σ : GS} {Post : DV → GS → Prop} (h : @exB Tryz.prog ⟨G_aig_variable.body⟩ (genv0 args G_aig_variable.ntmps) σ ⟨@gretB G_aig_variable.results ⟨Post⟩⟩) : GCall Tryz.prog F_aig_variable args σ Post := gcall_ofB seatfollows Tryz.func187 (by kernel_rfl) c_aig_variable h
noncomputable abbrev G_aig_inputs : GFun := ⟨22, [(.tmp 2)], (.seq (.region [⟨0, ⟨(some 2), none, (.pure .id), [(.const (.bool false))]⟩, []⟩]) (.seq (.region [⟨0, ⟨(some 3), none, (.pure .id), [(.const (.int .i64 0))]⟩, []⟩]) (.seq (.seq (.region [⟨0, ⟨(some 6), none, (.pure .id), [(.tmp 0)]⟩, []⟩, ⟨0, ⟨(some 7), none, (.pure .len), [(.tmp 6)]⟩, []⟩, ⟨0, ⟨(some 8), none, (.pure .id), [(.const (.int .i64 0))]⟩, []⟩]) (.block 0 (.loop (.seq (.region [⟨0, ⟨(some 9), none, (.pure (.bin .lss .none)), [(.tmp 8), (.tmp 7)]⟩, []⟩]) (.seq (.cond (.tmp 9) .skip (.exit 0)) (.seq (.block 1 (.seq (.region [⟨0, ⟨(some 10), none, (.pure (.iaddr 1)), [(.tmp 6), (.tmp 8)]⟩, []⟩, ⟨0, ⟨(some 11), none, (.load (.load 1 false)), [(.tmp 10)]⟩, []⟩, ⟨0, ⟨(some 5), none, (.pure .id), [(.tmp 11)]⟩, []⟩]) (.seq (.seq (.region [⟨0, ⟨(some 12), none, (.pure .id), [(.tmp 5)]⟩, []⟩, ⟨0, ⟨(some 13), none, (.call F_aig_variable), [(.tmp 12)]⟩, []⟩, ⟨0, ⟨(some 14), none, (.pure (.un .not)), [(.tmp 13)]⟩, []⟩, ⟨0, ⟨(some 15), none, (.pure .id), [(.tmp 14)]⟩, []⟩, ⟨0, ⟨(some 16), (some (15, false)), (.pure .id), [(.tmp 5)]⟩, []⟩, ⟨0, ⟨(some 17), (some (15, false)), (.pure .id), [(.tmp 3)]⟩, []⟩, ⟨0, ⟨(some 18), (some (15, false)), (.pure (.bin .leq .none)), [(.tmp 16), (.tmp 17)]⟩, []⟩, ⟨0, ⟨(some 19), none, (.pure .pick), [(.tmp 15), (.const (.bool true)), (.tmp 18)]⟩, []⟩]) (.cond (.tmp 19) (.seq (.region [⟨0, ⟨(some 2), none, (.pure .id), [(.const (.bool false))]⟩, []⟩]) .ret) .skip)) (.region [⟨0, ⟨(some 20), none, (.pure .id), [(.tmp 5)]⟩, []⟩, ⟨0, ⟨(some 3), none, (.pure .id), [(.tmp 20)]⟩, []⟩])))) (.region [⟨0, ⟨(some 21), none, (.pure (.bin .add .none)), [(.tmp 8), (.const (.int .i64 1))]⟩, []⟩, ⟨0, ⟨(some 8), none, (.pure .id), [(.tmp 21)]⟩, []⟩]))))))) (.seq (.region [⟨0, ⟨(some 2), none, (.pure .id), [(.const (.bool true))]⟩, []⟩]) .ret))))⟩
theorem c_aig_inputs : compF Tryz.prog Tryz.f153 = some G_aig_inputs := by kernel_rfl
theorem gc_aig_inputs {args : List DV} {σ : GS} {Post : DV → GS → Prop} (h : @exB Tryz.prog ⟨G_aig_inputs.body⟩ (genv0 args G_aig_inputs.ntmps) σ ⟨@gretB G_aig_inputs.results ⟨Post⟩⟩) : GCall Tryz.prog F_aig_inputs args σ Post := gcall_ofB seatfollows Tryz.func153 (by kernel_rfl) c_aig_inputs h
noncomputable abbrev G_aig_nodes : GFun := ⟨11, [(.tmp 2)], (.seq (.region [⟨0, ⟨(some 1), none, (.new .box), [(.tmp 0)]⟩, []⟩, ⟨0, ⟨(some 2), none, (.pure .id), [(.const (.int .i64 0))]⟩, []⟩]) (.seq (.region [⟨0, ⟨(some 3), none, (.pure (.faddr 0)), [(.tmp 1)]⟩, []⟩, ⟨0, ⟨(some 4), none, (.load (.load 1 false)), [(.tmp 3)]⟩, []⟩, ⟨0, ⟨(some 5), none, (.pure .len), [(.tmp 4)]⟩, []⟩, ⟨0, ⟨(some 6), none, (.pure (.bin .add .none)), [(.const (.int .i64 1)), (.tmp 5)]⟩, []⟩, ⟨0, ⟨(some 7), none, (.pure (.faddr 1)), [(.tmp 1)]⟩, []⟩, ⟨0, ⟨(some 8), none, (.load (.load 1 false)), [(.tmp 7)]⟩, []⟩, ⟨0, ⟨(some 9), none, (.pure .len), [(.tmp 8)]⟩, []⟩, ⟨0, ⟨(some 10), none, (.pure (.bin .add .none)), [(.tmp 6), (.tmp 9)]⟩, []⟩, ⟨0, ⟨(some 2), none, (.pure .id), [(.tmp 10)]⟩, []⟩]) .ret))⟩
theorem c_aig_nodes : compF Tryz.prog Tryz.f120 = some G_aig_nodes := by kernel_rfl
theorem gc_aig_nodes {args : List DV} {σ : GS} {Post : DV → GS → Prop} (h : @exB Tryz.prog ⟨G_aig_nodes.body⟩ (genv0 args G_aig_nodes.ntmps) σ ⟨@gretB G_aig_nodes.results ⟨Post⟩⟩) : GCall Tryz.prog F_aig_nodes args σ Post := gcall_ofB seatfollows Tryz.func120 (by kernel_rfl) c_aig_nodes h
noncomputable abbrev G_aig_May : GFun := ⟨46, [(.tmp 2)], (.seq (.region [⟨0, ⟨(some 1), none, (.new .box), [(.tmp 0)]⟩, []⟩, ⟨0, ⟨(some 2), none, (.pure .id), [(.const (.bool false))]⟩, []⟩]) (.seq (.seq (.region [⟨0, ⟨(some 6), none, (.pure (.faddr 0)), [(.tmp 1)]⟩, []⟩, ⟨0, ⟨(some 7), none, (.load (.load 1 false)), [(.tmp 6)]⟩, []⟩, ⟨0, ⟨(some 8), none, (.call F_aig_inputs), [(.tmp 7)]⟩, []⟩, ⟨0, ⟨(some 9), none, (.pure (.un .not)), [(.tmp 8)]⟩, []⟩, ⟨0, ⟨(some 10), none, (.pure .id), [(.tmp 9)]⟩, []⟩, ⟨0, ⟨(some 11), (some (10, false)), (.load (.load 2 true)), [(.tmp 1)]⟩, []⟩, ⟨0, ⟨(some 12), (some (10, false)), (.call F_aig_nodes), [(.tmp 11)]⟩, []⟩, ⟨0, ⟨(some 13), (some (10, false)), (.pure (.bin .gtr .none)), [(.tmp 12), (.const (.int .i64 200000))]⟩, []⟩, ⟨0, ⟨(some 14), none, (.pure .pick), [(.tmp 10), (.const (.bool true)), (.tmp 13)]⟩, []⟩]) (.cond (.tmp 14) (.seq (.region [⟨0, ⟨(some 2), none, (.pure .id), [(.const (.bool false))]⟩, []⟩]) .ret) .skip)) (.seq (.seq (.region [⟨0, ⟨(some 15), none, (.pure (.faddr 1)), [(.tmp 1)]⟩, []⟩, ⟨0, ⟨(some 16), none, (.load (.load 1 false)), [(.tmp 15)]⟩, []⟩, ⟨0, ⟨(some 17), none, (.pure .len), [(.tmp 16)]⟩, []⟩, ⟨0, ⟨(some 18), none, (.pure .id), [(.const (.int .i64 0))]⟩, []⟩]) (.block 0 (.loop (.seq (.region [⟨0, ⟨(some 19), none, (.pure (.bin .lss .none)), [(.tmp 18), (.tmp 17)]⟩, []⟩]) (.seq (.cond (.tmp 19) .skip (.exit 0)) (.seq (.block 1 (.seq (.region [⟨0, ⟨(some 20), none, (.pure .id), [(.tmp 18)]⟩, []⟩, ⟨0, ⟨(some 21), none, (.pure (.iaddr 2)), [(.tmp 16), (.tmp 18)]⟩, []⟩, ⟨0, ⟨(some 22), none, (.load (.load 2 true)), [(.tmp 21)]⟩, []⟩, ⟨0, ⟨(some 4), none, (.new (.alloc [(.int .i64 0), (.int .i64 0)])), []⟩, []⟩, ⟨0, ⟨(some 3), none, (.pure .id), [(.tmp 20)]⟩, []⟩, ⟨0, ⟨none, none, (.imp (.store 2)), [(.tmp 4), (.tmp 22)]⟩, []⟩]) (.seq (.region [⟨0, ⟨(some 23), none, (.pure (.faddr 0)), [(.tmp 1)]⟩, []⟩, ⟨0, ⟨(some 24), none, (.load (.load 1 false)), [(.tmp 23)]⟩, []⟩, ⟨0, ⟨(some 25), none, (.pure .len), [(.tmp 24)]⟩, []⟩, ⟨0, ⟨(some 26), none, (.pure (.bin .add .none)), [(.const (.int .i64 1)), (.tmp 25)]⟩, []⟩, ⟨0, ⟨(some 27), none, (.pure .id), [(.tmp 3)]⟩, []⟩, ⟨0, ⟨(some 28), none, (.pure (.bin .add .none)), [(.tmp 26), (.tmp 27)]⟩, []⟩, ⟨0, ⟨(some 29), none, (.pure (.bin .mul .none)), [(.const (.int .i64 2)), (.tmp 28)]⟩, []⟩, ⟨0, ⟨(some 5), none, (.pure .id), [(.tmp 29)]⟩, []⟩]) (.seq (.region [⟨0, ⟨(some 30), none, (.pure (.iarr 2 1)), [(.tmp 4), (.const (.int .i64 0))]⟩, []⟩, ⟨0, ⟨(some 31), none, (.load (.load 1 false)), [(.tmp 30)]⟩, []⟩, ⟨0, ⟨(some 32), none, (.pure (.iarr 2 1)), [(.tmp 4), (.const (.int .i64 1))]⟩, []⟩, ⟨0, ⟨(some 33), none, (.load (.load 1 false)), [(.tmp 32)]⟩, []⟩, ⟨0, ⟨(some 34), none, (.pure .mn), [(.tmp 31), (.tmp 33)]⟩, []⟩, ⟨0, ⟨(some 35), none, (.pure (.bin .lss .none)), [(.tmp 34), (.const (.int .i64 0))]⟩, []⟩, ⟨0, ⟨(some 36), none, (.pure .id), [(.tmp 35)]⟩, []⟩, ⟨0, ⟨(some 37), (some (36, false)), (.pure (.iarr 2 1)), [(.tmp 4), (.const (.int .i64 0))]⟩, []⟩, ⟨0, ⟨(some 38), (some (36, false)), (.load (.load 1 false)), [(.tmp 37)]⟩, []⟩, ⟨0, ⟨(some 39), (some (36, false)), (.pure (.iarr 2 1)), [(.tmp 4), (.const (.int .i64 1))]⟩, []⟩, ⟨0, ⟨(some 40), (some (36, false)), (.load (.load 1 false)), [(.tmp 39)]⟩, []⟩, ⟨0, ⟨(some 41), (some (36, false)), (.pure .mx), [(.tmp 38), (.tmp 40)]⟩, []⟩, ⟨0, ⟨(some 42), (some (36, false)), (.pure .id), [(.tmp 5)]⟩, []⟩, ⟨0, ⟨(some 43), (some (36, false)), (.pure (.bin .geq .none)), [(.tmp 41), (.tmp 42)]⟩, []⟩, ⟨0, ⟨(some 44), none, (.pure .pick), [(.tmp 36), (.const (.bool true)), (.tmp 43)]⟩, []⟩]) (.cond (.tmp 44) (.seq (.region [⟨0, ⟨(some 2), none, (.pure .id), [(.const (.bool false))]⟩, []⟩]) .ret) .skip))))) (.region [⟨0, ⟨(some 45), none, (.pure (.bin .add .none)), [(.tmp 18), (.const (.int .i64 1))]⟩, []⟩, ⟨0, ⟨(some 18), none, (.pure .id), [(.tmp 45)]⟩, []⟩]))))))) (.seq (.region [⟨0, ⟨(some 2), none, (.pure .id), [(.const (.bool true))]⟩, []⟩]) .ret))))⟩
theorem c_aig_May : compF Tryz.prog Tryz.f83 = some G_aig_May := by kernel_rfl
theorem gc_aig_May {args : List DV} {σ : GS} {Post : DV → GS → Prop} (h : @exB Tryz.prog ⟨G_aig_May.body⟩ (genv0 args G_aig_May.ntmps) σ ⟨@gretB G_aig_May.results ⟨Post⟩⟩) : GCall Tryz.prog F_aig_May args σ Post := gcall_ofB seatfollows Tryz.func83 (by kernel_rfl) c_aig_May h
noncomputable abbrev G_slices_IndexFunc_int_int : GFun := ⟨19, [(.tmp 4)], (.seq (.region [⟨0, ⟨(some 4), none, (.pure .id), [(.const (.int .i64 0))]⟩, []⟩]) (.seq (.seq (.region [⟨0, ⟨(some 6), none, (.pure .id), [(.tmp 0)]⟩, []⟩, ⟨0, ⟨(some 7), none, (.pure .len), [(.tmp 6)]⟩, []⟩, ⟨0, ⟨(some 8), none, (.pure .id), [(.const (.int .i64 0))]⟩, []⟩]) (.block 0 (.loop (.seq (.region [⟨0, ⟨(some 9), none, (.pure (.bin .lss .none)), [(.tmp 8), (.tmp 7)]⟩, []⟩]) (.seq (.cond (.tmp 9) .skip (.exit 0)) (.seq (.block 1 (.seq (.region [⟨0, ⟨(some 10), none, (.pure .id), [(.tmp 8)]⟩, []⟩, ⟨0, ⟨(some 5), none, (.pure .id), [(.tmp 10)]⟩, []⟩]) (.seq (.region [⟨0, ⟨(some 11), none, (.pure .id), [(.tmp 1)]⟩, []⟩, ⟨0, ⟨(some 12), none, (.pure .id), [(.tmp 0)]⟩, []⟩, ⟨0, ⟨(some 13), none, (.pure .id), [(.tmp 5)]⟩, []⟩, ⟨0, ⟨(some 14), none, (.pure (.iaddr 1)), [(.tmp 12), (.tmp 13)]⟩, []⟩, ⟨0, ⟨(some 15), none, (.load (.load 1 false)), [(.tmp 14)]⟩, []⟩, ⟨0, ⟨(some 16), none, .callv, [(.tmp 11), (.tmp 15)]⟩, []⟩]) (.cond (.tmp 16) (.seq (.region [⟨0, ⟨(some 17), none, (.pure .id), [(.tmp 5)]⟩, []⟩, ⟨0, ⟨(some 4), none, (.pure .id), [(.tmp 17)]⟩, []⟩]) .ret) .skip)))) (.region [⟨0, ⟨(some 18), none, (.pure (.bin .add .none)), [(.tmp 8), (.const (.int .i64 1))]⟩, []⟩, ⟨0, ⟨(some 8), none, (.pure .id), [(.tmp 18)]⟩, []⟩]))))))) (.seq (.region [⟨0, ⟨(some 4), none, (.pure .id), [(.const (.int .i64 (-1)))]⟩, []⟩]) .ret)))⟩
theorem c_slices_IndexFunc_int_int : compF Tryz.prog Tryz.f140 = some G_slices_IndexFunc_int_int := by kernel_rfl
theorem gc_slices_IndexFunc_int_int {args : List DV} {σ : GS} {Post : DV → GS → Prop} (h : @exB Tryz.prog ⟨G_slices_IndexFunc_int_int.body⟩ (genv0 args G_slices_IndexFunc_int_int.ntmps) σ ⟨@gretB G_slices_IndexFunc_int_int.results ⟨Post⟩⟩) : GCall Tryz.prog F_slices_IndexFunc_int_int args σ Post := gcall_ofB seatfollows Tryz.func140 (by kernel_rfl) c_slices_IndexFunc_int_int h
noncomputable abbrev G_slices_ContainsFunc_int_int : GFun := ⟨9, [(.tmp 4)], (.seq (.region [⟨0, ⟨(some 4), none, (.pure .id), [(.const (.bool false))]⟩, []⟩]) (.seq (.region [⟨0, ⟨(some 5), none, (.pure .id), [(.tmp 0)]⟩, []⟩, ⟨0, ⟨(some 6), none, (.pure .id), [(.tmp 1)]⟩, []⟩, ⟨0, ⟨(some 7), none, (.call F_slices_IndexFunc_int_int), [(.tmp 5), (.tmp 6)]⟩, []⟩, ⟨0, ⟨(some 8), none, (.pure (.bin .geq .none)), [(.tmp 7), (.const (.int .i64 0))]⟩, []⟩, ⟨0, ⟨(some 4), none, (.pure .id), [(.tmp 8)]⟩, []⟩]) .ret))⟩
theorem c_slices_ContainsFunc_int_int : compF Tryz.prog Tryz.f80 = some G_slices_ContainsFunc_int_int := by kernel_rfl
theorem gc_slices_ContainsFunc_int_int {args : List DV} {σ : GS} {Post : DV → GS → Prop} (h : @exB Tryz.prog ⟨G_slices_ContainsFunc_int_int.body⟩ (genv0 args G_slices_ContainsFunc_int_int.ntmps) σ ⟨@gretB G_slices_ContainsFunc_int_int.results ⟨Post⟩⟩) : GCall Tryz.prog F_slices_ContainsFunc_int_int args σ Post := gcall_ofB seatfollows Tryz.func80 (by kernel_rfl) c_slices_ContainsFunc_int_int h
noncomputable abbrev G_slices_Clone_int_int : GFun := ⟨8, [(.tmp 2)], (.seq (.region [⟨0, ⟨(some 2), none, (.pure .id), [(.const .nils)]⟩, []⟩]) (.seq (.seq (.region [⟨0, ⟨(some 3), none, (.pure .id), [(.tmp 0)]⟩, []⟩, ⟨0, ⟨(some 4), none, (.eqn false), [(.tmp 3), (.const .nils)]⟩, []⟩]) (.cond (.tmp 4) (.seq (.region [⟨0, ⟨(some 2), none, (.pure .id), [(.const .nils)]⟩, []⟩]) .ret) .skip)) (.seq (.region [⟨0, ⟨(some 5), none, (.new (.bslice 1 [(.int .i64 0)] 0 [])), []⟩, []⟩, ⟨0, ⟨(some 6), none, (.pure .id), [(.tmp 0)]⟩, []⟩, ⟨0, ⟨(some 7), none, (.imp (.append 1 8)), [(.tmp 5), (.tmp 6)]⟩, []⟩, ⟨0, ⟨(some 2), none, (.pure .id), [(.tmp 7)]⟩, []⟩]) .ret)))⟩
theorem c_slices_Clone_int_int : compF Tryz.prog Tryz.f145 = some G_slices_Clone_int_int := by kernel_rfl
theorem gc_slices_Clone_int_int {args : List DV} {σ : GS} {Post : DV → GS → Prop} (h : @exB Tryz.prog ⟨G_slices_Clone_int_int.body⟩ (genv0 args G_slices_Clone_int_int.ntmps) σ ⟨@gretB G_slices_Clone_int_int.results ⟨Post⟩⟩) : GCall Tryz.prog F_slices_Clone_int_int args σ Post := gcall_ofB seatfollows Tryz.func145 (by kernel_rfl) c_slices_Clone_int_int h
noncomputable abbrev G_slices_Backward__2_int__2_int : GFun := ⟨4, [(.tmp 2)], (.seq (.region [⟨0, ⟨(some 1), none, (.new .box), [(.tmp 0)]⟩, []⟩, ⟨0, ⟨(some 2), none, (.pure .id), [(.const .nilf)]⟩, []⟩]) (.seq (.region [⟨0, ⟨(some 3), none, (.pure (.mkfunc F_slices_Backward__2_int__2_int_1 0)), [(.tmp 1)]⟩, []⟩, ⟨0, ⟨(some 2), none, (.pure .id), [(.tmp 3)]⟩, []⟩]) .ret))⟩
theorem c_slices_Backward__2_int__2_int : compF Tryz.prog Tryz.f85 = some G_slices_Backward__2_int__2_int := by kernel_rfl
theorem gc_slices_Backward__2_int__2_int {args : List DV} {σ : GS} {Post : DV → GS → Prop} (h : @exB Tryz.prog ⟨G_slices_Backward__2_int__2_int.body⟩ (genv0 args G_slices_Backward__2_int__2_int.ntmps) σ ⟨@gretB G_slices_Backward__2_int__2_int.results ⟨Post⟩⟩) : GCall Tryz.prog F_slices_Backward__2_int__2_int args σ Post := gcall_ofB seatfollows Tryz.func85 (by kernel_rfl) c_slices_Backward__2_int__2_int h
noncomputable abbrev G_slices_Backward__2_int__2_int_1 : GFun := ⟨19, [], (.seq (.region [⟨0, ⟨(some 4), none, (.load (.load 1 false)), [(.tmp 1)]⟩, []⟩, ⟨0, ⟨(some 5), none, (.pure .len), [(.tmp 4)]⟩, []⟩, ⟨0, ⟨(some 6), none, (.pure (.bin .sub .none)), [(.tmp 5), (.const (.int .i64 1))]⟩, []⟩, ⟨0, ⟨(some 3), none, (.pure .id), [(.tmp 6)]⟩, []⟩]) (.block 0 (.loop (.seq (.seq (.region [⟨0, ⟨(some 7), none, (.pure .id), [(.tmp 3)]⟩, []⟩, ⟨0, ⟨(some 8), none, (.pure (.bin .geq .none)), [(.tmp 7), (.const (.int .i64 0))]⟩, []⟩]) (.cond (.tmp 8) .skip (.exit 0))) (.seq (.block 1 (.seq (.region [⟨0, ⟨(some 11), none, (.pure .id), [(.tmp 0)]⟩, []⟩, ⟨0, ⟨(some 12), none, (.pure .id), [(.tmp 3)]⟩, []⟩, ⟨0, ⟨(some 13), none, (.load (.load 1 false)), [(.tmp 1)]⟩, []⟩, ⟨0, ⟨(some 14), none, (.pure .id), [(.tmp 3)]⟩, []⟩, ⟨0, ⟨(some 15), none, (.pure (.iaddr 2)), [(.tmp 13), (.tmp 14)]⟩, []⟩, ⟨0, ⟨(some 16), none, (.load (.load 2 true)), [(.tmp 15)]⟩, []⟩, ⟨0, ⟨(some 17), none, .callv, [(.tmp 11), (.tmp 12), (.tmp 16)]⟩, []⟩, ⟨0, ⟨(some 18), none, (.pure (.un .not)), [(.tmp 17)]⟩, []⟩]) (.cond (.tmp 18) .ret .skip))) (.region [⟨0, ⟨(some 9), none, (.pure .id), [(.tmp 3)]⟩, []⟩, ⟨0, ⟨(some 10), none, (.pure (.bin .sub .none)), [(.tmp 9), (.const (.int .i64 1))]⟩, []⟩, ⟨0, ⟨(some 3), none, (.pure .id), [(.tmp 10)]⟩, []⟩]))))))⟩
theorem c_slices_Backward__2_int__2_int_1 : compF Tryz.prog Tryz.f154 = some G_slices_Backward__2_int__2_int_1 := by kernel_rfl
theorem gc_slices_Backward__2_int__2_int_1 {args : List DV} {σ : GS} {Post : DV → GS → Prop} (h : @exB Tryz.prog ⟨G_slices_Backward__2_int__2_int_1.body⟩ (genv0 args G_slices_Backward__2_int__2_int_1.ntmps) σ ⟨@gretB G_slices_Backward__2_int__2_int_1.results ⟨Post⟩⟩) : GCall Tryz.prog F_slices_Backward__2_int__2_int_1 args σ Post := gcall_ofB seatfollows Tryz.func154 (by kernel_rfl) c_slices_Backward__2_int__2_int_1 h
end Go.Gh
namespace Go.Gh
open Go.Proofs
abbrev F_skolemref05_Ints : Nat := 26
abbrev F_skolemref06_May : Nat := 40
abbrev F_skolemref05_Normal : Nat := 41
abbrev F_skolemref06_Nodes : Nat := 42
abbrev F_skolemref05_Abs : Nat := 44
abbrev F_skolemref06_HasAll : Nat := 90
abbrev F_skolemref06_Reached : Nat := 91
abbrev F_skolemref06_Inputs : Nat := 116
abbrev F_skolemref05_variable : Nat := 117
abbrev F_skolemref06_has : Nat := 159
noncomputable abbrev G_skolemref06_HasAll : GFun := ⟨22, [(.tmp 4)], (.seq (.region [⟨0, ⟨(some 2), none, (.new .box), [(.tmp 0)]⟩, []⟩, ⟨0, ⟨(some 4), none, (.pure .id), [(.const (.bool false))]⟩, []⟩]) (.seq (.seq (.region [⟨0, ⟨(some 6), none, (.load (.load 2 true)), [(.tmp 2)]⟩, []⟩, ⟨0, ⟨(some 7), none, (.call F_skolemref06_May), [(.tmp 6)]⟩, []⟩, ⟨0, ⟨(some 8), none, (.pure (.un .not)), [(.tmp 7)]⟩, []⟩]) (.cond (.tmp 8) (.seq (.region [⟨0, ⟨(some 4), none, (.pure .id), [(.const (.bool false))]⟩, []⟩]) .ret) .skip)) (.seq (.seq (.region [⟨0, ⟨(some 5), none, (.pure .id), [(.const (.int .i64 0))]⟩, []⟩]) (.block 0 (.loop (.seq (.seq (.region [⟨0, ⟨(some 9), none, (.pure .id), [(.tmp 5)]⟩, []⟩, ⟨0, ⟨(some 10), none, (.pure .id), [(.tmp 1)]⟩, []⟩, ⟨0, ⟨(some 11), none, (.pure .len), [(.tmp 10)]⟩, []⟩, ⟨0, ⟨(some 12), none, (.pure (.bin .lss .none)), [(.tmp 9), (.tmp 11)]⟩, []⟩]) (.cond (.tmp 12) .skip (.exit 0))) (.seq (.block 1 (.seq (.region [⟨0, ⟨(some 15), none, (.load (.load 2 true)), [(.tmp 2)]⟩, []⟩, ⟨1, ⟨(some 16), none, (.pure .id), [(.tmp 1)]⟩, []⟩, ⟨2, ⟨(some 17), none, (.pure .id), [(.tmp 5)]⟩, []⟩, ⟨3, ⟨(some 18), none, (.pure (.iaddr 1)), [(.tmp 16), (.tmp 17)]⟩, []⟩, ⟨4, ⟨(some 19), none, (.load (.load 1 false)), [(.tmp 18)]⟩, []⟩, ⟨5, ⟨(some 20), none, (.call F_skolemref06_has), [(.tmp 15), (.tmp 19)]⟩, []⟩, ⟨6, ⟨(some 21), none, (.pure (.un .not)), [(.tmp 20)]⟩, []⟩]) (.cond (.tmp 21) (.seq (.region [⟨0, ⟨(some 4), none, (.pure .id), [(.const (.bool false))]⟩, []⟩]) .ret) .skip))) (.region [⟨0, ⟨(some 13), none, (.pure .id), [(.tmp 5)]⟩, []⟩, ⟨0, ⟨(some 14), none, (.pure (.bin .add .none)), [(.tmp 13), (.const (.int .i64 1))]⟩, []⟩, ⟨0, ⟨(some 5), none, (.pure .id), [(.tmp 14)]⟩, []⟩])))))) (.seq (.region [⟨0, ⟨(some 4), none, (.pure .id), [(.const (.bool true))]⟩, []⟩]) .ret))))⟩
theorem c_skolemref06_HasAll : compF Tryz.prog Tryz.f90 = some G_skolemref06_HasAll := by kernel_rfl
theorem gc_skolemref06_HasAll {args : List DV} {σ : GS} {Post : DV → GS → Prop} (h : @exB Tryz.prog ⟨G_skolemref06_HasAll.body⟩ (genv0 args G_skolemref06_HasAll.ntmps) σ ⟨@gretB G_skolemref06_HasAll.results ⟨Post⟩⟩) : GCall Tryz.prog F_skolemref06_HasAll args σ Post := gcall_ofB seatfollows Tryz.func90 (by kernel_rfl) c_skolemref06_HasAll h
noncomputable abbrev G_skolemref06_May : GFun := ⟨52, [(.tmp 2)], (.seq (.region [⟨0, ⟨(some 1), none, (.new .box), [(.tmp 0)]⟩, []⟩, ⟨0, ⟨(some 2), none, (.pure .id), [(.const (.bool false))]⟩, []⟩]) (.seq (.seq (.region [⟨0, ⟨(some 6), none, (.pure (.faddr 0)), [(.tmp 1)]⟩, []⟩, ⟨0, ⟨(some 7), none, (.load (.load 1 false)), [(.tmp 6)]⟩, []⟩, ⟨0, ⟨(some 8), none, (.call F_skolemref06_Inputs), [(.tmp 7)]⟩, []⟩, ⟨0, ⟨(some 9), none, (.pure (.un .not)), [(.tmp 8)]⟩, []⟩, ⟨0, ⟨(some 10), none, (.pure .id), [(.tmp 9)]⟩, []⟩, ⟨0, ⟨(some 11), (some (10, false)), (.load (.load 2 true)), [(.tmp 1)]⟩, []⟩, ⟨0, ⟨(some 12), (some (10, false)), (.call F_skolemref06_Nodes), [(.tmp 11)]⟩, []⟩, ⟨0, ⟨(some 13), (some (10, false)), (.pure (.bin .gtr .none)), [(.tmp 12), (.const (.int .i64 200000))]⟩, []⟩, ⟨0, ⟨(some 14), none, (.pure .pick), [(.tmp 10), (.const (.bool true)), (.tmp 13)]⟩, []⟩]) (.cond (.tmp 14) (.seq (.region [⟨0, ⟨(some 2), none, (.pure .id), [(.const (.bool false))]⟩, []⟩]) .ret) .skip)) (.seq (.seq (.region [⟨0, ⟨(some 3), none, (.pure .id), [(.const (.int .i64 0))]⟩, []⟩]) (.block 0 (.loop (.seq (.seq (.region [⟨0, ⟨(some 15), none, (.pure .id), [(.tmp 3)]⟩, []⟩, ⟨0, ⟨(some 16), none, (.pure (.faddr 1)), [(.tmp 1)]⟩, []⟩, ⟨0, ⟨(some 17), none, (.load (.load 1 false)), [(.tmp 16)]⟩, []⟩, ⟨0, ⟨(some 18), none, (.pure .len), [(.tmp 17)]⟩, []⟩, ⟨0, ⟨(some 19), none, (.pure (.bin .lss .none)), [(.tmp 15), (.tmp 18)]⟩, []⟩]) (.cond (.tmp 19) .skip (.exit 0))) (.seq (.block 1 (.seq (.region [⟨0, ⟨(some 22), none, (.pure (.faddr 0)), [(.tmp 1)]⟩, []⟩, ⟨0, ⟨(some 23), none, (.load (.load 1 false)), [(.tmp 22)]⟩, []⟩, ⟨0, ⟨(some 24), none, (.pure .len), [(.tmp 23)]⟩, []⟩, ⟨0, ⟨(some 25), none, (.pure (.bin .add .none)), [(.const (.int .i64 1)), (.tmp 24)]⟩, []⟩, ⟨0, ⟨(some 26), none, (.pure .id), [(.tmp 3)]⟩, []⟩, ⟨0, ⟨(some 27), none, (.pure (.bin .add .none)), [(.tmp 25), (.tmp 26)]⟩, []⟩, ⟨0, ⟨(some 28), none, (.pure (.bin .mul .none)), [(.const (.int .i64 2)), (.tmp 27)]⟩, []⟩, ⟨0, ⟨(some 4), none, (.pure .id), [(.tmp 28)]⟩, []⟩]) (.seq (.region [⟨0, ⟨(some 5), none, (.pure .id), [(.const (.int .i64 0))]⟩, []⟩]) (.block 2 (.loop (.seq (.seq (.region [⟨0, ⟨(some 29), none, (.pure .id), [(.tmp 5)]⟩, []⟩, ⟨0, ⟨(some 30), none, (.pure (.bin .lss .none)), [(.tmp 29), (.const (.int .i64 2))]⟩, []⟩]) (.cond (.tmp 30) .skip (.exit 2))) (.seq (.block 3 (.seq (.region [⟨0, ⟨(some 33), none, (.pure (.faddr 1)), [(.tmp 1)]⟩, []⟩, ⟨0, ⟨(some 34), none, (.load (.load 1 false)), [(.tmp 33)]⟩, []⟩, ⟨0, ⟨(some 35), none, (.pure .id), [(.tmp 3)]⟩, []⟩, ⟨0, ⟨(some 36), none, (.pure .id), [(.tmp 5)]⟩, []⟩, ⟨0, ⟨(some 37), none, (.pure (.iaddr 2)), [(.tmp 34), (.tmp 35)]⟩, []⟩, ⟨0, ⟨(some 38), none, (.pure (.iarr 2 1)), [(.tmp 37), (.tmp 36)]⟩, []⟩, ⟨0, ⟨(some 39), none, (.load (.load 1 false)), [(.tmp 38)]⟩, []⟩, ⟨0, ⟨(some 40), none, (.pure (.bin .lss .none)), [(.tmp 39), (.const (.int .i64 0))]⟩, []⟩, ⟨0, ⟨(some 41), none, (.pure .id), [(.tmp 40)]⟩, []⟩, ⟨0, ⟨(some 42), (some (41, false)), (.pure (.faddr 1)), [(.tmp 1)]⟩, []⟩, ⟨0, ⟨(some 43), (some (41, false)), (.load (.load 1 false)), [(.tmp 42)]⟩, []⟩, ⟨0, ⟨(some 44), (some (41, false)), (.pure .id), [(.tmp 3)]⟩, []⟩, ⟨0, ⟨(some 45), (some (41, false)), (.pure .id), [(.tmp 5)]⟩, []⟩, ⟨0, ⟨(some 46), (some (41, false)), (.pure (.iaddr 2)), [(.tmp 43), (.tmp 44)]⟩, []⟩, ⟨0, ⟨(some 47), (some (41, false)), (.pure (.iarr 2 1)), [(.tmp 46), (.tmp 45)]⟩, []⟩, ⟨0, ⟨(some 48), (some (41, false)), (.load (.load 1 false)), [(.tmp 47)]⟩, []⟩, ⟨0, ⟨(some 49), (some (41, false)), (.pure .id), [(.tmp 4)]⟩, []⟩, ⟨0, ⟨(some 50), (some (41, false)), (.pure (.bin .geq .none)), [(.tmp 48), (.tmp 49)]⟩, []⟩, ⟨0, ⟨(some 51), none, (.pure .pick), [(.tmp 41), (.const (.bool true)), (.tmp 50)]⟩, []⟩]) (.cond (.tmp 51) (.seq (.region [⟨0, ⟨(some 2), none, (.pure .id), [(.const (.bool false))]⟩, []⟩]) .ret) .skip))) (.region [⟨0, ⟨(some 31), none, (.pure .id), [(.tmp 5)]⟩, []⟩, ⟨0, ⟨(some 32), none, (.pure (.bin .add .none)), [(.tmp 31), (.const (.int .i64 1))]⟩, []⟩, ⟨0, ⟨(some 5), none, (.pure .id), [(.tmp 32)]⟩, []⟩])))))))) (.region [⟨0, ⟨(some 20), none, (.pure .id), [(.tmp 3)]⟩, []⟩, ⟨0, ⟨(some 21), none, (.pure (.bin .add .none)), [(.tmp 20), (.const (.int .i64 1))]⟩, []⟩, ⟨0, ⟨(some 3), none, (.pure .id), [(.tmp 21)]⟩, []⟩])))))) (.seq (.region [⟨0, ⟨(some 2), none, (.pure .id), [(.const (.bool true))]⟩, []⟩]) .ret))))⟩
theorem c_skolemref06_May : compF Tryz.prog Tryz.f40 = some G_skolemref06_May := by kernel_rfl
theorem gc_skolemref06_May {args : List DV} {σ : GS} {Post : DV → GS → Prop} (h : @exB Tryz.prog ⟨G_skolemref06_May.body⟩ (genv0 args G_skolemref06_May.ntmps) σ ⟨@gretB G_skolemref06_May.results ⟨Post⟩⟩) : GCall Tryz.prog F_skolemref06_May args σ Post := gcall_ofB seatfollows Tryz.func40 (by kernel_rfl) c_skolemref06_May h
noncomputable abbrev G_skolemref06_Inputs : GFun := ⟨38, [(.tmp 2)], (.seq (.region [⟨0, ⟨(some 2), none, (.pure .id), [(.const (.bool false))]⟩, []⟩]) (.seq (.seq (.region [⟨0, ⟨(some 3), none, (.pure .id), [(.const (.int .i64 0))]⟩, []⟩]) (.block 0 (.loop (.seq (.seq (.region [⟨0, ⟨(some 4), none, (.pure .id), [(.tmp 3)]⟩, []⟩, ⟨0, ⟨(some 5), none, (.pure .id), [(.tmp 0)]⟩, []⟩, ⟨0, ⟨(some 6), none, (.pure .len), [(.tmp 5)]⟩, []⟩, ⟨0, ⟨(some 7), none, (.pure (.bin .lss .none)), [(.tmp 4), (.tmp 6)]⟩, []⟩]) (.cond (.tmp 7) .skip (.exit 0))) (.seq (.block 1 (.seq (.region [⟨0, ⟨(some 10), none, (.pure .id), [(.tmp 0)]⟩, []⟩, ⟨1, ⟨(some 11), none, (.pure .id), [(.tmp 3)]⟩, []⟩, ⟨2, ⟨(some 12), none, (.pure (.iaddr 1)), [(.tmp 10), (.tmp 11)]⟩, []⟩, ⟨3, ⟨(some 13), none, (.load (.load 1 false)), [(.tmp 12)]⟩, []⟩, ⟨4, ⟨(some 14), none, (.pure (.bin .lss .none)), [(.tmp 13), (.const (.int .i64 1))]⟩, []⟩, ⟨5, ⟨(some 15), none, (.pure .id), [(.tmp 14)]⟩, []⟩, ⟨6, ⟨(some 16), (some (15, false)), (.pure .id), [(.tmp 0)]⟩, []⟩, ⟨7, ⟨(some 17), (some (15, false)), (.pure .id), [(.tmp 3)]⟩, []⟩, ⟨8, ⟨(some 18), (some (15, false)), (.pure (.iaddr 1)), [(.tmp 16), (.tmp 17)]⟩, []⟩, ⟨9, ⟨(some 19), (some (15, false)), (.load (.load 1 false)), [(.tmp 18)]⟩, []⟩, ⟨10, ⟨(some 20), (some (15, false)), (.pure (.bin .gtr .none)), [(.tmp 19), (.const (.int .i64 65536))]⟩, []⟩, ⟨11, ⟨(some 21), none, (.pure .pick), [(.tmp 15), (.const (.bool true)), (.tmp 20)]⟩, []⟩, ⟨12, ⟨(some 22), none, (.pure .id), [(.tmp 21)]⟩, []⟩, ⟨13, ⟨(some 23), (some (22, false)), (.pure .id), [(.tmp 3)]⟩, []⟩, ⟨14, ⟨(some 24), (some (22, false)), (.pure (.bin .gtr .none)), [(.tmp 23), (.const (.int .i64 0))]⟩, []⟩, ⟨15, ⟨(some 25), (some (22, false)), (.pure .id), [(.tmp 24)]⟩, []⟩, ⟨16, ⟨(some 26), (some (25, true)), (.pure .id), [(.tmp 0)]⟩, []⟩, ⟨17, ⟨(some 27), (some (25, true)), (.pure .id), [(.tmp 3)]⟩, []⟩, ⟨18, ⟨(some 28), (some (25, true)), (.pure (.iaddr 1)), [(.tmp 26), (.tmp 27)]⟩, []⟩, ⟨19, ⟨(some 29), (some (25, true)), (.load (.load 1 false)), [(.tmp 28)]⟩, []⟩, ⟨20, ⟨(some 30), (some (25, true)), (.pure .id), [(.tmp 0)]⟩, []⟩, ⟨21, ⟨(some 31), (some (25, true)), (.pure .id), [(.tmp 3)]⟩, []⟩, ⟨22, ⟨(some 32), (some (25, true)), (.pure (.bin .sub .none)), [(.tmp 31), (.const (.int .i64 1))]⟩, []⟩, ⟨23, ⟨(some 33), (some (25, true)), (.pure (.iaddr 1)), [(.tmp 30), (.tmp 32)]⟩, []⟩, ⟨24, ⟨(some 34), (some (25, true)), (.load (.load 1 false)), [(.tmp 33)]⟩, []⟩, ⟨25, ⟨(some 35), (some (25, true)), (.pure (.bin .leq .none)), [(.tmp 29), (.tmp 34)]⟩, []⟩, ⟨26, ⟨(some 36), (some (22, false)), (.pure .pick), [(.tmp 25), (.tmp 35), (.const (.bool false))]⟩, []⟩, ⟨27, ⟨(some 37), none, (.pure .pick), [(.tmp 22), (.const (.bool true)), (.tmp 36)]⟩, []⟩]) (.cond (.tmp 37) (.seq (.region [⟨0, ⟨(some 2), none, (.pure .id), [(.const (.bool false))]⟩, []⟩]) .ret) .skip))) (.region [⟨0, ⟨(some 8), none, (.pure .id), [(.tmp 3)]⟩, []⟩, ⟨0, ⟨(some 9), none, (.pure (.bin .add .none)), [(.tmp 8), (.const (.int .i64 1))]⟩, []⟩, ⟨0, ⟨(some 3), none, (.pure .id), [(.tmp 9)]⟩, []⟩])))))) (.seq (.region [⟨0, ⟨(some 2), none, (.pure .id), [(.const (.bool true))]⟩, []⟩]) .ret)))⟩
theorem c_skolemref06_Inputs : compF Tryz.prog Tryz.f116 = some G_skolemref06_Inputs := by kernel_rfl
theorem gc_skolemref06_Inputs {args : List DV} {σ : GS} {Post : DV → GS → Prop} (h : @exB Tryz.prog ⟨G_skolemref06_Inputs.body⟩ (genv0 args G_skolemref06_Inputs.ntmps) σ ⟨@gretB G_skolemref06_Inputs.results ⟨Post⟩⟩) : GCall Tryz.prog F_skolemref06_Inputs args σ Post := gcall_ofB seatfollows Tryz.func116 (by kernel_rfl) c_skolemref06_Inputs h
noncomputable abbrev G_skolemref06_has : GFun := ⟨14, [(.tmp 4)], (.seq (.region [⟨0, ⟨(some 2), none, (.new .box), [(.tmp 0)]⟩, []⟩, ⟨0, ⟨(some 4), none, (.pure .id), [(.const (.bool false))]⟩, []⟩]) (.seq (.region [⟨0, ⟨(some 5), none, (.pure .id), [(.tmp 1)]⟩, []⟩, ⟨0, ⟨(some 6), none, (.pure (.bin .geq .none)), [(.tmp 5), (.const (.int .i64 0))]⟩, []⟩, ⟨0, ⟨(some 7), none, (.pure .id), [(.tmp 6)]⟩, []⟩, ⟨0, ⟨(some 8), (some (7, true)), (.pure .id), [(.tmp 1)]⟩, []⟩, ⟨0, ⟨(some 9), (some (7, true)), (.load (.load 2 true)), [(.tmp 2)]⟩, []⟩, ⟨0, ⟨(some 10), (some (7, true)), (.call F_skolemref06_Nodes), [(.tmp 9)]⟩, []⟩, ⟨0, ⟨(some 11), (some (7, true)), (.pure (.bin .mul .none)), [(.const (.int .i64 2)), (.tmp 10)]⟩, []⟩, ⟨0, ⟨(some 12), (some (7, true)), (.pure (.bin .lss .none)), [(.tmp 8), (.tmp 11)]⟩, []⟩, ⟨0, ⟨(some 13), none, (.pure .pick), [(.tmp 7), (.tmp 12), (.const (.bool false))]⟩, []⟩, ⟨0, ⟨(some 4), none, (.pure .id), [(.tmp 13)]⟩, []⟩]) .ret))⟩
theorem c_skolemref06_has : compF Tryz.prog Tryz.f159 = some G_skolemref06_has := by kernel_rfl
theorem gc_skolemref06_has {args : List DV} {σ : GS} {Post : DV → GS → Prop} (h : @exB Tryz.prog ⟨G_skolemref06_has.body⟩ (genv0 args G_skolemref06_has.ntmps) σ ⟨@gretB G_skolemref06_has.results ⟨Post⟩⟩) : GCall Tryz.prog F_skolemref06_has args σ Post := gcall_ofB seatfollows Tryz.func159 (by kernel_rfl) c_skolemref06_has h
noncomputable abbrev G_skolemref06_Nodes : GFun := ⟨11, [(.tmp 2)], (.seq (.region [⟨0, ⟨(some 1), none, (.new .box), [(.tmp 0)]⟩, []⟩, ⟨0, ⟨(some 2), none, (.pure .id), [(.const (.int .i64 0))]⟩, []⟩]) (.seq (.region [⟨0, ⟨(some 3), none, (.pure (.faddr 0)), [(.tmp 1)]⟩, []⟩, ⟨0, ⟨(some 4), none, (.load (.load 1 false)), [(.tmp 3)]⟩, []⟩, ⟨0, ⟨(some 5), none, (.pure .len), [(.tmp 4)]⟩, []⟩, ⟨0, ⟨(some 6), none, (.pure (.bin .add .none)), [(.const (.int .i64 1)), (.tmp 5)]⟩, []⟩, ⟨0, ⟨(some 7), none, (.pure (.faddr 1)), [(.tmp 1)]⟩, []⟩, ⟨0, ⟨(some 8), none, (.load (.load 1 false)), [(.tmp 7)]⟩, []⟩, ⟨0, ⟨(some 9), none, (.pure .len), [(.tmp 8)]⟩, []⟩, ⟨0, ⟨(some 10), none, (.pure (.bin .add .none)), [(.tmp 6), (.tmp 9)]⟩, []⟩, ⟨0, ⟨(some 2), none, (.pure .id), [(.tmp 10)]⟩, []⟩]) .ret))⟩
theorem c_skolemref06_Nodes : compF Tryz.prog Tryz.f42 = some G_skolemref06_Nodes := by kernel_rfl
theorem gc_skolemref06_Nodes {args : List DV} {σ : GS} {Post : DV → GS → Prop} (h : @exB Tryz.prog ⟨G_skolemref06_Nodes.body⟩ (genv0 args G_skolemref06_Nodes.ntmps) σ ⟨@gretB G_skolemref06_Nodes.results ⟨Post⟩⟩) : GCall Tryz.prog F_skolemref06_Nodes args σ Post := gcall_ofB seatfollows Tryz.func42 (by kernel_rfl) c_skolemref06_Nodes h
noncomputable abbrev G_skolemref06_Reached : GFun := ⟨60, [(.tmp 4)], (.seq (.region [⟨0, ⟨(some 2), none, (.new .box), [(.tmp 0)]⟩, []⟩, ⟨0, ⟨(some 4), none, (.pure .id), [(.const .nils)]⟩, []⟩]) (.seq (.region [⟨0, ⟨(some 8), none, (.load (.load 2 true)), [(.tmp 2)]⟩, []⟩, ⟨0, ⟨(some 9), none, (.call F_skolemref06_Nodes), [(.tmp 8)]⟩, []⟩, ⟨0, ⟨(some 10), none, (.new (.mslice 1 1 [(.bool false)])), [(.tmp 9), (.tmp 9)]⟩, []⟩, ⟨0, ⟨(some 5), none, (.pure .id), [(.tmp 10)]⟩, []⟩]) (.seq (.seq (.region [⟨0, ⟨(some 6), none, (.pure .id), [(.const (.int .i64 0))]⟩, []⟩]) (.block 0 (.loop (.seq (.seq (.region [⟨0, ⟨(some 11), none, (.pure .id), [(.tmp 6)]⟩, []⟩, ⟨0, ⟨(some 12), none, (.pure .id), [(.tmp 1)]⟩, []⟩, ⟨0, ⟨(some 13), none, (.pure .len), [(.tmp 12)]⟩, []⟩, ⟨0, ⟨(some 14), none, (.pure (.bin .lss .none)), [(.tmp 11), (.tmp 13)]⟩, []⟩]) (.cond (.tmp 14) .skip (.exit 0))) (.seq (.block 1 (.region [⟨0, ⟨(some 17), none, (.pure .id), [(.tmp 5)]⟩, []⟩, ⟨0, ⟨(some 18), none, (.pure .id), [(.tmp 1)]⟩, []⟩, ⟨0, ⟨(some 19), none, (.pure .id), [(.tmp 6)]⟩, []⟩, ⟨0, ⟨(some 20), none, (.pure (.iaddr 1)), [(.tmp 18), (.tmp 19)]⟩, []⟩, ⟨0, ⟨(some 21), none, (.load (.load 1 false)), [(.tmp 20)]⟩, []⟩, ⟨0, ⟨(some 22), none, (.pure (.bin .quo .none)), [(.tmp 21), (.const (.int .i64 2))]⟩, []⟩, ⟨0, ⟨(some 23), none, (.pure (.iaddr 1)), [(.tmp 17), (.tmp 22)]⟩, []⟩, ⟨0, ⟨none, none, (.imp (.store 1)), [(.tmp 23), (.const (.bool true))]⟩, []⟩])) (.region [⟨0, ⟨(some 15), none, (.pure .id), [(.tmp 6)]⟩, []⟩, ⟨0, ⟨(some 16), none, (.pure (.bin .add .none)), [(.tmp 15), (.const (.int .i64 1))]⟩, []⟩, ⟨0, ⟨(some 6), none, (.pure .id), [(.tmp 16)]⟩, []⟩])))))) (.seq (.seq (.region [⟨0, ⟨(some 24), none, (.pure (.faddr 1)), [(.tmp 2)]⟩, []⟩, ⟨0, ⟨(some 25), none, (.load (.load 1 false)), [(.tmp 24)]⟩, []⟩, ⟨0, ⟨(some 26), none, (.pure .len), [(.tmp 25)]⟩, []⟩, ⟨0, ⟨(some 27), none, (.pure (.bin .sub .none)), [(.tmp 26), (.const (.int .i64 1))]⟩, []⟩, ⟨0, ⟨(some 7), none, (.pure .id), [(.tmp 27)]⟩, []⟩]) (.block 2 (.loop (.seq (.seq (.region [⟨0, ⟨(some 28), none, (.pure .id), [(.tmp 7)]⟩, []⟩, ⟨0, ⟨(some 29), none, (.pure (.bin .geq .none)), [(.tmp 28), (.const (.int .i64 0))]⟩, []⟩]) (.cond (.tmp 29) .skip (.exit 2))) (.seq (.block 3 (.seq (.region [⟨0, ⟨(some 32), none, (.pure .id), [(.tmp 5)]⟩, []⟩, ⟨0, ⟨(some 33), none, (.pure (.faddr 0)), [(.tmp 2)]⟩, []⟩, ⟨0, ⟨(some 34), none, (.load (.load 1 false)), [(.tmp 33)]⟩, []⟩, ⟨0, ⟨(some 35), none, (.pure .len), [(.tmp 34)]⟩, []⟩, ⟨0, ⟨(some 36), none, (.pure (.bin .add .none)), [(.const (.int .i64 1)), (.tmp 35)]⟩, []⟩, ⟨0, ⟨(some 37), none, (.pure .id), [(.tmp 7)]⟩, []⟩, ⟨0, ⟨(some 38), none, (.pure (.bin .add .none)), [(.tmp 36), (.tmp 37)]⟩, []⟩, ⟨0, ⟨(some 39), none, (.pure (.iaddr 1)), [(.tmp 32), (.tmp 38)]⟩, []⟩, ⟨0, ⟨(some 40), none, (.load (.load 1 false)), [(.tmp 39)]⟩, []⟩]) (.cond (.tmp 40) (.seq (.region [⟨0, ⟨(some 41), none, (.pure .id), [(.tmp 5)]⟩, []⟩, ⟨0, ⟨(some 42), none, (.pure (.faddr 1)), [(.tmp 2)]⟩, []⟩, ⟨0, ⟨(some 43), none, (.load (.load 1 false)), [(.tmp 42)]⟩, []⟩, ⟨0, ⟨(some 44), none, (.pure .id), [(.tmp 7)]⟩, []⟩, ⟨0, ⟨(some 45), none, (.pure (.iaddr 2)), [(.tmp 43), (.tmp 44)]⟩, []⟩, ⟨0, ⟨(some 46), none, (.pure (.iarr 2 1)), [(.tmp 45), (.const (.int .i64 0))]⟩, []⟩, ⟨0, ⟨(some 47), none, (.load (.load 1 false)), [(.tmp 46)]⟩, []⟩, ⟨0, ⟨(some 48), none, (.pure (.bin .quo .none)), [(.tmp 47), (.const (.int .i64 2))]⟩, []⟩, ⟨0, ⟨(some 49), none, (.pure (.iaddr 1)), [(.tmp 41), (.tmp 48)]⟩, []⟩, ⟨0, ⟨none, none, (.imp (.store 1)), [(.tmp 49), (.const (.bool true))]⟩, []⟩]) (.region [⟨0, ⟨(some 50), none, (.pure .id), [(.tmp 5)]⟩, []⟩, ⟨0, ⟨(some 51), none, (.pure (.faddr 1)), [(.tmp 2)]⟩, []⟩, ⟨0, ⟨(some 52), none, (.load (.load 1 false)), [(.tmp 51)]⟩, []⟩, ⟨0, ⟨(some 53), none, (.pure .id), [(.tmp 7)]⟩, []⟩, ⟨0, ⟨(some 54), none, (.pure (.iaddr 2)), [(.tmp 52), (.tmp 53)]⟩, []⟩, ⟨0, ⟨(some 55), none, (.pure (.iarr 2 1)), [(.tmp 54), (.const (.int .i64 1))]⟩, []⟩, ⟨0, ⟨(some 56), none, (.load (.load 1 false)), [(.tmp 55)]⟩, []⟩, ⟨0, ⟨(some 57), none, (.pure (.bin .quo .none)), [(.tmp 56), (.const (.int .i64 2))]⟩, []⟩, ⟨0, ⟨(some 58), none, (.pure (.iaddr 1)), [(.tmp 50), (.tmp 57)]⟩, []⟩, ⟨0, ⟨none, none, (.imp (.store 1)), [(.tmp 58), (.const (.bool true))]⟩, []⟩])) .skip))) (.region [⟨0, ⟨(some 30), none, (.pure .id), [(.tmp 7)]⟩, []⟩, ⟨0, ⟨(some 31), none, (.pure (.bin .sub .none)), [(.tmp 30), (.const (.int .i64 1))]⟩, []⟩, ⟨0, ⟨(some 7), none, (.pure .id), [(.tmp 31)]⟩, []⟩])))))) (.seq (.region [⟨0, ⟨(some 59), none, (.pure .id), [(.tmp 5)]⟩, []⟩, ⟨0, ⟨(some 4), none, (.pure .id), [(.tmp 59)]⟩, []⟩]) .ret)))))⟩
theorem c_skolemref06_Reached : compF Tryz.prog Tryz.f91 = some G_skolemref06_Reached := by kernel_rfl
theorem gc_skolemref06_Reached {args : List DV} {σ : GS} {Post : DV → GS → Prop} (h : @exB Tryz.prog ⟨G_skolemref06_Reached.body⟩ (genv0 args G_skolemref06_Reached.ntmps) σ ⟨@gretB G_skolemref06_Reached.results ⟨Post⟩⟩) : GCall Tryz.prog F_skolemref06_Reached args σ Post := gcall_ofB seatfollows Tryz.func91 (by kernel_rfl) c_skolemref06_Reached h
noncomputable abbrev G_skolemref05_Normal : GFun := ⟨35, [(.tmp 2)], (.seq (.region [⟨0, ⟨(some 2), none, (.pure .id), [(.const (.bool false))]⟩, []⟩]) (.seq (.seq (.region [⟨0, ⟨(some 3), none, (.pure .id), [(.const (.int .i64 0))]⟩, []⟩]) (.block 0 (.loop (.seq (.seq (.region [⟨0, ⟨(some 4), none, (.pure .id), [(.tmp 3)]⟩, []⟩, ⟨0, ⟨(some 5), none, (.pure .id), [(.tmp 0)]⟩, []⟩, ⟨0, ⟨(some 6), none, (.pure .len), [(.tmp 5)]⟩, []⟩, ⟨0, ⟨(some 7), none, (.pure (.bin .lss .none)), [(.tmp 4), (.tmp 6)]⟩, []⟩]) (.cond (.tmp 7) .skip (.exit 0))) (.seq (.block 1 (.seq (.region [⟨0, ⟨(some 10), none, (.pure .id), [(.tmp 0)]⟩, []⟩, ⟨1, ⟨(some 11), none, (.pure .id), [(.tmp 3)]⟩, []⟩, ⟨2, ⟨(some 12), none, (.pure (.iaddr 1)), [(.tmp 10), (.tmp 11)]⟩, []⟩, ⟨3, ⟨(some 13), none, (.load (.load 1 false)), [(.tmp 12)]⟩, []⟩, ⟨4, ⟨(some 14), none, (.call F_skolemref05_Abs), [(.tmp 13)]⟩, []⟩, ⟨5, ⟨(some 15), none, (.call F_skolemref05_variable), [(.tmp 14)]⟩, []⟩, ⟨6, ⟨(some 16), none, (.pure (.un .not)), [(.tmp 15)]⟩, []⟩, ⟨7, ⟨(some 17), none, (.pure .id), [(.tmp 16)]⟩, []⟩, ⟨8, ⟨(some 18), (some (17, false)), (.pure .id), [(.tmp 3)]⟩, []⟩, ⟨9, ⟨(some 19), (some (17, false)), (.pure (.bin .gtr .none)), [(.tmp 18), (.const (.int .i64 0))]⟩, []⟩, ⟨10, ⟨(some 20), (some (17, false)), (.pure .id), [(.tmp 19)]⟩, []⟩, ⟨11, ⟨(some 21), (some (20, true)), (.pure .id), [(.tmp 0)]⟩, []⟩, ⟨12, ⟨(some 22), (some (20, true)), (.pure .id), [(.tmp 3)]⟩, []⟩, ⟨13, ⟨(some 23), (some (20, true)), (.pure (.iaddr 1)), [(.tmp 21), (.tmp 22)]⟩, []⟩, ⟨14, ⟨(some 24), (some (20, true)), (.load (.load 1 false)), [(.tmp 23)]⟩, []⟩, ⟨16, ⟨(some 26), (some (20, true)), (.pure .id), [(.tmp 0)]⟩, []⟩, ⟨17, ⟨(some 27), (some (20, true)), (.pure .id), [(.tmp 3)]⟩, []⟩, ⟨18, ⟨(some 28), (some (20, true)), (.pure (.bin .sub .none)), [(.tmp 27), (.const (.int .i64 1))]⟩, []⟩, ⟨19, ⟨(some 29), (some (20, true)), (.pure (.iaddr 1)), [(.tmp 26), (.tmp 28)]⟩, []⟩, ⟨20, ⟨(some 30), (some (20, true)), (.load (.load 1 false)), [(.tmp 29)]⟩, []⟩, ⟨15, ⟨(some 25), (some (20, true)), (.call F_skolemref05_Abs), [(.tmp 24)]⟩, [⟨(some 30), (some (20, true)), (.load (.load 1 false)), [(.tmp 29)]⟩]⟩, ⟨21, ⟨(some 31), (some (20, true)), (.call F_skolemref05_Abs), [(.tmp 30)]⟩, []⟩, ⟨22, ⟨(some 32), (some (20, true)), (.pure (.bin .leq .none)), [(.tmp 25), (.tmp 31)]⟩, []⟩, ⟨23, ⟨(some 33), (some (17, false)), (.pure .pick), [(.tmp 20), (.tmp 32), (.const (.bool false))]⟩, []⟩, ⟨24, ⟨(some 34), none, (.pure .pick), [(.tmp 17), (.const (.bool true)), (.tmp 33)]⟩, []⟩]) (.cond (.tmp 34) (.seq (.region [⟨0, ⟨(some 2), none, (.pure .id), [(.const (.bool false))]⟩, []⟩]) .ret) .skip))) (.region [⟨0, ⟨(some 8), none, (.pure .id), [(.tmp 3)]⟩, []⟩, ⟨0, ⟨(some 9), none, (.pure (.bin .add .none)), [(.tmp 8), (.const (.int .i64 1))]⟩, []⟩, ⟨0, ⟨(some 3), none, (.pure .id), [(.tmp 9)]⟩, []⟩])))))) (.seq (.region [⟨0, ⟨(some 2), none, (.pure .id), [(.const (.bool true))]⟩, []⟩]) .ret)))⟩
theorem c_skolemref05_Normal : compF Tryz.prog Tryz.f41 = some G_skolemref05_Normal := by kernel_rfl
theorem gc_skolemref05_Normal {args : List DV} {σ : GS} {Post : DV → GS → Prop} (h : @exB Tryz.prog ⟨G_skolemref05_Normal.body⟩ (genv0 args G_skolemref05_Normal.ntmps) σ ⟨@gretB G_skolemref05_Normal.results ⟨Post⟩⟩) : GCall Tryz.prog F_skolemref05_Normal args σ Post := gcall_ofB seatfollows Tryz.func41 (by kernel_rfl) c_skolemref05_Normal h
noncomputable abbrev G_skolemref05_Ints : GFun := ⟨26, [(.tmp 4)], (.seq (.region [⟨0, ⟨(some 4), none, (.pure .id), [(.const (.bool false))]⟩, []⟩]) (.seq (.seq (.region [⟨0, ⟨(some 6), none, (.pure .id), [(.tmp 0)]⟩, []⟩, ⟨0, ⟨(some 7), none, (.pure .len), [(.tmp 6)]⟩, []⟩, ⟨0, ⟨(some 8), none, (.pure .id), [(.tmp 1)]⟩, []⟩, ⟨0, ⟨(some 9), none, (.pure .len), [(.tmp 8)]⟩, []⟩, ⟨0, ⟨(some 10), none, (.pure (.bin .neq .none)), [(.tmp 7), (.tmp 9)]⟩, []⟩]) (.cond (.tmp 10) (.seq (.region [⟨0, ⟨(some 4), none, (.pure .id), [(.const (.bool false))]⟩, []⟩]) .ret) .skip)) (.seq (.seq (.region [⟨0, ⟨(some 5), none, (.pure .id), [(.const (.int .i64 0))]⟩, []⟩]) (.block 0 (.loop (.seq (.seq (.region [⟨0, ⟨(some 11), none, (.pure .id), [(.tmp 5)]⟩, []⟩, ⟨0, ⟨(some 12), none, (.pure .id), [(.tmp 0)]⟩, []⟩, ⟨0, ⟨(some 13), none, (.pure .len), [(.tmp 12)]⟩, []⟩, ⟨0, ⟨(some 14), none, (.pure (.bin .lss .none)), [(.tmp 11), (.tmp 13)]⟩, []⟩]) (.cond (.tmp 14) .skip (.exit 0))) (.seq (.block 1 (.seq (.region [⟨0, ⟨(some 17), none, (.pure .id), [(.tmp 0)]⟩, []⟩, ⟨1, ⟨(some 18), none, (.pure .id), [(.tmp 5)]⟩, []⟩, ⟨2, ⟨(some 19), none, (.pure (.iaddr 1)), [(.tmp 17), (.tmp 18)]⟩, []⟩, ⟨3, ⟨(some 20), none, (.load (.load 1 false)), [(.tmp 19)]⟩, []⟩, ⟨4, ⟨(some 21), none, (.pure .id), [(.tmp 1)]⟩, []⟩, ⟨5, ⟨(some 22), none, (.pure .id), [(.tmp 5)]⟩, []⟩, ⟨6, ⟨(some 23), none, (.pure (.iaddr 1)), [(.tmp 21), (.tmp 22)]⟩, []⟩, ⟨7, ⟨(some 24), none, (.load (.load 1 false)), [(.tmp 23)]⟩, []⟩, ⟨8, ⟨(some 25), none, (.pure (.bin .neq .none)), [(.tmp 20), (.tmp 24)]⟩, []⟩]) (.cond (.tmp 25) (.seq (.region [⟨0, ⟨(some 4), none, (.pure .id), [(.const (.bool false))]⟩, []⟩]) .ret) .skip))) (.region [⟨0, ⟨(some 15), none, (.pure .id), [(.tmp 5)]⟩, []⟩, ⟨0, ⟨(some 16), none, (.pure (.bin .add .none)), [(.tmp 15), (.const (.int .i64 1))]⟩, []⟩, ⟨0, ⟨(some 5), none, (.pure .id), [(.tmp 16)]⟩, []⟩])))))) (.seq (.region [⟨0, ⟨(some 4), none, (.pure .id), [(.const (.bool true))]⟩, []⟩]) .ret))))⟩
theorem c_skolemref05_Ints : compF Tryz.prog Tryz.f26 = some G_skolemref05_Ints := by kernel_rfl
theorem gc_skolemref05_Ints {args : List DV} {σ : GS} {Post : DV → GS → Prop} (h : @exB Tryz.prog ⟨G_skolemref05_Ints.body⟩ (genv0 args G_skolemref05_Ints.ntmps) σ ⟨@gretB G_skolemref05_Ints.results ⟨Post⟩⟩) : GCall Tryz.prog F_skolemref05_Ints args σ Post := gcall_ofB seatfollows Tryz.func26 (by kernel_rfl) c_skolemref05_Ints h
noncomputable abbrev G_skolemref05_variable : GFun := ⟨9, [(.tmp 2)], (.seq (.region [⟨0, ⟨(some 2), none, (.pure .id), [(.const (.bool false))]⟩, []⟩]) (.seq (.region [⟨0, ⟨(some 3), none, (.pure .id), [(.tmp 0)]⟩, []⟩, ⟨0, ⟨(some 4), none, (.pure (.bin .geq .none)), [(.tmp 3), (.const (.int .i64 1))]⟩, []⟩, ⟨0, ⟨(some 5), none, (.pure .id), [(.tmp 4)]⟩, []⟩, ⟨0, ⟨(some 6), (some (5, true)), (.pure .id), [(.tmp 0)]⟩, []⟩, ⟨0, ⟨(some 7), (some (5, true)), (.pure (.bin .leq .none)), [(.tmp 6), (.const (.int .i64 65536))]⟩, []⟩, ⟨0, ⟨(some 8), none, (.pure .pick), [(.tmp 5), (.tmp 7), (.const (.bool false))]⟩, []⟩, ⟨0, ⟨(some 2), none, (.pure .id), [(.tmp 8)]⟩, []⟩]) .ret))⟩
theorem c_skolemref05_variable : compF Tryz.prog Tryz.f117 = some G_skolemref05_variable := by kernel_rfl
theorem gc_skolemref05_variable {args : List DV} {σ : GS} {Post : DV → GS → Prop} (h : @exB Tryz.prog ⟨G_skolemref05_variable.body⟩ (genv0 args G_skolemref05_variable.ntmps) σ ⟨@gretB G_skolemref05_variable.results ⟨Post⟩⟩) : GCall Tryz.prog F_skolemref05_variable args σ Post := gcall_ofB seatfollows Tryz.func117 (by kernel_rfl) c_skolemref05_variable h
noncomputable abbrev G_skolemref05_Abs : GFun := ⟨9, [(.tmp 2)], (.seq (.region [⟨0, ⟨(some 2), none, (.pure .id), [(.const (.int .i64 0))]⟩, []⟩]) (.seq (.seq (.region [⟨0, ⟨(some 3), none, (.pure .id), [(.tmp 0)]⟩, []⟩, ⟨0, ⟨(some 4), none, (.pure (.bin .lss .none)), [(.tmp 3), (.const (.int .i64 0))]⟩, []⟩]) (.cond (.tmp 4) (.seq (.region [⟨0, ⟨(some 5), none, (.pure .id), [(.tmp 0)]⟩, []⟩, ⟨0, ⟨(some 6), none, (.pure (.un .neg)), [(.tmp 5)]⟩, []⟩, ⟨0, ⟨(some 7), none, (.pure .mx), [(.const (.int .i64 0)), (.tmp 6)]⟩, []⟩, ⟨0, ⟨(some 2), none, (.pure .id), [(.tmp 7)]⟩, []⟩]) .ret) .skip)) (.seq (.region [⟨0, ⟨(some 8), none, (.pure .id), [(.tmp 0)]⟩, []⟩, ⟨0, ⟨(some 2), none, (.pure .id), [(.tmp 8)]⟩, []⟩]) .ret)))⟩
theorem c_skolemref05_Abs : compF Tryz.prog Tryz.f44 = some G_skolemref05_Abs := by kernel_rfl
theorem gc_skolemref05_Abs {args : List DV} {σ : GS} {Post : DV → GS → Prop} (h : @exB Tryz.prog ⟨G_skolemref05_Abs.body⟩ (genv0 args G_skolemref05_Abs.ntmps) σ ⟨@gretB G_skolemref05_Abs.results ⟨Post⟩⟩) : GCall Tryz.prog F_skolemref05_Abs args σ Post := gcall_ofB seatfollows Tryz.func44 (by kernel_rfl) c_skolemref05_Abs h
end Go.Gh
namespace Go.Gh
open Go.Proofs
end Go.Gh
namespace Go.Gh
open Go.Proofs
end Go.Gh
namespace Go.Gh
open Go.Proofs
end Go.Gh
namespace Go.Gh
open Go.Proofs
abbrev F_slices_Concat_int_int : Nat := 86
abbrev F_slices_Grow_int_int : Nat := 155
abbrev F_slices_Compact_int_int : Nat := 158
noncomputable abbrev G_slices_Concat_int_int : GFun := ⟨36, [(.tmp 2)], (.seq (.region [⟨0, ⟨(some 2), none, (.pure .id), [(.const .nils)]⟩, []⟩]) (.seq (.region [⟨0, ⟨(some 3), none, (.pure .id), [(.const (.int .i64 0))]⟩, []⟩]) (.seq (.seq (.region [⟨0, ⟨(some 9), none, (.pure .id), [(.tmp 0)]⟩, []⟩, ⟨0, ⟨(some 10), none, (.pure .len), [(.tmp 9)]⟩, []⟩, ⟨0, ⟨(some 11), none, (.pure .id), [(.const (.int .i64 0))]⟩, []⟩]) (.block 0 (.loop (.seq (.region [⟨0, ⟨(some 12), none, (.pure (.bin .lss .none)), [(.tmp 11), (.tmp 10)]⟩, []⟩]) (.seq (.cond (.tmp 12) .skip (.exit 0)) (.seq (.block 1 (.seq (.region [⟨0, ⟨(some 13), none, (.pure (.iaddr 1)), [(.tmp 9), (.tmp 11)]⟩, []⟩, ⟨0, ⟨(some 14), none, (.load (.load 1 false)), [(.tmp 13)]⟩, []⟩, ⟨0, ⟨(some 5), none, (.pure .id), [(.tmp 14)]⟩, []⟩]) (.seq (.region [⟨0, ⟨(some 15), none, (.pure .id), [(.tmp 3)]⟩, []⟩, ⟨0, ⟨(some 16), none, (.pure .id), [(.tmp 5)]⟩, []⟩, ⟨0, ⟨(some 17), none, (.pure .len), [(.tmp 16)]⟩, []⟩, ⟨0, ⟨(some 18), none, (.pure (.bin .add .none)), [(.tmp 15), (.tmp 17)]⟩, []⟩, ⟨0, ⟨(some 3), none, (.pure .id), [(.tmp 18)]⟩, []⟩]) (.seq (.region [⟨0, ⟨(some 19), none, (.pure .id), [(.tmp 3)]⟩, []⟩, ⟨0, ⟨(some 20), none, (.pure (.bin .lss .none)), [(.tmp 19), (.const (.int .i64 0))]⟩, []⟩]) (.cond (.tmp 20) (.region [⟨0, ⟨(some 21), none, .bad, []⟩, []⟩, ⟨0, ⟨none, none, .bad, []⟩, []⟩]) .skip))))) (.region [⟨0, ⟨(some 22), none, (.pure (.bin .add .none)), [(.tmp 11), (.const (.int .i64 1))]⟩, []⟩, ⟨0, ⟨(some 11), none, (.pure .id), [(.tmp 22)]⟩, []⟩]))))))) (.seq (.region [⟨0, ⟨(some 23), none, (.pure .id), [(.tmp 3)]⟩, []⟩, ⟨0, ⟨(some 24), none, (.call F_slices_Grow_int_int), [(.const .nils), (.tmp 23)]⟩, []⟩, ⟨0, ⟨(some 6), none, (.pure .id), [(.tmp 24)]⟩, []⟩]) (.seq (.seq (.region [⟨0, ⟨(some 25), none, (.pure .id), [(.tmp 0)]⟩, []⟩, ⟨0, ⟨(some 26), none, (.pure .len), [(.tmp 25)]⟩, []⟩, ⟨0, ⟨(some 27), none, (.pure .id), [(.const (.int .i64 0))]⟩, []⟩]) (.block 2 (.loop (.seq (.region [⟨0, ⟨(some 28), none, (.pure (.bin .lss .none)), [(.tmp 27), (.tmp 26)]⟩, []⟩]) (.seq (.cond (.tmp 28) .skip (.exit 2)) (.seq (.block 3 (.seq (.region [⟨0, ⟨(some 29), none, (.pure (.iaddr 1)), [(.tmp 25), (.tmp 27)]⟩, []⟩, ⟨0, ⟨(some 30), none, (.load (.load 1 false)), [(.tmp 29)]⟩, []⟩, ⟨0, ⟨(some 8), none, (.pure .id), [(.tmp 30)]⟩, []⟩]) (.region [⟨0, ⟨(some 31), none, (.pure .id), [(.tmp 6)]⟩, []⟩, ⟨0, ⟨(some 32), none, (.pure .id), [(.tmp 8)]⟩, []⟩, ⟨0, ⟨(some 33), none, (.imp (.append 1 8)), [(.tmp 31), (.tmp 32)]⟩, []⟩, ⟨0, ⟨(some 6), none, (.pure .id), [(.tmp 33)]⟩, []⟩]))) (.region [⟨0, ⟨(some 34), none, (.pure (.bin .add .none)), [(.tmp 27), (.const (.int .i64 1))]⟩, []⟩, ⟨0, ⟨(some 27), none, (.pure .id), [(.tmp 34)]⟩, []⟩]))))))) (.seq (.region [⟨0, ⟨(some 35), none, (.pure .id), [(.tmp 6)]⟩, []⟩, ⟨0, ⟨(some 2), none, (.pure .id), [(.tmp 35)]⟩, []⟩]) .ret))))))⟩
theorem c_slices_Concat_int_int : compF Tryz.prog Tryz.f86 = some G_slices_Concat_int_int := by kernel_rfl
theorem gc_slices_Concat_int_int {args : List DV} {σ : GS} {Post : DV → GS → Prop} (h : @exB Tryz.prog ⟨G_slices_Concat_int_int.body⟩ (genv0 args G_slices_Concat_int_int.ntmps) σ ⟨@gretB G_slices_Concat_int_int.results ⟨Post⟩⟩) : GCall Tryz.prog F_slices_Concat_int_int args σ Post := gcall_ofB seatfollows Tryz.func86 (by kernel_rfl) c_slices_Concat_int_int h
noncomputable abbrev G_slices_Grow_int_int : GFun := ⟨27, [(.tmp 4)], (.seq (.region [⟨0, ⟨(some 4), none, (.pure .id), [(.const .nils)]⟩, []⟩]) (.seq (.seq (.region [⟨0, ⟨(some 5), none, (.pure .id), [(.tmp 1)]⟩, []⟩, ⟨0, ⟨(some 6), none, (.pure (.bin .lss .none)), [(.tmp 5), (.const (.int .i64 0))]⟩, []⟩]) (.cond (.tmp 6) (.region [⟨0, ⟨(some 7), none, .bad, []⟩, []⟩, ⟨0, ⟨none, none, .bad, []⟩, []⟩]) .skip)) (.seq (.seq (.region [⟨0, ⟨(some 8), none, (.pure .id), [(.tmp 1)]⟩, []⟩, ⟨0, ⟨(some 9), none, (.pure .id), [(.tmp 0)]⟩, []⟩, ⟨0, ⟨(some 10), none, (.pure .cap), [(.tmp 9)]⟩, []⟩, ⟨0, ⟨(some 11), none, (.pure .id), [(.tmp 0)]⟩, []⟩, ⟨0, ⟨(some 12), none, (.pure .len), [(.tmp 11)]⟩, []⟩, ⟨0, ⟨(some 13), none, (.pure (.bin .sub .none)), [(.tmp 10), (.tmp 12)]⟩, []⟩, ⟨0, ⟨(some 14), none, (.pure (.bin .sub .none)), [(.tmp 8), (.tmp 13)]⟩, []⟩, ⟨0, ⟨(some 1), none, (.pure .id), [(.tmp 14)]⟩, []⟩]) (.seq (.region [⟨0, ⟨(some 15), none, (.pure .id), [(.tmp 1)]⟩, []⟩, ⟨0, ⟨(some 16), none, (.pure (.bin .gtr .none)), [(.tmp 15), (.const (.int .i64 0))]⟩, []⟩]) (.cond (.tmp 16) (.region [⟨0, ⟨(some 17), none, (.pure .id), [(.tmp 0)]⟩, []⟩, ⟨0, ⟨(some 18), none, (.pure .id), [(.tmp 0)]⟩, []⟩, ⟨0, ⟨(some 19), none, (.pure .cap), [(.tmp 18)]⟩, []⟩, ⟨0, ⟨(some 20), none, (.pure (.slice 1 false true false)), [(.tmp 17), (.tmp 19)]⟩, []⟩, ⟨0, ⟨(some 21), none, (.pure .id), [(.tmp 1)]⟩, []⟩, ⟨0, ⟨(some 22), none, (.imp (.appendz 1 8 [(.int .i64 0)])), [(.tmp 20), (.tmp 21)]⟩, []⟩, ⟨0, ⟨(some 23), none, (.pure .id), [(.tmp 0)]⟩, []⟩, ⟨0, ⟨(some 24), none, (.pure .len), [(.tmp 23)]⟩, []⟩, ⟨0, ⟨(some 25), none, (.pure (.slice 1 false true false)), [(.tmp 22), (.tmp 24)]⟩, []⟩, ⟨0, ⟨(some 0), none, (.pure .id), [(.tmp 25)]⟩, []⟩]) .skip))) (.seq (.region [⟨0, ⟨(some 26), none, (.pure .id), [(.tmp 0)]⟩, []⟩, ⟨0, ⟨(some 4), none, (.pure .id), [(.tmp 26)]⟩, []⟩]) .ret))))⟩
theorem c_slices_Grow_int_int : compF Tryz.prog Tryz.f155 = some G_slices_Grow_int_int := by kernel_rfl
theorem gc_slices_Grow_int_int {args : List DV} {σ : GS} {Post : DV → GS → Prop} (h : @exB Tryz.prog ⟨G_slices_Grow_int_int.body⟩ (genv0 args G_slices_Grow_int_int.ntmps) σ ⟨@gretB G_slices_Grow_int_int.results ⟨Post⟩⟩) : GCall Tryz.prog F_slices_Grow_int_int args σ Post := gcall_ofB seatfollows Tryz.func155 (by kernel_rfl) c_slices_Grow_int_int h
noncomputable abbrev G_slices_Compact_int_int : GFun := ⟨61, [(.tmp 2)], (.seq (.region [⟨0, ⟨(some 2), none, (.pure .id), [(.const .nils)]⟩, []⟩]) (.seq (.seq (.region [⟨0, ⟨(some 6), none, (.pure .id), [(.tmp 0)]⟩, []⟩, ⟨0, ⟨(some 7), none, (.pure .len), [(.tmp 6)]⟩, []⟩, ⟨0, ⟨(some 8), none, (.pure (.bin .lss .none)), [(.tmp 7), (.const (.int .i64 2))]⟩, []⟩]) (.cond (.tmp 8) (.seq (.region [⟨0, ⟨(some 9), none, (.pure .id), [(.tmp 0)]⟩, []⟩, ⟨0, ⟨(some 2), none, (.pure .id), [(.tmp 9)]⟩, []⟩]) .ret) .skip)) (.seq (.seq (.region [⟨0, ⟨(some 3), none, (.pure .id), [(.const (.int .i64 1))]⟩, []⟩]) (.block 0 (.loop (.seq (.seq (.region [⟨0, ⟨(some 10), none, (.pure .id), [(.tmp 3)]⟩, []⟩, ⟨0, ⟨(some 11), none, (.pure .id), [(.tmp 0)]⟩, []⟩, ⟨0, ⟨(some 12), none, (.pure .len), [(.tmp 11)]⟩, []⟩, ⟨0, ⟨(some 13), none, (.pure (.bin .lss .none)), [(.tmp 10), (.tmp 12)]⟩, []⟩]) (.cond (.tmp 13) .skip (.exit 0))) (.seq (.block 1 (.seq (.region [⟨0, ⟨(some 16), none, (.pure .id), [(.tmp 0)]⟩, []⟩, ⟨1, ⟨(some 17), none, (.pure .id), [(.tmp 3)]⟩, []⟩, ⟨2, ⟨(some 18), none, (.pure (.iaddr 1)), [(.tmp 16), (.tmp 17)]⟩, []⟩, ⟨3, ⟨(some 19), none, (.load (.load 1 false)), [(.tmp 18)]⟩, []⟩, ⟨4, ⟨(some 20), none, (.pure .id), [(.tmp 0)]⟩, []⟩, ⟨5, ⟨(some 21), none, (.pure .id), [(.tmp 3)]⟩, []⟩, ⟨6, ⟨(some 22), none, (.pure (.bin .sub .none)), [(.tmp 21), (.const (.int .i64 1))]⟩, []⟩, ⟨7, ⟨(some 23), none, (.pure (.iaddr 1)), [(.tmp 20), (.tmp 22)]⟩, []⟩, ⟨8, ⟨(some 24), none, (.load (.load 1 false)), [(.tmp 23)]⟩, []⟩, ⟨9, ⟨(some 25), none, (.pure (.bin .eql .none)), [(.tmp 19), (.tmp 24)]⟩, []⟩]) (.cond (.tmp 25) (.seq (.region [⟨0, ⟨(some 26), none, (.pure .id), [(.tmp 0)]⟩, []⟩, ⟨0, ⟨(some 27), none, (.pure .id), [(.tmp 3)]⟩, []⟩, ⟨0, ⟨(some 28), none, (.pure (.slice 1 true false false)), [(.tmp 26), (.tmp 27)]⟩, []⟩, ⟨0, ⟨(some 4), none, (.pure .id), [(.tmp 28)]⟩, []⟩]) (.seq (.seq (.region [⟨0, ⟨(some 5), none, (.pure .id), [(.const (.int .i64 1))]⟩, []⟩]) (.block 2 (.loop (.seq (.seq (.region [⟨0, ⟨(some 29), none, (.pure .id), [(.tmp 5)]⟩, []⟩, ⟨0, ⟨(some 30), none, (.pure .id), [(.tmp 4)]⟩, []⟩, ⟨0, ⟨(some 31), none, (.pure .len), [(.tmp 30)]⟩, []⟩, ⟨0, ⟨(some 32), none, (.pure (.bin .lss .none)), [(.tmp 29), (.tmp 31)]⟩, []⟩]) (.cond (.tmp 32) .skip (.exit 2))) (.seq (.block 3 (.seq (.region [⟨0, ⟨(some 35), none, (.pure .id), [(.tmp 4)]⟩, []⟩, ⟨1, ⟨(some 36), none, (.pure .id), [(.tmp 5)]⟩, []⟩, ⟨2, ⟨(some 37), none, (.pure (.iaddr 1)), [(.tmp 35), (.tmp 36)]⟩, []⟩, ⟨3, ⟨(some 38), none, (.load (.load 1 false)), [(.tmp 37)]⟩, []⟩, ⟨4, ⟨(some 39), none, (.pure .id), [(.tmp 4)]⟩, []⟩, ⟨5, ⟨(some 40), none, (.pure .id), [(.tmp 5)]⟩, []⟩, ⟨6, ⟨(some 41), none, (.pure (.bin .sub .none)), [(.tmp 40), (.const (.int .i64 1))]⟩, []⟩, ⟨7, ⟨(some 42), none, (.pure (.iaddr 1)), [(.tmp 39), (.tmp 41)]⟩, []⟩, ⟨8, ⟨(some 43), none, (.load (.load 1 false)), [(.tmp 42)]⟩, []⟩, ⟨9, ⟨(some 44), none, (.pure (.bin .neq .none)), [(.tmp 38), (.tmp 43)]⟩, []⟩]) (.cond (.tmp 44) (.seq (.region [⟨0, ⟨(some 45), none, (.pure .id), [(.tmp 0)]⟩, []⟩, ⟨0, ⟨(some 46), none, (.pure .id), [(.tmp 3)]⟩, []⟩, ⟨0, ⟨(some 47), none, (.pure .id), [(.tmp 4)]⟩, []⟩, ⟨0, ⟨(some 48), none, (.pure .id), [(.tmp 5)]⟩, []⟩, ⟨0, ⟨(some 49), none, (.pure (.iaddr 1)), [(.tmp 47), (.tmp 48)]⟩, []⟩, ⟨0, ⟨(some 50), none, (.load (.load 1 false)), [(.tmp 49)]⟩, []⟩, ⟨0, ⟨(some 51), none, (.pure (.iaddr 1)), [(.tmp 45), (.tmp 46)]⟩, []⟩, ⟨0, ⟨none, none, (.imp (.store 1)), [(.tmp 51), (.tmp 50)]⟩, []⟩]) (.region [⟨0, ⟨(some 52), none, (.pure .id), [(.tmp 3)]⟩, []⟩, ⟨0, ⟨(some 53), none, (.pure (.bin .add .none)), [(.tmp 52), (.const (.int .i64 1))]⟩, []⟩, ⟨0, ⟨(some 3), none, (.pure .id), [(.tmp 53)]⟩, []⟩])) .skip))) (.region [⟨0, ⟨(some 33), none, (.pure .id), [(.tmp 5)]⟩, []⟩, ⟨0, ⟨(some 34), none, (.pure (.bin .add .none)), [(.tmp 33), (.const (.int .i64 1))]⟩, []⟩, ⟨0, ⟨(some 5), none, (.pure .id), [(.tmp 34)]⟩, []⟩])))))) (.seq (.region [⟨0, ⟨(some 54), none, (.pure .id), [(.tmp 0)]⟩, []⟩, ⟨0, ⟨(some 55), none, (.pure .id), [(.tmp 3)]⟩, []⟩, ⟨0, ⟨(some 56), none, (.pure (.slice 1 true false false)), [(.tmp 54), (.tmp 55)]⟩, []⟩, ⟨0, ⟨none, none, (.imp (.clear 1 [(.int .i64 0)])), [(.tmp 56)]⟩, []⟩]) (.seq (.region [⟨0, ⟨(some 57), none, (.pure .id), [(.tmp 0)]⟩, []⟩, ⟨0, ⟨(some 58), none, (.pure .id), [(.tmp 3)]⟩, []⟩, ⟨0, ⟨(some 59), none, (.pure (.slice 1 false true false)), [(.tmp 57), (.tmp 58)]⟩, []⟩, ⟨0, ⟨(some 2), none, (.pure .id), [(.tmp 59)]⟩, []⟩]) .ret)))) .skip))) (.region [⟨0, ⟨(some 14), none, (.pure .id), [(.tmp 3)]⟩, []⟩, ⟨0, ⟨(some 15), none, (.pure (.bin .add .none)), [(.tmp 14), (.const (.int .i64 1))]⟩, []⟩, ⟨0, ⟨(some 3), none, (.pure .id), [(.tmp 15)]⟩, []⟩])))))) (.seq (.region [⟨0, ⟨(some 60), none, (.pure .id), [(.tmp 0)]⟩, []⟩, ⟨0, ⟨(some 2), none, (.pure .id), [(.tmp 60)]⟩, []⟩]) .ret))))⟩
theorem c_slices_Compact_int_int : compF Tryz.prog Tryz.f158 = some G_slices_Compact_int_int := by kernel_rfl
theorem gc_slices_Compact_int_int {args : List DV} {σ : GS} {Post : DV → GS → Prop} (h : @exB Tryz.prog ⟨G_slices_Compact_int_int.body⟩ (genv0 args G_slices_Compact_int_int.ntmps) σ ⟨@gretB G_slices_Compact_int_int.results ⟨Post⟩⟩) : GCall Tryz.prog F_slices_Compact_int_int args σ Post := gcall_ofB seatfollows Tryz.func158 (by kernel_rfl) c_slices_Compact_int_int h
end Go.Gh
namespace Go.Gh
open Go.Proofs
abbrev F_skolemlaw12_works : Nat := 20
abbrev F_skolemref12_SameClauses : Nat := 23
abbrev F_enc_abs : Nat := 78
abbrev F_enc_writers : Nat := 79
abbrev F_skolemref12_Clauses : Nat := 82
abbrev F_enc_clauses_put : Nat := 88
abbrev F_enc_normal : Nat := 100
abbrev F_enc_writers_1 : Nat := 146
abbrev F_enc_neg : Nat := 147
abbrev F_enc_writers_2 : Nat := 148
abbrev F_enc_writers_3 : Nat := 149
abbrev F_enc_writers_4 : Nat := 151
abbrev F_skolemref12_Put : Nat := 152
abbrev F_slices_SortFunc_int_int : Nat := 156
abbrev F_enc_clauses_put_1 : Nat := 157
abbrev F_skolemref12_sorted : Nat := 200
noncomputable abbrev G_enc_abs : GFun := ⟨13, [(.tmp 2)], (.seq (.region [⟨0, ⟨(some 2), none, (.pure .id), [(.const (.int .i64 0))]⟩, []⟩]) (.seq (.seq (.region [⟨0, ⟨(some 3), none, (.pure .id), [(.tmp 0)]⟩, []⟩, ⟨0, ⟨(some 4), none, (.pure (.bin .lss .none)), [(.tmp 3), (.const (.int .i64 (-65536)))]⟩, []⟩, ⟨0, ⟨(some 5), none, (.pure .id), [(.tmp 4)]⟩, []⟩, ⟨0, ⟨(some 6), (some (5, false)), (.pure .id), [(.tmp 0)]⟩, []⟩, ⟨0, ⟨(some 7), (some (5, false)), (.pure (.bin .gtr .none)), [(.tmp 6), (.const (.int .i64 65536))]⟩, []⟩, ⟨0, ⟨(some 8), none, (.pure .pick), [(.tmp 5), (.const (.bool true)), (.tmp 7)]⟩, []⟩]) (.cond (.tmp 8) (.seq (.region [⟨0, ⟨(some 2), none, (.pure .id), [(.const (.int .i64 0))]⟩, []⟩]) .ret) .skip)) (.seq (.region [⟨0, ⟨(some 9), none, (.pure .id), [(.tmp 0)]⟩, []⟩, ⟨0, ⟨(some 10), none, (.pure .id), [(.tmp 0)]⟩, []⟩, ⟨0, ⟨(some 11), none, (.pure (.un .neg)), [(.tmp 10)]⟩, []⟩, ⟨0, ⟨(some 12), none, (.pure .mx), [(.tmp 9), (.tmp 11)]⟩, []⟩, ⟨0, ⟨(some 2), none, (.pure .id), [(.tmp 12)]⟩, []⟩]) .ret)))⟩
theorem c_enc_abs : compF Tryz.prog Tryz.f78 = some G_enc_abs := by kernel_rfl
theorem gc_enc_abs {args : List DV} {σ : GS} {Post : DV → GS → Prop} (h : @exB Tryz.prog ⟨G_enc_abs.body⟩ (genv0 args G_enc_abs.ntmps) σ ⟨@gretB G_enc_abs.results ⟨Post⟩⟩) : GCall Tryz.prog F_enc_abs args σ Post := gcall_ofB seatfollows Tryz.func78 (by kernel_rfl) c_enc_abs h
noncomputable abbrev G_enc_writers : GFun := ⟨3, [(.tmp 0)], (.seq (.region [⟨0, ⟨(some 0), none, (.pure .id), [(.const .nilmap)]⟩, []⟩]) (.seq (.region [⟨0, ⟨(some 1), none, (.new .mmap), []⟩, []⟩, ⟨0, ⟨none, none, (.imp (.mset (.int .u8))), [(.tmp 1), (.const (.int .u8 1)), (.const (.func F_enc_writers_1 [] []))]⟩, []⟩, ⟨0, ⟨none, none, (.imp (.mset (.int .u8))), [(.tmp 1), (.const (.int .u8 2)), (.const (.func F_enc_writers_2 [] []))]⟩, []⟩, ⟨0, ⟨none, none, (.imp (.mset (.int .u8))), [(.tmp 1), (.const (.int .u8 3)), (.const (.func F_enc_writers_3 [] []))]⟩, []⟩, ⟨0, ⟨none, none, (.imp (.mset (.int .u8))), [(.tmp 1), (.const (.int .u8 4)), (.const (.func F_enc_writers_4 [] []))]⟩, []⟩, ⟨0, ⟨(some 2), none, (.pure .id), [(.tmp 1)]⟩, []⟩, ⟨0, ⟨(some 0), none, (.pure .id), [(.tmp 2)]⟩, []⟩]) .ret))⟩
theorem c_enc_writers : compF Tryz.prog Tryz.f79 = some G_enc_writers := by kernel_rfl
theorem gc_enc_writers {args : List DV} {σ : GS} {Post : DV → GS → Prop} (h : @exB Tryz.prog ⟨G_enc_writers.body⟩ (genv0 args G_enc_writers.ntmps) σ ⟨@gretB G_enc_writers.results ⟨Post⟩⟩) : GCall Tryz.prog F_enc_writers args σ Post := gcall_ofB seatfollows Tryz.func79 (by kernel_rfl) c_enc_writers h
noncomputable abbrev G_enc_writers_1 : GFun := ⟨34, [], (.seq (.seq (.region [⟨0, ⟨(some 12), none, (.pure .id), [(.tmp 3)]⟩, []⟩]) (.cond (.tmp 12) (.seq (.region [⟨0, ⟨(some 13), none, (.pure .id), [(.tmp 2)]⟩, []⟩, ⟨0, ⟨(some 14), none, (.pure .len), [(.tmp 13)]⟩, []⟩, ⟨0, ⟨(some 15), none, (.pure .id), [(.const (.int .i64 0))]⟩, []⟩]) (.block 0 (.loop (.seq (.region [⟨0, ⟨(some 16), none, (.pure (.bin .lss .none)), [(.tmp 15), (.tmp 14)]⟩, []⟩]) (.seq (.cond (.tmp 16) .skip (.exit 0)) (.seq (.block 1 (.seq (.region [⟨0, ⟨(some 17), none, (.pure (.iaddr 1)), [(.tmp 13), (.tmp 15)]⟩, []⟩, ⟨0, ⟨(some 18), none, (.load (.load 1 false)), [(.tmp 17)]⟩, []⟩, ⟨0, ⟨(some 11), none, (.pure .id), [(.tmp 18)]⟩, []⟩]) (.region [⟨0, ⟨(some 19), none, (.pure .id), [(.tmp 0)]⟩, []⟩, ⟨0, ⟨(some 20), none, (.pure .id), [(.tmp 1)]⟩, []⟩, ⟨0, ⟨(some 21), none, (.pure (.un .neg)), [(.tmp 20)]⟩, []⟩, ⟨0, ⟨(some 22), none, (.pure .id), [(.tmp 11)]⟩, []⟩, ⟨0, ⟨(some 23), none, (.new (.bslice 1 [(.int .i64 0)] 2 [(0, 1), (1, 1)])), [(.tmp 21), (.tmp 22)]⟩, []⟩, ⟨0, ⟨(some 24), none, (.call F_enc_clauses_put), [(.tmp 19), (.tmp 23)]⟩, []⟩]))) (.region [⟨0, ⟨(some 25), none, (.pure (.bin .add .none)), [(.tmp 15), (.const (.int .i64 1))]⟩, []⟩, ⟨0, ⟨(some 15), none, (.pure .id), [(.tmp 25)]⟩, []⟩]))))))) .skip)) (.seq (.region [⟨0, ⟨(some 26), none, (.pure .id), [(.tmp 4)]⟩, []⟩]) (.cond (.tmp 26) (.region [⟨0, ⟨(some 27), none, (.pure .id), [(.tmp 0)]⟩, []⟩, ⟨0, ⟨(some 28), none, (.pure .id), [(.tmp 2)]⟩, []⟩, ⟨0, ⟨(some 29), none, (.call F_enc_neg), [(.tmp 28)]⟩, []⟩, ⟨0, ⟨(some 30), none, (.pure .id), [(.tmp 1)]⟩, []⟩, ⟨0, ⟨(some 31), none, (.new (.bslice 1 [(.int .i64 0)] 1 [(0, 1)])), [(.tmp 30)]⟩, []⟩, ⟨0, ⟨(some 32), none, (.imp (.append 1 8)), [(.tmp 29), (.tmp 31)]⟩, []⟩, ⟨0, ⟨(some 33), none, (.call F_enc_clauses_put), [(.tmp 27), (.tmp 32)]⟩, []⟩]) .skip)))⟩
theorem c_enc_writers_1 : compF Tryz.prog Tryz.f146 = some G_enc_writers_1 := by kernel_rfl
theorem gc_enc_writers_1 {args : List DV} {σ : GS} {Post : DV → GS → Prop} (h : @exB Tryz.prog ⟨G_enc_writers_1.body⟩ (genv0 args G_enc_writers_1.ntmps) σ ⟨@gretB G_enc_writers_1.results ⟨Post⟩⟩) : GCall Tryz.prog F_enc_writers_1 args σ Post := gcall_ofB seatfollows Tryz.func146 (by kernel_rfl) c_enc_writers_1 h
noncomputable abbrev G_enc_neg : GFun := ⟨23, [(.tmp 2)], (.seq (.region [⟨0, ⟨(some 2), none, (.pure .id), [(.const .nils)]⟩, []⟩]) (.seq (.region [⟨0, ⟨(some 6), none, (.pure .id), [(.tmp 0)]⟩, []⟩, ⟨0, ⟨(some 7), none, (.pure .len), [(.tmp 6)]⟩, []⟩, ⟨0, ⟨(some 8), none, (.new (.mslice 1 8 [(.int .i64 0)])), [(.tmp 7), (.tmp 7)]⟩, []⟩, ⟨0, ⟨(some 3), none, (.pure .id), [(.tmp 8)]⟩, []⟩]) (.seq (.seq (.region [⟨0, ⟨(some 9), none, (.pure .id), [(.tmp 0)]⟩, []⟩, ⟨0, ⟨(some 10), none, (.pure .len), [(.tmp 9)]⟩, []⟩, ⟨0, ⟨(some 11), none, (.pure .id), [(.const (.int .i64 0))]⟩, []⟩]) (.block 0 (.loop (.seq (.region [⟨0, ⟨(some 12), none, (.pure (.bin .lss .none)), [(.tmp 11), (.tmp 10)]⟩, []⟩]) (.seq (.cond (.tmp 12) .skip (.exit 0)) (.seq (.block 1 (.seq (.region [⟨0, ⟨(some 13), none, (.pure .id), [(.tmp 11)]⟩, []⟩, ⟨0, ⟨(some 14), none, (.pure (.iaddr 1)), [(.tmp 9), (.tmp 11)]⟩, []⟩, ⟨0, ⟨(some 15), none, (.load (.load 1 false)), [(.tmp 14)]⟩, []⟩, ⟨0, ⟨(some 4), none, (.pure .id), [(.tmp 13)]⟩, []⟩, ⟨0, ⟨(some 5), none, (.pure .id), [(.tmp 15)]⟩, []⟩]) (.region [⟨0, ⟨(some 16), none, (.pure .id), [(.tmp 3)]⟩, []⟩, ⟨0, ⟨(some 17), none, (.pure .id), [(.tmp 4)]⟩, []⟩, ⟨0, ⟨(some 18), none, (.pure .id), [(.tmp 5)]⟩, []⟩, ⟨0, ⟨(some 19), none, (.pure (.un .neg)), [(.tmp 18)]⟩, []⟩, ⟨0, ⟨(some 20), none, (.pure (.iaddr 1)), [(.tmp 16), (.tmp 17)]⟩, []⟩, ⟨0, ⟨none, none, (.imp (.store 1)), [(.tmp 20), (.tmp 19)]⟩, []⟩]))) (.region [⟨0, ⟨(some 21), none, (.pure (.bin .add .none)), [(.tmp 11), (.const (.int .i64 1))]⟩, []⟩, ⟨0, ⟨(some 11), none, (.pure .id), [(.tmp 21)]⟩, []⟩]))))))) (.seq (.region [⟨0, ⟨(some 22), none, (.pure .id), [(.tmp 3)]⟩, []⟩, ⟨0, ⟨(some 2), none, (.pure .id), [(.tmp 22)]⟩, []⟩]) .ret))))⟩
theorem c_enc_neg : compF Tryz.prog Tryz.f147 = some G_enc_neg := by kernel_rfl
theorem gc_enc_neg {args : List DV} {σ : GS} {Post : DV → GS → Prop} (h : @exB Tryz.prog ⟨G_enc_neg.body⟩ (genv0 args G_enc_neg.ntmps) σ ⟨@gretB G_enc_neg.results ⟨Post⟩⟩) : GCall Tryz.prog F_enc_neg args σ Post := gcall_ofB seatfollows Tryz.func147 (by kernel_rfl) c_enc_neg h
noncomputable abbrev G_enc_clauses_put : GFun := ⟨21, [], (.seq (.region [⟨0, ⟨(some 5), none, (.pure .id), [(.tmp 1)]⟩, []⟩, ⟨0, ⟨(some 6), none, (.call F_slices_Clone_int_int), [(.tmp 5)]⟩, []⟩, ⟨0, ⟨(some 4), none, (.pure .id), [(.tmp 6)]⟩, []⟩]) (.seq (.region [⟨0, ⟨(some 7), none, (.pure .id), [(.tmp 4)]⟩, []⟩, ⟨0, ⟨(some 8), none, (.call F_slices_SortFunc_int_int), [(.tmp 7), (.const (.func F_enc_clauses_put_1 [] []))]⟩, []⟩]) (.seq (.region [⟨0, ⟨(some 9), none, (.pure .id), [(.tmp 4)]⟩, []⟩, ⟨0, ⟨(some 10), none, (.call F_slices_Compact_int_int), [(.tmp 9)]⟩, []⟩, ⟨0, ⟨(some 4), none, (.pure .id), [(.tmp 10)]⟩, []⟩]) (.seq (.region [⟨0, ⟨(some 11), none, (.pure .id), [(.tmp 4)]⟩, []⟩, ⟨0, ⟨(some 12), none, (.call F_enc_normal), [(.tmp 11)]⟩, []⟩]) (.cond (.tmp 12) (.region [⟨0, ⟨(some 13), none, (.pure .id), [(.tmp 0)]⟩, []⟩, ⟨0, ⟨(some 14), none, (.pure .id), [(.tmp 0)]⟩, []⟩, ⟨0, ⟨(some 15), none, (.pure .nilck), [(.tmp 14)]⟩, []⟩, ⟨0, ⟨(some 16), none, (.load (.load 1 false)), [(.tmp 15)]⟩, []⟩, ⟨0, ⟨(some 17), none, (.pure .id), [(.tmp 4)]⟩, []⟩, ⟨0, ⟨(some 18), none, (.new (.bslice 1 [.nils] 1 [(0, 1)])), [(.tmp 17)]⟩, []⟩, ⟨0, ⟨(some 19), none, (.imp (.append 1 24)), [(.tmp 16), (.tmp 18)]⟩, []⟩, ⟨0, ⟨(some 20), none, (.pure .nilck), [(.tmp 13)]⟩, []⟩, ⟨0, ⟨none, none, (.imp (.store 1)), [(.tmp 20), (.tmp 19)]⟩, []⟩]) .skip)))))⟩
theorem c_enc_clauses_put : compF Tryz.prog Tryz.f88 = some G_enc_clauses_put := by kernel_rfl
theorem gc_enc_clauses_put {args : List DV} {σ : GS} {Post : DV → GS → Prop} (h : @exB Tryz.prog ⟨G_enc_clauses_put.body⟩ (genv0 args G_enc_clauses_put.ntmps) σ ⟨@gretB G_enc_clauses_put.results ⟨Post⟩⟩) : GCall Tryz.prog F_enc_clauses_put args σ Post := gcall_ofB seatfollows Tryz.func88 (by kernel_rfl) c_enc_clauses_put h
noncomputable abbrev G_enc_normal : GFun := ⟨19, [(.tmp 2)], (.seq (.region [⟨0, ⟨(some 2), none, (.pure .id), [(.const (.bool false))]⟩, []⟩]) (.seq (.region [⟨0, ⟨(some 3), none, (.pure .id), [(.const (.int .i64 0))]⟩, []⟩]) (.seq (.seq (.region [⟨0, ⟨(some 6), none, (.pure .id), [(.tmp 0)]⟩, []⟩, ⟨0, ⟨(some 7), none, (.pure .len), [(.tmp 6)]⟩, []⟩, ⟨0, ⟨(some 8), none, (.pure .id), [(.const (.int .i64 0))]⟩, []⟩]) (.block 0 (.loop (.seq (.region [⟨0, ⟨(some 9), none, (.pure (.bin .lss .none)), [(.tmp 8), (.tmp 7)]⟩, []⟩]) (.seq (.cond (.tmp 9) .skip (.exit 0)) (.seq (.block 1 (.seq (.region [⟨0, ⟨(some 10), none, (.pure (.iaddr 1)), [(.tmp 6), (.tmp 8)]⟩, []⟩, ⟨0, ⟨(some 11), none, (.load (.load 1 false)), [(.tmp 10)]⟩, []⟩, ⟨0, ⟨(some 5), none, (.pure .id), [(.tmp 11)]⟩, []⟩]) (.seq (.seq (.region [⟨0, ⟨(some 12), none, (.pure .id), [(.tmp 5)]⟩, []⟩, ⟨0, ⟨(some 13), none, (.call F_enc_abs), [(.tmp 12)]⟩, []⟩, ⟨0, ⟨(some 14), none, (.pure .id), [(.tmp 3)]⟩, []⟩, ⟨0, ⟨(some 15), none, (.pure (.bin .leq .none)), [(.tmp 13), (.tmp 14)]⟩, []⟩]) (.cond (.tmp 15) (.seq (.region [⟨0, ⟨(some 2), none, (.pure .id), [(.const (.bool false))]⟩, []⟩]) .ret) .skip)) (.region [⟨0, ⟨(some 16), none, (.pure .id), [(.tmp 5)]⟩, []⟩, ⟨0, ⟨(some 17), none, (.call F_enc_abs), [(.tmp 16)]⟩, []⟩, ⟨0, ⟨(some 3), none, (.pure .id), [(.tmp 17)]⟩, []⟩])))) (.region [⟨0, ⟨(some 18), none, (.pure (.bin .add .none)), [(.tmp 8), (.const (.int .i64 1))]⟩, []⟩, ⟨0, ⟨(some 8), none, (.pure .id), [(.tmp 18)]⟩, []⟩]))))))) (.seq (.region [⟨0, ⟨(some 2), none, (.pure .id), [(.const (.bool true))]⟩, []⟩]) .ret))))⟩
theorem c_enc_normal : compF Tryz.prog Tryz.f100 = some G_enc_normal := by kernel_rfl
theorem gc_enc_normal {args : List DV} {σ : GS} {Post : DV → GS → Prop} (h : @exB Tryz.prog ⟨G_enc_normal.body⟩ (genv0 args G_enc_normal.ntmps) σ ⟨@gretB G_enc_normal.results ⟨Post⟩⟩) : GCall Tryz.prog F_enc_normal args σ Post := gcall_ofB seatfollows Tryz.func100 (by kernel_rfl) c_enc_normal h
noncomputable abbrev G_skolemref12_Clauses : GFun := ⟨186, [(.tmp 6)], (.seq (.region [⟨0, ⟨(some 3), none, (.new .box), [(.tmp 0)]⟩, []⟩, ⟨0, ⟨(some 6), none, (.pure .id), [(.const .nils)]⟩, []⟩]) (.seq (.region [⟨0, ⟨(some 18), none, (.pure (.faddr 0)), [(.tmp 3)]⟩, []⟩, ⟨0, ⟨(some 19), none, (.load (.load 1 false)), [(.tmp 18)]⟩, []⟩, ⟨0, ⟨(some 7), none, (.pure .id), [(.tmp 19)]⟩, []⟩]) (.seq (.region [⟨0, ⟨(some 8), none, (.pure .id), [(.const .nils)]⟩, []⟩]) (.seq (.seq (.region [⟨0, ⟨(some 20), none, (.pure (.faddr 1)), [(.tmp 3)]⟩, []⟩, ⟨0, ⟨(some 21), none, (.load (.load 1 false)), [(.tmp 20)]⟩, []⟩]) (.block 0 (.seq (.seq (.region [⟨0, ⟨(some 65), none, (.pure (.bin .eql .none)), [(.tmp 21), (.const (.int .u8 1))]⟩, []⟩, ⟨0, ⟨(some 64), none, (.pure .id), [(.tmp 65)]⟩, []⟩]) (.cond (.tmp 64) .skip (.region [⟨0, ⟨(some 66), none, (.pure (.bin .eql .none)), [(.tmp 21), (.const (.int .u8 2))]⟩, []⟩, ⟨0, ⟨(some 64), none, (.pure .id), [(.tmp 66)]⟩, []⟩]))) (.cond (.tmp 64) (.seq (.region [⟨0, ⟨(some 9), none, (.pure .id), [(.const (.int .i64 1))]⟩, []⟩]) (.seq (.seq (.region [⟨0, ⟨(some 67), none, (.pure (.faddr 1)), [(.tmp 3)]⟩, []⟩, ⟨0, ⟨(some 68), none, (.load (.load 1 false)), [(.tmp 67)]⟩, []⟩, ⟨0, ⟨(some 69), none, (.pure (.bin .eql .none)), [(.tmp 68), (.const (.int .u8 2))]⟩, []⟩]) (.cond (.tmp 69) (.region [⟨0, ⟨(some 9), none, (.pure .id), [(.const (.int .i64 (-1)))]⟩, []⟩]) .skip)) (.seq (.region [⟨0, ⟨(some 70), none, (.pure .id), [(.tmp 9)]⟩, []⟩, ⟨0, ⟨(some 71), none, (.pure .id), [(.tmp 7)]⟩, []⟩, ⟨0, ⟨(some 72), none, (.pure (.bin .mul .none)), [(.tmp 70), (.tmp 71)]⟩, []⟩, ⟨0, ⟨(some 73), none, (.new (.bslice 1 [(.int .i64 0)] 1 [(0, 1)])), [(.tmp 72)]⟩, []⟩, ⟨0, ⟨(some 10), none, (.pure .id), [(.tmp 73)]⟩, []⟩]) (.seq (.seq (.region [⟨0, ⟨(some 11), none, (.pure .id), [(.const (.int .i64 0))]⟩, []⟩]) (.block 1 (.loop (.seq (.seq (.region [⟨0, ⟨(some 74), none, (.pure .id), [(.tmp 11)]⟩, []⟩, ⟨0, ⟨(some 75), none, (.pure (.faddr 2)), [(.tmp 3)]⟩, []⟩, ⟨0, ⟨(some 76), none, (.load (.load 1 false)), [(.tmp 75)]⟩, []⟩, ⟨0, ⟨(some 77), none, (.pure .len), [(.tmp 76)]⟩, []⟩, ⟨0, ⟨(some 78), none, (.pure (.bin .lss .none)), [(.tmp 74), (.tmp 77)]⟩, []⟩]) (.cond (.tmp 78) .skip (.exit 1))) (.seq (.block 2 (.region [⟨0, ⟨(some 81), none, (.pure .id), [(.tmp 10)]⟩, []⟩, ⟨0, ⟨(some 82), none, (.pure .id), [(.tmp 9)]⟩, []⟩, ⟨0, ⟨(some 83), none, (.pure (.un .neg)), [(.tmp 82)]⟩, []⟩, ⟨0, ⟨(some 84), none, (.pure (.faddr 2)), [(.tmp 3)]⟩, []⟩, ⟨0, ⟨(some 85), none, (.load (.load 1 false)), [(.tmp 84)]⟩, []⟩, ⟨0, ⟨(some 86), none, (.pure .id), [(.tmp 11)]⟩, []⟩, ⟨0, ⟨(some 87), none, (.pure (.iaddr 1)), [(.tmp 85), (.tmp 86)]⟩, []⟩, ⟨0, ⟨(some 88), none, (.load (.load 1 false)), [(.tmp 87)]⟩, []⟩, ⟨0, ⟨(some 89), none, (.pure (.bin .mul .none)), [(.tmp 83), (.tmp 88)]⟩, []⟩, ⟨0, ⟨(some 90), none, (.new (.bslice 1 [(.int .i64 0)] 1 [(0, 1)])), [(.tmp 89)]⟩, []⟩, ⟨0, ⟨(some 91), none, (.imp (.append 1 8)), [(.tmp 81), (.tmp 90)]⟩, []⟩, ⟨0, ⟨(some 10), none, (.pure .id), [(.tmp 91)]⟩, []⟩])) (.region [⟨0, ⟨(some 79), none, (.pure .id), [(.tmp 11)]⟩, []⟩, ⟨0, ⟨(some 80), none, (.pure (.bin .add .none)), [(.tmp 79), (.const (.int .i64 1))]⟩, []⟩, ⟨0, ⟨(some 11), none, (.pure .id), [(.tmp 80)]⟩, []⟩])))))) (.seq (.seq (.region [⟨0, ⟨(some 92), none, (.pure (.faddr 1)), [(.tmp 3)]⟩, []⟩, ⟨0, ⟨(some 93), none, (.load (.load 1 false)), [(.tmp 92)]⟩, []⟩, ⟨0, ⟨(some 94), none, (.pure (.bin .eql .none)), [(.tmp 93), (.const (.int .u8 2))]⟩, []⟩, ⟨0, ⟨(some 95), none, (.pure .id), [(.tmp 94)]⟩, []⟩, ⟨0, ⟨(some 96), (some (95, true)), (.pure .id), [(.tmp 1)]⟩, []⟩, ⟨0, ⟨(some 97), none, (.pure .pick), [(.tmp 95), (.tmp 96), (.const (.bool false))]⟩, []⟩]) (.cond (.tmp 97) (.region [⟨0, ⟨(some 98), none, (.pure .id), [(.tmp 8)]⟩, []⟩, ⟨0, ⟨(some 99), none, (.pure .id), [(.tmp 10)]⟩, []⟩, ⟨0, ⟨(some 100), none, (.call F_skolemref12_Put), [(.tmp 98), (.tmp 99)]⟩, []⟩, ⟨0, ⟨(some 8), none, (.pure .id), [(.tmp 100)]⟩, []⟩]) .skip)) (.seq (.seq (.region [⟨0, ⟨(some 12), none, (.pure .id), [(.const (.int .i64 0))]⟩, []⟩]) (.block 3 (.loop (.seq (.seq (.region [⟨0, ⟨(some 101), none, (.pure .id), [(.tmp 12)]⟩, []⟩, ⟨0, ⟨(some 102), none, (.pure (.faddr 2)), [(.tmp 3)]⟩, []⟩, ⟨0, ⟨(some 103), none, (.load (.load 1 false)), [(.tmp 102)]⟩, []⟩, ⟨0, ⟨(some 104), none, (.pure .len), [(.tmp 103)]⟩, []⟩, ⟨0, ⟨(some 105), none, (.pure (.bin .lss .none)), [(.tmp 101), (.tmp 104)]⟩, []⟩]) (.cond (.tmp 105) .skip (.exit 3))) (.seq (.block 4 (.seq (.region [⟨0, ⟨(some 108), none, (.pure (.faddr 1)), [(.tmp 3)]⟩, []⟩, ⟨0, ⟨(some 109), none, (.load (.load 1 false)), [(.tmp 108)]⟩, []⟩, ⟨0, ⟨(some 110), none, (.pure (.bin .eql .none)), [(.tmp 109), (.const (.int .u8 1))]⟩, []⟩, ⟨0, ⟨(some 111), none, (.pure .id), [(.tmp 110)]⟩, []⟩, ⟨0, ⟨(some 112), (some (111, true)), (.pure .id), [(.tmp 1)]⟩, []⟩, ⟨0, ⟨(some 113), none, (.pure .pick), [(.tmp 111), (.tmp 112), (.const (.bool false))]⟩, []⟩, ⟨0, ⟨(some 114), none, (.pure .id), [(.tmp 113)]⟩, []⟩, ⟨0, ⟨(some 115), (some (114, false)), (.pure (.faddr 1)), [(.tmp 3)]⟩, []⟩, ⟨0, ⟨(some 116), (some (114, false)), (.load (.load 1 false)), [(.tmp 115)]⟩, []⟩, ⟨0, ⟨(some 117), (some (114, false)), (.pure (.bin .eql .none)), [(.tmp 116), (.const (.int .u8 2))]⟩, []⟩, ⟨0, ⟨(some 118), (some (114, false)), (.pure .id), [(.tmp 117)]⟩, []⟩, ⟨0, ⟨(some 119), (some (118, true)), (.pure .id), [(.tmp 2)]⟩, []⟩, ⟨0, ⟨(some 120), (some (114, false)), (.pure .pick), [(.tmp 118), (.tmp 119), (.const (.bool false))]⟩, []⟩, ⟨0, ⟨(some 121), none, (.pure .pick), [(.tmp 114), (.const (.bool true)), (.tmp 120)]⟩, []⟩]) (.cond (.tmp 121) (.region [⟨0, ⟨(some 122), none, (.pure .id), [(.tmp 8)]⟩, []⟩, ⟨0, ⟨(some 123), none, (.pure .id), [(.tmp 9)]⟩, []⟩, ⟨0, ⟨(some 124), none, (.pure (.un .neg)), [(.tmp 123)]⟩, []⟩, ⟨0, ⟨(some 125), none, (.pure .id), [(.tmp 7)]⟩, []⟩, ⟨0, ⟨(some 126), none, (.pure (.bin .mul .none)), [(.tmp 124), (.tmp 125)]⟩, []⟩, ⟨0, ⟨(some 127), none, (.pure .id), [(.tmp 9)]⟩, []⟩, ⟨0, ⟨(some 128), none, (.pure (.faddr 2)), [(.tmp 3)]⟩, []⟩, ⟨0, ⟨(some 129), none, (.load (.load 1 false)), [(.tmp 128)]⟩, []⟩, ⟨0, ⟨(some 130), none, (.pure .id), [(.tmp 12)]⟩, []⟩, ⟨0, ⟨(some 131), none, (.pure (.iaddr 1)), [(.tmp 129), (.tmp 130)]⟩, []⟩, ⟨0, ⟨(some 132), none, (.load (.load 1 false)), [(.tmp 131)]⟩, []⟩, ⟨0, ⟨(some 133), none, (.pure (.bin .mul .none)), [(.tmp 127), (.tmp 132)]⟩, []⟩, ⟨0, ⟨(some 134), none, (.new (.bslice 1 [(.int .i64 0)] 2 [(0, 1), (1, 1)])), [(.tmp 126), (.tmp 133)]⟩, []⟩, ⟨0, ⟨(some 135), none, (.call F_skolemref12_Put), [(.tmp 122), (.tmp 134)]⟩, []⟩, ⟨0, ⟨(some 8), none, (.pure .id), [(.tmp 135)]⟩, []⟩]) .skip))) (.region [⟨0, ⟨(some 106), none, (.pure .id), [(.tmp 12)]⟩, []⟩, ⟨0, ⟨(some 107), none, (.pure (.bin .add .none)), [(.tmp 106), (.const (.int .i64 1))]⟩, []⟩, ⟨0, ⟨(some 12), none, (.pure .id), [(.tmp 107)]⟩, []⟩])))))) (.seq (.region [⟨0, ⟨(some 136), none, (.pure (.faddr 1)), [(.tmp 3)]⟩, []⟩, ⟨0, ⟨(some 137), none, (.load (.load 1 false)), [(.tmp 136)]⟩, []⟩, ⟨0, ⟨(some 138), none, (.pure (.bin .eql .none)), [(.tmp 137), (.const (.int .u8 1))]⟩, []⟩, ⟨0, ⟨(some 139), none, (.pure .id), [(.tmp 138)]⟩, []⟩, ⟨0, ⟨(some 140), (some (139, true)), (.pure .id), [(.tmp 2)]⟩, []⟩, ⟨0, ⟨(some 141), none, (.pure .pick), [(.tmp 139), (.tmp 140), (.const (.bool false))]⟩, []⟩]) (.cond (.tmp 141) (.region [⟨0, ⟨(some 142), none, (.pure .id), [(.tmp 8)]⟩, []⟩, ⟨0, ⟨(some 143), none, (.pure .id), [(.tmp 10)]⟩, []⟩, ⟨0, ⟨(some 144), none, (.call F_skolemref12_Put), [(.tmp 142), (.tmp 143)]⟩, []⟩, ⟨0, ⟨(some 8), none, (.pure .id), [(.tmp 144)]⟩, []⟩]) .skip)))))))) (.seq (.region [⟨0, ⟨(some 146), none, (.pure (.bin .eql .none)), [(.tmp 21), (.const (.int .u8 3))]⟩, []⟩, ⟨0, ⟨(some 145), none, (.pure .id), [(.tmp 146)]⟩, []⟩]) (.cond (.tmp 145) (.seq (.region [⟨0, ⟨(some 147), none, (.pure (.faddr 2)), [(.tmp 3)]⟩, []⟩, ⟨1, ⟨(some 148), none, (.load (.load 1 false)), [(.tmp 147)]⟩, []⟩, ⟨2, ⟨(some 149), none, (.pure (.iaddr 1)), [(.tmp 148), (.const (.int .i64 0))]⟩, []⟩, ⟨3, ⟨(some 150), none, (.load (.load 1 false)), [(.tmp 149)]⟩, []⟩, ⟨4, ⟨(some 151), none, (.pure (.faddr 2)), [(.tmp 3)]⟩, []⟩, ⟨5, ⟨(some 152), none, (.load (.load 1 false)), [(.tmp 151)]⟩, []⟩, ⟨6, ⟨(some 153), none, (.pure (.iaddr 1)), [(.tmp 152), (.const (.int .i64 1))]⟩, []⟩, ⟨7, ⟨(some 154), none, (.load (.load 1 false)), [(.tmp 153)]⟩, []⟩, ⟨8, ⟨(some 13), none, (.pure .id), [(.tmp 150)]⟩, []⟩, ⟨9, ⟨(some 14), none, (.pure .id), [(.tmp 154)]⟩, []⟩]) (.seq (.seq (.region [⟨0, ⟨(some 155), none, (.pure .id), [(.tmp 1)]⟩, []⟩]) (.cond (.tmp 155) (.region [⟨0, ⟨(some 156), none, (.pure .id), [(.tmp 8)]⟩, []⟩, ⟨0, ⟨(some 157), none, (.pure .id), [(.tmp 7)]⟩, []⟩, ⟨0, ⟨(some 158), none, (.pure (.un .neg)), [(.tmp 157)]⟩, []⟩, ⟨0, ⟨(some 159), none, (.pure .id), [(.tmp 13)]⟩, []⟩, ⟨0, ⟨(some 160), none, (.pure .id), [(.tmp 14)]⟩, []⟩, ⟨0, ⟨(some 161), none, (.new (.bslice 1 [(.int .i64 0)] 3 [(0, 1), (1, 1), (2, 1)])), [(.tmp 158), (.tmp 159), (.tmp 160)]⟩, []⟩, ⟨0, ⟨(some 162), none, (.call F_skolemref12_Put), [(.tmp 156), (.tmp 161)]⟩, []⟩, ⟨0, ⟨(some 163), none, (.pure .id), [(.tmp 7)]⟩, []⟩, ⟨0, ⟨(some 164), none, (.pure (.un .neg)), [(.tmp 163)]⟩, []⟩, ⟨0, ⟨(some 165), none, (.pure .id), [(.tmp 13)]⟩, []⟩, ⟨0, ⟨(some 166), none, (.pure (.un .neg)), [(.tmp 165)]⟩, []⟩, ⟨0, ⟨(some 167), none, (.pure .id), [(.tmp 14)]⟩, []⟩, ⟨0, ⟨(some 168), none, (.pure (.un .neg)), [(.tmp 167)]⟩, []⟩, ⟨0, ⟨(some 169), none, (.new (.bslice 1 [(.int .i64 0)] 3 [(0, 1), (1, 1), (2, 1)])), [(.tmp 164), (.tmp 166), (.tmp 168)]⟩, []⟩, ⟨0, ⟨(some 170), none, (.call F_skolemref12_Put), [(.tmp 162), (.tmp 169)]⟩, []⟩, ⟨0, ⟨(some 8), none, (.pure .id), [(.tmp 170)]⟩, []⟩]) .skip)) (.seq (.region [⟨0, ⟨(some 171), none, (.pure .id), [(.tmp 2)]⟩, []⟩]) (.cond (.tmp 171) (.region [⟨0, ⟨(some 172), none, (.pure .id), [(.tmp 8)]⟩, []⟩, ⟨0, ⟨(some 173), none, (.pure .id), [(.tmp 7)]⟩, []⟩, ⟨0, ⟨(some 174), none, (.pure .id), [(.tmp 13)]⟩, []⟩, ⟨0, ⟨(some 175), none, (.pure (.un .neg)), [(.tmp 174)]⟩, []⟩, ⟨0, ⟨(some 176), none, (.pure .id), [(.tmp 14)]⟩, []⟩, ⟨0, ⟨(some 177), none, (.new (.bslice 1 [(.int .i64 0)] 3 [(0, 1), (1, 1), (2, 1)])), [(.tmp 173), (.tmp 175), (.tmp 176)]⟩, []⟩, ⟨0, ⟨(some 178), none, (.call F_skolemref12_Put), [(.tmp 172), (.tmp 177)]⟩, []⟩, ⟨0, ⟨(some 179), none, (.pure .id), [(.tmp 7)]⟩, []⟩, ⟨0, ⟨(some 180), none, (.pure .id), [(.tmp 13)]⟩, []⟩, ⟨0, ⟨(some 181), none, (.pure .id), [(.tmp 14)]⟩, []⟩, ⟨0, ⟨(some 182), none, (.pure (.un .neg)), [(.tmp 181)]⟩, []⟩, ⟨0, ⟨(some 183), none, (.new (.bslice 1 [(.int .i64 0)] 3 [(0, 1), (1, 1), (2, 1)])), [(.tmp 179), (.tmp 180), (.tmp 182)]⟩, []⟩, ⟨0, ⟨(some 184), none, (.call F_skolemref12_Put), [(.tmp 178), (.tmp 183)]⟩, []⟩, ⟨0, ⟨(some 8), none, (.pure .id), [(.tmp 184)]⟩, []⟩]) .skip)))) (.seq (.region [⟨0, ⟨(some 22), none, (.pure (.faddr 2)), [(.tmp 3)]⟩, []⟩, ⟨1, ⟨(some 23), none, (.load (.load 1 false)), [(.tmp 22)]⟩, []⟩, ⟨2, ⟨(some 24), none, (.pure (.iaddr 1)), [(.tmp 23), (.const (.int .i64 0))]⟩, []⟩, ⟨3, ⟨(some 25), none, (.load (.load 1 false)), [(.tmp 24)]⟩, []⟩, ⟨4, ⟨(some 26), none, (.pure (.faddr 2)), [(.tmp 3)]⟩, []⟩, ⟨5, ⟨(some 27), none, (.load (.load 1 false)), [(.tmp 26)]⟩, []⟩, ⟨6, ⟨(some 28), none, (.pure (.iaddr 1)), [(.tmp 27), (.const (.int .i64 1))]⟩, []⟩, ⟨7, ⟨(some 29), none, (.load (.load 1 false)), [(.tmp 28)]⟩, []⟩, ⟨8, ⟨(some 30), none, (.pure (.faddr 2)), [(.tmp 3)]⟩, []⟩, ⟨9, ⟨(some 31), none, (.load (.load 1 false)), [(.tmp 30)]⟩, []⟩, ⟨10, ⟨(some 32), none, (.pure (.iaddr 1)), [(.tmp 31), (.const (.int .i64 2))]⟩, []⟩, ⟨11, ⟨(some 33), none, (.load (.load 1 false)), [(.tmp 32)]⟩, []⟩, ⟨12, ⟨(some 15), none, (.pure .id), [(.tmp 25)]⟩, []⟩, ⟨13, ⟨(some 16), none, (.pure .id), [(.tmp 29)]⟩, []⟩, ⟨14, ⟨(some 17), none, (.pure .id), [(.tmp 33)]⟩, []⟩]) (.seq (.seq (.region [⟨0, ⟨(some 34), none, (.pure .id), [(.tmp 1)]⟩, []⟩]) (.cond (.tmp 34) (.region [⟨0, ⟨(some 35), none, (.pure .id), [(.tmp 8)]⟩, []⟩, ⟨0, ⟨(some 36), none, (.pure .id), [(.tmp 7)]⟩, []⟩, ⟨0, ⟨(some 37), none, (.pure (.un .neg)), [(.tmp 36)]⟩, []⟩, ⟨0, ⟨(some 38), none, (.pure .id), [(.tmp 15)]⟩, []⟩, ⟨0, ⟨(some 39), none, (.pure (.un .neg)), [(.tmp 38)]⟩, []⟩, ⟨0, ⟨(some 40), none, (.pure .id), [(.tmp 16)]⟩, []⟩, ⟨0, ⟨(some 41), none, (.new (.bslice 1 [(.int .i64 0)] 3 [(0, 1), (1, 1), (2, 1)])), [(.tmp 37), (.tmp 39), (.tmp 40)]⟩, []⟩, ⟨0, ⟨(some 42), none, (.call F_skolemref12_Put), [(.tmp 35), (.tmp 41)]⟩, []⟩, ⟨0, ⟨(some 43), none, (.pure .id), [(.tmp 7)]⟩, []⟩, ⟨0, ⟨(some 44), none, (.pure (.un .neg)), [(.tmp 43)]⟩, []⟩, ⟨0, ⟨(some 45), none, (.pure .id), [(.tmp 15)]⟩, []⟩, ⟨0, ⟨(some 46), none, (.pure .id), [(.tmp 17)]⟩, []⟩, ⟨0, ⟨(some 47), none, (.new (.bslice 1 [(.int .i64 0)] 3 [(0, 1), (1, 1), (2, 1)])), [(.tmp 44), (.tmp 45), (.tmp 46)]⟩, []⟩, ⟨0, ⟨(some 48), none, (.call F_skolemref12_Put), [(.tmp 42), (.tmp 47)]⟩, []⟩, ⟨0, ⟨(some 8), none, (.pure .id), [(.tmp 48)]⟩, []⟩]) .skip)) (.seq (.region [⟨0, ⟨(some 49), none, (.pure .id), [(.tmp 2)]⟩, []⟩]) (.cond (.tmp 49) (.region [⟨0, ⟨(some 50), none, (.pure .id), [(.tmp 8)]⟩, []⟩, ⟨0, ⟨(some 51), none, (.pure .id), [(.tmp 7)]⟩, []⟩, ⟨0, ⟨(some 52), none, (.pure .id), [(.tmp 15)]⟩, []⟩, ⟨0, ⟨(some 53), none, (.pure (.un .neg)), [(.tmp 52)]⟩, []⟩, ⟨0, ⟨(some 54), none, (.pure .id), [(.tmp 16)]⟩, []⟩, ⟨0, ⟨(some 55), none, (.pure (.un .neg)), [(.tmp 54)]⟩, []⟩, ⟨0, ⟨(some 56), none, (.new (.bslice 1 [(.int .i64 0)] 3 [(0, 1), (1, 1), (2, 1)])), [(.tmp 51), (.tmp 53), (.tmp 55)]⟩, []⟩, ⟨0, ⟨(some 57), none, (.call F_skolemref12_Put), [(.tmp 50), (.tmp 56)]⟩, []⟩, ⟨0, ⟨(some 58), none, (.pure .id), [(.tmp 7)]⟩, []⟩, ⟨0, ⟨(some 59), none, (.pure .id), [(.tmp 15)]⟩, []⟩, ⟨0, ⟨(some 60), none, (.pure .id), [(.tmp 17)]⟩, []⟩, ⟨0, ⟨(some 61), none, (.pure (.un .neg)), [(.tmp 60)]⟩, []⟩, ⟨0, ⟨(some 62), none, (.new (.bslice 1 [(.int .i64 0)] 3 [(0, 1), (1, 1), (2, 1)])), [(.tmp 58), (.tmp 59), (.tmp 61)]⟩, []⟩, ⟨0, ⟨(some 63), none, (.call F_skolemref12_Put), [(.tmp 57), (.tmp 62)]⟩, []⟩, ⟨0, ⟨(some 8), none, (.pure .id), [(.tmp 63)]⟩, []⟩]) .skip)))))))))) (.seq (.region [⟨0, ⟨(some 185), none, (.pure .id), [(.tmp 8)]⟩, []⟩, ⟨0, ⟨(some 6), none, (.pure .id), [(.tmp 185)]⟩, []⟩]) .ret)))))⟩
theorem c_skolemref12_Clauses : compF Tryz.prog Tryz.f82 = some G_skolemref12_Clauses := by kernel_rfl
theorem gc_skolemref12_Clauses {args : List DV} {σ : GS} {Post : DV → GS → Prop} (h : @exB Tryz.prog ⟨G_skolemref12_Clauses.body⟩ (genv0 args G_skolemref12_Clauses.ntmps) σ ⟨@gretB G_skolemref12_Clauses.results ⟨Post⟩⟩) : GCall Tryz.prog F_skolemref12_Clauses args σ Post := gcall_ofB seatfollows Tryz.func82 (by kernel_rfl) c_skolemref12_Clauses h
noncomputable abbrev G_skolemref12_Put : GFun := ⟨18, [(.tmp 4)], (.seq (.region [⟨0, ⟨(some 4), none, (.pure .id), [(.const .nils)]⟩, []⟩]) (.seq (.region [⟨0, ⟨(some 8), none, (.pure .id), [(.tmp 1)]⟩, []⟩, ⟨0, ⟨(some 9), none, (.call F_skolemref12_sorted), [(.tmp 8)]⟩, []⟩, ⟨0, ⟨(some 7), none, (.pure .id), [(.tmp 9)]⟩, []⟩, ⟨0, ⟨(some 10), none, (.pure (.extract 0)), [(.tmp 7)]⟩, []⟩, ⟨0, ⟨(some 11), none, (.pure (.extract 1)), [(.tmp 7)]⟩, []⟩, ⟨0, ⟨(some 5), none, (.pure .id), [(.tmp 10)]⟩, []⟩, ⟨0, ⟨(some 6), none, (.pure .id), [(.tmp 11)]⟩, []⟩]) (.seq (.seq (.region [⟨0, ⟨(some 12), none, (.pure .id), [(.tmp 6)]⟩, []⟩]) (.cond (.tmp 12) (.seq (.region [⟨0, ⟨(some 13), none, (.pure .id), [(.tmp 0)]⟩, []⟩, ⟨0, ⟨(some 14), none, (.pure .id), [(.tmp 5)]⟩, []⟩, ⟨0, ⟨(some 15), none, (.new (.bslice 1 [.nils] 1 [(0, 1)])), [(.tmp 14)]⟩, []⟩, ⟨0, ⟨(some 16), none, (.imp (.append 1 24)), [(.tmp 13), (.tmp 15)]⟩, []⟩, ⟨0, ⟨(some 4), none, (.pure .id), [(.tmp 16)]⟩, []⟩]) .ret) .skip)) (.seq (.region [⟨0, ⟨(some 17), none, (.pure .id), [(.tmp 0)]⟩, []⟩, ⟨0, ⟨(some 4), none, (.pure .id), [(.tmp 17)]⟩, []⟩]) .ret))))⟩
theorem c_skolemref12_Put : compF Tryz.prog Tryz.f152 = some G_skolemref12_Put := by kernel_rfl
theorem gc_skolemref12_Put {args : List DV} {σ : GS} {Post : DV → GS → Prop} (h : @exB Tryz.prog ⟨G_skolemref12_Put.body⟩ (genv0 args G_skolemref12_Put.ntmps) σ ⟨@gretB G_skolemref12_Put.results ⟨Post⟩⟩) : GCall Tryz.prog F_skolemref12_Put args σ Post := gcall_ofB seatfollows Tryz.func152 (by kernel_rfl) c_skolemref12_Put h
noncomputable abbrev G_skolemref12_sorted : GFun := ⟨85, [(.tmp 2), (.tmp 3)], (.seq (.region [⟨0, ⟨(some 2), none, (.pure .id), [(.const .nils)]⟩, []⟩, ⟨0, ⟨(some 3), none, (.pure .id), [(.const (.bool false))]⟩, []⟩]) (.seq (.region [⟨0, ⟨(some 4), none, (.pure .id), [(.const .nils)]⟩, []⟩]) (.seq (.seq (.region [⟨0, ⟨(some 5), none, (.pure .id), [(.const (.int .i64 0))]⟩, []⟩]) (.block 0 (.loop (.seq (.seq (.region [⟨0, ⟨(some 9), none, (.pure .id), [(.tmp 5)]⟩, []⟩, ⟨0, ⟨(some 10), none, (.pure .id), [(.tmp 0)]⟩, []⟩, ⟨0, ⟨(some 11), none, (.pure .len), [(.tmp 10)]⟩, []⟩, ⟨0, ⟨(some 12), none, (.pure (.bin .lss .none)), [(.tmp 9), (.tmp 11)]⟩, []⟩]) (.cond (.tmp 12) .skip (.exit 0))) (.seq (.block 1 (.seq (.region [⟨0, ⟨(some 15), none, (.pure .id), [(.tmp 0)]⟩, []⟩, ⟨0, ⟨(some 16), none, (.pure .id), [(.tmp 5)]⟩, []⟩, ⟨0, ⟨(some 17), none, (.pure (.iaddr 1)), [(.tmp 15), (.tmp 16)]⟩, []⟩, ⟨0, ⟨(some 18), none, (.load (.load 1 false)), [(.tmp 17)]⟩, []⟩, ⟨0, ⟨(some 19), none, (.call F_skolemref05_Abs), [(.tmp 18)]⟩, []⟩, ⟨0, ⟨(some 6), none, (.pure .id), [(.tmp 19)]⟩, []⟩]) (.seq (.region [⟨0, ⟨(some 20), none, (.pure .id), [(.tmp 4)]⟩, []⟩, ⟨0, ⟨(some 21), none, (.pure .len), [(.tmp 20)]⟩, []⟩, ⟨0, ⟨(some 7), none, (.pure .id), [(.tmp 21)]⟩, []⟩]) (.seq (.block 2 (.loop (.seq (.seq (.region [⟨0, ⟨(some 22), none, (.pure .id), [(.tmp 7)]⟩, []⟩, ⟨0, ⟨(some 23), none, (.pure (.bin .gtr .none)), [(.tmp 22), (.const (.int .i64 0))]⟩, []⟩, ⟨0, ⟨(some 24), none, (.pure .id), [(.tmp 23)]⟩, []⟩, ⟨0, ⟨(some 25), (some (24, true)), (.pure .id), [(.tmp 4)]⟩, []⟩, ⟨0, ⟨(some 26), (some (24, true)), (.pure .id), [(.tmp 7)]⟩, []⟩, ⟨0, ⟨(some 27), (some (24, true)), (.pure (.bin .sub .none)), [(.tmp 26), (.const (.int .i64 1))]⟩, []⟩, ⟨0, ⟨(some 28), (some (24, true)), (.pure (.iaddr 1)), [(.tmp 25), (.tmp 27)]⟩, []⟩, ⟨0, ⟨(some 29), (some (24, true)), (.load (.load 1 false)), [(.tmp 28)]⟩, []⟩, ⟨0, ⟨(some 30), (some (24, true)), (.call F_skolemref05_Abs), [(.tmp 29)]⟩, []⟩, ⟨0, ⟨(some 31), (some (24, true)), (.pure .id), [(.tmp 6)]⟩, []⟩, ⟨0, ⟨(some 32), (some (24, true)), (.pure (.bin .gtr .none)), [(.tmp 30), (.tmp 31)]⟩, []⟩, ⟨0, ⟨(some 33), none, (.pure .pick), [(.tmp 24), (.tmp 32), (.const (.bool false))]⟩, []⟩]) (.cond (.tmp 33) .skip (.exit 2))) (.block 3 (.region [⟨0, ⟨(some 34), none, (.pure .id), [(.tmp 7)]⟩, []⟩, ⟨0, ⟨(some 35), none, (.pure (.bin .sub .none)), [(.tmp 34), (.const (.int .i64 1))]⟩, []⟩, ⟨0, ⟨(some 7), none, (.pure .id), [(.tmp 35)]⟩, []⟩]))))) (.seq (.seq (.region [⟨0, ⟨(some 36), none, (.pure .id), [(.tmp 7)]⟩, []⟩, ⟨0, ⟨(some 37), none, (.pure (.bin .gtr .none)), [(.tmp 36), (.const (.int .i64 0))]⟩, []⟩, ⟨0, ⟨(some 38), none, (.pure .id), [(.tmp 37)]⟩, []⟩, ⟨0, ⟨(some 39), (some (38, true)), (.pure .id), [(.tmp 4)]⟩, []⟩, ⟨0, ⟨(some 40), (some (38, true)), (.pure .id), [(.tmp 7)]⟩, []⟩, ⟨0, ⟨(some 41), (some (38, true)), (.pure (.bin .sub .none)), [(.tmp 40), (.const (.int .i64 1))]⟩, []⟩, ⟨0, ⟨(some 42), (some (38, true)), (.pure (.iaddr 1)), [(.tmp 39), (.tmp 41)]⟩, []⟩, ⟨0, ⟨(some 43), (some (38, true)), (.load (.load 1 false)), [(.tmp 42)]⟩, []⟩, ⟨0, ⟨(some 44), (some (38, true)), (.call F_skolemref05_Abs), [(.tmp 43)]⟩, []⟩, ⟨0, ⟨(some 45), (some (38, true)), (.pure .id), [(.tmp 6)]⟩, []⟩, ⟨0, ⟨(some 46), (some (38, true)), (.pure (.bin .eql .none)), [(.tmp 44), (.tmp 45)]⟩, []⟩, ⟨0, ⟨(some 47), none, (.pure .pick), [(.tmp 38), (.tmp 46), (.const (.bool false))]⟩, []⟩]) (.cond (.tmp 47) (.seq (.seq (.region [⟨0, ⟨(some 48), none, (.pure .id), [(.tmp 4)]⟩, []⟩, ⟨1, ⟨(some 49), none, (.pure .id), [(.tmp 7)]⟩, []⟩, ⟨2, ⟨(some 50), none, (.pure (.bin .sub .none)), [(.tmp 49), (.const (.int .i64 1))]⟩, []⟩, ⟨3, ⟨(some 51), none, (.pure (.iaddr 1)), [(.tmp 48), (.tmp 50)]⟩, []⟩, ⟨4, ⟨(some 52), none, (.load (.load 1 false)), [(.tmp 51)]⟩, []⟩, ⟨5, ⟨(some 53), none, (.pure .id), [(.tmp 0)]⟩, []⟩, ⟨6, ⟨(some 54), none, (.pure .id), [(.tmp 5)]⟩, []⟩, ⟨7, ⟨(some 55), none, (.pure (.iaddr 1)), [(.tmp 53), (.tmp 54)]⟩, []⟩, ⟨8, ⟨(some 56), none, (.load (.load 1 false)), [(.tmp 55)]⟩, []⟩, ⟨9, ⟨(some 57), none, (.pure (.bin .neq .none)), [(.tmp 52), (.tmp 56)]⟩, []⟩]) (.cond (.tmp 57) (.seq (.region [⟨0, ⟨(some 2), none, (.pure .id), [(.const .nils)]⟩, []⟩, ⟨0, ⟨(some 3), none, (.pure .id), [(.const (.bool false))]⟩, []⟩]) .ret) .skip)) (.exit 1)) .skip)) (.seq (.region [⟨0, ⟨(some 58), none, (.pure .id), [(.tmp 4)]⟩, []⟩, ⟨0, ⟨(some 59), none, (.new (.bslice 1 [(.int .i64 0)] 1 [(0, 1)])), [(.const (.int .i64 0))]⟩, []⟩, ⟨0, ⟨(some 60), none, (.imp (.append 1 8)), [(.tmp 58), (.tmp 59)]⟩, []⟩, ⟨0, ⟨(some 4), none, (.pure .id), [(.tmp 60)]⟩, []⟩]) (.seq (.seq (.region [⟨0, ⟨(some 61), none, (.pure .id), [(.tmp 4)]⟩, []⟩, ⟨0, ⟨(some 62), none, (.pure .len), [(.tmp 61)]⟩, []⟩, ⟨0, ⟨(some 63), none, (.pure (.bin .sub .none)), [(.tmp 62), (.const (.int .i64 1))]⟩, []⟩, ⟨0, ⟨(some 8), none, (.pure .id), [(.tmp 63)]⟩, []⟩]) (.block 4 (.loop (.seq (.seq (.region [⟨0, ⟨(some 64), none, (.pure .id), [(.tmp 8)]⟩, []⟩, ⟨0, ⟨(some 65), none, (.pure .id), [(.tmp 7)]⟩, []⟩, ⟨0, ⟨(some 66), none, (.pure (.bin .gtr .none)), [(.tmp 64), (.tmp 65)]⟩, []⟩]) (.cond (.tmp 66) .skip (.exit 4))) (.seq (.block 5 (.region [⟨0, ⟨(some 69), none, (.pure .id), [(.tmp 4)]⟩, []⟩, ⟨0, ⟨(some 70), none, (.pure .id), [(.tmp 8)]⟩, []⟩, ⟨0, ⟨(some 71), none, (.pure .id), [(.tmp 4)]⟩, []⟩, ⟨0, ⟨(some 72), none, (.pure .id), [(.tmp 8)]⟩, []⟩, ⟨0, ⟨(some 73), none, (.pure (.bin .sub .none)), [(.tmp 72), (.const (.int .i64 1))]⟩, []⟩, ⟨0, ⟨(some 74), none, (.pure (.iaddr 1)), [(.tmp 71), (.tmp 73)]⟩, []⟩, ⟨0, ⟨(some 75), none, (.load (.load 1 false)), [(.tmp 74)]⟩, []⟩, ⟨0, ⟨(some 76), none, (.pure (.iaddr 1)), [(.tmp 69), (.tmp 70)]⟩, []⟩, ⟨0, ⟨none, none, (.imp (.store 1)), [(.tmp 76), (.tmp 75)]⟩, []⟩])) (.region [⟨0, ⟨(some 67), none, (.pure .id), [(.tmp 8)]⟩, []⟩, ⟨0, ⟨(some 68), none, (.pure (.bin .sub .none)), [(.tmp 67), (.const (.int .i64 1))]⟩, []⟩, ⟨0, ⟨(some 8), none, (.pure .id), [(.tmp 68)]⟩, []⟩])))))) (.region [⟨0, ⟨(some 77), none, (.pure .id), [(.tmp 4)]⟩, []⟩, ⟨0, ⟨(some 78), none, (.pure .id), [(.tmp 7)]⟩, []⟩, ⟨0, ⟨(some 79), none, (.pure .id), [(.tmp 0)]⟩, []⟩, ⟨0, ⟨(some 80), none, (.pure .id), [(.tmp 5)]⟩, []⟩, ⟨0, ⟨(some 81), none, (.pure (.iaddr 1)), [(.tmp 79), (.tmp 80)]⟩, []⟩, ⟨0, ⟨(some 82), none, (.load (.load 1 false)), [(.tmp 81)]⟩, []⟩, ⟨0, ⟨(some 83), none, (.pure (.iaddr 1)), [(.tmp 77), (.tmp 78)]⟩, []⟩, ⟨0, ⟨none, none, (.imp (.store 1)), [(.tmp 83), (.tmp 82)]⟩, []⟩])))))))) (.region [⟨0, ⟨(some 13), none, (.pure .id), [(.tmp 5)]⟩, []⟩, ⟨0, ⟨(some 14), none, (.pure (.bin .add .none)), [(.tmp 13), (.const (.int .i64 1))]⟩, []⟩, ⟨0, ⟨(some 5), none, (.pure .id), [(.tmp 14)]⟩, []⟩])))))) (.seq (.region [⟨0, ⟨(some 84), none, (.pure .id), [(.tmp 4)]⟩, []⟩, ⟨0, ⟨(some 2), none, (.pure .id), [(.tmp 84)]⟩, []⟩, ⟨0, ⟨(some 3), none, (.pure .id), [(.const (.bool true))]⟩, []⟩]) .ret))))⟩
theorem c_skolemref12_sorted : compF Tryz.prog Tryz.f200 = some G_skolemref12_sorted := by kernel_rfl
theorem gc_skolemref12_sorted {args : List DV} {σ : GS} {Post : DV → GS → Prop} (h : @exB Tryz.prog ⟨G_skolemref12_sorted.body⟩ (genv0 args G_skolemref12_sorted.ntmps) σ ⟨@gretB G_skolemref12_sorted.results ⟨Post⟩⟩) : GCall Tryz.prog F_skolemref12_sorted args σ Post := gcall_ofB seatfollows Tryz.func200 (by kernel_rfl) c_skolemref12_sorted h
noncomputable abbrev G_skolemref12_SameClauses : GFun := ⟨27, [(.tmp 4)], (.seq (.region [⟨0, ⟨(some 4), none, (.pure .id), [(.const (.bool false))]⟩, []⟩]) (.seq (.seq (.region [⟨0, ⟨(some 6), none, (.pure .id), [(.tmp 0)]⟩, []⟩, ⟨0, ⟨(some 7), none, (.pure .len), [(.tmp 6)]⟩, []⟩, ⟨0, ⟨(some 8), none, (.pure .id), [(.tmp 1)]⟩, []⟩, ⟨0, ⟨(some 9), none, (.pure .len), [(.tmp 8)]⟩, []⟩, ⟨0, ⟨(some 10), none, (.pure (.bin .neq .none)), [(.tmp 7), (.tmp 9)]⟩, []⟩]) (.cond (.tmp 10) (.seq (.region [⟨0, ⟨(some 4), none, (.pure .id), [(.const (.bool false))]⟩, []⟩]) .ret) .skip)) (.seq (.seq (.region [⟨0, ⟨(some 5), none, (.pure .id), [(.const (.int .i64 0))]⟩, []⟩]) (.block 0 (.loop (.seq (.seq (.region [⟨0, ⟨(some 11), none, (.pure .id), [(.tmp 5)]⟩, []⟩, ⟨0, ⟨(some 12), none, (.pure .id), [(.tmp 0)]⟩, []⟩, ⟨0, ⟨(some 13), none, (.pure .len), [(.tmp 12)]⟩, []⟩, ⟨0, ⟨(some 14), none, (.pure (.bin .lss .none)), [(.tmp 11), (.tmp 13)]⟩, []⟩]) (.cond (.tmp 14) .skip (.exit 0))) (.seq (.block 1 (.seq (.region [⟨0, ⟨(some 17), none, (.pure .id), [(.tmp 0)]⟩, []⟩, ⟨1, ⟨(some 18), none, (.pure .id), [(.tmp 5)]⟩, []⟩, ⟨2, ⟨(some 19), none, (.pure (.iaddr 1)), [(.tmp 17), (.tmp 18)]⟩, []⟩, ⟨3, ⟨(some 20), none, (.load (.load 1 false)), [(.tmp 19)]⟩, []⟩, ⟨4, ⟨(some 21), none, (.pure .id), [(.tmp 1)]⟩, []⟩, ⟨5, ⟨(some 22), none, (.pure .id), [(.tmp 5)]⟩, []⟩, ⟨6, ⟨(some 23), none, (.pure (.iaddr 1)), [(.tmp 21), (.tmp 22)]⟩, []⟩, ⟨7, ⟨(some 24), none, (.load (.load 1 false)), [(.tmp 23)]⟩, []⟩, ⟨8, ⟨(some 25), none, (.call F_skolemref05_Ints), [(.tmp 20), (.tmp 24)]⟩, []⟩, ⟨9, ⟨(some 26), none, (.pure (.un .not)), [(.tmp 25)]⟩, []⟩]) (.cond (.tmp 26) (.seq (.region [⟨0, ⟨(some 4), none, (.pure .id), [(.const (.bool false))]⟩, []⟩]) .ret) .skip))) (.region [⟨0, ⟨(some 15), none, (.pure .id), [(.tmp 5)]⟩, []⟩, ⟨0, ⟨(some 16), none, (.pure (.bin .add .none)), [(.tmp 15), (.const (.int .i64 1))]⟩, []⟩, ⟨0, ⟨(some 5), none, (.pure .id), [(.tmp 16)]⟩, []⟩])))))) (.seq (.region [⟨0, ⟨(some 4), none, (.pure .id), [(.const (.bool true))]⟩, []⟩]) .ret))))⟩
theorem c_skolemref12_SameClauses : compF Tryz.prog Tryz.f23 = some G_skolemref12_SameClauses := by kernel_rfl
theorem gc_skolemref12_SameClauses {args : List DV} {σ : GS} {Post : DV → GS → Prop} (h : @exB Tryz.prog ⟨G_skolemref12_SameClauses.body⟩ (genv0 args G_skolemref12_SameClauses.ntmps) σ ⟨@gretB G_skolemref12_SameClauses.results ⟨Post⟩⟩) : GCall Tryz.prog F_skolemref12_SameClauses args σ Post := gcall_ofB seatfollows Tryz.func23 (by kernel_rfl) c_skolemref12_SameClauses h
end Go.Gh
namespace Go.Gh
open Go.RowKit Go.Proofs
set_option linter.unusedVariables false
set_option linter.unusedSimpArgs false
theorem aig_variable_ok {v : Int} {σ : GS} {Post : DV → GS → Prop} (h : Post (.bool (isVar v)) σ) : GCall Tryz.prog F_aig_variable [.int .i64 v] σ Post := by
  refine gc_aig_variable ?_
  by_cases h1 : 1 ≤ v <;> simp [G_aig_variable, genv0, List.replicate, h1] <;> simpa [isVar, h1] using h
theorem aig_inputs_ok {ins : List Int} {σ : GS} {Post : DV → GS → Prop} (hl : ins.length < 2 ^ 50) (h : Post (.bool (insOk 0 ins)) σ) : GCall Tryz.prog F_aig_inputs [fints ins] σ Post := by
  refine gc_aig_inputs ?_
  simp [G_aig_inputs, genv0, List.replicate]
  refine gfor ins.length (fun i e σ' => σ' = σ ∧ ∃ last, insOk 0 ins = insOk last (ins.drop i) ∧ e = mkEnv 22 [(3, .int .i64 last), (6, fints ins), (7, .int .i64 ins.length), (8, .int .i64 i)]) _ ?_ ⟨rfl, 0, by simp, rfl⟩ ?_
  · simp [mkEnv, List.replicate]
  rintro i _ _ hi ⟨rfl, last, hI, rfl⟩
  simp [mkEnv, List.replicate]
  by_cases hlt : i < ins.length
  · obtain ⟨y, hy⟩ := nth_lt hlt
    rw [drop_get hy] at hI
    simp [hlt, hy]
    refine aig_variable_ok ?_
    by_cases h1 : isVar y = true
    · by_cases h2 : y ≤ last
      · have h3 : ¬ last < y := by omega
        simp [h1, h2]
        simpa [hI, insOk, h3] using h
      · have h3 : last < y := by omega
        simp [h1, h2, wrap_suc (show i < _ by omega)]
        exact forK_go _ hlt (by simp [mkEnv, List.replicate]) ⟨rfl, y, by simp [hI, insOk, h1, h3], rfl⟩
    · simp [h1]
      simpa [hI, insOk, h1] using h
  · have : i = ins.length := by omega
    subst this
    simp
    simpa [hI, insOk] using h
theorem aig_nodes_ok {g : AigP} {σ : GS} {Post : DV → GS → Prop} (hs : g.Sm) (h : Post (.int .i64 g.nodes) σ) : GCall Tryz.prog F_aig_nodes [g.enc] σ Post := by
  have h1 := hs.ins
  have h2 := hs.ands
  refine GCall.say (r := .int .i64 g.nodes) ?_ rfl h
  refine gc_aig_nodes ?_
  simp [G_aig_nodes, genv0, List.replicate]
  have e1 : IntKind.i64.wrap (1 + (g.ins.length : Int)) = 1 + g.ins.length := by rw [wrap_small] <;> omega
  rw [e1, wrap_small] <;> first | (simp [AigP.nodes]; done) | omega
theorem aig_May_ok {g : AigP} {σ : GS} {Post : DV → GS → Prop} (hs : g.Sm) (h : Post (.bool g.may) σ) : GCall Tryz.prog F_aig_May [g.enc] σ Post := by
  have h1 := hs.ins
  have h2 := hs.ands
  refine GCall.say (r := .bool g.may) ?_ rfl h
  refine gc_aig_May ?_
  simp [G_aig_May, genv0, List.replicate]
  refine aig_inputs_ok h1 ?_
  by_cases g1 : insOk 0 g.ins = true
  · simp [g1]
    refine aig_nodes_ok hs ?_
    by_cases g2 : (200000 : Int) < g.nodes
    · have : ¬ g.nodes ≤ 200000 := by omega
      simp [g2, AigP.may, this]
    · have g2' : g.nodes ≤ 200000 := by omega
      simp [g2]
      refine gfor g.ands.length (fun i e σ' => (∃ τ, σ' = σ ++ .row false [fints g.ins, fands g.ands] :: τ) ∧ g.may = andsOk (2 * (1 + g.ins.length + i)) (g.ands.drop i) ∧ e = mkEnv 46 [(1, .ptr σ.length 0), (16, fands g.ands), (17, .int .i64 g.ands.length), (18, .int .i64 i)]) _ ?_ ⟨⟨_, rfl⟩, by simp [AigP.may, g1, g2'], rfl⟩ ?_
      · simp [mkEnv, List.replicate]
      rintro i _ _ hi ⟨⟨τ, rfl⟩, hI, rfl⟩
      simp [mkEnv, List.replicate]
      by_cases hlt : i < g.ands.length
      · obtain ⟨p, hp⟩ := nth_lt hlt
        rw [drop_get hp] at hI
        have e1 : IntKind.i64.wrap (1 + (g.ins.length : Int)) = 1 + g.ins.length := by rw [wrap_small] <;> omega
        have e2 : IntKind.i64.wrap (1 + (g.ins.length : Int) + i) = 1 + g.ins.length + i := by rw [wrap_small] <;> omega
        have e3 : IntKind.i64.wrap (2 * (1 + (g.ins.length : Int) + i)) = 2 * (1 + g.ins.length + i) := by rw [wrap_small] <;> omega
        have hb : ∀ b : Bool, g.may = b → Post (.bool b) σ := fun b hb => hb ▸ h
        by_cases a1 : min p.1 p.2 < 0
        · have : (decide (0 ≤ p.1) && decide (0 ≤ p.2)) = false := by simp; omega
          simp [hlt, hp, a1]
          simpa [andsOk, this] using hI.symm
        · by_cases a2 : 2 * (1 + (g.ins.length : Int) + i) ≤ max p.1 p.2
          · have : (decide (p.1 < 2 * (1 + (g.ins.length : Int) + i)) && decide (p.2 < 2 * (1 + (g.ins.length : Int) + i))) = false := by simp; omega
            simp [hlt, hp, a1, e1, e2, e3, a2]
            rw [hI]
            simp only [andsOk, Bool.and_assoc]
            rw [← Bool.and_assoc (decide (p.1 < _)), this]
            simp
          · have h5 : 0 ≤ p.1 ∧ 0 ≤ p.2 ∧ p.1 < 2 * (1 + (g.ins.length : Int) + i) ∧ p.2 < 2 * (1 + (g.ins.length : Int) + i) := by omega
            simp [hlt, hp, a1, e1, e2, e3, a2, wrap_suc (show i < _ by omega)]
            refine forK_go _ hlt (by simp [mkEnv, List.replicate]) ⟨⟨_, rfl⟩, ?_, rfl⟩
            rw [hI]
            simp [andsOk, h5]
            congr 1
      · have : i = g.ands.length := by omega
        subst this
        simp
        simpa [andsOk] using hI
  · simp [g1, AigP.may]
theorem idx_func_ok {f : FuncId} {pre caps : List DV} {xs : List Int} {p : Int → Bool} {σ : GS} {Post : DV → GS → Prop} (hl : xs.length < 2 ^ 60)
    (hf : ∀ x ∈ xs, ∀ K : DV → GS → Prop, K (.bool (p x)) σ → GCall Tryz.prog f (pre ++ .int .i64 x :: caps) σ K) (h : Post (.int .i64 (idxF p 0 xs)) σ) :
    GCall Tryz.prog F_slices_IndexFunc_int_int [fints xs, .func f pre caps] σ Post := by
  refine gc_slices_IndexFunc_int_int ?_
  simp [G_slices_IndexFunc_int_int, genv0, List.replicate]
  refine gfor xs.length (fun i e σ' => σ' = σ ∧ idxF p 0 xs = idxF p i (xs.drop i) ∧ e = mkEnv 19 [(0, fints xs), (1, .func f pre caps), (7, .int .i64 xs.length), (8, .int .i64 i)]) _ ?_ ⟨rfl, by simp, rfl⟩ ?_
  · simp [mkEnv, List.replicate]
  rintro i _ _ hi ⟨rfl, hI, rfl⟩
  simp [mkEnv, List.replicate]
  by_cases hlt : i < xs.length
  · obtain ⟨y, hy⟩ := nth_lt hlt
    rw [drop_get hy] at hI
    simp [hlt, hy]
    refine hf y (List.mem_of_getElem? hy) _ ?_
    by_cases h1 : p y = true
    · simp [h1]
      simpa [hI, idxF, h1] using h
    · simp [h1, wrap_suc (show i < _ by omega)]
      exact forK_go _ hlt (by simp [mkEnv, List.replicate]) ⟨rfl, by simp [hI, idxF, h1], rfl⟩
  · have : i = xs.length := by omega
    subst this
    simp
    simpa [hI, idxF] using h
theorem contains_func_ok {f : FuncId} {pre caps : List DV} {xs : List Int} {p : Int → Bool} {σ : GS} {Post : DV → GS → Prop} (hl : xs.length < 2 ^ 60)
    (hf : ∀ x ∈ xs, ∀ K : DV → GS → Prop, K (.bool (p x)) σ → GCall Tryz.prog f (pre ++ .int .i64 x :: caps) σ K) (h : Post (.bool (xs.any p)) σ) :
    GCall Tryz.prog F_slices_ContainsFunc_int_int [fints xs, .func f pre caps] σ Post := by
  refine gc_slices_ContainsFunc_int_int ?_
  simp [G_slices_ContainsFunc_int_int, genv0, List.replicate]
  refine idx_func_ok hl hf ?_
  simp [idxF_any]
  exact h
end Go.Gh
namespace Go.Gh
open Go.RowKit Go.Proofs
set_option linter.unusedVariables false
set_option linter.unusedSimpArgs false
theorem Own.other {α : Type} {n sz : Nat} {enc : α → List DV} {σ σ' : GS} {s : DV} {xs : List α} (h : Own n sz enc σ s xs) (hf : ∀ i, s.has i → σ'[i]? = σ[i]?) : Own n sz enc σ' s xs := h.fit hf
/-- A maker in the heap, its parts named; nothing is said of its maps yet. -/
structure MkC (n : Nat) (σ : GS) (id : Nat) (m : Mk) (si sa : DV) (at_ in_ : Nat) (la : List ((Int × Int) × DV)) (li : List (Int × DV)) : Prop where
  ge : n ≤ id
  row : σ[id]? = some (.row false [.bool true, si, sa, .map at_, .map in_, .bool m.full])
  ins : Own n 1 eint σ si m.ins
  ands : Own n 2 eand σ sa m.ands
  atm : MpO kpair σ at_ la
  inm : MpO kint σ in_ li
  at_ge : n ≤ at_
  in_ge : n ≤ in_
  ne : at_ ≠ in_
  si_id : ¬ si.has id
  sa_id : ¬ sa.has id
  si_sa : ∀ i, si.has i → ¬ sa.has i
/-- A maker in the heap, its parts named. -/
structure MkR (n : Nat) (σ : GS) (id : Nat) (m : Mk) (si sa : DV) (at_ in_ : Nat) (la : List ((Int × Int) × DV)) (li : List (Int × DV)) : Prop extends MkC n σ id m si sa at_ in_ la li where
  ats : ∀ p, kget p la = if 0 ≤ m.at p.1 p.2 then some (kint (2 * (1 + m.ins.length + m.at p.1 p.2))) else none
  ins_ : ∀ v, kget v li = if 0 ≤ edgeOf m.ins v then some (kint (edgeOf m.ins v)) else none
/-- A maker in the heap, from object n on. -/
def MkO (n : Nat) (σ : GS) (id : Nat) (m : Mk) : Prop := ∃ si sa at_ in_ la li, MkR n σ id m si sa at_ in_ la li
/-- What belongs to a maker. -/
def Ft (σ : GS) (id i : Nat) : Prop := i = id ∨ ∃ b si sa at_ in_ f, σ[id]? = some (.row false [b, si, sa, .map at_, .map in_, f]) ∧ (i = at_ ∨ i = in_ ∨ si.has i ∨ sa.has i)
/-- A maker was changed, and nothing else. -/
structure Stp (σ : GS) (id : Nat) (σ' : GS) : Prop where
  len : σ.length ≤ σ'.length
  get : ∀ i, i < σ.length → ¬ Ft σ id i → σ'[i]? = σ[i]?
  ft : ∀ i, i < σ.length → ¬ Ft σ id i → ¬ Ft σ' id i
theorem Stp.refl (σ : GS) (id : Nat) : Stp σ id σ := ⟨Nat.le_refl _, fun _ _ _ => rfl, fun _ _ h => h⟩
theorem Stp.trans {a b c : GS} {id : Nat} (h : Stp a id b) (k : Stp b id c) : Stp a id c :=
  ⟨Nat.le_trans h.len k.len, fun i hi hf => (k.get i (by have := h.len; omega) (h.ft i hi hf)).trans (h.get i hi hf), fun i hi hf => k.ft i (by have := h.len; omega) (h.ft i hi hf)⟩
section
variable {n id at_ in_ : Nat} {σ σ' : GS} {m : Mk} {si sa : DV} {la : List ((Int × Int) × DV)} {li : List (Int × DV)}
theorem MkC.ft (h : MkC n σ id m si sa at_ in_ la li) (i : Nat) : Ft σ id i ↔ i = id ∨ i = at_ ∨ i = in_ ∨ si.has i ∨ sa.has i := by
  unfold Ft
  constructor
  · rintro (h1 | ⟨b, si', sa', at', in', f, h1, h2⟩)
    · exact .inl h1
    · rw [h.row] at h1; cases h1; exact .inr h2
  · rintro (h1 | h2)
    · exact .inl h1
    · exact .inr ⟨_, _, _, _, _, _, h.row, h2⟩
theorem MkC.dom (h : MkC n σ id m si sa at_ in_ la li) {i : Nat} (hi : Ft σ id i) : i < σ.length ∧ n ≤ i := by
  rcases (h.ft i).1 hi with rfl | rfl | rfl | h1 | h1
  · exact ⟨get_dom h.row, h.ge⟩
  · exact ⟨h.atm.dom, h.at_ge⟩
  · exact ⟨h.inm.dom, h.in_ge⟩
  · exact ⟨h.ins.has_lt h1, h.ins.has_ge h1⟩
  · exact ⟨h.ands.has_lt h1, h.ands.has_ge h1⟩
/-- Other objects may change. -/
theorem MkC.fit (h : MkC n σ id m si sa at_ in_ la li) (k : ∀ i, Ft σ id i → σ'[i]? = σ[i]?) : MkC n σ' id m si sa at_ in_ la li := by
  have k' : ∀ i, (i = id ∨ i = at_ ∨ i = in_ ∨ si.has i ∨ sa.has i) → σ'[i]? = σ[i]? := fun i hi => k i ((h.ft i).2 hi)
  exact ⟨h.ge, (k' id (.inl rfl)).trans h.row, h.ins.fit fun i hi => k' i (.inr (.inr (.inr (.inl hi)))), h.ands.fit fun i hi => k' i (.inr (.inr (.inr (.inr hi)))), h.atm.fit (k' _ (.inr (.inl rfl))), h.inm.fit (k' _ (.inr (.inr (.inl rfl)))), h.at_ge, h.in_ge, h.ne, h.si_id, h.sa_id, h.si_sa⟩
theorem MkR.fit (h : MkR n σ id m si sa at_ in_ la li) (k : ∀ i, Ft σ id i → σ'[i]? = σ[i]?) : MkR n σ' id m si sa at_ in_ la li := ⟨h.toMkC.fit k, h.ats, h.ins_⟩
end
theorem MkO.fit {n id : Nat} {σ σ' : GS} {m : Mk} (h : MkO n σ id m) (k : ∀ i, Ft σ id i → σ'[i]? = σ[i]?) : MkO n σ' id m := by
  obtain ⟨si, sa, at_, in_, la, li, h⟩ := h
  exact ⟨_, _, _, _, _, _, h.fit k⟩
theorem MkO.dom {n id : Nat} {σ : GS} {m : Mk} (h : MkO n σ id m) {i : Nat} (hi : Ft σ id i) : i < σ.length ∧ n ≤ i := by
  obtain ⟨si, sa, at_, in_, la, li, h⟩ := h
  exact h.dom hi
theorem MkO.keep {n id : Nat} {σ σ' : GS} {m : Mk} (h : MkO n σ id m) (k : ∀ i, i < σ.length → σ'[i]? = σ[i]?) : MkO n σ' id m := h.fit fun i hi => k i (h.dom hi).1
theorem MkO.app {n id : Nat} {σ : GS} {m : Mk} (h : MkO n σ id m) (τ : GS) : MkO n (σ ++ τ) id m := h.keep fun i hi => List.getElem?_append_left hi
/-- What does not belong to a maker stays so. -/
theorem MkO.ft_eq {n id : Nat} {σ σ' : GS} {m : Mk} (h : MkO n σ id m) (k : σ'[id]? = σ[id]?) (i : Nat) : Ft σ' id i ↔ Ft σ id i := by
  unfold Ft; rw [k]
theorem MkO.stp {n id : Nat} {σ σ' : GS} {m : Mk} (h : MkO n σ id m) (hl : σ.length ≤ σ'.length) (k : ∀ i, i < σ.length → σ'[i]? = σ[i]?) : Stp σ id σ' := by
  refine ⟨hl, fun i hi _ => k i hi, fun i hi hf => ?_⟩
  rwa [h.ft_eq (k id (h.dom (.inl rfl)).1)]
/-- The parts of a maker, as a frozen graph. -/
theorem MkR.rd {n id at_ in_ : Nat} {σ : GS} {m : Mk} {si sa : DV} {la : List ((Int × Int) × DV)} {li : List (Int × DV)} (h : MkR n σ id m si sa at_ in_ la li) (ok : Nat → Prop) (hok : ∀ i, n ≤ i → ok i) : Rd σ ok (.agg [si, sa]) (AigP.enc ⟨m.ins, m.ands⟩) :=
  .agg (.cons (h.ins.rd (fun _ => rfl) hok) (.cons (h.ands.rd (fun _ => rfl) hok) .nil))
end Go.Gh
namespace Go.Gh
open Go.RowKit Go.Proofs
set_option linter.unusedVariables false
set_option linter.unusedSimpArgs false
end Go.Gh
namespace Go.Gh
open Go.RowKit Go.Proofs
set_option linter.unusedVariables false
set_option linter.unusedSimpArgs false
/-- An index that is a half. -/
theorem iaddr_half {id n : Nat} {e : Int} {k : IntKind} {cap : Option Nat} (h0 : 0 ≤ e) (h1 : e < 2 * n) : gpure (.iaddr 1) [.slice id 0 n 1 cap, .int k (e / 2)] = some (.ptr id (e / 2).toNat) := by
  have := iaddr_own (id := id) (n := n) (sz := 1) (i := (e / 2).toNat) (k := k) (cap := cap) (by omega)
  rw [show (((e / 2).toNat : Nat) : Int) = e / 2 by omega] at this
  simpa using this
theorem backward_ok {l : List (Int × Int)} {σ : GS} {Post : DV → GS → Prop} (k : Post (.func F_slices_Backward__2_int__2_int_1 [] [.fptr [fands l]]) σ) : GCall Tryz.prog F_slices_Backward__2_int__2_int [fands l] σ Post := by
  refine GCall.pure (r := .func F_slices_Backward__2_int__2_int_1 [] [.fptr [fands l]]) ?_ (by have := closed_fands l; simp [DV.closed, closeds] at this ⊢; exact this) k
  refine gc_slices_Backward__2_int__2_int ?_
  simp [G_slices_Backward__2_int__2_int, genv0, List.replicate]
  exact .func .nil (.cons (.ptr (id := σ.length) (off := 0) (ro := false) (cs := [fands l]) (.inl (Nat.le_refl _)) (by simp) (.cons (.same _) .nil)) .nil)
theorem back1_ok {l : List (Int × Int)} {L : Nat} {σ : GS} {Post : DV → GS → Prop} (hl : l.length < 2 ^ 50) (I : Nat → GS → Prop) (h0 : I l.length σ)
    (hr : ∀ i p σ', l[i]? = some p → I (i + 1) σ' → GRound Tryz.prog L [.int .i64 i, kpair p] σ' fun v σ'' => v = .bool true ∧ I i σ'')
    (k : ∀ σ', I 0 σ' → Post (.tuple []) σ') : GCall Tryz.prog F_slices_Backward__2_int__2_int_1 [.yield L, .fptr [fands l]] σ Post := by
  refine gc_slices_Backward__2_int__2_int_1 ?_
  have ew : ∀ i : Nat, i ≤ l.length → IntKind.i64.wrap ((i : Int) - 1) = (i : Int) - 1 := fun i hi => by rw [wrap_small] <;> omega
  simp [G_slices_Backward__2_int__2_int_1, genv0, List.replicate, ew]
  refine gwhile (mkEnv 19 [(0, .yield L), (1, .fptr [fands l]), (3, .int .i64 ((l.length : Int) - 1))]) l.length (fun n e σ' => n ≤ l.length ∧ I n σ' ∧ e = mkEnv 19 [(0, .yield L), (1, .fptr [fands l]), (3, .int .i64 ((n : Int) - 1))]) ?_ ⟨Nat.le_refl _, h0, rfl⟩ ?_
  · simp [mkEnv, List.replicate]
  rintro n _ σ' ⟨hn, hI, rfl⟩
  simp [mkEnv, List.replicate]
  cases n with
  | zero =>
    simp
    exact k σ' hI
  | succ i =>
    obtain ⟨p, hp⟩ := nth_lt (l := l) (i := i) (by omega)
    have h1 : (0 : Int) ≤ ((i + 1 : Nat) : Int) - 1 := by omega
    have e1 : (((i + 1 : Nat) : Int) - 1) = i := by omega
    have e2 := ew i (by omega)
    have h2 : (1 : Int) ≤ (i : Int) + 1 := by omega
    have e3 : (i : Int) + 1 - 1 = i := by omega
    simp [h2, e3, hp]
    refine (hr i p σ' hp hI).mono ?_
    rintro v σ'' ⟨rfl, hI'⟩
    simp [e2]
    exact whK_go i _ (by omega) (by simp [mkEnv, List.replicate]) ⟨by omega, hI', rfl⟩
theorem marks_cons (e : Int) (l : List Int) (m : List Bool) : marks m (e :: l) = marks (m.set (e / 2).toNat true) l := rfl
end Go.Gh
namespace Go.Gh
open Go.RowKit Go.Proofs
set_option linter.unusedVariables false
set_option linter.unusedSimpArgs false
/-- The state of copying: the box of the graph, the images, their box, the maker. -/
structure CpSt (n0 : Nat) (σ σ' : GS) (id : Nat) (g : AigP) (n : Nat) (T : List Int) (m : Mk) : Prop where
  box : σ'[σ.length]? = some (.row false [fints g.ins, fands g.ands])
  row : σ'[σ.length + 1]? = some (.row false (ints T))
  tob : σ'[σ.length + 2]? = some (.row false [.slice (σ.length + 1) 0 n 1 (some n)])
  mak : MkO n0 σ' id m
  stp : Stp σ id σ'
  nf : ∀ j, j < 3 → ¬ Ft σ' id (σ.length + j)
  tl : T.length = n
theorem CpSt.app {n0 id n : Nat} {σ σ' : GS} {g : AigP} {T : List Int} {m : Mk} (h : CpSt n0 σ σ' id g n T m) (τ : GS) : CpSt n0 σ (σ' ++ τ) id g n T m := by
  have hid := (h.mak.dom (.inl rfl)).1
  have e : (σ' ++ τ)[id]? = σ'[id]? := List.getElem?_append_left hid
  exact ⟨getE_append h.box, getE_append h.row, getE_append h.tob, h.mak.app τ, h.stp.trans (h.mak.stp (by simp) fun i hi => List.getElem?_append_left hi), fun j hj => by rw [h.mak.ft_eq e]; exact h.nf j hj, h.tl⟩
theorem CpSt.step {n0 id n : Nat} {σ σ' σ2 : GS} {g : AigP} {T : List Int} {m m' : Mk} (h : CpSt n0 σ σ' id g n T m) (hm : MkO n0 σ2 id m') (hs : Stp σ' id σ2) : CpSt n0 σ σ2 id g n T m' := by
  have hk : ∀ j o, j < 3 → σ'[σ.length + j]? = some o → σ2[σ.length + j]? = some o := fun j o hj ho => (hs.get _ (get_dom ho) (h.nf j hj)).trans ho
  exact ⟨hk 0 _ (by omega) h.box, hk 1 _ (by omega) h.row, hk 2 _ (by omega) h.tob, hm, h.stp.trans hs, fun j hj => hs.ft _ (by have := get_dom h.tob; omega) (h.nf j hj), h.tl⟩
theorem CpSt.set {n0 id n : Nat} {σ σ' : GS} {g : AigP} {T : List Int} {m : Mk} (h : CpSt n0 σ σ' id g n T m) (i : Nat) (x : Int) : CpSt n0 σ (σ'.set (σ.length + 1) (.row false (ints (T.set i x)))) id g n (T.set i x) m := by
  have hne : ∀ j, j ≠ σ.length + 1 → (σ'.set (σ.length + 1) (.row false (ints (T.set i x))))[j]? = σ'[j]? := fun j hj => List.getElem?_set_ne (Ne.symm hj)
  have hfne : ∀ j, Ft σ' id j → j ≠ σ.length + 1 := fun j hj e => h.nf 1 (by omega) (e ▸ hj)
  have hid := hne id (hfne id (.inl rfl))
  exact ⟨(hne _ (by omega)).trans h.box, List.getElem?_set_self (get_dom h.row), (hne _ (by omega)).trans h.tob, h.mak.fit fun j hj => hne j (hfne j hj), ⟨by simpa using h.stp.len, fun i hi hf => (hne i (by omega)).trans (h.stp.get i hi hf), fun i hi hf => by rw [h.mak.ft_eq hid]; exact h.stp.ft i hi hf⟩, fun j hj => by rw [h.mak.ft_eq hid]; exact h.nf j hj, by simp [h.tl]⟩
end Go.Gh
namespace Go.Gh
open Go.RowKit Go.Proofs
set_option linter.unusedVariables false
set_option linter.unusedSimpArgs false
set_option maxRecDepth 100000
abbrev GOut.enc (o : GOut) : DV := .tuple [o.g.enc, fints o.l, .int .i64 o.e]
@[simp] theorem closed_gout (o : GOut) : (GOut.enc o).closed = true := by simp
/-- The pairs of the map while its values are exchanged. -/
def mixed (f : Int → Int) (l : List (Int × Int)) (st seen : List Nat) : List (Int × DV) := (l.zip st).map fun p => (p.1.1, kint (if p.2 ∈ seen then f p.1.2 else p.1.2))
end Go.Gh
namespace Go.Gh
open Go.RowKit Go.Proofs
set_option linter.unusedVariables false
set_option linter.unusedSimpArgs false
set_option maxRecDepth 100000
end Go.Gh
namespace Go.Gh
open Go.RowKit Go.Proofs
set_option linter.unusedVariables false
set_option linter.unusedSimpArgs false
set_option maxRecDepth 100000
theorem tdiv_two {a : Int} (h : 0 ≤ a) : a.tdiv 2 = a / 2 := Int.tdiv_eq_ediv_of_nonneg h
theorem ref_Nodes_ok {g : AigP} {σ : GS} {Post : DV → GS → Prop} (hs : g.Sm) (h : Post (.int .i64 g.nodes) σ) : GCall Tryz.prog F_skolemref06_Nodes [g.enc] σ Post := by
  have h1 := hs.ins
  have h2 := hs.ands
  refine GCall.say (r := .int .i64 g.nodes) ?_ rfl h
  refine gc_skolemref06_Nodes ?_
  simp [G_skolemref06_Nodes, genv0, List.replicate]
  have e1 : IntKind.i64.wrap (1 + (g.ins.length : Int)) = 1 + g.ins.length := by rw [wrap_small] <;> omega
  rw [e1, wrap_small] <;> first | (simp [AigP.nodes]; done) | omega
theorem ref_Inputs_ok {ins : List Int} {σ : GS} {Post : DV → GS → Prop} (hl : ins.length < 2 ^ 50) (h : Post (.bool (insOk 0 ins)) σ) : GCall Tryz.prog F_skolemref06_Inputs [fints ins] σ Post := by
  refine gc_skolemref06_Inputs ?_
  simp [G_skolemref06_Inputs, genv0, List.replicate]
  refine gfor ins.length (fun i e σ' => σ' = σ ∧ (∃ last, insOk 0 ins = insOk last (ins.drop i) ∧ (i = 0 → last = 0) ∧ ∀ j, j + 1 = i → ins[j]? = some last) ∧ e = mkEnv 38 [(0, fints ins), (3, .int .i64 i)]) _ ?_ ⟨rfl, ⟨0, by simp, fun _ => rfl, fun j h => by omega⟩, rfl⟩ ?_
  · simp [mkEnv, List.replicate]
  rintro i _ _ hi ⟨rfl, ⟨last, hI, hl0, hl1⟩, rfl⟩
  simp [mkEnv, List.replicate]
  by_cases hlt : i < ins.length
  · obtain ⟨y, hy⟩ := nth_lt hlt
    rw [drop_get hy] at hI
    have es : IntKind.i64.wrap ((i : Int) + 1) = (i : Int) + 1 := by rw [wrap_small] <;> omega
    by_cases h1 : y < 1
    · have hv : isVar y = false := by unfold isVar; simp; omega
      simp [hlt, hy, h1]
      simpa [hI, insOk, hv] using h
    by_cases h2 : 65536 < y
    · have hv : isVar y = false := by unfold isVar; simp; omega
      simp [hlt, hy, h1, h2]
      simpa [hI, insOk, hv] using h
    have hv : isVar y = true := by unfold isVar; simp; omega
    cases i with
    | zero =>
      have := hl0 rfl
      subst this
      have h3 : 0 < y := by omega
      simp [hlt, hy, h1, h2]
      refine forK_go _ hlt (by simp [mkEnv, List.replicate]) ⟨rfl, ⟨y, by simp [hI, insOk, hv, h3], fun e => by omega, fun j hj => ?_⟩, rfl⟩
      have : j = 0 := by omega
      subst this; exact nth_get hy
    | succ i =>
      have hp := hl1 i rfl
      have hp' : nth ins i = some last := hp
      have ew : IntKind.i64.wrap (((i + 1 : Nat) : Int) - 1) = i := by rw [wrap_small] <;> omega
      have ew' : IntKind.i64.wrap (i : Int) = i := by rw [wrap_small] <;> omega
      have hge : (0 : Int) ≤ (i : Int) + 1 := by omega
      have hgt : (0 : Int) < (i : Int) + 1 := by omega
      have htn : ((i : Int) + 1).toNat = i + 1 := by omega
      have es2 : IntKind.i64.wrap ((i : Int) + 1 + 1) = (i : Int) + 1 + 1 := by rw [wrap_small] <;> omega
      by_cases h4 : y ≤ last
      · have h5 : ¬ last < y := by omega
        simp [hlt, hy, h1, h2, hge, hgt, htn, ew, ew', hp', h4]
        simpa [hI, insOk, hv, h5] using h
      · have h5 : last < y := by omega
        simp [hlt, hy, h1, h2, hge, hgt, htn, ew, ew', hp', h4, es2]
        refine forK_go _ hlt (by simp [mkEnv, List.replicate]) ⟨rfl, ⟨y, by simp [hI, insOk, hv, h5], fun e => by omega, fun j hj => ?_⟩, rfl⟩
        have : j = i + 1 := by omega
        subst this; exact nth_get hy
  · have : i = ins.length := by omega
    subst this
    simp
    simpa [hI, insOk] using h
theorem ref_May_ok {g : AigP} {σ : GS} {Post : DV → GS → Prop} (hs : g.Sm) (h : Post (.bool g.may) σ) : GCall Tryz.prog F_skolemref06_May [g.enc] σ Post := by
  have h1 := hs.ins
  have h2 := hs.ands
  refine GCall.say (r := .bool g.may) ?_ rfl h
  refine gc_skolemref06_May ?_
  simp [G_skolemref06_May, genv0, List.replicate]
  refine ref_Inputs_ok h1 ?_
  by_cases g1 : insOk 0 g.ins = true
  · simp [g1]
    refine ref_Nodes_ok hs ?_
    by_cases g2 : (200000 : Int) < g.nodes
    · have : ¬ g.nodes ≤ 200000 := by omega
      simp [g2, AigP.may, this]
    · have g2' : g.nodes ≤ 200000 := by omega
      simp [g2]
      refine gfor g.ands.length (fun i e σ' => σ' = σ ++ [.row false [fints g.ins, fands g.ands]] ∧ g.may = andsOk (2 * (1 + g.ins.length + i)) (g.ands.drop i) ∧ e = mkEnv 52 [(1, .ptr σ.length 0), (3, .int .i64 i)]) _ ?_ ⟨rfl, by simp [AigP.may, g1, g2'], rfl⟩ ?_
      · simp [mkEnv, List.replicate]
      rintro i _ _ hi ⟨rfl, hI, rfl⟩
      simp [mkEnv, List.replicate]
      by_cases hlt : i < g.ands.length
      · obtain ⟨p, hp⟩ := nth_lt hlt
        rw [drop_get hp] at hI
        have e1 : IntKind.i64.wrap (1 + (g.ins.length : Int)) = 1 + g.ins.length := by rw [wrap_small] <;> omega
        have e2 : IntKind.i64.wrap (1 + (g.ins.length : Int) + i) = 1 + g.ins.length + i := by rw [wrap_small] <;> omega
        have e3 : IntKind.i64.wrap (2 * (1 + (g.ins.length : Int) + i)) = 2 * (1 + g.ins.length + i) := by rw [wrap_small] <;> omega
        have es : IntKind.i64.wrap ((i : Int) + 1) = (i : Int) + 1 := by rw [wrap_small] <;> omega
        simp [hlt, e1, e2, e3]
        obtain ⟨M, hM⟩ : ∃ M, 2 * (1 + (g.ins.length : Int) + i) = M := ⟨_, rfl⟩
        rw [hM] at hI ⊢
        refine gfor 2 (fun j e σ' => σ' = σ ++ [.row false [fints g.ins, fands g.ands]] ∧ (1 ≤ j → 0 ≤ p.1 ∧ p.1 < M) ∧ (2 ≤ j → 0 ≤ p.2 ∧ p.2 < M) ∧ e = mkEnv 52 [(1, .ptr σ.length 0), (3, .int .i64 i), (4, .int .i64 M), (5, .int .i64 j)]) _ ?_ ⟨rfl, fun h => by omega, fun h => by omega, rfl⟩ ?_
        · simp [mkEnv, List.replicate]
        rintro j _ _ hj ⟨rfl, j1, j2, rfl⟩
        simp [mkEnv, List.replicate]
        have hcase : j = 0 ∨ j = 1 ∨ j = 2 := by omega
        rcases hcase with rfl | rfl | rfl
        · by_cases a1 : p.1 < 0
          · have : ¬ 0 ≤ p.1 := by omega
            simp [hp, a1]
            simpa [andsOk, this] using hI.symm
          · by_cases a2 : M ≤ p.1
            · have : ¬ p.1 < M := by omega
              simp [hp, a1, a2]
              simpa [andsOk, this] using hI.symm
            · simp [hp, a1, a2]
              exact forK_go _ (by omega) (by simp [mkEnv, List.replicate]) ⟨rfl, fun _ => by omega, fun h => by omega, rfl⟩
        · have := j1 (by omega)
          by_cases a1 : p.2 < 0
          · have : ¬ 0 ≤ p.2 := by omega
            simp [hp, a1]
            simpa [andsOk, this] using hI.symm
          · by_cases a2 : M ≤ p.2
            · have : ¬ p.2 < M := by omega
              simp [hp, a1, a2]
              simpa [andsOk, this] using hI.symm
            · have ew : IntKind.i64.wrap 2 = 2 := by decide
              simp [hp, a1, a2, ew]
              exact forK_go _ (by omega) (by simp [mkEnv, List.replicate]) ⟨rfl, fun _ => this, fun _ => by omega, rfl⟩
        · have b1 := j1 (by omega)
          have b2 := j2 (by omega)
          simp [es]
          refine forK_go _ hlt (by simp [mkEnv, List.replicate]) ⟨rfl, ?_, rfl⟩
          rw [hI]
          simp [andsOk, b1, b2]
          rw [← hM]
          congr 1
      · have : i = g.ands.length := by omega
        subst this
        simp
        simpa [andsOk] using hI
  · simp [g1, AigP.may]
theorem ref_has_ok {g : AigP} {e : Int} {σ : GS} {Post : DV → GS → Prop} (hs : g.Sm) (h : Post (.bool (g.has e)) σ) : GCall Tryz.prog F_skolemref06_has [g.enc, .int .i64 e] σ Post := by
  have h1 := hs.ins
  have h2 := hs.ands
  have hn : g.nodes = 1 + g.ins.length + g.ands.length := rfl
  refine GCall.say (r := .bool (g.has e)) ?_ rfl h
  refine gc_skolemref06_has ?_
  have ew : IntKind.i64.wrap (2 * (g.nodes : Int)) = 2 * g.nodes := by rw [wrap_small] <;> omega
  by_cases c : 0 ≤ e
  · simp [G_skolemref06_has, genv0, List.replicate, c]
    refine ref_Nodes_ok hs ?_
    simp [ew, AigP.has, c]
  · simp [G_skolemref06_has, genv0, List.replicate, c, AigP.has]
theorem ref_HasAll_ok {g : AigP} {l : List Int} {σ : GS} {Post : DV → GS → Prop} (hs : g.Sm) (hl : l.length < 2 ^ 60) (h : Post (.bool (g.all l)) σ) : GCall Tryz.prog F_skolemref06_HasAll [g.enc, fints l] σ Post := by
  refine GCall.say (r := .bool (g.all l)) ?_ rfl h
  refine gc_skolemref06_HasAll ?_
  simp [G_skolemref06_HasAll, genv0, List.replicate]
  refine ref_May_ok hs ?_
  by_cases hm : g.may = true
  · simp [hm]
    refine gfor l.length (fun i e σ' => σ' = σ ++ [.row false [fints g.ins, fands g.ands]] ∧ g.all l = (l.drop i).all g.has ∧ e = mkEnv 22 [(1, fints l), (2, .ptr σ.length 0), (5, .int .i64 i)]) _ ?_ ⟨rfl, by simp [AigP.all, hm], rfl⟩ ?_
    · simp [mkEnv, List.replicate]
    rintro i _ _ hi ⟨rfl, hI, rfl⟩
    simp [mkEnv, List.replicate]
    by_cases hlt : i < l.length
    · obtain ⟨y, hy⟩ := nth_lt hlt
      rw [drop_get hy] at hI
      have es : IntKind.i64.wrap ((i : Int) + 1) = (i : Int) + 1 := by rw [wrap_small] <;> omega
      simp [hlt, hy]
      refine ref_has_ok hs ?_
      by_cases c : g.has y = true
      · simp [c, es]
        exact forK_go _ hlt (by simp [mkEnv, List.replicate]) ⟨rfl, by rw [hI]; simp [c], rfl⟩
      · simp [c]
        rw [hI]; simp [c]
    · have : i = l.length := by omega
      subst this
      simp
      simpa using hI
  · simp [hm, AigP.all]
end Go.Gh
namespace Go.Gh
open Go.RowKit Go.Proofs
set_option linter.unusedVariables false
set_option linter.unusedSimpArgs false
set_option maxRecDepth 100000
/-- A reference maker in the heap, its parts named. Its inputs may be frozen. -/
structure RkR (n : Nat) (σ : GS) (id : Nat) (m : Mk) (si sa : DV) : Prop where
  ge : n ≤ id
  row : σ[id]? = some (.row false [si, sa, .bool m.full])
  ins : si = fints m.ins ∨ Own n 1 eint σ si m.ins
  ands : Own n 2 eand σ sa m.ands
  si_id : ¬ si.has id
  sa_id : ¬ sa.has id
  si_sa : ∀ i, si.has i → ¬ sa.has i
def RkO (n : Nat) (σ : GS) (id : Nat) (m : Mk) : Prop := ∃ si sa, RkR n σ id m si sa
def Rt (σ : GS) (id i : Nat) : Prop := i = id ∨ ∃ si sa f, σ[id]? = some (.row false [si, sa, f]) ∧ (si.has i ∨ sa.has i)
structure Rtp (σ : GS) (id : Nat) (σ' : GS) : Prop where
  len : σ.length ≤ σ'.length
  get : ∀ i, i < σ.length → ¬ Rt σ id i → σ'[i]? = σ[i]?
  ft : ∀ i, i < σ.length → ¬ Rt σ id i → ¬ Rt σ' id i
theorem Rtp.refl (σ : GS) (id : Nat) : Rtp σ id σ := ⟨Nat.le_refl _, fun _ _ _ => rfl, fun _ _ h => h⟩
theorem Rtp.trans {a b c : GS} {id : Nat} (h : Rtp a id b) (k : Rtp b id c) : Rtp a id c :=
  ⟨Nat.le_trans h.len k.len, fun i hi hf => (k.get i (by have := h.len; omega) (h.ft i hi hf)).trans (h.get i hi hf), fun i hi hf => k.ft i (by have := h.len; omega) (h.ft i hi hf)⟩
theorem fsl_not_has {sz : Nat} {es : List (List DV)} {i : Nat} : ¬ (DV.fsl sz es).has i := fun ⟨_, _, _, _, e⟩ => by cases e
section
variable {n id : Nat} {σ σ' : GS} {m : Mk} {si sa : DV}
theorem RkR.si_lt (h : RkR n σ id m si sa) {i : Nat} (hi : si.has i) : i < σ.length ∧ n ≤ i := by
  rcases h.ins with e | h1
  · rw [e] at hi; exact absurd hi fsl_not_has
  · exact ⟨h1.has_lt hi, h1.has_ge hi⟩
theorem RkR.ft (h : RkR n σ id m si sa) (i : Nat) : Rt σ id i ↔ i = id ∨ si.has i ∨ sa.has i := by
  unfold Rt
  constructor
  · rintro (h1 | ⟨si', sa', f, h1, h2⟩)
    · exact .inl h1
    · rw [h.row] at h1; cases h1; exact .inr h2
  · rintro (h1 | h2)
    · exact .inl h1
    · exact .inr ⟨_, _, _, h.row, h2⟩
theorem RkR.dom (h : RkR n σ id m si sa) {i : Nat} (hi : Rt σ id i) : i < σ.length ∧ n ≤ i := by
  rcases (h.ft i).1 hi with rfl | h1 | h1
  · exact ⟨get_dom h.row, h.ge⟩
  · exact h.si_lt h1
  · exact ⟨h.ands.has_lt h1, h.ands.has_ge h1⟩
theorem RkR.fit (h : RkR n σ id m si sa) (k : ∀ i, Rt σ id i → σ'[i]? = σ[i]?) : RkR n σ' id m si sa := by
  have k' : ∀ i, (i = id ∨ si.has i ∨ sa.has i) → σ'[i]? = σ[i]? := fun i hi => k i ((h.ft i).2 hi)
  exact ⟨h.ge, (k' id (.inl rfl)).trans h.row, h.ins.imp (fun h => h) fun h1 => h1.fit fun i hi => k' i (.inr (.inl hi)), h.ands.fit fun i hi => k' i (.inr (.inr hi)), h.si_id, h.sa_id, h.si_sa⟩
end
theorem RkO.fit {n id : Nat} {σ σ' : GS} {m : Mk} (h : RkO n σ id m) (k : ∀ i, Rt σ id i → σ'[i]? = σ[i]?) : RkO n σ' id m := by
  obtain ⟨si, sa, h⟩ := h
  exact ⟨_, _, h.fit k⟩
theorem RkO.dom {n id : Nat} {σ : GS} {m : Mk} (h : RkO n σ id m) {i : Nat} (hi : Rt σ id i) : i < σ.length ∧ n ≤ i := by
  obtain ⟨si, sa, h⟩ := h
  exact h.dom hi
theorem RkO.keep {n id : Nat} {σ σ' : GS} {m : Mk} (h : RkO n σ id m) (k : ∀ i, i < σ.length → σ'[i]? = σ[i]?) : RkO n σ' id m := h.fit fun i hi => k i (h.dom hi).1
theorem RkO.app {n id : Nat} {σ : GS} {m : Mk} (h : RkO n σ id m) (τ : GS) : RkO n (σ ++ τ) id m := h.keep fun i hi => List.getElem?_append_left hi
theorem RkO.ft_eq {n id : Nat} {σ σ' : GS} {m : Mk} (h : RkO n σ id m) (k : σ'[id]? = σ[id]?) (i : Nat) : Rt σ' id i ↔ Rt σ id i := by
  unfold Rt; rw [k]
theorem RkO.stp {n id : Nat} {σ σ' : GS} {m : Mk} (h : RkO n σ id m) (hl : σ.length ≤ σ'.length) (k : ∀ i, i < σ.length → σ'[i]? = σ[i]?) : Rtp σ id σ' := by
  refine ⟨hl, fun i hi _ => k i hi, fun i hi hf => ?_⟩
  rwa [h.ft_eq (k id (h.dom (.inl rfl)).1)]
theorem RkR.rd {n id : Nat} {σ : GS} {m : Mk} {si sa : DV} (h : RkR n σ id m si sa) (ok : Nat → Prop) (hok : ∀ i, n ≤ i → ok i) : Rd σ ok (.agg [si, sa]) (AigP.enc ⟨m.ins, m.ands⟩) := by
  have h1 : Rd σ ok si (fints m.ins) := by
    rcases h.ins with e | h1
    · rw [e]; exact .same _
    · exact h1.rd (fun _ => rfl) hok
  exact .agg (.cons h1 (.cons (h.ands.rd (fun _ => rfl) hok) .nil))
theorem ref_Reached_ok {g : AigP} {l : List Int} {σ : GS} {Post : DV → GS → Prop} (hm : g.may = true) (hl : l.length < 2 ^ 50) (he : ∀ e ∈ l, 0 ≤ e ∧ e < 2 * g.nodes) (h : Post (fbools (g.reach l)) σ) : GCall Tryz.prog F_skolemref06_Reached [g.enc, fints l] σ Post := by
  have hnn := AigP.may_nodes hm
  have hn : g.nodes = 1 + g.ins.length + g.ands.length := rfl
  have hs : g.Sm := ⟨by omega, by omega⟩
  have hok : ∀ {i : Nat} {p : Int × Int}, g.ands[i]? = some p → _ := fun {i p} h => andsOk_get (AigP.may_ands hm) (i := i) (p := p) h
  obtain ⟨n, hne⟩ : ∃ n, g.nodes = n := ⟨_, rfl⟩
  obtain ⟨base, hbase⟩ : ∃ b, 1 + g.ins.length = b := ⟨_, rfl⟩
  refine GCall.pure (r := fbools (g.reach l)) ?_ (by simp) h
  refine gc_skolemref06_Reached ?_
  simp [G_skolemref06_Reached, genv0, List.replicate]
  refine ref_Nodes_ok hs ?_
  rw [hne] at he ⊢
  simp [mslice_bools (show n < 2 ^ 40 by omega)]
  have hr0 : List.replicate n (DV.bool false) = bools (List.replicate n false) := by simp [bools]
  rw [hr0]
  obtain ⟨A, hA⟩ : ∃ A, GObj.row false [fints g.ins, fands g.ands] = A := ⟨_, rfl⟩
  rw [hA]
  refine gfor l.length (fun i e σ' => (∃ m, σ' = σ ++ (A :: .row false (bools m) :: []) ∧ m.length = n ∧ marks m (l.drop i) = marks (List.replicate n false) l) ∧ e = mkEnv 60 [(1, fints l), (2, .ptr σ.length 0), (5, .slice (σ.length + 1) 0 n 1 (some n)), (6, .int .i64 i)]) _ ?_ ⟨⟨List.replicate n false, by simp, by simp, rfl⟩, rfl⟩ ?_
  · simp [mkEnv, List.replicate]
  rintro i _ _ hi ⟨⟨m, rfl, hml, hI⟩, rfl⟩
  simp [mkEnv, List.replicate]
  by_cases hlt : i < l.length
  · obtain ⟨y, hy⟩ := nth_lt hlt
    have hy' := nth_get hy
    obtain ⟨y0, y1⟩ := he y (List.mem_of_getElem? hy')
    have hi1 := iaddr_half (id := σ.length + 1) (n := n) (e := y) (k := .i64) (cap := some n) y0 (by omega)
    have s1 : (y / 2).toNat < m.length := by omega
    have ew : IntKind.i64.wrap (y / 2) = y / 2 := by rw [wrap_small] <;> omega
    rw [drop_get hy', marks_cons] at hI
    have es : IntKind.i64.wrap ((i : Int) + 1) = (i : Int) + 1 := by rw [wrap_small] <;> omega
    simp [hlt, hy, tdiv_two y0, ew, hi1, s1, es]
    exact forK_go _ hlt (by simp [mkEnv, List.replicate]) ⟨⟨_, by simp [List.map_set], by simp [hml], hI⟩, rfl⟩
  · have : i = l.length := by omega
    subst this
    rw [List.drop_length] at hI
    have hI' : m = marks (List.replicate n false) l := hI
    have e1 : IntKind.i64.wrap (1 + (g.ins.length : Int)) = ((base : Nat) : Int) := by rw [wrap_small] <;> omega
    have hld : ∀ τ, gload (.load 1 false) [.ptr σ.length 0] (σ ++ A :: τ) = some (fints g.ins) := fun τ => by simp [← hA]
    have hld1 : ∀ τ, gload (.load 1 false) [.ptr σ.length 1] (σ ++ A :: τ) = some (fands g.ands) := fun τ => by simp [← hA]
    have ewl : IntKind.i64.wrap ((g.ands.length : Int) - 1) = (g.ands.length : Int) - 1 := by rw [wrap_small] <;> omega
    simp [hld1, ewl]
    have hfin : rcDown base g.ands g.ands.length m = g.reach l := by rw [hI']; unfold AigP.reach; rw [hbase, hne]
    refine gwhile (mkEnv 60 [(2, .ptr σ.length 0), (5, .slice (σ.length + 1) 0 n 1 (some n)), (7, .int .i64 ((g.ands.length : Int) - 1))]) g.ands.length (fun i e σ' => i ≤ g.ands.length ∧ (∃ m, σ' = σ ++ (A :: .row false (bools m) :: []) ∧ m.length = n ∧ rcDown base g.ands i m = g.reach l) ∧ e = mkEnv 60 [(2, .ptr σ.length 0), (5, .slice (σ.length + 1) 0 n 1 (some n)), (7, .int .i64 ((i : Int) - 1))]) ?_ ⟨Nat.le_refl _, ⟨m, rfl, hml, hfin⟩, rfl⟩ ?_
    · simp [mkEnv, List.replicate]
    clear hfin hI' hI hml m hi hlt
    rintro i _ _ ⟨hi, ⟨m, rfl, hml, hI⟩, rfl⟩
    simp [mkEnv, List.replicate]
    cases i with
    | zero =>
      have hI' : m = g.reach l := hI
      simp
      subst hI'
      subst hml
      exact rd_bools (ro := false) (by simp) (.inl (by omega))
    | succ i =>
      obtain ⟨p, hp⟩ := nth_lt (l := g.ands) (i := i) (by omega)
      have hp' := nth_get hp
      obtain ⟨p1, p2, p3, p4⟩ := hok hp'
      have hg : g.ands.getD i (0, 0) = p := by rw [List.getD_eq_getElem?_getD, hp']; rfl
      have g1 : (1 : Int) ≤ (i : Int) + 1 := by omega
      have g2 : (i : Int) + 1 - 1 = i := by omega
      have ew2 : IntKind.i64.wrap ((base : Int) + i) = ((base + i : Nat) : Int) := by rw [wrap_small] <;> omega
      have ew3 : IntKind.i64.wrap ((i : Int) - 1) = (i : Int) - 1 := by rw [wrap_small] <;> omega
      obtain ⟨b, hb⟩ := nth_lt (l := m) (i := base + i) (by omega)
      have hb' : m[base + i]? = some b := hb
      have hia := iaddr_own (id := σ.length + 1) (n := n) (sz := 1) (i := base + i) (k := .i64) (cap := some n) (by omega)
      have hi1 := iaddr_half (id := σ.length + 1) (n := n) (e := p.1) (k := .i64) (cap := some n) p1 (by omega)
      have hi2 := iaddr_half (id := σ.length + 1) (n := n) (e := p.2) (k := .i64) (cap := some n) p2 (by omega)
      have ed1 : IntKind.i64.wrap (p.1 / 2) = p.1 / 2 := by rw [wrap_small] <;> omega
      have ed2 : IntKind.i64.wrap (p.2 / 2) = p.2 / 2 := by rw [wrap_small] <;> omega
      simp at hia
      have hgd : m.getD (base + i) false = b := by rw [List.getD_eq_getElem?_getD, hb']; rfl
      have hI' : rcDown base g.ands i (rcStep base g.ands m i) = g.reach l := hI
      simp [g1, g2, hld, hld1, e1, ew2, hia, hb']
      cases b with
      | false =>
        have e : rcStep base g.ands m i = m := by unfold rcStep; rw [hgd]; rfl
        rw [e] at hI'
        simp [g2, ew3]
        exact whK_go i _ (by omega) (by simp [mkEnv, List.replicate]) ⟨by omega, ⟨m, rfl, hml, hI'⟩, rfl⟩
      | true =>
        have e : rcStep base g.ands m i = (m.set (p.1 / 2).toNat true).set (p.2 / 2).toNat true := by unfold rcStep; rw [hgd, hg]; rfl
        rw [e] at hI'
        have s1 : (p.1 / 2).toNat < m.length := by omega
        have s2 : (p.2 / 2).toNat < m.length := by omega
        simp [g2, hld1, hp, tdiv_two p1, tdiv_two p2, ed1, ed2, hi1, hi2, s1, s2, ew3]
        exact whK_go i _ (by omega) (by simp [mkEnv, List.replicate]) ⟨by omega, ⟨_, by simp [List.map_set], by simp [hml], hI'⟩, rfl⟩
end Go.Gh
namespace Go.Gh
open Go.RowKit Go.Proofs
set_option linter.unusedVariables false
set_option linter.unusedSimpArgs false
set_option maxRecDepth 100000
def Mk.disj (m : Mk) (a b : Int) : Int × Mk := (notE (m.conj (notE a) (notE b)).1, (m.conj (notE a) (notE b)).2)
/-- What an operation on a maker leaves: at most k Ands more. -/
structure Gd (m : Mk) (r : Int × Mk) (k : Nat) : Prop where
  ok : r.2.ok
  lo : m.n ≤ r.2.n
  hi : r.2.n ≤ m.n + k
  ins : r.2.ins = m.ins
  e0 : 0 ≤ r.1
  e1 : r.1 < 2 * r.2.n
  full : m.n + k ≤ 200000 → r.2.full = m.full
theorem Gd.conj {m : Mk} {r : Int × Mk} {k : Nat} (h : Gd m r k) {a b : Int} (a0 : 0 ≤ a) (a1 : a < 2 * r.2.n) (b0 : 0 ≤ b) (b1 : b < 2 * r.2.n) : Gd m (r.2.conj a b) (k + 1) := by
  have h1 := Mk.conj_n r.2 a b
  have h2 := Mk.conj_range a0 a1 b0 b1
  have := h.lo; have := h.hi
  exact ⟨Mk.conj_ok a0 a1 b0 b1 h.ok, by omega, by omega, by rw [Mk.conj_ins, h.ins], h2.1, h2.2, fun hh => by rw [Mk.conj_full _ _ _ (by omega)]; exact h.full (by omega)⟩
theorem Gd.not {m : Mk} {r : Int × Mk} {k : Nat} (h : Gd m r k) : Gd m (notE r.1, r.2) k :=
  ⟨h.ok, h.lo, h.hi, h.ins, (notE_range h.e0 h.e1).1, (notE_range h.e0 h.e1).2, h.full⟩
theorem Gd.self {m : Mk} (h : m.ok) {e : Int} (e0 : 0 ≤ e) (e1 : e < 2 * m.n) : Gd m (e, m) 0 := ⟨h, Nat.le_refl _, Nat.le_refl _, rfl, e0, e1, fun _ => rfl⟩
theorem Gd.grow {m : Mk} {r : Int × Mk} {k j : Nat} (h : Gd m r k) (hj : k ≤ j) : Gd m r j := ⟨h.ok, h.lo, by have := h.hi; omega, h.ins, h.e0, h.e1, fun hh => h.full (by omega)⟩
theorem Gd.disj {m : Mk} {r : Int × Mk} {k : Nat} (h : Gd m r k) {a b : Int} (a0 : 0 ≤ a) (a1 : a < 2 * r.2.n) (b0 : 0 ≤ b) (b1 : b < 2 * r.2.n) : Gd m (r.2.disj a b) (k + 1) :=
  (h.conj (notE_range a0 a1).1 (notE_range a0 a1).2 (notE_range b0 b1).1 (notE_range b0 b1).2).not
theorem Gd.fold {m : Mk} : ∀ (l : List Int) {r : Int × Mk} {k : Nat}, Gd m r k → (∀ x ∈ l, 0 ≤ x ∧ x < 2 * m.n) → Gd m (l.foldl (fun s e => s.2.conj s.1 e) r) (k + l.length)
  | [], r, k, h, _ => h
  | x :: l, r, k, h, hx => by
    obtain ⟨x0, x1⟩ := hx x (.head _)
    have := h.lo
    have := Gd.fold l (h.conj h.e0 h.e1 x0 (by omega)) fun y hy => hx y (.tail _ hy)
    exact this.grow (by simp; omega)
end Go.Gh
namespace Go.Gh
open Go.RowKit Go.Sort Go.Shelf Go.Proofs
set_option linter.unusedVariables false
set_option linter.unusedSimpArgs false
end Go.Gh
namespace Go.Gh
open Go.RowKit Go.Proofs
set_option linter.unusedVariables false
set_option linter.unusedSimpArgs false
set_option maxRecDepth 100000
def NoCap : DV → Prop
  | .slice _ _ _ _ (some _) => False
  | _ => True
theorem append_nocap {sz b : Nat} {s x s' : DV} {σ σ' : GS} (hs : NoCap s) (h : gimp (.append sz b) [s, x] σ = some (s', σ')) : NoCap s' := by
  simp only [gimp, gappend] at h
  split at h
  · cases h
  rename_i new hr
  cases s with
  | slice id off len sz' cap =>
    cases cap with
    | some c => exact absurd hs (by simp [NoCap])
    | none =>
      simp only at h
      split at h
      · cases h; exact hs
      split at h
      · split at h
        · split at h
          · cases h; exact trivial
          · cases h
        · cases h
      · cases h
  | nils =>
    simp only at h
    split at h
    · cases h; exact hs
    split at h
    · cases h; exact trivial
    · cases h
  | fsl z es =>
    simp only at h
    split at h
    · cases h; exact hs
    · cases h
  | _ => simp at h
theorem slices_Grow_ok {n : Nat} {σ : GS} {Post : DV → GS → Prop} (hn : n < 2 ^ 40) (k : ∀ s σ', Own σ.length 1 eint σ' s [] → Fr σ.length σ σ' → NoCap s → Post s σ') : GCall Tryz.prog F_slices_Grow_int_int [.nils, .int .i64 n] σ Post := by
  refine gc_slices_Grow_int_int ?_
  have ew : IntKind.i64.wrap (n : Int) = n := by rw [wrap_small] <;> omega
  by_cases h0 : n = 0
  · subst h0
    simp [G_slices_Grow_int_int, genv0, List.replicate]
    exact k _ _ .nil .rfl' trivial
  · have hneg : ¬ ((n : Int) < 0) := by omega
    have hpos : (0 : Int) < n := by omega
    have haz : gimp (.appendz 1 8 [.int .i64 0]) [.nils, .int .i64 n] σ = some (.slice σ.length 0 n 1 none, σ ++ [.row false (List.replicate n (.int .i64 0))]) := by
      have hg : growOk n 8 = true := by simp [growOk]; omega
      simp [gimp, h0, hpos, hg, gzeros]
    have hs0 : gpure (.slice 1 false true false) [.nils, .int .i64 0] = some .nils := rfl
    have hsl : gpure (.slice 1 false true false) [.slice σ.length 0 n 1 none, .int .i64 0] = some (.slice σ.length 0 0 1 none) := by
      simp [gpure, gslice, gbm, gbh, gbl, gbound]
    simp [G_slices_Grow_int_int, genv0, List.replicate, ew, hneg, hpos, (show 0 < n by omega), hs0, haz, hsl]
    exact k _ _ (.inr ⟨σ.length, none, List.replicate n (.int .i64 0), Nat.le_refl _, rfl, by simp, by simp⟩) (Fr.self [.row false (List.replicate n (.int .i64 0))]) trivial
end Go.Gh
namespace Go.Gh
open Go.RowKit Go.Proofs
set_option linter.unusedVariables false
set_option linter.unusedSimpArgs false
set_option maxRecDepth 100000
theorem compact_snoc (x y : Int) : ∀ l : List Int, compactI (l ++ [x, y]) = if x = y then compactI (l ++ [x]) else compactI (l ++ [x]) ++ [y] := by
  by_cases h : x = y
  · subst h
    intro l
    rw [if_pos rfl]
    induction l with
    | nil => simp [compactI]
    | cons a l ih =>
      cases l with
      | nil => simp [compactI]
      | cons b l =>
        simp only [List.cons_append, compactI] at ih ⊢
        rw [ih]
  · intro l
    rw [if_neg h]
    induction l with
    | nil => simp [compactI, h]
    | cons a l ih =>
      cases l with
      | nil =>
        simp only [List.cons_append, List.nil_append, compactI, if_neg h]
        split <;> rfl
      | cons b l =>
        simp only [List.cons_append, compactI] at ih ⊢
        rw [ih]
        split <;> rfl
theorem compact_take {xs : List Int} {m : Nat} {x y : Int} (hx : xs[m]? = some x) (hy : xs[m + 1]? = some y) : compactI (xs.take (m + 2)) = if x = y then compactI (xs.take (m + 1)) else compactI (xs.take (m + 1)) ++ [y] := by
  rw [take_get hy, take_get hx, List.append_assoc]
  exact compact_snoc x y _
theorem slice_lo {id off L k : Nat} (h : k ≤ L) : gpure (.slice 1 true false false) [.slice id off L 1 none, .int .i64 (k : Int)] = some (.slice id (off + k) (L - k) 1 none) := by
  simp [gpure, gslice, gbm, gbh, gbl, gbound, h]
theorem slice_hi {id off L k : Nat} (h : k ≤ L) : gpure (.slice 1 false true false) [.slice id off L 1 none, .int .i64 (k : Int)] = some (.slice id off k 1 none) := by
  simp [gpure, gslice, gbm, gbh, gbl, gbound, h]
theorem iaddr_off {id off n i : Nat} {k : IntKind} {cap : Option Nat} (h : i < n) : gpure (.iaddr 1) [.slice id off n 1 cap, .int k (i : Int)] = some (.ptr id (off + i)) := by
  have : ((i : Int) < n) := by omega
  simp [gpure, this]
set_option maxHeartbeats 1000000 in
theorem slices_Compact_ok {n : Nat} {s : DV} {xs : List Int} {σ : GS} {Post : DV → GS → Prop} (hO : Own n 1 eint σ s xs) (hN : NoCap s) (hl : xs.length < 2 ^ 40) (hn : n ≤ σ.length)
    (k : ∀ s' σ', Own n 1 eint σ' s' (compactI xs) → Fr n σ σ' → Post s' σ') : GCall Tryz.prog F_slices_Compact_int_int [s] σ Post := by
  refine gc_slices_Compact_int_int ?_
  rcases hO with ⟨rfl, rfl⟩ | ⟨id, cap, rest, h1, rfl, h3, h4⟩
  · simp [G_slices_Compact_int_int, genv0, List.replicate]
    exact k _ _ .nil (.refl hn)
  cases cap with
  | some c => exact absurd hN (by simp [NoCap])
  | none =>
  have hid := get_dom h3
  have hfm : ∀ l : List Int, l.flatMap eint = ints l := fun l => by
    induction l with
    | nil => rfl
    | cons x l ih => rw [List.flatMap_cons, ih]; rfl
  have hcs : ∀ (j : Nat) (x : Int), xs[j]? = some x → (xs.flatMap eint ++ rest)[j]? = some (.int .i64 x) := fun j x hj => by
    have hjl := get_dom hj
    rw [hfm, List.getElem?_append_left (by simpa using hjl)]
    simp [hj]
  have hrow : ∀ (j : Nat) (x : Int), xs[j]? = some x → gload (.load 1 false) [.ptr id j] σ = some (.int .i64 x) := fun j x hj => by
    rw [ld_at h3]; exact hcs j x hj
  have same : ∀ {τ : DV}, compactI xs = xs → Post (.slice id 0 xs.length 1 none) σ := fun h => k _ _ (by rw [h]; exact .inr ⟨id, none, rest, h1, rfl, h3, fun c e => by cases e⟩) (.refl hn)
  by_cases c2 : xs.length < 2
  · have c2' : ((xs.length : Int) < 2) := by omega
    simp [G_slices_Compact_int_int, genv0, List.replicate, c2']
    refine same (τ := .nils) ?_
    match xs, c2 with
    | [], _ => rfl
    | [x], _ => rfl
  have c2' : ¬ ((xs.length : Int) < 2) := by omega
  simp [G_slices_Compact_int_int, genv0, List.replicate, c2']
  refine gfor xs.length (fun i e σ' => σ' = σ ∧ e = mkEnv 61 [(0, .slice id 0 xs.length 1 none), (3, .int .i64 ((i : Int) + 1))] ∧ compactI (xs.take (i + 1)) = xs.take (i + 1) ∧ i + 1 ≤ xs.length) _ ?_ ⟨rfl, rfl, ?_, by omega⟩ ?_
  · simp [mkEnv, List.replicate]
  · match xs with
    | [] => rfl
    | x :: xs => rfl
  rintro i _ σz hi ⟨hσz, rfl, hI, hik⟩
  rw [hσz]
  clear hσz σz
  simp [mkEnv, List.replicate]
  by_cases hlt : i + 1 < xs.length
  · obtain ⟨x, hx⟩ := get_lt (xs := xs) (i := i) (by omega)
    obtain ⟨y, hy⟩ := get_lt (xs := xs) (i := i + 1) (by omega)
    have hlt' : ((i : Int) + 1 < xs.length) := by omega
    have ia0 := iaddr_off (id := id) (off := 0) (n := xs.length) (i := i) (k := .i64) (cap := none) (by omega)
    have ia1 := iaddr_off (id := id) (off := 0) (n := xs.length) (i := i + 1) (k := .i64) (cap := none) (by omega)
    have l0 := hrow _ _ hx
    have l1 := hrow _ _ hy
    have hct := compact_take hx hy
    have ew : IntKind.i64.wrap ((i : Int) + 1 + 1) = (i : Int) + 1 + 1 := by rw [wrap_small] <;> omega
    have em : IntKind.i64.wrap (i : Int) = (i : Int) := by rw [wrap_small] <;> omega
    simp at ia0 ia1
    simp [hlt', ia0, ia1, l0, l1, em]
    by_cases hxy : y = x
    · have hsl := slice_lo (id := id) (off := 0) (L := xs.length) (k := i + 1) (by omega)
      simp at hsl
      simp [hxy, hsl]
      have hC0 : compactI (xs.take (i + 2)) = xs.take (i + 1) := by rw [hct, if_pos hxy.symm, hI]
      refine gfor xs.length (fun i2 e σ' => ∃ cs kk, e = mkEnv 61 [(0, .slice id 0 xs.length 1 none), (3, .int .i64 (kk : Nat)), (4, .slice id (i + 1) (xs.length - (i + 1)) 1 none), (5, .int .i64 ((i2 : Int) + 1))] ∧
          σ'[id]? = some (.row false cs) ∧ Fr n σ σ' ∧ cs.length = xs.length + rest.length ∧ kk = (compactI (xs.take (i + i2 + 2))).length ∧ cs.take kk = ints (compactI (xs.take (i + i2 + 2))) ∧ (∀ (j : Nat) (x : Int), kk ≤ j → xs[j]? = some x → cs[j]? = some (.int .i64 x)) ∧ i + i2 + 2 ≤ xs.length ∧ kk ≤ i + i2 + 1) _ ?_
          ⟨xs.flatMap eint ++ rest, i + 1, rfl, h3, .refl hn, by simp [hfm], ?_, ?_, fun j x _ hj => hcs j x hj, by omega, by omega⟩ ?_
      · simp [mkEnv, List.replicate]
      · rw [Nat.add_zero, hC0]; simp; omega
      · rw [Nat.add_zero, hC0, hfm, List.take_append_of_le_length (by simp; omega)]; simp
      rintro i2 _ σ' hi2 ⟨cs, kk, rfl, r1, r2, r3, r4, r5, r6, r7, r8⟩
      have hid' := get_dom r1
      simp [mkEnv, List.replicate]
      by_cases hlt2 : i + i2 + 2 < xs.length
      · obtain ⟨u, hu⟩ := get_lt (xs := xs) (i := i + i2 + 1) (by omega)
        obtain ⟨v, hv⟩ := get_lt (xs := xs) (i := i + i2 + 2) (by omega)
        have hct2 := compact_take hu hv
        have q0 := iaddr_off (id := id) (off := i + 1) (n := xs.length - (i + 1)) (i := i2) (k := .i64) (cap := none) (by omega)
        have q1 := iaddr_off (id := id) (off := i + 1) (n := xs.length - (i + 1)) (i := i2 + 1) (k := .i64) (cap := none) (by omega)
        have m0 : gload (.load 1 false) [.ptr id (i + 1 + i2)] σ' = some (.int .i64 u) := by
          rw [ld_at r1]; exact r6 _ _ (by omega) (by rw [show i + 1 + i2 = i + i2 + 1 by omega]; exact hu)
        have m1 : gload (.load 1 false) [.ptr id (i + 1 + (i2 + 1))] σ' = some (.int .i64 v) := by
          rw [ld_at r1]; exact r6 _ _ (by omega) (by rw [show i + 1 + (i2 + 1) = i + i2 + 2 by omega]; exact hv)
        have hlt2' : ((i2 : Int) + 1 < ((xs.length - (i + 1) : Nat) : Int)) := by omega
        have ew2 : IntKind.i64.wrap ((i2 : Int) + 1 + 1) = (i2 : Int) + 1 + 1 := by rw [wrap_small] <;> omega
        have em2 : IntKind.i64.wrap (i2 : Int) = (i2 : Int) := by rw [wrap_small] <;> omega
        have ek : IntKind.i64.wrap ((kk : Int) + 1) = ((kk + 1 : Nat) : Int) := by rw [wrap_small] <;> omega
        simp at q0 q1
        have ck := hlt2'
        by_cases huv : v = u
        · simp [ck, q0, q1, m0, m1, em2, huv, ew2]
          refine forK_go _ (by omega) (by simp [mkEnv, List.replicate]) ⟨cs, kk, rfl, r1, r2, r3, ?_, ?_, r6, by omega, by omega⟩
          · rw [show i + (i2 + 1) + 2 = i + i2 + 1 + 2 by omega, hct2, if_pos huv.symm]; exact r4
          · rw [show i + (i2 + 1) + 2 = i + i2 + 1 + 2 by omega, hct2, if_pos huv.symm]; exact r5
        · have q2 := iaddr_off (id := id) (off := 0) (n := xs.length) (i := kk) (k := .i64) (cap := none) (by omega)
          have hst : gimp (.store 1) [.ptr id kk, .int .i64 v] σ' = some (.tuple [], σ'.set id (.row false (cs.set kk (.int .i64 v)))) := by
            simp only [gimp, r1, DV.cells]
            rw [if_pos ⟨rfl, by show kk + 1 ≤ cs.length; omega, rfl⟩, over_one (by omega)]
          simp at q2
          simp [ck, q0, q1, m0, m1, em2, huv, ew2, q2, hst, ek]
          refine forK_go _ (by omega) (by simp [mkEnv, List.replicate]) ⟨cs.set kk (.int .i64 v), kk + 1, rfl, List.getElem?_set_self hid', r2.set h1 _, by simp [r3], ?_, ?_, fun j x hj hx => ?_, by omega, by omega⟩
          · rw [show i + (i2 + 1) + 2 = i + i2 + 1 + 2 by omega, hct2, if_neg (fun e => huv e.symm)]; simp [r4]
          · rw [show i + (i2 + 1) + 2 = i + i2 + 1 + 2 by omega, hct2, if_neg (fun e => huv e.symm)]
            rw [List.take_add_one, List.getElem?_set_self (by omega), List.take_set_of_le (Nat.le_refl _), r5]
            simp
          · rw [List.getElem?_set_ne (by omega)]; exact r6 j x (by omega) hx
      · have hlt2' : ¬ ((i2 : Int) + 1 < ((xs.length - (i + 1) : Nat) : Int)) := by omega
        have ck := hlt2'
        have he : i + i2 + 2 = xs.length := by omega
        rw [he, List.take_length] at r4 r5
        have hsl2 := slice_lo (id := id) (off := 0) (L := xs.length) (k := kk) (by omega)
        have hsh2 := slice_hi (id := id) (off := 0) (L := xs.length) (k := kk) (by omega)
        have hcl : gimp (.clear 1 [.int .i64 0]) [.slice id kk (xs.length - kk) 1 none] σ' = some (.tuple [], σ'.set id (.row false (over cs kk (List.replicate (xs.length - kk) (.int .i64 0))))) := by
          have g0 : ¬ (xs.length - kk = 0) := by omega
          have g1 : kk + (xs.length - kk) ≤ cs.length := by omega
          simp [gimp, gzeros, r1, g0, g1]
        simp at hsl2
        simp [ck, hsl2, hcl, hsh2]
        refine k _ _ (.inr ⟨id, none, (over cs kk (List.replicate (xs.length - kk) (.int .i64 0))).drop kk, h1, by rw [r4], ?_, fun c e => by cases e⟩) (r2.set h1 _)
        rw [List.getElem?_set_self hid', hfm, ← r5]
        congr 2
        unfold over
        rw [List.drop_left' (by simp; omega)]
    · simp [hxy, ew]
      refine forK_go (mkEnv 61 [(0, .slice id 0 xs.length 1 none), (3, .int .i64 ((i : Int) + 1 + 1))]) (by omega) (by simp [mkEnv, List.replicate]) ⟨rfl, by rw [Int.natCast_add]; rfl, ?_, by omega⟩
      rw [hct, if_neg (fun e => hxy e.symm), hI, take_get hy]
  · have : i + 1 = xs.length := by omega
    have hlt' : ¬ ((i : Int) + 1 < xs.length) := by omega
    rw [this, List.take_length] at hI
    simp [hlt']
    exact same (τ := .nils) hI
end Go.Gh
namespace Go.Gh
open Go.RowKit Go.Proofs
set_option linter.unusedVariables false
set_option linter.unusedSimpArgs false
set_option maxRecDepth 100000
/-- The state of copying in the reference. -/
structure RpSt (n0 : Nat) (σ σ' : GS) (id : Nat) (g : AigP) (n : Nat) (T : List Int) (m : Mk) : Prop where
  box : σ'[σ.length]? = some (.row false [fints g.ins, fands g.ands])
  row : σ'[σ.length + 1]? = some (.row false (ints T))
  mak : RkO n0 σ' id m
  stp : Rtp σ id σ'
  nf : ∀ j, j < 2 → ¬ Rt σ' id (σ.length + j)
  tl : T.length = n
theorem RpSt.step {n0 id n : Nat} {σ σ' σ2 : GS} {g : AigP} {T : List Int} {m m' : Mk} (h : RpSt n0 σ σ' id g n T m) (hm : RkO n0 σ2 id m') (hs : Rtp σ' id σ2) : RpSt n0 σ σ2 id g n T m' := by
  have hk : ∀ j o, j < 2 → σ'[σ.length + j]? = some o → σ2[σ.length + j]? = some o := fun j o hj ho => (hs.get _ (get_dom ho) (h.nf j hj)).trans ho
  exact ⟨hk 0 _ (by omega) h.box, hk 1 _ (by omega) h.row, hm, h.stp.trans hs, fun j hj => hs.ft _ (by have := get_dom h.row; omega) (h.nf j hj), h.tl⟩
theorem RpSt.set {n0 id n : Nat} {σ σ' : GS} {g : AigP} {T : List Int} {m : Mk} (h : RpSt n0 σ σ' id g n T m) (i : Nat) (x : Int) : RpSt n0 σ (σ'.set (σ.length + 1) (.row false (ints (T.set i x)))) id g n (T.set i x) m := by
  have hne : ∀ j, j ≠ σ.length + 1 → (σ'.set (σ.length + 1) (.row false (ints (T.set i x))))[j]? = σ'[j]? := fun j hj => List.getElem?_set_ne (Ne.symm hj)
  have hfne : ∀ j, Rt σ' id j → j ≠ σ.length + 1 := fun j hj e => h.nf 1 (by omega) (e ▸ hj)
  have hid := hne id (hfne id (.inl rfl))
  exact ⟨(hne _ (by omega)).trans h.box, List.getElem?_set_self (get_dom h.row), h.mak.fit fun j hj => hne j (hfne j hj), ⟨by simpa using h.stp.len, fun i hi hf => (hne i (by omega)).trans (h.stp.get i hi hf), fun i hi hf => by rw [h.mak.ft_eq hid]; exact h.stp.ft i hi hf⟩, fun j hj => by rw [h.mak.ft_eq hid]; exact h.nf j hj, by simp [h.tl]⟩
end Go.Gh
namespace Go.Gh
open Go.RowKit Go.Proofs
set_option linter.unusedVariables false
set_option linter.unusedSimpArgs false
set_option maxRecDepth 100000
theorem ref_Abs_ok {x : Int} {σ : GS} {Post : DV → GS → Prop} (h : Post (.int .i64 (gabs x)) σ) : GCall Tryz.prog F_skolemref05_Abs [.int .i64 x] σ Post := by
  refine gc_skolemref05_Abs ?_
  unfold gabs at h
  by_cases c : x < 0
  · rw [if_pos c] at h
    simp [G_skolemref05_Abs, genv0, List.replicate, c]
    exact h
  · rw [if_neg c] at h
    simp [G_skolemref05_Abs, genv0, List.replicate, c]
    exact h
theorem ref_variable_ok {v : Int} {σ : GS} {Post : DV → GS → Prop} (h : Post (.bool (isVar v)) σ) : GCall Tryz.prog F_skolemref05_variable [.int .i64 v] σ Post := by
  refine gc_skolemref05_variable ?_
  by_cases h1 : 1 ≤ v <;> simp [G_skolemref05_variable, genv0, List.replicate, h1] <;> simpa [isVar, h1] using h
theorem ref_Normal_ok {a : List Int} {σ : GS} {Post : DV → GS → Prop} (hl : a.length < 2 ^ 50) (h : Post (.bool (normal a)) σ) : GCall Tryz.prog F_skolemref05_Normal [fints a] σ Post := by
  rw [normal_eq] at h
  refine gc_skolemref05_Normal ?_
  simp [G_skolemref05_Normal, genv0, List.replicate]
  refine gfor a.length (fun i e σ' => σ' = σ ∧ (∃ last, normR 0 a = normR last (a.drop i) ∧ (i = 0 → last = 0) ∧ ∀ j, j + 1 = i → ∃ y, a[j]? = some y ∧ last = gabs y) ∧ e = mkEnv 35 [(0, fints a), (3, .int .i64 i)]) _ ?_ ⟨rfl, ⟨0, by simp, fun _ => rfl, fun j h => by omega⟩, rfl⟩ ?_
  · simp [mkEnv, List.replicate]
  rintro i _ _ hi ⟨rfl, ⟨last, hI, hl0, hl1⟩, rfl⟩
  simp [mkEnv, List.replicate]
  by_cases hlt : i < a.length
  · obtain ⟨y, hy⟩ := nth_lt hlt
    have hy' := nth_get hy
    rw [drop_get hy] at hI
    have es : IntKind.i64.wrap ((i : Int) + 1) = (i : Int) + 1 := by rw [wrap_small] <;> omega
    simp [hlt, hy]
    refine ref_Abs_ok ?_
    simp
    refine ref_variable_ok ?_
    by_cases hv : isVar (gabs y) = true
    · cases i with
      | zero =>
        have := hl0 rfl
        subst this
        have h3 : 0 < gabs y := by have := hv; simp only [isVar, Bool.and_eq_true, decide_eq_true_eq] at this; omega
        simp [hv]
        refine forK_go _ hlt (by simp [mkEnv, List.replicate]) ⟨rfl, ⟨gabs y, by simp [hI, normR, hv, h3], fun e => by omega, fun j hj => ?_⟩, rfl⟩
        have : j = 0 := by omega
        subst this; exact ⟨y, hy', rfl⟩
      | succ i =>
        obtain ⟨z, hz, hlz⟩ := hl1 i rfl
        have hz' : nth a i = some z := hz
        have hge : (0 : Int) ≤ (i : Int) + 1 := by omega
        have hgt : (0 : Int) < (i : Int) + 1 := by omega
        have htn : ((i : Int) + 1).toNat = i + 1 := by omega
        have ew' : IntKind.i64.wrap (i : Int) = i := by rw [wrap_small] <;> omega
        have es2 : IntKind.i64.wrap ((i : Int) + 1 + 1) = (i : Int) + 1 + 1 := by rw [wrap_small] <;> omega
        simp [hv, hge, hgt, htn, hy, ew', hz']
        refine ref_Abs_ok ?_
        simp [hge, htn, hy, ew', hz']
        refine ref_Abs_ok ?_
        by_cases h4 : gabs y ≤ last
        · have h5 : ¬ last < gabs y := by omega
          rw [hlz] at h4 h5
          simp [h4]
          rw [hI, hlz] at h
          simpa [normR, hv, h5] using h
        · have h5 : last < gabs y := by omega
          rw [hlz] at h4
          simp [h4, es2]
          refine forK_go _ hlt (by simp [mkEnv, List.replicate]) ⟨rfl, ⟨gabs y, by simp [hI, normR, hv, h5], fun e => by omega, fun j hj => ?_⟩, rfl⟩
          have : j = i + 1 := by omega
          subst this; exact ⟨y, hy', rfl⟩
    · simp [hv]
      simpa [hI, normR, hv] using h
  · have : i = a.length := by omega
    subst this
    simp
    simpa [hI, normR] using h
theorem ref_Ints_ok {xs ys : List Int} {σ : GS} {Post : DV → GS → Prop} (hl : xs.length < 2 ^ 60) (h : Post (.bool (decide (xs = ys))) σ) : GCall Tryz.prog F_skolemref05_Ints [fints xs, fints ys] σ Post := by
  refine gc_skolemref05_Ints ?_
  by_cases hlen : xs.length = ys.length
  rotate_left
  · have hne : xs ≠ ys := fun e => hlen (by rw [e])
    have hlen' : ¬ ((xs.length : Int) = ys.length) := by omega
    simp [G_skolemref05_Ints, genv0, List.replicate, hlen']
    simpa [hne] using h
  simp [G_skolemref05_Ints, genv0, List.replicate, hlen]
  refine gfor xs.length (fun i e σ' => σ' = σ ∧ (xs = ys ↔ xs.drop i = ys.drop i) ∧ e = mkEnv 26 [(0, fints xs), (1, fints ys), (5, .int .i64 i)]) _ ?_ ⟨rfl, by simp, rfl⟩ ?_
  · simp [mkEnv, List.replicate]
  rintro i _ _ hi ⟨rfl, hI, rfl⟩
  simp [mkEnv, List.replicate]
  by_cases hlt : i < xs.length
  · obtain ⟨x, hx⟩ := nth_lt hlt
    obtain ⟨y, hy⟩ := nth_lt (l := ys) (i := i) (by omega)
    rw [drop_get hx, drop_get hy, List.cons.injEq] at hI
    have es : IntKind.i64.wrap ((i : Int) + 1) = (i : Int) + 1 := by rw [wrap_small] <;> omega
    by_cases c : x = y
    · simp [hlt, hx, hy, c, es]
      exact forK_go _ hlt (by simp [mkEnv, List.replicate]) ⟨rfl, by rw [hI]; simp [c], rfl⟩
    · have hne : xs ≠ ys := fun e => c (hI.1 e).1
      simp [hlt, hx, hy, c]
      simpa [hne] using h
  · have : i = xs.length := by omega
    subst this
    have he : xs = ys := hI.2 (by rw [List.drop_length, hlen, List.drop_length])
    simp
    simpa [he] using h
end Go.Gh
namespace Go.Gh
open Go.RowKit Go.Proofs
set_option linter.unusedVariables false
set_option linter.unusedSimpArgs false
set_option maxRecDepth 100000
/-- The variable of a literal; 0 of what is none. -/
def absE (x : Int) : Int := if x < -65536 ∨ 65536 < x then 0 else ab x
theorem absE_in {x : Int} (h : -65536 ≤ x ∧ x ≤ 65536) : absE x = ab x := if_neg (by omega)
theorem enc_abs_ok {x : Int} {σ : GS} {Post : DV → GS → Prop} (h : Post (.int .i64 (absE x)) σ) : GCall Tryz.prog F_enc_abs [.int .i64 x] σ Post := by
  refine gc_enc_abs ?_
  by_cases h1 : x < -65536
  · rw [show absE x = 0 from if_pos (.inl h1)] at h
    simp [G_enc_abs, genv0, List.replicate, h1]
    exact h
  by_cases h2 : 65536 < x
  · rw [show absE x = 0 from if_pos (.inr h2)] at h
    simp [G_enc_abs, genv0, List.replicate, h1, h2]
    exact h
  have e : IntKind.i64.wrap (-x) = -x := by rw [wrap_small] <;> omega
  have e2 : max x (-x) = absE x := by rw [absE_in (by omega)]; unfold ab; split <;> omega
  simp [G_enc_abs, genv0, List.replicate, h1, h2, e, e2]
  exact h
/-- Is a list in the order of variables, and are these above a number? -/
def nrmE (last : Int) : List Int → Bool
  | [] => true
  | x :: l => if absE x ≤ last then false else nrmE (absE x) l
theorem nrmE_in : ∀ {l : List Int} {last : Int}, (∀ x ∈ l, -65536 ≤ x ∧ x ≤ 65536) → nrmE last l = nrmA last l
  | [], _, _ => rfl
  | x :: l, last, h => by rw [nrmE, nrmA, absE_in (h x (by simp)), nrmE_in fun y hy => h y (by simp [hy])]
theorem enc_normal_ok {l : List Int} {σ : GS} {Post : DV → GS → Prop} (hl : l.length < 2 ^ 60) (h : Post (.bool (nrmE 0 l)) σ) : GCall Tryz.prog F_enc_normal [fints l] σ Post := by
  refine gc_enc_normal ?_
  simp [G_enc_normal, genv0, List.replicate]
  refine gfor l.length (fun i e σ' => σ' = σ ∧ ∃ last, nrmE 0 l = nrmE last (l.drop i) ∧ e = mkEnv 19 [(3, .int .i64 last), (6, fints l), (7, .int .i64 l.length), (8, .int .i64 i)]) _ ?_ ⟨rfl, 0, by simp, rfl⟩ ?_
  · simp [mkEnv, List.replicate]
  rintro i _ _ hi ⟨rfl, last, hI, rfl⟩
  simp [mkEnv, List.replicate]
  by_cases hlt : i < l.length
  · obtain ⟨x, hx⟩ := nth_lt hlt
    have es : IntKind.i64.wrap ((i : Int) + 1) = (i : Int) + 1 := by rw [wrap_small] <;> omega
    rw [drop_get hx, nrmE] at hI
    simp [hlt, hx]
    refine enc_abs_ok ?_
    by_cases c : absE x ≤ last
    · rw [if_pos c] at hI
      rw [hI] at h
      simp [c]
      exact h
    · rw [if_neg c] at hI
      simp [c]
      refine enc_abs_ok ?_
      simp [es]
      exact forK_go _ hlt (by simp [mkEnv, List.replicate]) ⟨rfl, absE x, hI, rfl⟩
  · have : i = l.length := by omega
    subst this
    rw [List.drop_length] at hI
    rw [hI] at h
    simp
    exact h
theorem enc_normal_live {m : Nat} {s : DV} {l : List Int} {σ : GS} {Post : DV → GS → Prop} (hO : Own m 1 eint σ s l) (hl : l.length < 2 ^ 60) (h : Post (.bool (nrmE 0 l)) σ) : GCall Tryz.prog F_enc_normal [s] σ Post := by
  refine GCall.borrow (args' := [fints l]) (r := .bool (nrmE 0 l)) (.cons (hO.rd (fun _ => rfl) fun _ _ => trivial) .nil) (by simp) rfl ?_ h
  exact enc_normal_ok hl rfl
theorem append_cap0 {sz b id : Nat} {x s' : DV} {σ σ' : GS} (hx : glen x ≠ 0) (h : gimp (.append sz b) [.slice id 0 0 sz (some 0), x] σ = some (s', σ')) : NoCap s' := by
  simp only [gimp, gappend] at h
  split at h
  · cases h
  simp only [if_neg hx] at h
  repeat' (split at h)
  all_goals first | (cases h; done) | skip
  all_goals first | (exfalso; omega) | (cases h; exact trivial)
/-- A copy of one's own. -/
theorem clone_nc {m : Nat} {s : DV} {xs : List Int} {σ : GS} {Post : DV → GS → Prop} (hO : Own m 1 eint σ s xs) (hl : xs.length < 2 ^ 43)
    (k : ∀ s' σ', Own σ.length 1 eint σ' s' xs → Fr σ.length σ σ' → (NoCap s' ∨ xs = []) → Post s' σ') : GCall Tryz.prog F_slices_Clone_int_int [s] σ Post := by
  refine gc_slices_Clone_int_int ?_
  simp [G_slices_Clone_int_int, genv0, List.replicate]
  refine eqn_any ?_ fun b hb => ?_
  · rcases hO with ⟨rfl, _⟩ | ⟨id, cap, rest, _, rfl, _⟩ <;> simp only [nilq]
    · simp
    · split <;> simp
  cases b with
  | true =>
    have : xs = [] := by
      rcases hO with ⟨rfl, h⟩ | ⟨id, cap, rest, _, rfl, _⟩
      · exact h
      · simp only [nilq] at hb
        split at hb
        · simp at hb
        · exact List.length_eq_zero_iff.1 (by omega)
    subst this
    simp
    exact k .nils σ .nil (.refl (Nat.le_refl _)) (.inr rfl)
  | false =>
    have h0 : Own σ.length 1 eint (σ ++ [.row false (gzeros [.int .i64 0] 0)]) (.slice σ.length 0 0 1 (some 0)) ([] : List Int) := .inr ⟨σ.length, some 0, [], Nat.le_refl _, by simp, by simp [gzeros], fun c hc => by cases hc; simp⟩
    obtain ⟨r1, r2⟩ := (hO.fr (Fr.rfl'.app [.row false (gzeros [.int .i64 0] 0)])).read fun _ => rfl
    obtain ⟨s', σ', q1, q2, q3, q4, q5, q6, q7⟩ := h0.append (by_ := 8) (ys := xs) (x := s) (fun _ => rfl) r1 r2 (fun y _ => by simp) (by simp) (by simp; omega) (by decide)
    simp [q1]
    refine k s' σ' (by simpa using q2) (((Fr.refl (Nat.le_refl _)).app _).trans q3) ?_
    by_cases hx : xs = []
    · exact .inr hx
    · exact .inl (append_cap0 (by rw [r2]; intro e; exact hx (List.length_eq_zero_iff.1 e)) q1)
theorem compact_nc {n : Nat} {s : DV} {xs : List Int} {σ : GS} {Post : DV → GS → Prop} (hO : Own n 1 eint σ s xs) (hN : NoCap s ∨ xs = []) (hl : xs.length < 2 ^ 40) (hn : n ≤ σ.length)
    (k : ∀ s' σ', Own n 1 eint σ' s' (compactI xs) → Fr n σ σ' → Post s' σ') : GCall Tryz.prog F_slices_Compact_int_int [s] σ Post := by
  rcases hN with hN | rfl
  · exact slices_Compact_ok hO hN hl hn k
  · refine gc_slices_Compact_int_int ?_
    have hlen := hO.len
    simp at hlen
    simp [G_slices_Compact_int_int, genv0, List.replicate, hlen]
    exact k _ _ hO (.refl hn)
end Go.Gh
namespace Go.Gh
open Go.RowKit Go.Sort Go.Shelf Go.Proofs
set_option linter.unusedVariables false
set_option linter.unusedSimpArgs false
def sortf_ren : Go.Shelf.Ren := ⟨fun | 6 => 156 | 15 => 202 | 14 => 201 | 28 => 229 | 29 => 230 | 20 => 221 | 21 => 222 | 22 => 223 | 23 => 224 | 24 => 225 | 25 => 226 | 26 => 227 | 27 => 228 | 46 => 234 | 47 => 235 | 48 => 236 | 49 => 237 | 50 => 238 | 57 => 239 | n => n, fun | 22 => 23 | 24 => 3 | 25 => 183 | 3 => 3 | 39 => 142 | 0 => 0 | 53 => 262 | 55 => 264 | 4 => 4 | 46 => 256 | 45 => 255 | 50 => 181 | 5 => 5 | 9 => 9 | 66 => 266 | 70 => 270 | 76 => 272 | 77 => 273 | n => n, fun | n => n⟩
theorem sortf_lays : Go.Proofs.SlLaysF.n6 Tryz.prog sortf_ren := {
  mixed := by kernel_rfl
  f6 := ⟨ "slices.SortFunc[[]int,int]", by decide, Tryz.func156.trans (congrArg some (by kernel_rfl))⟩
  f14 := ⟨ "slices.pdqsortCmpFunc[int]", by decide, Tryz.func201.trans (congrArg some (by kernel_rfl))⟩
  f15 := Tryz.func202.trans (congrArg some (by kernel_rfl))
  f20 := ⟨ "slices.insertionSortCmpFunc[int]", by decide, Tryz.func221.trans (congrArg some (by kernel_rfl))⟩
  f21 := ⟨ "slices.heapSortCmpFunc[int]", by decide, Tryz.func222.trans (congrArg some (by kernel_rfl))⟩
  f22 := ⟨ "slices.breakPatternsCmpFunc[int]", by decide, Tryz.func223.trans (congrArg some (by kernel_rfl))⟩
  f23 := ⟨ "slices.choosePivotCmpFunc[int]", by decide, Tryz.func224.trans (congrArg some (by kernel_rfl))⟩
  f24 := ⟨ "slices.reverseRangeCmpFunc[int]", by decide, Tryz.func225.trans (congrArg some (by kernel_rfl))⟩
  f25 := ⟨ "slices.partialInsertionSortCmpFunc[int]", by decide, Tryz.func226.trans (congrArg some (by kernel_rfl))⟩
  f26 := ⟨ "slices.partitionEqualCmpFunc[int]", by decide, Tryz.func227.trans (congrArg some (by kernel_rfl))⟩
  f27 := ⟨ "slices.partitionCmpFunc[int]", by decide, Tryz.func228.trans (congrArg some (by kernel_rfl))⟩
  f28 := Tryz.func229.trans (congrArg some (by kernel_rfl))
  f29 := Tryz.func230.trans (congrArg some (by kernel_rfl))
  f46 := ⟨ "slices.siftDownCmpFunc[int]", by decide, Tryz.func234.trans (congrArg some (by kernel_rfl))⟩
  f47 := Tryz.func235.trans (congrArg some (by kernel_rfl))
  f48 := Tryz.func236.trans (congrArg some (by kernel_rfl))
  f49 := ⟨ "slices.medianAdjacentCmpFunc[int]", by decide, Tryz.func237.trans (congrArg some (by kernel_rfl))⟩
  f50 := ⟨ "slices.medianCmpFunc[int]", by decide, Tryz.func238.trans (congrArg some (by kernel_rfl))⟩
  f57 := ⟨ "slices.order2CmpFunc[int]", by decide, Tryz.func239.trans (congrArg some (by kernel_rfl))⟩
  t0 := Tryz.underlying0
  a0 := Tryz.isAgg0
  z0 := Tryz.sizeOf0
  v0 := Tryz.zeroValue0
  t3 := Tryz.underlying3
  a3 := Tryz.isAgg3
  z3 := Tryz.sizeOf3
  v3 := Tryz.zeroValue3
  t4 := Tryz.underlying4
  a4 := Tryz.isAgg4
  z4 := Tryz.sizeOf4
  v4 := Tryz.zeroValue4
  t5 := Tryz.underlying5
  a5 := Tryz.isAgg5
  z5 := Tryz.sizeOf5
  v5 := Tryz.zeroValue5
  t9 := Tryz.underlying9
  a9 := Tryz.isAgg9
  z9 := Tryz.sizeOf9
  v9 := Tryz.zeroValue9
  t22 := Tryz.underlying23
  a22 := Tryz.isAgg23
  z22 := Tryz.sizeOf23
  v22 := Tryz.zeroValue23
  a24 := Tryz.isAgg3
  z24 := Tryz.sizeOf3
  t25 := Tryz.underlying183
  a25 := Tryz.isAgg183
  z25 := Tryz.sizeOf183
  v25 := Tryz.zeroValue183
  t39 := Tryz.underlying142
  a39 := Tryz.isAgg142
  z39 := Tryz.sizeOf142
  v39 := Tryz.zeroValue142
  t45 := Tryz.underlying255
  a45 := Tryz.isAgg255
  z45 := Tryz.sizeOf255
  v45 := Tryz.zeroValue255
  t46 := Tryz.underlying256
  a46 := Tryz.isAgg256
  z46 := Tryz.sizeOf256
  v46 := Tryz.zeroValue256
  t50 := Tryz.underlying181
  a50 := Tryz.isAgg181
  z50 := Tryz.sizeOf181
  v50 := Tryz.zeroValue181
  t53 := Tryz.underlying262
  a53 := Tryz.isAgg262
  z53 := Tryz.sizeOf262
  v53 := Tryz.zeroValue262
  t55 := Tryz.underlying264
  a55 := Tryz.isAgg264
  z55 := Tryz.sizeOf264
  v55 := Tryz.zeroValue264
  t66 := Tryz.underlying266
  a66 := Tryz.isAgg266
  z66 := Tryz.sizeOf266
  v66 := Tryz.zeroValue266
  t70 := Tryz.underlying270
  a70 := Tryz.isAgg270
  z70 := Tryz.sizeOf270
  v70 := Tryz.zeroValue270
  t76 := Tryz.underlying272
  a76 := Tryz.isAgg272
  z76 := Tryz.sizeOf272
  v76 := Tryz.zeroValue272
  t77 := Tryz.underlying273
  a77 := Tryz.isAgg273
  z77 := Tryz.sizeOf273
  v77 := Tryz.zeroValue273 }
end Go.Gh
namespace Go.Gh
open Go.RowKit Go.Sort Go.Proofs Go.Shelf Go.Lib
set_option linter.unusedVariables false
set_option linter.unusedSimpArgs false
set_option maxRecDepth 100000
set_option maxHeartbeats 1000000 in
theorem abs_calls (x : Int) (h : -65536 ≤ x ∧ x ≤ 65536) (W : World) : Calls Tryz.prog 78 #[.int .i64 x] W fun e w' => e = .returned (.int .i64 (ab x)) ∧ w' = W := by
  have e : IntKind.i64.wrap (-x) = -x := by rw [wrap_small] <;> omega
  have d1 : decide (x < -65536) = false := by simp; omega
  have d2 : decide (x > 65536) = false := by simp; omega
  have e2 : max x (-x) = ab x := by unfold ab; split <;> omega
  go_enter Tryz.func78, Tryz.ntmps78
  go_wp2
  go_ret
  exact ⟨rfl, rfl⟩
theorem ab_le {x : Int} (h : -65536 ≤ x ∧ x ≤ 65536) : 0 ≤ ab x ∧ ab x ≤ 65536 := by unfold ab; split <;> omega
set_option maxHeartbeats 1000000 in
theorem put_cmp (x y : LitV) (W : World) : Calls Tryz.prog 157 #[.int .i64 x.1, .int .i64 y.1] W fun e w' => e = .returned (.int .i64 (cfL x y)) ∧ ∃ q os', w' = grow (W.drewN q) os' := by
  obtain ⟨x, hx⟩ := x
  obtain ⟨y, hy⟩ := y
  have cx := fun W' => abs_calls x hx W'
  have cy := fun W' => abs_calls y hy W'
  have hax := ab_le hx
  have hay := ab_le hy
  show Calls Tryz.prog 157 #[.int .i64 x, .int .i64 y] W fun e w' => e = .returned (.int .i64 (if ab x = ab y then x - y else ab x - ab y)) ∧ ∃ q os', w' = grow (W.drewN q) os'
  have e1 : IntKind.i64.wrap (x - y) = x - y := by rw [wrap_small] <;> omega
  have e2 : IntKind.i64.wrap (ab x - ab y) = ab x - ab y := by rw [wrap_small] <;> omega
  generalize ab x = a at *
  generalize ab y = b at *
  have hr : ∀ c : Prop, (∃ q os', W = grow (W.drewN q) os') := fun _ => ⟨0, #[], by rw [grow_empty]; rfl⟩
  go_enter Tryz.func157, Tryz.ntmps157
  by_cases c : a = b
  · have d : (a == b) = true := by simpa using c
    have d' : (a != b) = false := by simpa using c
    have d'' : decide (a ≠ b) = false := by simpa using c
    rw [if_pos c]
    go_wp2_with (go_at_call 78; first | (with_reducible refine (cx _).mono ?_; rintro e w' ⟨rfl, rfl⟩) | (with_reducible refine (cy _).mono ?_; rintro e w' ⟨rfl, rfl⟩))
    go_ret
    exact ⟨rfl, hr True⟩
  · rw [if_neg c]
    have d : (a == b) = false := by simpa using c
    have d' : (a != b) = true := by simpa using c
    have d'' : decide (a ≠ b) = true := by simpa using c
    go_wp2_with (go_at_call 78; first | (with_reducible refine (cx _).mono ?_; rintro e w' ⟨rfl, rfl⟩) | (with_reducible refine (cy _).mono ?_; rintro e w' ⟨rfl, rfl⟩))
    go_ret
    exact ⟨rfl, hr True⟩
theorem sortLC : SortLC Tryz.prog 156 157 := by
  have eg : ∀ args w, (callFunc 157 args).run Tryz.prog w = .ok (.enter 157 args) w := enters_of Tryz.func157 (by kernel_rfl) rfl
  refine ⟨fun blk off cap d w hH hblk hsz => ?_, fun p cap w => AnyF.slices_SortFunc_none (ρ := sortf_ren) { sortf_lays with } p cap _ w⟩
  exact Any.slices_SortFunc_total sortf_lays encL (fun x => rfl) cfL swoL 157 #[] blk off cap d w eg (fun _ _ _ _ x y => put_cmp x y _) hH hblk hsz totL
theorem sortLX : ∃ fn, Tryz.prog.funcs[156]? = some fn ∧ (fn.name == "runtime.NumGoroutine") = false ∧ fn.body.isSome = true :=
  ⟨Tryz.f156, Tryz.func156, by decide, rfl⟩
end Go.Gh
namespace Go.Gh
open Go.RowKit Go.Proofs
set_option linter.unusedVariables false
set_option linter.unusedSimpArgs false
set_option maxRecDepth 100000
/-- A list of clauses that grows, behind a pointer. -/
def CB (n : Nat) (σ : GS) (id : Nat) (cs : List (List Int)) : Prop := ∃ s raws, (id < n ∧ n ≤ σ.length) ∧ σ[id]? = some (.row false [s]) ∧ LX n σ s raws cs
/-- What a list of clauses writes. -/
def Fc (σ : GS) (id i : Nat) : Prop := i = id ∨ ∃ s, σ[id]? = some (.row false [s]) ∧ s.has i
structure Stc (σ : GS) (id : Nat) (σ' : GS) : Prop where
  len : σ.length ≤ σ'.length
  get : ∀ i, i < σ.length → ¬ Fc σ id i → σ'[i]? = σ[i]?
  ft : ∀ i, i < σ.length → ¬ Fc σ id i → ¬ Fc σ' id i
theorem Stc.refl (σ : GS) (id : Nat) : Stc σ id σ := ⟨Nat.le_refl _, fun _ _ _ => rfl, fun _ _ h => h⟩
theorem Stc.trans {a b c : GS} {id : Nat} (h : Stc a id b) (k : Stc b id c) : Stc a id c :=
  ⟨Nat.le_trans h.len k.len, fun i hi hf => (k.get i (by have := h.len; omega) (h.ft i hi hf)).trans (h.get i hi hf), fun i hi hf => k.ft i (by have := h.len; omega) (h.ft i hi hf)⟩
theorem CB.dom {n id : Nat} {σ : GS} {cs : List (List Int)} (h : CB n σ id cs) : id < n ∧ n ≤ σ.length ∧ id < σ.length := by
  obtain ⟨s, raws, h1, h2, _⟩ := h
  exact ⟨h1.1, h1.2, get_dom h2⟩
theorem CB.keep {n id : Nat} {σ σ' : GS} {cs : List (List Int)} (h : CB n σ id cs) (hl : σ.length ≤ σ'.length) (k : ∀ i, i < σ.length → σ'[i]? = σ[i]?) : CB n σ' id cs := by
  obtain ⟨s, raws, h1, h2, h3⟩ := h
  exact ⟨s, raws, ⟨h1.1, by omega⟩, (k id (get_dom h2)).trans h2, h3.fit fun i hi => k i (h3.lt hi).2⟩
/-- Objects below the bound may change, but for the pointer's own. -/
theorem CB.other {n id : Nat} {σ σ' : GS} {cs : List (List Int)} (h : CB n σ id cs) (hl : σ.length ≤ σ'.length) (k : ∀ i, i < σ.length → (i = id ∨ n ≤ i) → σ'[i]? = σ[i]?) : CB n σ' id cs := by
  obtain ⟨s, raws, h1, h2, h3⟩ := h
  exact ⟨s, raws, ⟨h1.1, by omega⟩, (k id (get_dom h2) (.inl rfl)).trans h2, h3.fit fun i hi => k i (h3.lt hi).2 (.inr (h3.lt hi).1)⟩
theorem CB.fcDom {n id : Nat} {σ : GS} {cs : List (List Int)} (h : CB n σ id cs) {i : Nat} (hf : Fc σ id i) : (i = id ∨ n ≤ i) ∧ i < σ.length := by
  obtain ⟨s, raws, h1, h2, h3⟩ := h
  rcases hf with rfl | ⟨s', hs, hi⟩
  · exact ⟨.inl rfl, get_dom h2⟩
  · rw [h2] at hs; cases hs; exact ⟨.inr (h3.lt (.inl hi)).1, (h3.lt (.inl hi)).2⟩
/-- What grows behind leaves it. -/
theorem CB.stc {n id : Nat} {σ σ' : GS} {cs : List (List Int)} (h : CB n σ id cs) (hl : σ.length ≤ σ'.length) (k : ∀ i, i < σ.length → σ'[i]? = σ[i]?) : Stc σ id σ' := by
  refine ⟨hl, fun i hi _ => k i hi, fun i hi hf hf' => hf ?_⟩
  rcases hf' with h1 | ⟨s, h1, h2⟩
  · exact .inl h1
  · exact .inr ⟨s, by rw [← k id h.dom.2.2]; exact h1, h2⟩
theorem CB.app {n id : Nat} {σ : GS} {cs : List (List Int)} (h : CB n σ id cs) (τ : GS) : CB n (σ ++ τ) id cs := h.keep (by simp) fun i hi => List.getElem?_append_left hi
theorem CB.stcApp {n id : Nat} {σ : GS} {cs : List (List Int)} (h : CB n σ id cs) (τ : GS) : Stc σ id (σ ++ τ) := h.stc (by simp) fun i hi => List.getElem?_append_left hi
/-- A literal. -/
def Lt (x : Int) : Prop := x ≠ 0 ∧ -65536 ≤ x ∧ x ≤ 65536
theorem Lt.neg {x : Int} (h : Lt x) : Lt (-x) := by unfold Lt at *; omega
theorem Lt.wrapN {x : Int} (h : Lt x) : IntKind.i64.wrap (-x) = -x := by unfold Lt at h; rw [wrap_small] <;> omega
theorem perm_all {l m : List Int} {p : Int → Prop} (hp : l.Perm m) (h : ∀ x ∈ l, p x) : ∀ x ∈ m, p x := fun x hx => h x (hp.mem_iff.2 hx)
theorem enc_put_ok {n m id : Nat} {cs : List (List Int)} {l : DV} {raw : List Int} {σ : GS} {Post : DV → GS → Prop} (hB : CB n σ id cs) (hO : Own m 1 eint σ l raw) (hl : raw.length < 2 ^ 30) (hlit : ∀ x ∈ raw, Lt x) (hcs : cs.length < 2 ^ 40)
    (k : ∀ σ', CB n σ' id (cs ++ (normL raw).toList) → Stc σ id σ' → Post (.tuple []) σ') : GCall Tryz.prog F_enc_clauses_put [.ptr id 0, l] σ Post := by
  have hB0 := hB
  obtain ⟨s, raws, ⟨hn, hn2⟩, hrow, hX⟩ := hB
  have hid := get_dom hrow
  refine gc_enc_clauses_put ?_
  simp [G_enc_clauses_put, genv0, List.replicate]
  refine clone_nc hO (by omega) fun s1 σ1 o1 f1 c1 => ?_
  simp
  refine (Own.sortL (f := 156) (g := 157) sortLC sortLX o1 (fun x hx => (hlit x hx).2) (by omega) f1.len).mono ?_
  rintro v σ2 ⟨rfl, ys, hp, hs, o2, f2, l2, _⟩
  simp
  have hyl := hp.length_eq
  have hylit := perm_all hp hlit
  refine compact_nc o2 (c1.imp (fun h => h) fun h => List.length_eq_zero_iff.1 (by rw [← hyl, h]; rfl)) (by omega) f2.len fun s3 σ3 o3 f3 => ?_
  simp
  have hcl := compact_len ys
  have hclit : ∀ x ∈ compactI ys, Lt x := fun x hx => hylit x ((mem_compactI _ _).1 hx)
  refine enc_normal_live o3 (by omega) ?_
  have hnp := norm_prog hp hs fun x hx => (hlit x hx).1
  rw [nrmE_in fun x hx => (hclit x hx).2]
  have hF : Fr σ.length σ σ3 := (f1.trans f2).trans f3
  have hk : ∀ i, i < σ.length → σ3[i]? = σ[i]? := hF.get
  by_cases c : nrmA 0 (compactI ys) = true
  rotate_left
  · rw [if_neg c] at hnp
    rw [hnp] at k
    simp only [Option.toList, List.append_nil] at k
    simp [c]
    exact k _ (hB0.keep hF.len hk) (hB0.stc hF.len hk)
  rw [if_pos c] at hnp
  rw [hnp] at k
  simp only [Option.toList] at k
  have hld : gload (.load 1 false) [.ptr id 0] σ3 = some s := by rw [ld_at ((hk id hid).trans hrow)]; rfl
  have hX3 : LX n σ3 s raws cs := hX.fit fun i hi => hk i (hX.lt hi).2
  have hba : galloc (.bslice 1 [.nils] 1 [(0, 1)]) [s3] = some (.row false [s3], fun id => .slice id 0 1 1 (some 1)) := ga_b1_flat o3.flat
  obtain ⟨s', σ4, q1, q2, q3, q4, q5, q6⟩ := hX3.push (r := s3) (c := compactI ys) (.inr ⟨o3.weaken (by omega), fun i hi hi' => by have := o3.has_ge hi; have := (hX.lt (.inl hi')).2; omega⟩) (by have := hF.len; omega) (by omega)
  have hrow4 : σ4[id]? = some (.row false [s]) := (q5 id (by have := hF.len; omega) fun h => by have := (hX.lt (.inl h)).1; omega).trans ((hk id hid).trans hrow)
  have hst : gimp (.store 1) [.ptr id 0, s'] σ4 = some (.tuple [], σ4.set id (.row false [s'])) := by
    simp [gimp, hrow4, cells_of_flat q2.own.flat, over, q2.own.flat]
  simp [c, hld, hba, q1, hst]
  have hset : ∀ i, i ≠ id → (σ4.set id (.row false [s']))[i]? = σ4[i]? := fun i hi => List.getElem?_set_ne (Ne.symm hi)
  have hnew : ∀ j, LHas s' (raws ++ [s3]) j → j ≠ id := by
    intro j hj e
    rcases hj with hj | ⟨r, hr, hj⟩
    · rcases q6 j hj with h | h
      · have := (hX.lt (.inl h)).1; omega
      · have := hF.len; omega
    · rcases List.mem_append.1 hr with hr | hr
      · have := (hX.lt (.inr ⟨r, hr, hj⟩)).1; omega
      · simp at hr; subst hr; have := o3.has_ge hj; omega
  have hid4 : id < σ4.length := get_dom hrow4
  refine k _ ⟨s', raws ++ [s3], ⟨hn, by have := hF.len; simp; omega⟩, by rw [List.getElem?_set_self hid4], q2.fit fun i hi => hset i (hnew i hi)⟩ ⟨by have := hF.len; simp; omega, fun i hi hf => ?_, fun i hi hf hf' => ?_⟩
  · have h1 : i ≠ id := fun e => hf (.inl e)
    rw [hset i h1, q5 i (by have := hF.len; omega) fun h => hf (.inr ⟨s, hrow, h⟩), hk i hi]
  · rcases hf' with h1 | ⟨t, h1, h2⟩
    · exact hf (.inl h1)
    · rw [List.getElem?_set_self hid4] at h1
      cases h1
      rcases q6 i h2 with h | h
      · exact hf (.inr ⟨s, hrow, h⟩)
      · have := hF.len; omega
end Go.Gh
namespace Go.Gh
open Go.RowKit Go.Proofs
set_option linter.unusedVariables false
set_option linter.unusedSimpArgs false
set_option maxRecDepth 100000
theorem Mk.all_has {m : Mk} {L : List Int} : L.all m.graph.has = true ↔ ∀ x ∈ L, 0 ≤ x ∧ x < 2 * (m.n : Int) := by
  rw [List.all_eq_true]
  have : (m.graph.nodes : Int) = m.n := rfl
  simp [AigP.has, this]
end Go.Gh
