/-
  Proved: enc's formulas of nets.
  Part 6 of 10. Conditions: none. A verified frame that runs compiled texts over a ghost heap, the contracts of the functions that the statement reaches, and the plain law.
-/
import Derived.Test.YtdpbcckkdccmlaaGreatXN5
import Derived.Test.YtdpbcckkdccmlaaGreatProg
import Derived.KernelRfl
import Derived.Shelf.SlSortCmp.NoneTotal
namespace Go.Gh
end Go.Gh
namespace Go.Gh
open Go.Proofs
theorem seatfollows : Tryz.prog.follows .mixedOrders = true := by kernel_rfl
abbrev F_slices_ContainsFunc_int_int : Nat := 80
abbrev F_slices_IndexFunc_int_int : Nat := 140
abbrev F_slices_Clone_int_int : Nat := 145
noncomputable abbrev G_slices_IndexFunc_int_int : GFun := ⟨19, [(.tmp 4)], (.seq (.region [⟨0, ⟨(some 4), none, (.pure .id), [(.const (.int .i64 0))]⟩, []⟩]) (.seq (.seq (.region [⟨0, ⟨(some 6), none, (.pure .id), [(.tmp 0)]⟩, []⟩, ⟨0, ⟨(some 7), none, (.pure .len), [(.tmp 6)]⟩, []⟩, ⟨0, ⟨(some 8), none, (.pure .id), [(.const (.int .i64 0))]⟩, []⟩]) (.block 0 (.loop (.seq (.region [⟨0, ⟨(some 9), none, (.pure (.bin .lss .none)), [(.tmp 8), (.tmp 7)]⟩, []⟩]) (.seq (.cond (.tmp 9) .skip (.exit 0)) (.seq (.block 1 (.seq (.region [⟨0, ⟨(some 10), none, (.pure .id), [(.tmp 8)]⟩, []⟩, ⟨0, ⟨(some 5), none, (.pure .id), [(.tmp 10)]⟩, []⟩]) (.seq (.region [⟨0, ⟨(some 11), none, (.pure .id), [(.tmp 1)]⟩, []⟩, ⟨0, ⟨(some 12), none, (.pure .id), [(.tmp 0)]⟩, []⟩, ⟨0, ⟨(some 13), none, (.pure .id), [(.tmp 5)]⟩, []⟩, ⟨0, ⟨(some 14), none, (.pure (.iaddr 1)), [(.tmp 12), (.tmp 13)]⟩, []⟩, ⟨0, ⟨(some 15), none, (.load (.load 1 false)), [(.tmp 14)]⟩, []⟩, ⟨0, ⟨(some 16), none, .callv, [(.tmp 11), (.tmp 15)]⟩, []⟩]) (.cond (.tmp 16) (.seq (.region [⟨0, ⟨(some 17), none, (.pure .id), [(.tmp 5)]⟩, []⟩, ⟨0, ⟨(some 4), none, (.pure .id), [(.tmp 17)]⟩, []⟩]) .ret) .skip)))) (.region [⟨0, ⟨(some 18), none, (.pure (.bin .add .none)), [(.tmp 8), (.const (.int .i64 1))]⟩, []⟩, ⟨0, ⟨(some 8), none, (.pure .id), [(.tmp 18)]⟩, []⟩]))))))) (.seq (.region [⟨0, ⟨(some 4), none, (.pure .id), [(.const (.int .i64 (-1)))]⟩, []⟩]) .ret)))⟩
theorem c_slices_IndexFunc_int_int : compF Tryz.prog Tryz.f140 = some G_slices_IndexFunc_int_int := by kernel_rfl
theorem gc_slices_IndexFunc_int_int {args : List DV} {σ : GS} {Post : DV → GS → Prop} (h : @exB Tryz.prog ⟨G_slices_IndexFunc_int_int.body⟩ (genv0 args G_slices_IndexFunc_int_int.ntmps) σ ⟨@gretB G_slices_IndexFunc_int_int.results ⟨Post⟩⟩) : GCall Tryz.prog F_slices_IndexFunc_int_int args σ Post := gcall_ofB seatfollows Tryz.func140 (by kernel_rfl) c_slices_IndexFunc_int_int h
noncomputable abbrev G_slices_ContainsFunc_int_int : GFun := ⟨9, [(.tmp 4)], (.seq (.region [⟨0, ⟨(some 4), none, (.pure .id), [(.const (.bool false))]⟩, []⟩]) (.seq (.region [⟨0, ⟨(some 5), none, (.pure .id), [(.tmp 0)]⟩, []⟩, ⟨0, ⟨(some 6), none, (.pure .id), [(.tmp 1)]⟩, []⟩, ⟨0, ⟨(some 7), none, (.call F_slices_IndexFunc_int_int), [(.tmp 5), (.tmp 6)]⟩, []⟩, ⟨0, ⟨(some 8), none, (.pure (.bin .geq .none)), [(.tmp 7), (.const (.int .i64 0))]⟩, []⟩, ⟨0, ⟨(some 4), none, (.pure .id), [(.tmp 8)]⟩, []⟩]) .ret))⟩
theorem c_slices_ContainsFunc_int_int : compF Tryz.prog Tryz.f80 = some G_slices_ContainsFunc_int_int := by kernel_rfl
theorem gc_slices_ContainsFunc_int_int {args : List DV} {σ : GS} {Post : DV → GS → Prop} (h : @exB Tryz.prog ⟨G_slices_ContainsFunc_int_int.body⟩ (genv0 args G_slices_ContainsFunc_int_int.ntmps) σ ⟨@gretB G_slices_ContainsFunc_int_int.results ⟨Post⟩⟩) : GCall Tryz.prog F_slices_ContainsFunc_int_int args σ Post := gcall_ofB seatfollows Tryz.func80 (by kernel_rfl) c_slices_ContainsFunc_int_int h
noncomputable abbrev G_slices_Clone_int_int : GFun := ⟨8, [(.tmp 2)], (.seq (.region [⟨0, ⟨(some 2), none, (.pure .id), [(.const .nils)]⟩, []⟩]) (.seq (.seq (.region [⟨0, ⟨(some 3), none, (.pure .id), [(.tmp 0)]⟩, []⟩, ⟨0, ⟨(some 4), none, (.eqn false), [(.tmp 3), (.const .nils)]⟩, []⟩]) (.cond (.tmp 4) (.seq (.region [⟨0, ⟨(some 2), none, (.pure .id), [(.const .nils)]⟩, []⟩]) .ret) .skip)) (.seq (.region [⟨0, ⟨(some 5), none, (.new (.bslice 1 [(.int .i64 0)] 0 [])), []⟩, []⟩, ⟨0, ⟨(some 6), none, (.pure .id), [(.tmp 0)]⟩, []⟩, ⟨0, ⟨(some 7), none, (.imp (.append 1 8)), [(.tmp 5), (.tmp 6)]⟩, []⟩, ⟨0, ⟨(some 2), none, (.pure .id), [(.tmp 7)]⟩, []⟩]) .ret)))⟩
theorem c_slices_Clone_int_int : compF Tryz.prog Tryz.f145 = some G_slices_Clone_int_int := by kernel_rfl
theorem gc_slices_Clone_int_int {args : List DV} {σ : GS} {Post : DV → GS → Prop} (h : @exB Tryz.prog ⟨G_slices_Clone_int_int.body⟩ (genv0 args G_slices_Clone_int_int.ntmps) σ ⟨@gretB G_slices_Clone_int_int.results ⟨Post⟩⟩) : GCall Tryz.prog F_slices_Clone_int_int args σ Post := gcall_ofB seatfollows Tryz.func145 (by kernel_rfl) c_slices_Clone_int_int h
end Go.Gh
namespace Go.Gh
open Go.Proofs
abbrev F_skolemref05_Ints : Nat := 26
abbrev F_skolemref05_Normal : Nat := 41
abbrev F_skolemref05_Abs : Nat := 44
abbrev F_skolemref05_In : Nat := 50
abbrev F_skolemref05_variable : Nat := 117
noncomputable abbrev G_skolemref05_Normal : GFun := ⟨35, [(.tmp 2)], (.seq (.region [⟨0, ⟨(some 2), none, (.pure .id), [(.const (.bool false))]⟩, []⟩]) (.seq (.seq (.region [⟨0, ⟨(some 3), none, (.pure .id), [(.const (.int .i64 0))]⟩, []⟩]) (.block 0 (.loop (.seq (.seq (.region [⟨0, ⟨(some 4), none, (.pure .id), [(.tmp 3)]⟩, []⟩, ⟨0, ⟨(some 5), none, (.pure .id), [(.tmp 0)]⟩, []⟩, ⟨0, ⟨(some 6), none, (.pure .len), [(.tmp 5)]⟩, []⟩, ⟨0, ⟨(some 7), none, (.pure (.bin .lss .none)), [(.tmp 4), (.tmp 6)]⟩, []⟩]) (.cond (.tmp 7) .skip (.exit 0))) (.seq (.block 1 (.seq (.region [⟨0, ⟨(some 10), none, (.pure .id), [(.tmp 0)]⟩, []⟩, ⟨1, ⟨(some 11), none, (.pure .id), [(.tmp 3)]⟩, []⟩, ⟨2, ⟨(some 12), none, (.pure (.iaddr 1)), [(.tmp 10), (.tmp 11)]⟩, []⟩, ⟨3, ⟨(some 13), none, (.load (.load 1 false)), [(.tmp 12)]⟩, []⟩, ⟨4, ⟨(some 14), none, (.call F_skolemref05_Abs), [(.tmp 13)]⟩, []⟩, ⟨5, ⟨(some 15), none, (.call F_skolemref05_variable), [(.tmp 14)]⟩, []⟩, ⟨6, ⟨(some 16), none, (.pure (.un .not)), [(.tmp 15)]⟩, []⟩, ⟨7, ⟨(some 17), none, (.pure .id), [(.tmp 16)]⟩, []⟩, ⟨8, ⟨(some 18), (some (17, false)), (.pure .id), [(.tmp 3)]⟩, []⟩, ⟨9, ⟨(some 19), (some (17, false)), (.pure (.bin .gtr .none)), [(.tmp 18), (.const (.int .i64 0))]⟩, []⟩, ⟨10, ⟨(some 20), (some (17, false)), (.pure .id), [(.tmp 19)]⟩, []⟩, ⟨11, ⟨(some 21), (some (20, true)), (.pure .id), [(.tmp 0)]⟩, []⟩, ⟨12, ⟨(some 22), (some (20, true)), (.pure .id), [(.tmp 3)]⟩, []⟩, ⟨13, ⟨(some 23), (some (20, true)), (.pure (.iaddr 1)), [(.tmp 21), (.tmp 22)]⟩, []⟩, ⟨14, ⟨(some 24), (some (20, true)), (.load (.load 1 false)), [(.tmp 23)]⟩, []⟩, ⟨16, ⟨(some 26), (some (20, true)), (.pure .id), [(.tmp 0)]⟩, []⟩, ⟨17, ⟨(some 27), (some (20, true)), (.pure .id), [(.tmp 3)]⟩, []⟩, ⟨18, ⟨(some 28), (some (20, true)), (.pure (.bin .sub .none)), [(.tmp 27), (.const (.int .i64 1))]⟩, []⟩, ⟨19, ⟨(some 29), (some (20, true)), (.pure (.iaddr 1)), [(.tmp 26), (.tmp 28)]⟩, []⟩, ⟨20, ⟨(some 30), (some (20, true)), (.load (.load 1 false)), [(.tmp 29)]⟩, []⟩, ⟨15, ⟨(some 25), (some (20, true)), (.call F_skolemref05_Abs), [(.tmp 24)]⟩, [⟨(some 30), (some (20, true)), (.load (.load 1 false)), [(.tmp 29)]⟩]⟩, ⟨21, ⟨(some 31), (some (20, true)), (.call F_skolemref05_Abs), [(.tmp 30)]⟩, []⟩, ⟨22, ⟨(some 32), (some (20, true)), (.pure (.bin .leq .none)), [(.tmp 25), (.tmp 31)]⟩, []⟩, ⟨23, ⟨(some 33), (some (17, false)), (.pure .pick), [(.tmp 20), (.tmp 32), (.const (.bool false))]⟩, []⟩, ⟨24, ⟨(some 34), none, (.pure .pick), [(.tmp 17), (.const (.bool true)), (.tmp 33)]⟩, []⟩]) (.cond (.tmp 34) (.seq (.region [⟨0, ⟨(some 2), none, (.pure .id), [(.const (.bool false))]⟩, []⟩]) .ret) .skip))) (.region [⟨0, ⟨(some 8), none, (.pure .id), [(.tmp 3)]⟩, []⟩, ⟨0, ⟨(some 9), none, (.pure (.bin .add .none)), [(.tmp 8), (.const (.int .i64 1))]⟩, []⟩, ⟨0, ⟨(some 3), none, (.pure .id), [(.tmp 9)]⟩, []⟩])))))) (.seq (.region [⟨0, ⟨(some 2), none, (.pure .id), [(.const (.bool true))]⟩, []⟩]) .ret)))⟩
theorem c_skolemref05_Normal : compF Tryz.prog Tryz.f41 = some G_skolemref05_Normal := by kernel_rfl
theorem gc_skolemref05_Normal {args : List DV} {σ : GS} {Post : DV → GS → Prop} (h : @exB Tryz.prog ⟨G_skolemref05_Normal.body⟩ (genv0 args G_skolemref05_Normal.ntmps) σ ⟨@gretB G_skolemref05_Normal.results ⟨Post⟩⟩) : GCall Tryz.prog F_skolemref05_Normal args σ Post := gcall_ofB seatfollows Tryz.func41 (by kernel_rfl) c_skolemref05_Normal h
noncomputable abbrev G_skolemref05_In : GFun := ⟨18, [(.tmp 4)], (.seq (.region [⟨0, ⟨(some 4), none, (.pure .id), [(.const (.bool false))]⟩, []⟩]) (.seq (.seq (.region [⟨0, ⟨(some 5), none, (.pure .id), [(.const (.int .i64 0))]⟩, []⟩]) (.block 0 (.loop (.seq (.seq (.region [⟨0, ⟨(some 6), none, (.pure .id), [(.tmp 5)]⟩, []⟩, ⟨0, ⟨(some 7), none, (.pure .id), [(.tmp 0)]⟩, []⟩, ⟨0, ⟨(some 8), none, (.pure .len), [(.tmp 7)]⟩, []⟩, ⟨0, ⟨(some 9), none, (.pure (.bin .lss .none)), [(.tmp 6), (.tmp 8)]⟩, []⟩]) (.cond (.tmp 9) .skip (.exit 0))) (.seq (.block 1 (.seq (.region [⟨0, ⟨(some 12), none, (.pure .id), [(.tmp 0)]⟩, []⟩, ⟨0, ⟨(some 13), none, (.pure .id), [(.tmp 5)]⟩, []⟩, ⟨0, ⟨(some 14), none, (.pure (.iaddr 1)), [(.tmp 12), (.tmp 13)]⟩, []⟩, ⟨0, ⟨(some 15), none, (.load (.load 1 false)), [(.tmp 14)]⟩, []⟩, ⟨0, ⟨(some 16), none, (.pure .id), [(.tmp 1)]⟩, []⟩, ⟨0, ⟨(some 17), none, (.pure (.bin .eql .none)), [(.tmp 15), (.tmp 16)]⟩, []⟩]) (.cond (.tmp 17) (.seq (.region [⟨0, ⟨(some 4), none, (.pure .id), [(.const (.bool true))]⟩, []⟩]) .ret) .skip))) (.region [⟨0, ⟨(some 10), none, (.pure .id), [(.tmp 5)]⟩, []⟩, ⟨0, ⟨(some 11), none, (.pure (.bin .add .none)), [(.tmp 10), (.const (.int .i64 1))]⟩, []⟩, ⟨0, ⟨(some 5), none, (.pure .id), [(.tmp 11)]⟩, []⟩])))))) (.seq (.region [⟨0, ⟨(some 4), none, (.pure .id), [(.const (.bool false))]⟩, []⟩]) .ret)))⟩
theorem c_skolemref05_In : compF Tryz.prog Tryz.f50 = some G_skolemref05_In := by kernel_rfl
theorem gc_skolemref05_In {args : List DV} {σ : GS} {Post : DV → GS → Prop} (h : @exB Tryz.prog ⟨G_skolemref05_In.body⟩ (genv0 args G_skolemref05_In.ntmps) σ ⟨@gretB G_skolemref05_In.results ⟨Post⟩⟩) : GCall Tryz.prog F_skolemref05_In args σ Post := gcall_ofB seatfollows Tryz.func50 (by kernel_rfl) c_skolemref05_In h
noncomputable abbrev G_skolemref05_Ints : GFun := ⟨26, [(.tmp 4)], (.seq (.region [⟨0, ⟨(some 4), none, (.pure .id), [(.const (.bool false))]⟩, []⟩]) (.seq (.seq (.region [⟨0, ⟨(some 6), none, (.pure .id), [(.tmp 0)]⟩, []⟩, ⟨0, ⟨(some 7), none, (.pure .len), [(.tmp 6)]⟩, []⟩, ⟨0, ⟨(some 8), none, (.pure .id), [(.tmp 1)]⟩, []⟩, ⟨0, ⟨(some 9), none, (.pure .len), [(.tmp 8)]⟩, []⟩, ⟨0, ⟨(some 10), none, (.pure (.bin .neq .none)), [(.tmp 7), (.tmp 9)]⟩, []⟩]) (.cond (.tmp 10) (.seq (.region [⟨0, ⟨(some 4), none, (.pure .id), [(.const (.bool false))]⟩, []⟩]) .ret) .skip)) (.seq (.seq (.region [⟨0, ⟨(some 5), none, (.pure .id), [(.const (.int .i64 0))]⟩, []⟩]) (.block 0 (.loop (.seq (.seq (.region [⟨0, ⟨(some 11), none, (.pure .id), [(.tmp 5)]⟩, []⟩, ⟨0, ⟨(some 12), none, (.pure .id), [(.tmp 0)]⟩, []⟩, ⟨0, ⟨(some 13), none, (.pure .len), [(.tmp 12)]⟩, []⟩, ⟨0, ⟨(some 14), none, (.pure (.bin .lss .none)), [(.tmp 11), (.tmp 13)]⟩, []⟩]) (.cond (.tmp 14) .skip (.exit 0))) (.seq (.block 1 (.seq (.region [⟨0, ⟨(some 17), none, (.pure .id), [(.tmp 0)]⟩, []⟩, ⟨1, ⟨(some 18), none, (.pure .id), [(.tmp 5)]⟩, []⟩, ⟨2, ⟨(some 19), none, (.pure (.iaddr 1)), [(.tmp 17), (.tmp 18)]⟩, []⟩, ⟨3, ⟨(some 20), none, (.load (.load 1 false)), [(.tmp 19)]⟩, []⟩, ⟨4, ⟨(some 21), none, (.pure .id), [(.tmp 1)]⟩, []⟩, ⟨5, ⟨(some 22), none, (.pure .id), [(.tmp 5)]⟩, []⟩, ⟨6, ⟨(some 23), none, (.pure (.iaddr 1)), [(.tmp 21), (.tmp 22)]⟩, []⟩, ⟨7, ⟨(some 24), none, (.load (.load 1 false)), [(.tmp 23)]⟩, []⟩, ⟨8, ⟨(some 25), none, (.pure (.bin .neq .none)), [(.tmp 20), (.tmp 24)]⟩, []⟩]) (.cond (.tmp 25) (.seq (.region [⟨0, ⟨(some 4), none, (.pure .id), [(.const (.bool false))]⟩, []⟩]) .ret) .skip))) (.region [⟨0, ⟨(some 15), none, (.pure .id), [(.tmp 5)]⟩, []⟩, ⟨0, ⟨(some 16), none, (.pure (.bin .add .none)), [(.tmp 15), (.const (.int .i64 1))]⟩, []⟩, ⟨0, ⟨(some 5), none, (.pure .id), [(.tmp 16)]⟩, []⟩])))))) (.seq (.region [⟨0, ⟨(some 4), none, (.pure .id), [(.const (.bool true))]⟩, []⟩]) .ret))))⟩
theorem c_skolemref05_Ints : compF Tryz.prog Tryz.f26 = some G_skolemref05_Ints := by kernel_rfl
theorem gc_skolemref05_Ints {args : List DV} {σ : GS} {Post : DV → GS → Prop} (h : @exB Tryz.prog ⟨G_skolemref05_Ints.body⟩ (genv0 args G_skolemref05_Ints.ntmps) σ ⟨@gretB G_skolemref05_Ints.results ⟨Post⟩⟩) : GCall Tryz.prog F_skolemref05_Ints args σ Post := gcall_ofB seatfollows Tryz.func26 (by kernel_rfl) c_skolemref05_Ints h
noncomputable abbrev G_skolemref05_variable : GFun := ⟨9, [(.tmp 2)], (.seq (.region [⟨0, ⟨(some 2), none, (.pure .id), [(.const (.bool false))]⟩, []⟩]) (.seq (.region [⟨0, ⟨(some 3), none, (.pure .id), [(.tmp 0)]⟩, []⟩, ⟨0, ⟨(some 4), none, (.pure (.bin .geq .none)), [(.tmp 3), (.const (.int .i64 1))]⟩, []⟩, ⟨0, ⟨(some 5), none, (.pure .id), [(.tmp 4)]⟩, []⟩, ⟨0, ⟨(some 6), (some (5, true)), (.pure .id), [(.tmp 0)]⟩, []⟩, ⟨0, ⟨(some 7), (some (5, true)), (.pure (.bin .leq .none)), [(.tmp 6), (.const (.int .i64 65536))]⟩, []⟩, ⟨0, ⟨(some 8), none, (.pure .pick), [(.tmp 5), (.tmp 7), (.const (.bool false))]⟩, []⟩, ⟨0, ⟨(some 2), none, (.pure .id), [(.tmp 8)]⟩, []⟩]) .ret))⟩
theorem c_skolemref05_variable : compF Tryz.prog Tryz.f117 = some G_skolemref05_variable := by kernel_rfl
theorem gc_skolemref05_variable {args : List DV} {σ : GS} {Post : DV → GS → Prop} (h : @exB Tryz.prog ⟨G_skolemref05_variable.body⟩ (genv0 args G_skolemref05_variable.ntmps) σ ⟨@gretB G_skolemref05_variable.results ⟨Post⟩⟩) : GCall Tryz.prog F_skolemref05_variable args σ Post := gcall_ofB seatfollows Tryz.func117 (by kernel_rfl) c_skolemref05_variable h
noncomputable abbrev G_skolemref05_Abs : GFun := ⟨9, [(.tmp 2)], (.seq (.region [⟨0, ⟨(some 2), none, (.pure .id), [(.const (.int .i64 0))]⟩, []⟩]) (.seq (.seq (.region [⟨0, ⟨(some 3), none, (.pure .id), [(.tmp 0)]⟩, []⟩, ⟨0, ⟨(some 4), none, (.pure (.bin .lss .none)), [(.tmp 3), (.const (.int .i64 0))]⟩, []⟩]) (.cond (.tmp 4) (.seq (.region [⟨0, ⟨(some 5), none, (.pure .id), [(.tmp 0)]⟩, []⟩, ⟨0, ⟨(some 6), none, (.pure (.un .neg)), [(.tmp 5)]⟩, []⟩, ⟨0, ⟨(some 7), none, (.pure .mx), [(.const (.int .i64 0)), (.tmp 6)]⟩, []⟩, ⟨0, ⟨(some 2), none, (.pure .id), [(.tmp 7)]⟩, []⟩]) .ret) .skip)) (.seq (.region [⟨0, ⟨(some 8), none, (.pure .id), [(.tmp 0)]⟩, []⟩, ⟨0, ⟨(some 2), none, (.pure .id), [(.tmp 8)]⟩, []⟩]) .ret)))⟩
theorem c_skolemref05_Abs : compF Tryz.prog Tryz.f44 = some G_skolemref05_Abs := by kernel_rfl
theorem gc_skolemref05_Abs {args : List DV} {σ : GS} {Post : DV → GS → Prop} (h : @exB Tryz.prog ⟨G_skolemref05_Abs.body⟩ (genv0 args G_skolemref05_Abs.ntmps) σ ⟨@gretB G_skolemref05_Abs.results ⟨Post⟩⟩) : GCall Tryz.prog F_skolemref05_Abs args σ Post := gcall_ofB seatfollows Tryz.func44 (by kernel_rfl) c_skolemref05_Abs h
end Go.Gh
namespace Go.Gh
open Go.Proofs
end Go.Gh
namespace Go.Gh
open Go.Proofs
end Go.Gh
namespace Go.Gh
open Go.Proofs
end Go.Gh
namespace Go.Gh
open Go.Proofs
abbrev F_slices_Compact_int_int : Nat := 158
noncomputable abbrev G_slices_Compact_int_int : GFun := ⟨61, [(.tmp 2)], (.seq (.region [⟨0, ⟨(some 2), none, (.pure .id), [(.const .nils)]⟩, []⟩]) (.seq (.seq (.region [⟨0, ⟨(some 6), none, (.pure .id), [(.tmp 0)]⟩, []⟩, ⟨0, ⟨(some 7), none, (.pure .len), [(.tmp 6)]⟩, []⟩, ⟨0, ⟨(some 8), none, (.pure (.bin .lss .none)), [(.tmp 7), (.const (.int .i64 2))]⟩, []⟩]) (.cond (.tmp 8) (.seq (.region [⟨0, ⟨(some 9), none, (.pure .id), [(.tmp 0)]⟩, []⟩, ⟨0, ⟨(some 2), none, (.pure .id), [(.tmp 9)]⟩, []⟩]) .ret) .skip)) (.seq (.seq (.region [⟨0, ⟨(some 3), none, (.pure .id), [(.const (.int .i64 1))]⟩, []⟩]) (.block 0 (.loop (.seq (.seq (.region [⟨0, ⟨(some 10), none, (.pure .id), [(.tmp 3)]⟩, []⟩, ⟨0, ⟨(some 11), none, (.pure .id), [(.tmp 0)]⟩, []⟩, ⟨0, ⟨(some 12), none, (.pure .len), [(.tmp 11)]⟩, []⟩, ⟨0, ⟨(some 13), none, (.pure (.bin .lss .none)), [(.tmp 10), (.tmp 12)]⟩, []⟩]) (.cond (.tmp 13) .skip (.exit 0))) (.seq (.block 1 (.seq (.region [⟨0, ⟨(some 16), none, (.pure .id), [(.tmp 0)]⟩, []⟩, ⟨1, ⟨(some 17), none, (.pure .id), [(.tmp 3)]⟩, []⟩, ⟨2, ⟨(some 18), none, (.pure (.iaddr 1)), [(.tmp 16), (.tmp 17)]⟩, []⟩, ⟨3, ⟨(some 19), none, (.load (.load 1 false)), [(.tmp 18)]⟩, []⟩, ⟨4, ⟨(some 20), none, (.pure .id), [(.tmp 0)]⟩, []⟩, ⟨5, ⟨(some 21), none, (.pure .id), [(.tmp 3)]⟩, []⟩, ⟨6, ⟨(some 22), none, (.pure (.bin .sub .none)), [(.tmp 21), (.const (.int .i64 1))]⟩, []⟩, ⟨7, ⟨(some 23), none, (.pure (.iaddr 1)), [(.tmp 20), (.tmp 22)]⟩, []⟩, ⟨8, ⟨(some 24), none, (.load (.load 1 false)), [(.tmp 23)]⟩, []⟩, ⟨9, ⟨(some 25), none, (.pure (.bin .eql .none)), [(.tmp 19), (.tmp 24)]⟩, []⟩]) (.cond (.tmp 25) (.seq (.region [⟨0, ⟨(some 26), none, (.pure .id), [(.tmp 0)]⟩, []⟩, ⟨0, ⟨(some 27), none, (.pure .id), [(.tmp 3)]⟩, []⟩, ⟨0, ⟨(some 28), none, (.pure (.slice 1 true false false)), [(.tmp 26), (.tmp 27)]⟩, []⟩, ⟨0, ⟨(some 4), none, (.pure .id), [(.tmp 28)]⟩, []⟩]) (.seq (.seq (.region [⟨0, ⟨(some 5), none, (.pure .id), [(.const (.int .i64 1))]⟩, []⟩]) (.block 2 (.loop (.seq (.seq (.region [⟨0, ⟨(some 29), none, (.pure .id), [(.tmp 5)]⟩, []⟩, ⟨0, ⟨(some 30), none, (.pure .id), [(.tmp 4)]⟩, []⟩, ⟨0, ⟨(some 31), none, (.pure .len), [(.tmp 30)]⟩, []⟩, ⟨0, ⟨(some 32), none, (.pure (.bin .lss .none)), [(.tmp 29), (.tmp 31)]⟩, []⟩]) (.cond (.tmp 32) .skip (.exit 2))) (.seq (.block 3 (.seq (.region [⟨0, ⟨(some 35), none, (.pure .id), [(.tmp 4)]⟩, []⟩, ⟨1, ⟨(some 36), none, (.pure .id), [(.tmp 5)]⟩, []⟩, ⟨2, ⟨(some 37), none, (.pure (.iaddr 1)), [(.tmp 35), (.tmp 36)]⟩, []⟩, ⟨3, ⟨(some 38), none, (.load (.load 1 false)), [(.tmp 37)]⟩, []⟩, ⟨4, ⟨(some 39), none, (.pure .id), [(.tmp 4)]⟩, []⟩, ⟨5, ⟨(some 40), none, (.pure .id), [(.tmp 5)]⟩, []⟩, ⟨6, ⟨(some 41), none, (.pure (.bin .sub .none)), [(.tmp 40), (.const (.int .i64 1))]⟩, []⟩, ⟨7, ⟨(some 42), none, (.pure (.iaddr 1)), [(.tmp 39), (.tmp 41)]⟩, []⟩, ⟨8, ⟨(some 43), none, (.load (.load 1 false)), [(.tmp 42)]⟩, []⟩, ⟨9, ⟨(some 44), none, (.pure (.bin .neq .none)), [(.tmp 38), (.tmp 43)]⟩, []⟩]) (.cond (.tmp 44) (.seq (.region [⟨0, ⟨(some 45), none, (.pure .id), [(.tmp 0)]⟩, []⟩, ⟨0, ⟨(some 46), none, (.pure .id), [(.tmp 3)]⟩, []⟩, ⟨0, ⟨(some 47), none, (.pure .id), [(.tmp 4)]⟩, []⟩, ⟨0, ⟨(some 48), none, (.pure .id), [(.tmp 5)]⟩, []⟩, ⟨0, ⟨(some 49), none, (.pure (.iaddr 1)), [(.tmp 47), (.tmp 48)]⟩, []⟩, ⟨0, ⟨(some 50), none, (.load (.load 1 false)), [(.tmp 49)]⟩, []⟩, ⟨0, ⟨(some 51), none, (.pure (.iaddr 1)), [(.tmp 45), (.tmp 46)]⟩, []⟩, ⟨0, ⟨none, none, (.imp (.store 1)), [(.tmp 51), (.tmp 50)]⟩, []⟩]) (.region [⟨0, ⟨(some 52), none, (.pure .id), [(.tmp 3)]⟩, []⟩, ⟨0, ⟨(some 53), none, (.pure (.bin .add .none)), [(.tmp 52), (.const (.int .i64 1))]⟩, []⟩, ⟨0, ⟨(some 3), none, (.pure .id), [(.tmp 53)]⟩, []⟩])) .skip))) (.region [⟨0, ⟨(some 33), none, (.pure .id), [(.tmp 5)]⟩, []⟩, ⟨0, ⟨(some 34), none, (.pure (.bin .add .none)), [(.tmp 33), (.const (.int .i64 1))]⟩, []⟩, ⟨0, ⟨(some 5), none, (.pure .id), [(.tmp 34)]⟩, []⟩])))))) (.seq (.region [⟨0, ⟨(some 54), none, (.pure .id), [(.tmp 0)]⟩, []⟩, ⟨0, ⟨(some 55), none, (.pure .id), [(.tmp 3)]⟩, []⟩, ⟨0, ⟨(some 56), none, (.pure (.slice 1 true false false)), [(.tmp 54), (.tmp 55)]⟩, []⟩, ⟨0, ⟨none, none, (.imp (.clear 1 [(.int .i64 0)])), [(.tmp 56)]⟩, []⟩]) (.seq (.region [⟨0, ⟨(some 57), none, (.pure .id), [(.tmp 0)]⟩, []⟩, ⟨0, ⟨(some 58), none, (.pure .id), [(.tmp 3)]⟩, []⟩, ⟨0, ⟨(some 59), none, (.pure (.slice 1 false true false)), [(.tmp 57), (.tmp 58)]⟩, []⟩, ⟨0, ⟨(some 2), none, (.pure .id), [(.tmp 59)]⟩, []⟩]) .ret)))) .skip))) (.region [⟨0, ⟨(some 14), none, (.pure .id), [(.tmp 3)]⟩, []⟩, ⟨0, ⟨(some 15), none, (.pure (.bin .add .none)), [(.tmp 14), (.const (.int .i64 1))]⟩, []⟩, ⟨0, ⟨(some 3), none, (.pure .id), [(.tmp 15)]⟩, []⟩])))))) (.seq (.region [⟨0, ⟨(some 60), none, (.pure .id), [(.tmp 0)]⟩, []⟩, ⟨0, ⟨(some 2), none, (.pure .id), [(.tmp 60)]⟩, []⟩]) .ret))))⟩
theorem c_slices_Compact_int_int : compF Tryz.prog Tryz.f158 = some G_slices_Compact_int_int := by kernel_rfl
theorem gc_slices_Compact_int_int {args : List DV} {σ : GS} {Post : DV → GS → Prop} (h : @exB Tryz.prog ⟨G_slices_Compact_int_int.body⟩ (genv0 args G_slices_Compact_int_int.ntmps) σ ⟨@gretB G_slices_Compact_int_int.results ⟨Post⟩⟩) : GCall Tryz.prog F_slices_Compact_int_int args σ Post := gcall_ofB seatfollows Tryz.func158 (by kernel_rfl) c_slices_Compact_int_int h
end Go.Gh
namespace Go.Gh
open Go.Proofs
abbrev F_skolemlaw12_works : Nat := 20
abbrev F_skolemref12_SameClauses : Nat := 23
abbrev F_enc_abs : Nat := 78
abbrev F_enc_writers : Nat := 79
abbrev F_skolemref12_Clauses : Nat := 82
abbrev F_enc_clauses_put : Nat := 88
abbrev F_enc_normal : Nat := 100
abbrev F_enc_writers_1 : Nat := 146
abbrev F_enc_neg : Nat := 147
abbrev F_enc_writers_2 : Nat := 148
abbrev F_enc_writers_3 : Nat := 149
abbrev F_enc_both : Nat := 150
abbrev F_enc_writers_4 : Nat := 151
abbrev F_skolemref12_Put : Nat := 152
abbrev F_slices_SortFunc_int_int : Nat := 156
abbrev F_enc_clauses_put_1 : Nat := 157
abbrev F_skolemref12_sorted : Nat := 200
noncomputable abbrev G_enc_abs : GFun := ⟨13, [(.tmp 2)], (.seq (.region [⟨0, ⟨(some 2), none, (.pure .id), [(.const (.int .i64 0))]⟩, []⟩]) (.seq (.seq (.region [⟨0, ⟨(some 3), none, (.pure .id), [(.tmp 0)]⟩, []⟩, ⟨0, ⟨(some 4), none, (.pure (.bin .lss .none)), [(.tmp 3), (.const (.int .i64 (-65536)))]⟩, []⟩, ⟨0, ⟨(some 5), none, (.pure .id), [(.tmp 4)]⟩, []⟩, ⟨0, ⟨(some 6), (some (5, false)), (.pure .id), [(.tmp 0)]⟩, []⟩, ⟨0, ⟨(some 7), (some (5, false)), (.pure (.bin .gtr .none)), [(.tmp 6), (.const (.int .i64 65536))]⟩, []⟩, ⟨0, ⟨(some 8), none, (.pure .pick), [(.tmp 5), (.const (.bool true)), (.tmp 7)]⟩, []⟩]) (.cond (.tmp 8) (.seq (.region [⟨0, ⟨(some 2), none, (.pure .id), [(.const (.int .i64 0))]⟩, []⟩]) .ret) .skip)) (.seq (.region [⟨0, ⟨(some 9), none, (.pure .id), [(.tmp 0)]⟩, []⟩, ⟨0, ⟨(some 10), none, (.pure .id), [(.tmp 0)]⟩, []⟩, ⟨0, ⟨(some 11), none, (.pure (.un .neg)), [(.tmp 10)]⟩, []⟩, ⟨0, ⟨(some 12), none, (.pure .mx), [(.tmp 9), (.tmp 11)]⟩, []⟩, ⟨0, ⟨(some 2), none, (.pure .id), [(.tmp 12)]⟩, []⟩]) .ret)))⟩
theorem c_enc_abs : compF Tryz.prog Tryz.f78 = some G_enc_abs := by kernel_rfl
theorem gc_enc_abs {args : List DV} {σ : GS} {Post : DV → GS → Prop} (h : @exB Tryz.prog ⟨G_enc_abs.body⟩ (genv0 args G_enc_abs.ntmps) σ ⟨@gretB G_enc_abs.results ⟨Post⟩⟩) : GCall Tryz.prog F_enc_abs args σ Post := gcall_ofB seatfollows Tryz.func78 (by kernel_rfl) c_enc_abs h
noncomputable abbrev G_enc_writers : GFun := ⟨3, [(.tmp 0)], (.seq (.region [⟨0, ⟨(some 0), none, (.pure .id), [(.const .nilmap)]⟩, []⟩]) (.seq (.region [⟨0, ⟨(some 1), none, (.new .mmap), []⟩, []⟩, ⟨0, ⟨none, none, (.imp (.mset (.int .u8))), [(.tmp 1), (.const (.int .u8 1)), (.const (.func F_enc_writers_1 [] []))]⟩, []⟩, ⟨0, ⟨none, none, (.imp (.mset (.int .u8))), [(.tmp 1), (.const (.int .u8 2)), (.const (.func F_enc_writers_2 [] []))]⟩, []⟩, ⟨0, ⟨none, none, (.imp (.mset (.int .u8))), [(.tmp 1), (.const (.int .u8 3)), (.const (.func F_enc_writers_3 [] []))]⟩, []⟩, ⟨0, ⟨none, none, (.imp (.mset (.int .u8))), [(.tmp 1), (.const (.int .u8 4)), (.const (.func F_enc_writers_4 [] []))]⟩, []⟩, ⟨0, ⟨(some 2), none, (.pure .id), [(.tmp 1)]⟩, []⟩, ⟨0, ⟨(some 0), none, (.pure .id), [(.tmp 2)]⟩, []⟩]) .ret))⟩
theorem c_enc_writers : compF Tryz.prog Tryz.f79 = some G_enc_writers := by kernel_rfl
theorem gc_enc_writers {args : List DV} {σ : GS} {Post : DV → GS → Prop} (h : @exB Tryz.prog ⟨G_enc_writers.body⟩ (genv0 args G_enc_writers.ntmps) σ ⟨@gretB G_enc_writers.results ⟨Post⟩⟩) : GCall Tryz.prog F_enc_writers args σ Post := gcall_ofB seatfollows Tryz.func79 (by kernel_rfl) c_enc_writers h
noncomputable abbrev G_enc_writers_1 : GFun := ⟨34, [], (.seq (.seq (.region [⟨0, ⟨(some 12), none, (.pure .id), [(.tmp 3)]⟩, []⟩]) (.cond (.tmp 12) (.seq (.region [⟨0, ⟨(some 13), none, (.pure .id), [(.tmp 2)]⟩, []⟩, ⟨0, ⟨(some 14), none, (.pure .len), [(.tmp 13)]⟩, []⟩, ⟨0, ⟨(some 15), none, (.pure .id), [(.const (.int .i64 0))]⟩, []⟩]) (.block 0 (.loop (.seq (.region [⟨0, ⟨(some 16), none, (.pure (.bin .lss .none)), [(.tmp 15), (.tmp 14)]⟩, []⟩]) (.seq (.cond (.tmp 16) .skip (.exit 0)) (.seq (.block 1 (.seq (.region [⟨0, ⟨(some 17), none, (.pure (.iaddr 1)), [(.tmp 13), (.tmp 15)]⟩, []⟩, ⟨0, ⟨(some 18), none, (.load (.load 1 false)), [(.tmp 17)]⟩, []⟩, ⟨0, ⟨(some 11), none, (.pure .id), [(.tmp 18)]⟩, []⟩]) (.region [⟨0, ⟨(some 19), none, (.pure .id), [(.tmp 0)]⟩, []⟩, ⟨0, ⟨(some 20), none, (.pure .id), [(.tmp 1)]⟩, []⟩, ⟨0, ⟨(some 21), none, (.pure (.un .neg)), [(.tmp 20)]⟩, []⟩, ⟨0, ⟨(some 22), none, (.pure .id), [(.tmp 11)]⟩, []⟩, ⟨0, ⟨(some 23), none, (.new (.bslice 1 [(.int .i64 0)] 2 [(0, 1), (1, 1)])), [(.tmp 21), (.tmp 22)]⟩, []⟩, ⟨0, ⟨(some 24), none, (.call F_enc_clauses_put), [(.tmp 19), (.tmp 23)]⟩, []⟩]))) (.region [⟨0, ⟨(some 25), none, (.pure (.bin .add .none)), [(.tmp 15), (.const (.int .i64 1))]⟩, []⟩, ⟨0, ⟨(some 15), none, (.pure .id), [(.tmp 25)]⟩, []⟩]))))))) .skip)) (.seq (.region [⟨0, ⟨(some 26), none, (.pure .id), [(.tmp 4)]⟩, []⟩]) (.cond (.tmp 26) (.region [⟨0, ⟨(some 27), none, (.pure .id), [(.tmp 0)]⟩, []⟩, ⟨0, ⟨(some 28), none, (.pure .id), [(.tmp 2)]⟩, []⟩, ⟨0, ⟨(some 29), none, (.call F_enc_neg), [(.tmp 28)]⟩, []⟩, ⟨0, ⟨(some 30), none, (.pure .id), [(.tmp 1)]⟩, []⟩, ⟨0, ⟨(some 31), none, (.new (.bslice 1 [(.int .i64 0)] 1 [(0, 1)])), [(.tmp 30)]⟩, []⟩, ⟨0, ⟨(some 32), none, (.imp (.append 1 8)), [(.tmp 29), (.tmp 31)]⟩, []⟩, ⟨0, ⟨(some 33), none, (.call F_enc_clauses_put), [(.tmp 27), (.tmp 32)]⟩, []⟩]) .skip)))⟩
theorem c_enc_writers_1 : compF Tryz.prog Tryz.f146 = some G_enc_writers_1 := by kernel_rfl
theorem gc_enc_writers_1 {args : List DV} {σ : GS} {Post : DV → GS → Prop} (h : @exB Tryz.prog ⟨G_enc_writers_1.body⟩ (genv0 args G_enc_writers_1.ntmps) σ ⟨@gretB G_enc_writers_1.results ⟨Post⟩⟩) : GCall Tryz.prog F_enc_writers_1 args σ Post := gcall_ofB seatfollows Tryz.func146 (by kernel_rfl) c_enc_writers_1 h
noncomputable abbrev G_enc_writers_2 : GFun := ⟨35, [], (.seq (.seq (.region [⟨0, ⟨(some 12), none, (.pure .id), [(.tmp 3)]⟩, []⟩]) (.cond (.tmp 12) (.region [⟨0, ⟨(some 13), none, (.pure .id), [(.tmp 0)]⟩, []⟩, ⟨0, ⟨(some 14), none, (.pure .id), [(.tmp 2)]⟩, []⟩, ⟨0, ⟨(some 15), none, (.call F_slices_Clone_int_int), [(.tmp 14)]⟩, []⟩, ⟨0, ⟨(some 16), none, (.pure .id), [(.tmp 1)]⟩, []⟩, ⟨0, ⟨(some 17), none, (.pure (.un .neg)), [(.tmp 16)]⟩, []⟩, ⟨0, ⟨(some 18), none, (.new (.bslice 1 [(.int .i64 0)] 1 [(0, 1)])), [(.tmp 17)]⟩, []⟩, ⟨0, ⟨(some 19), none, (.imp (.append 1 8)), [(.tmp 15), (.tmp 18)]⟩, []⟩, ⟨0, ⟨(some 20), none, (.call F_enc_clauses_put), [(.tmp 13), (.tmp 19)]⟩, []⟩]) .skip)) (.seq (.region [⟨0, ⟨(some 21), none, (.pure .id), [(.tmp 4)]⟩, []⟩]) (.cond (.tmp 21) (.seq (.region [⟨0, ⟨(some 22), none, (.pure .id), [(.tmp 2)]⟩, []⟩, ⟨0, ⟨(some 23), none, (.pure .len), [(.tmp 22)]⟩, []⟩, ⟨0, ⟨(some 24), none, (.pure .id), [(.const (.int .i64 0))]⟩, []⟩]) (.block 0 (.loop (.seq (.region [⟨0, ⟨(some 25), none, (.pure (.bin .lss .none)), [(.tmp 24), (.tmp 23)]⟩, []⟩]) (.seq (.cond (.tmp 25) .skip (.exit 0)) (.seq (.block 1 (.seq (.region [⟨0, ⟨(some 26), none, (.pure (.iaddr 1)), [(.tmp 22), (.tmp 24)]⟩, []⟩, ⟨0, ⟨(some 27), none, (.load (.load 1 false)), [(.tmp 26)]⟩, []⟩, ⟨0, ⟨(some 11), none, (.pure .id), [(.tmp 27)]⟩, []⟩]) (.region [⟨0, ⟨(some 28), none, (.pure .id), [(.tmp 0)]⟩, []⟩, ⟨0, ⟨(some 29), none, (.pure .id), [(.tmp 1)]⟩, []⟩, ⟨0, ⟨(some 30), none, (.pure .id), [(.tmp 11)]⟩, []⟩, ⟨0, ⟨(some 31), none, (.pure (.un .neg)), [(.tmp 30)]⟩, []⟩, ⟨0, ⟨(some 32), none, (.new (.bslice 1 [(.int .i64 0)] 2 [(0, 1), (1, 1)])), [(.tmp 29), (.tmp 31)]⟩, []⟩, ⟨0, ⟨(some 33), none, (.call F_enc_clauses_put), [(.tmp 28), (.tmp 32)]⟩, []⟩]))) (.region [⟨0, ⟨(some 34), none, (.pure (.bin .add .none)), [(.tmp 24), (.const (.int .i64 1))]⟩, []⟩, ⟨0, ⟨(some 24), none, (.pure .id), [(.tmp 34)]⟩, []⟩]))))))) .skip)))⟩
theorem c_enc_writers_2 : compF Tryz.prog Tryz.f148 = some G_enc_writers_2 := by kernel_rfl
theorem gc_enc_writers_2 {args : List DV} {σ : GS} {Post : DV → GS → Prop} (h : @exB Tryz.prog ⟨G_enc_writers_2.body⟩ (genv0 args G_enc_writers_2.ntmps) σ ⟨@gretB G_enc_writers_2.results ⟨Post⟩⟩) : GCall Tryz.prog F_enc_writers_2 args σ Post := gcall_ofB seatfollows Tryz.func148 (by kernel_rfl) c_enc_writers_2 h
noncomputable abbrev G_enc_writers_3 : GFun := ⟨56, [], (.seq (.region [⟨0, ⟨(some 10), none, (.pure .id), [(.tmp 0)]⟩, []⟩, ⟨1, ⟨(some 11), none, (.pure .id), [(.tmp 1)]⟩, []⟩, ⟨2, ⟨(some 12), none, (.pure (.un .neg)), [(.tmp 11)]⟩, []⟩, ⟨3, ⟨(some 13), none, (.pure .id), [(.tmp 2)]⟩, []⟩, ⟨4, ⟨(some 14), none, (.pure (.iaddr 1)), [(.tmp 13), (.const (.int .i64 0))]⟩, []⟩, ⟨5, ⟨(some 15), none, (.load (.load 1 false)), [(.tmp 14)]⟩, []⟩, ⟨6, ⟨(some 16), none, (.pure .id), [(.tmp 2)]⟩, []⟩, ⟨7, ⟨(some 17), none, (.pure (.iaddr 1)), [(.tmp 16), (.const (.int .i64 1))]⟩, []⟩, ⟨8, ⟨(some 18), none, (.load (.load 1 false)), [(.tmp 17)]⟩, []⟩, ⟨9, ⟨(some 19), none, (.pure (.build [(.int .i64 0), (.int .i64 0), (.int .i64 0)] [(0, 1), (1, 1), (2, 1)])), [(.tmp 12), (.tmp 15), (.tmp 18)]⟩, []⟩, ⟨10, ⟨(some 20), none, (.pure .id), [(.tmp 1)]⟩, []⟩, ⟨11, ⟨(some 21), none, (.pure (.un .neg)), [(.tmp 20)]⟩, []⟩, ⟨12, ⟨(some 22), none, (.pure .id), [(.tmp 2)]⟩, []⟩, ⟨13, ⟨(some 23), none, (.pure (.iaddr 1)), [(.tmp 22), (.const (.int .i64 0))]⟩, []⟩, ⟨14, ⟨(some 24), none, (.load (.load 1 false)), [(.tmp 23)]⟩, []⟩, ⟨15, ⟨(some 25), none, (.pure (.un .neg)), [(.tmp 24)]⟩, []⟩, ⟨16, ⟨(some 26), none, (.pure .id), [(.tmp 2)]⟩, []⟩, ⟨17, ⟨(some 27), none, (.pure (.iaddr 1)), [(.tmp 26), (.const (.int .i64 1))]⟩, []⟩, ⟨18, ⟨(some 28), none, (.load (.load 1 false)), [(.tmp 27)]⟩, []⟩, ⟨19, ⟨(some 29), none, (.pure (.un .neg)), [(.tmp 28)]⟩, []⟩, ⟨20, ⟨(some 30), none, (.pure (.build [(.int .i64 0), (.int .i64 0), (.int .i64 0)] [(0, 1), (1, 1), (2, 1)])), [(.tmp 21), (.tmp 25), (.tmp 29)]⟩, []⟩, ⟨21, ⟨(some 31), none, (.pure (.build [(.int .i64 0), (.int .i64 0), (.int .i64 0), (.int .i64 0), (.int .i64 0), (.int .i64 0)] [(0, 3), (3, 3)])), [(.tmp 19), (.tmp 30)]⟩, []⟩, ⟨22, ⟨(some 32), none, (.pure .id), [(.tmp 3)]⟩, []⟩, ⟨23, ⟨(some 33), none, (.call F_enc_both), [(.tmp 10), (.tmp 31), (.tmp 32)]⟩, []⟩]) (.region [⟨0, ⟨(some 34), none, (.pure .id), [(.tmp 0)]⟩, []⟩, ⟨1, ⟨(some 35), none, (.pure .id), [(.tmp 1)]⟩, []⟩, ⟨2, ⟨(some 36), none, (.pure .id), [(.tmp 2)]⟩, []⟩, ⟨3, ⟨(some 37), none, (.pure (.iaddr 1)), [(.tmp 36), (.const (.int .i64 0))]⟩, []⟩, ⟨4, ⟨(some 38), none, (.load (.load 1 false)), [(.tmp 37)]⟩, []⟩, ⟨5, ⟨(some 39), none, (.pure (.un .neg)), [(.tmp 38)]⟩, []⟩, ⟨6, ⟨(some 40), none, (.pure .id), [(.tmp 2)]⟩, []⟩, ⟨7, ⟨(some 41), none, (.pure (.iaddr 1)), [(.tmp 40), (.const (.int .i64 1))]⟩, []⟩, ⟨8, ⟨(some 42), none, (.load (.load 1 false)), [(.tmp 41)]⟩, []⟩, ⟨9, ⟨(some 43), none, (.pure (.build [(.int .i64 0), (.int .i64 0), (.int .i64 0)] [(0, 1), (1, 1), (2, 1)])), [(.tmp 35), (.tmp 39), (.tmp 42)]⟩, []⟩, ⟨10, ⟨(some 44), none, (.pure .id), [(.tmp 1)]⟩, []⟩, ⟨11, ⟨(some 45), none, (.pure .id), [(.tmp 2)]⟩, []⟩, ⟨12, ⟨(some 46), none, (.pure (.iaddr 1)), [(.tmp 45), (.const (.int .i64 0))]⟩, []⟩, ⟨13, ⟨(some 47), none, (.load (.load 1 false)), [(.tmp 46)]⟩, []⟩, ⟨14, ⟨(some 48), none, (.pure .id), [(.tmp 2)]⟩, []⟩, ⟨15, ⟨(some 49), none, (.pure (.iaddr 1)), [(.tmp 48), (.const (.int .i64 1))]⟩, []⟩, ⟨16, ⟨(some 50), none, (.load (.load 1 false)), [(.tmp 49)]⟩, []⟩, ⟨17, ⟨(some 51), none, (.pure (.un .neg)), [(.tmp 50)]⟩, []⟩, ⟨18, ⟨(some 52), none, (.pure (.build [(.int .i64 0), (.int .i64 0), (.int .i64 0)] [(0, 1), (1, 1), (2, 1)])), [(.tmp 44), (.tmp 47), (.tmp 51)]⟩, []⟩, ⟨19, ⟨(some 53), none, (.pure (.build [(.int .i64 0), (.int .i64 0), (.int .i64 0), (.int .i64 0), (.int .i64 0), (.int .i64 0)] [(0, 3), (3, 3)])), [(.tmp 43), (.tmp 52)]⟩, []⟩, ⟨20, ⟨(some 54), none, (.pure .id), [(.tmp 4)]⟩, []⟩, ⟨21, ⟨(some 55), none, (.call F_enc_both), [(.tmp 34), (.tmp 53), (.tmp 54)]⟩, []⟩]))⟩
theorem c_enc_writers_3 : compF Tryz.prog Tryz.f149 = some G_enc_writers_3 := by kernel_rfl
theorem gc_enc_writers_3 {args : List DV} {σ : GS} {Post : DV → GS → Prop} (h : @exB Tryz.prog ⟨G_enc_writers_3.body⟩ (genv0 args G_enc_writers_3.ntmps) σ ⟨@gretB G_enc_writers_3.results ⟨Post⟩⟩) : GCall Tryz.prog F_enc_writers_3 args σ Post := gcall_ofB seatfollows Tryz.func149 (by kernel_rfl) c_enc_writers_3 h
noncomputable abbrev G_enc_writers_4 : GFun := ⟨56, [], (.seq (.region [⟨0, ⟨(some 10), none, (.pure .id), [(.tmp 0)]⟩, []⟩, ⟨1, ⟨(some 11), none, (.pure .id), [(.tmp 1)]⟩, []⟩, ⟨2, ⟨(some 12), none, (.pure (.un .neg)), [(.tmp 11)]⟩, []⟩, ⟨3, ⟨(some 13), none, (.pure .id), [(.tmp 2)]⟩, []⟩, ⟨4, ⟨(some 14), none, (.pure (.iaddr 1)), [(.tmp 13), (.const (.int .i64 0))]⟩, []⟩, ⟨5, ⟨(some 15), none, (.load (.load 1 false)), [(.tmp 14)]⟩, []⟩, ⟨6, ⟨(some 16), none, (.pure (.un .neg)), [(.tmp 15)]⟩, []⟩, ⟨7, ⟨(some 17), none, (.pure .id), [(.tmp 2)]⟩, []⟩, ⟨8, ⟨(some 18), none, (.pure (.iaddr 1)), [(.tmp 17), (.const (.int .i64 1))]⟩, []⟩, ⟨9, ⟨(some 19), none, (.load (.load 1 false)), [(.tmp 18)]⟩, []⟩, ⟨10, ⟨(some 20), none, (.pure (.build [(.int .i64 0), (.int .i64 0), (.int .i64 0)] [(0, 1), (1, 1), (2, 1)])), [(.tmp 12), (.tmp 16), (.tmp 19)]⟩, []⟩, ⟨11, ⟨(some 21), none, (.pure .id), [(.tmp 1)]⟩, []⟩, ⟨12, ⟨(some 22), none, (.pure (.un .neg)), [(.tmp 21)]⟩, []⟩, ⟨13, ⟨(some 23), none, (.pure .id), [(.tmp 2)]⟩, []⟩, ⟨14, ⟨(some 24), none, (.pure (.iaddr 1)), [(.tmp 23), (.const (.int .i64 0))]⟩, []⟩, ⟨15, ⟨(some 25), none, (.load (.load 1 false)), [(.tmp 24)]⟩, []⟩, ⟨16, ⟨(some 26), none, (.pure .id), [(.tmp 2)]⟩, []⟩, ⟨17, ⟨(some 27), none, (.pure (.iaddr 1)), [(.tmp 26), (.const (.int .i64 2))]⟩, []⟩, ⟨18, ⟨(some 28), none, (.load (.load 1 false)), [(.tmp 27)]⟩, []⟩, ⟨19, ⟨(some 29), none, (.pure (.build [(.int .i64 0), (.int .i64 0), (.int .i64 0)] [(0, 1), (1, 1), (2, 1)])), [(.tmp 22), (.tmp 25), (.tmp 28)]⟩, []⟩, ⟨20, ⟨(some 30), none, (.pure (.build [(.int .i64 0), (.int .i64 0), (.int .i64 0), (.int .i64 0), (.int .i64 0), (.int .i64 0)] [(0, 3), (3, 3)])), [(.tmp 20), (.tmp 29)]⟩, []⟩, ⟨21, ⟨(some 31), none, (.pure .id), [(.tmp 3)]⟩, []⟩, ⟨22, ⟨(some 32), none, (.call F_enc_both), [(.tmp 10), (.tmp 30), (.tmp 31)]⟩, []⟩]) (.region [⟨0, ⟨(some 33), none, (.pure .id), [(.tmp 0)]⟩, []⟩, ⟨1, ⟨(some 34), none, (.pure .id), [(.tmp 1)]⟩, []⟩, ⟨2, ⟨(some 35), none, (.pure .id), [(.tmp 2)]⟩, []⟩, ⟨3, ⟨(some 36), none, (.pure (.iaddr 1)), [(.tmp 35), (.const (.int .i64 0))]⟩, []⟩, ⟨4, ⟨(some 37), none, (.load (.load 1 false)), [(.tmp 36)]⟩, []⟩, ⟨5, ⟨(some 38), none, (.pure (.un .neg)), [(.tmp 37)]⟩, []⟩, ⟨6, ⟨(some 39), none, (.pure .id), [(.tmp 2)]⟩, []⟩, ⟨7, ⟨(some 40), none, (.pure (.iaddr 1)), [(.tmp 39), (.const (.int .i64 1))]⟩, []⟩, ⟨8, ⟨(some 41), none, (.load (.load 1 false)), [(.tmp 40)]⟩, []⟩, ⟨9, ⟨(some 42), none, (.pure (.un .neg)), [(.tmp 41)]⟩, []⟩, ⟨10, ⟨(some 43), none, (.pure (.build [(.int .i64 0), (.int .i64 0), (.int .i64 0)] [(0, 1), (1, 1), (2, 1)])), [(.tmp 34), (.tmp 38), (.tmp 42)]⟩, []⟩, ⟨11, ⟨(some 44), none, (.pure .id), [(.tmp 1)]⟩, []⟩, ⟨12, ⟨(some 45), none, (.pure .id), [(.tmp 2)]⟩, []⟩, ⟨13, ⟨(some 46), none, (.pure (.iaddr 1)), [(.tmp 45), (.const (.int .i64 0))]⟩, []⟩, ⟨14, ⟨(some 47), none, (.load (.load 1 false)), [(.tmp 46)]⟩, []⟩, ⟨15, ⟨(some 48), none, (.pure .id), [(.tmp 2)]⟩, []⟩, ⟨16, ⟨(some 49), none, (.pure (.iaddr 1)), [(.tmp 48), (.const (.int .i64 2))]⟩, []⟩, ⟨17, ⟨(some 50), none, (.load (.load 1 false)), [(.tmp 49)]⟩, []⟩, ⟨18, ⟨(some 51), none, (.pure (.un .neg)), [(.tmp 50)]⟩, []⟩, ⟨19, ⟨(some 52), none, (.pure (.build [(.int .i64 0), (.int .i64 0), (.int .i64 0)] [(0, 1), (1, 1), (2, 1)])), [(.tmp 44), (.tmp 47), (.tmp 51)]⟩, []⟩, ⟨20, ⟨(some 53), none, (.pure (.build [(.int .i64 0), (.int .i64 0), (.int .i64 0), (.int .i64 0), (.int .i64 0), (.int .i64 0)] [(0, 3), (3, 3)])), [(.tmp 43), (.tmp 52)]⟩, []⟩, ⟨21, ⟨(some 54), none, (.pure .id), [(.tmp 4)]⟩, []⟩, ⟨22, ⟨(some 55), none, (.call F_enc_both), [(.tmp 33), (.tmp 53), (.tmp 54)]⟩, []⟩]))⟩
theorem c_enc_writers_4 : compF Tryz.prog Tryz.f151 = some G_enc_writers_4 := by kernel_rfl
theorem gc_enc_writers_4 {args : List DV} {σ : GS} {Post : DV → GS → Prop} (h : @exB Tryz.prog ⟨G_enc_writers_4.body⟩ (genv0 args G_enc_writers_4.ntmps) σ ⟨@gretB G_enc_writers_4.results ⟨Post⟩⟩) : GCall Tryz.prog F_enc_writers_4 args σ Post := gcall_ofB seatfollows Tryz.func151 (by kernel_rfl) c_enc_writers_4 h
noncomputable abbrev G_enc_both : GFun := ⟨17, [], (.seq (.region [⟨0, ⟨(some 4), none, (.new .box), [(.tmp 1)]⟩, []⟩]) (.seq (.region [⟨0, ⟨(some 8), none, (.load (.load 6 true)), [(.tmp 4)]⟩, []⟩, ⟨0, ⟨(some 9), none, (.pure .id), [(.const (.int .i64 0))]⟩, []⟩]) (.block 0 (.loop (.seq (.region [⟨0, ⟨(some 10), none, (.pure (.bin .lss .none)), [(.tmp 9), (.const (.int .i64 2))]⟩, []⟩]) (.seq (.cond (.tmp 10) .skip (.exit 0)) (.seq (.block 1 (.seq (.region [⟨0, ⟨(some 11), none, (.pure (.index 2 3 true)), [(.tmp 8), (.tmp 9)]⟩, []⟩, ⟨0, ⟨(some 7), none, (.new (.alloc [(.int .i64 0), (.int .i64 0), (.int .i64 0)])), []⟩, []⟩, ⟨0, ⟨none, none, (.imp (.store 3)), [(.tmp 7), (.tmp 11)]⟩, []⟩]) (.seq (.region [⟨0, ⟨(some 12), none, (.pure .id), [(.tmp 2)]⟩, []⟩]) (.cond (.tmp 12) (.region [⟨0, ⟨(some 13), none, (.pure .id), [(.tmp 0)]⟩, []⟩, ⟨0, ⟨(some 14), none, (.load (.aslice 3 1 false false)), [(.tmp 7)]⟩, []⟩, ⟨0, ⟨(some 15), none, (.call F_enc_clauses_put), [(.tmp 13), (.tmp 14)]⟩, []⟩]) .skip)))) (.region [⟨0, ⟨(some 16), none, (.pure (.bin .add .none)), [(.tmp 9), (.const (.int .i64 1))]⟩, []⟩, ⟨0, ⟨(some 9), none, (.pure .id), [(.tmp 16)]⟩, []⟩]))))))))⟩
theorem c_enc_both : compF Tryz.prog Tryz.f150 = some G_enc_both := by kernel_rfl
theorem gc_enc_both {args : List DV} {σ : GS} {Post : DV → GS → Prop} (h : @exB Tryz.prog ⟨G_enc_both.body⟩ (genv0 args G_enc_both.ntmps) σ ⟨@gretB G_enc_both.results ⟨Post⟩⟩) : GCall Tryz.prog F_enc_both args σ Post := gcall_ofB seatfollows Tryz.func150 (by kernel_rfl) c_enc_both h
noncomputable abbrev G_enc_neg : GFun := ⟨23, [(.tmp 2)], (.seq (.region [⟨0, ⟨(some 2), none, (.pure .id), [(.const .nils)]⟩, []⟩]) (.seq (.region [⟨0, ⟨(some 6), none, (.pure .id), [(.tmp 0)]⟩, []⟩, ⟨0, ⟨(some 7), none, (.pure .len), [(.tmp 6)]⟩, []⟩, ⟨0, ⟨(some 8), none, (.new (.mslice 1 8 [(.int .i64 0)])), [(.tmp 7), (.tmp 7)]⟩, []⟩, ⟨0, ⟨(some 3), none, (.pure .id), [(.tmp 8)]⟩, []⟩]) (.seq (.seq (.region [⟨0, ⟨(some 9), none, (.pure .id), [(.tmp 0)]⟩, []⟩, ⟨0, ⟨(some 10), none, (.pure .len), [(.tmp 9)]⟩, []⟩, ⟨0, ⟨(some 11), none, (.pure .id), [(.const (.int .i64 0))]⟩, []⟩]) (.block 0 (.loop (.seq (.region [⟨0, ⟨(some 12), none, (.pure (.bin .lss .none)), [(.tmp 11), (.tmp 10)]⟩, []⟩]) (.seq (.cond (.tmp 12) .skip (.exit 0)) (.seq (.block 1 (.seq (.region [⟨0, ⟨(some 13), none, (.pure .id), [(.tmp 11)]⟩, []⟩, ⟨0, ⟨(some 14), none, (.pure (.iaddr 1)), [(.tmp 9), (.tmp 11)]⟩, []⟩, ⟨0, ⟨(some 15), none, (.load (.load 1 false)), [(.tmp 14)]⟩, []⟩, ⟨0, ⟨(some 4), none, (.pure .id), [(.tmp 13)]⟩, []⟩, ⟨0, ⟨(some 5), none, (.pure .id), [(.tmp 15)]⟩, []⟩]) (.region [⟨0, ⟨(some 16), none, (.pure .id), [(.tmp 3)]⟩, []⟩, ⟨0, ⟨(some 17), none, (.pure .id), [(.tmp 4)]⟩, []⟩, ⟨0, ⟨(some 18), none, (.pure .id), [(.tmp 5)]⟩, []⟩, ⟨0, ⟨(some 19), none, (.pure (.un .neg)), [(.tmp 18)]⟩, []⟩, ⟨0, ⟨(some 20), none, (.pure (.iaddr 1)), [(.tmp 16), (.tmp 17)]⟩, []⟩, ⟨0, ⟨none, none, (.imp (.store 1)), [(.tmp 20), (.tmp 19)]⟩, []⟩]))) (.region [⟨0, ⟨(some 21), none, (.pure (.bin .add .none)), [(.tmp 11), (.const (.int .i64 1))]⟩, []⟩, ⟨0, ⟨(some 11), none, (.pure .id), [(.tmp 21)]⟩, []⟩]))))))) (.seq (.region [⟨0, ⟨(some 22), none, (.pure .id), [(.tmp 3)]⟩, []⟩, ⟨0, ⟨(some 2), none, (.pure .id), [(.tmp 22)]⟩, []⟩]) .ret))))⟩
theorem c_enc_neg : compF Tryz.prog Tryz.f147 = some G_enc_neg := by kernel_rfl
theorem gc_enc_neg {args : List DV} {σ : GS} {Post : DV → GS → Prop} (h : @exB Tryz.prog ⟨G_enc_neg.body⟩ (genv0 args G_enc_neg.ntmps) σ ⟨@gretB G_enc_neg.results ⟨Post⟩⟩) : GCall Tryz.prog F_enc_neg args σ Post := gcall_ofB seatfollows Tryz.func147 (by kernel_rfl) c_enc_neg h
noncomputable abbrev G_enc_clauses_put : GFun := ⟨21, [], (.seq (.region [⟨0, ⟨(some 5), none, (.pure .id), [(.tmp 1)]⟩, []⟩, ⟨0, ⟨(some 6), none, (.call F_slices_Clone_int_int), [(.tmp 5)]⟩, []⟩, ⟨0, ⟨(some 4), none, (.pure .id), [(.tmp 6)]⟩, []⟩]) (.seq (.region [⟨0, ⟨(some 7), none, (.pure .id), [(.tmp 4)]⟩, []⟩, ⟨0, ⟨(some 8), none, (.call F_slices_SortFunc_int_int), [(.tmp 7), (.const (.func F_enc_clauses_put_1 [] []))]⟩, []⟩]) (.seq (.region [⟨0, ⟨(some 9), none, (.pure .id), [(.tmp 4)]⟩, []⟩, ⟨0, ⟨(some 10), none, (.call F_slices_Compact_int_int), [(.tmp 9)]⟩, []⟩, ⟨0, ⟨(some 4), none, (.pure .id), [(.tmp 10)]⟩, []⟩]) (.seq (.region [⟨0, ⟨(some 11), none, (.pure .id), [(.tmp 4)]⟩, []⟩, ⟨0, ⟨(some 12), none, (.call F_enc_normal), [(.tmp 11)]⟩, []⟩]) (.cond (.tmp 12) (.region [⟨0, ⟨(some 13), none, (.pure .id), [(.tmp 0)]⟩, []⟩, ⟨0, ⟨(some 14), none, (.pure .id), [(.tmp 0)]⟩, []⟩, ⟨0, ⟨(some 15), none, (.pure .nilck), [(.tmp 14)]⟩, []⟩, ⟨0, ⟨(some 16), none, (.load (.load 1 false)), [(.tmp 15)]⟩, []⟩, ⟨0, ⟨(some 17), none, (.pure .id), [(.tmp 4)]⟩, []⟩, ⟨0, ⟨(some 18), none, (.new (.bslice 1 [.nils] 1 [(0, 1)])), [(.tmp 17)]⟩, []⟩, ⟨0, ⟨(some 19), none, (.imp (.append 1 24)), [(.tmp 16), (.tmp 18)]⟩, []⟩, ⟨0, ⟨(some 20), none, (.pure .nilck), [(.tmp 13)]⟩, []⟩, ⟨0, ⟨none, none, (.imp (.store 1)), [(.tmp 20), (.tmp 19)]⟩, []⟩]) .skip)))))⟩
theorem c_enc_clauses_put : compF Tryz.prog Tryz.f88 = some G_enc_clauses_put := by kernel_rfl
theorem gc_enc_clauses_put {args : List DV} {σ : GS} {Post : DV → GS → Prop} (h : @exB Tryz.prog ⟨G_enc_clauses_put.body⟩ (genv0 args G_enc_clauses_put.ntmps) σ ⟨@gretB G_enc_clauses_put.results ⟨Post⟩⟩) : GCall Tryz.prog F_enc_clauses_put args σ Post := gcall_ofB seatfollows Tryz.func88 (by kernel_rfl) c_enc_clauses_put h
noncomputable abbrev G_enc_normal : GFun := ⟨19, [(.tmp 2)], (.seq (.region [⟨0, ⟨(some 2), none, (.pure .id), [(.const (.bool false))]⟩, []⟩]) (.seq (.region [⟨0, ⟨(some 3), none, (.pure .id), [(.const (.int .i64 0))]⟩, []⟩]) (.seq (.seq (.region [⟨0, ⟨(some 6), none, (.pure .id), [(.tmp 0)]⟩, []⟩, ⟨0, ⟨(some 7), none, (.pure .len), [(.tmp 6)]⟩, []⟩, ⟨0, ⟨(some 8), none, (.pure .id), [(.const (.int .i64 0))]⟩, []⟩]) (.block 0 (.loop (.seq (.region [⟨0, ⟨(some 9), none, (.pure (.bin .lss .none)), [(.tmp 8), (.tmp 7)]⟩, []⟩]) (.seq (.cond (.tmp 9) .skip (.exit 0)) (.seq (.block 1 (.seq (.region [⟨0, ⟨(some 10), none, (.pure (.iaddr 1)), [(.tmp 6), (.tmp 8)]⟩, []⟩, ⟨0, ⟨(some 11), none, (.load (.load 1 false)), [(.tmp 10)]⟩, []⟩, ⟨0, ⟨(some 5), none, (.pure .id), [(.tmp 11)]⟩, []⟩]) (.seq (.seq (.region [⟨0, ⟨(some 12), none, (.pure .id), [(.tmp 5)]⟩, []⟩, ⟨0, ⟨(some 13), none, (.call F_enc_abs), [(.tmp 12)]⟩, []⟩, ⟨0, ⟨(some 14), none, (.pure .id), [(.tmp 3)]⟩, []⟩, ⟨0, ⟨(some 15), none, (.pure (.bin .leq .none)), [(.tmp 13), (.tmp 14)]⟩, []⟩]) (.cond (.tmp 15) (.seq (.region [⟨0, ⟨(some 2), none, (.pure .id), [(.const (.bool false))]⟩, []⟩]) .ret) .skip)) (.region [⟨0, ⟨(some 16), none, (.pure .id), [(.tmp 5)]⟩, []⟩, ⟨0, ⟨(some 17), none, (.call F_enc_abs), [(.tmp 16)]⟩, []⟩, ⟨0, ⟨(some 3), none, (.pure .id), [(.tmp 17)]⟩, []⟩])))) (.region [⟨0, ⟨(some 18), none, (.pure (.bin .add .none)), [(.tmp 8), (.const (.int .i64 1))]⟩, []⟩, ⟨0, ⟨(some 8), none, (.pure .id), [(.tmp 18)]⟩, []⟩]))))))) (.seq (.region [⟨0, ⟨(some 2), none, (.pure .id), [(.const (.bool true))]⟩, []⟩]) .ret))))⟩
theorem c_enc_normal : compF Tryz.prog Tryz.f100 = some G_enc_normal := by kernel_rfl
theorem gc_enc_normal {args : List DV} {σ : GS} {Post : DV → GS → Prop} (h : @exB Tryz.prog ⟨G_enc_normal.body⟩ (genv0 args G_enc_normal.ntmps) σ ⟨@gretB G_enc_normal.results ⟨Post⟩⟩) : GCall Tryz.prog F_enc_normal args σ Post := gcall_ofB seatfollows Tryz.func100 (by kernel_rfl) c_enc_normal h
noncomputable abbrev G_skolemref12_Clauses : GFun := ⟨186, [(.tmp 6)], (.seq (.region [⟨0, ⟨(some 3), none, (.new .box), [(.tmp 0)]⟩, []⟩, ⟨0, ⟨(some 6), none, (.pure .id), [(.const .nils)]⟩, []⟩]) (.seq (.region [⟨0, ⟨(some 18), none, (.pure (.faddr 0)), [(.tmp 3)]⟩, []⟩, ⟨0, ⟨(some 19), none, (.load (.load 1 false)), [(.tmp 18)]⟩, []⟩, ⟨0, ⟨(some 7), none, (.pure .id), [(.tmp 19)]⟩, []⟩]) (.seq (.region [⟨0, ⟨(some 8), none, (.pure .id), [(.const .nils)]⟩, []⟩]) (.seq (.seq (.region [⟨0, ⟨(some 20), none, (.pure (.faddr 1)), [(.tmp 3)]⟩, []⟩, ⟨0, ⟨(some 21), none, (.load (.load 1 false)), [(.tmp 20)]⟩, []⟩]) (.block 0 (.seq (.seq (.region [⟨0, ⟨(some 65), none, (.pure (.bin .eql .none)), [(.tmp 21), (.const (.int .u8 1))]⟩, []⟩, ⟨0, ⟨(some 64), none, (.pure .id), [(.tmp 65)]⟩, []⟩]) (.cond (.tmp 64) .skip (.region [⟨0, ⟨(some 66), none, (.pure (.bin .eql .none)), [(.tmp 21), (.const (.int .u8 2))]⟩, []⟩, ⟨0, ⟨(some 64), none, (.pure .id), [(.tmp 66)]⟩, []⟩]))) (.cond (.tmp 64) (.seq (.region [⟨0, ⟨(some 9), none, (.pure .id), [(.const (.int .i64 1))]⟩, []⟩]) (.seq (.seq (.region [⟨0, ⟨(some 67), none, (.pure (.faddr 1)), [(.tmp 3)]⟩, []⟩, ⟨0, ⟨(some 68), none, (.load (.load 1 false)), [(.tmp 67)]⟩, []⟩, ⟨0, ⟨(some 69), none, (.pure (.bin .eql .none)), [(.tmp 68), (.const (.int .u8 2))]⟩, []⟩]) (.cond (.tmp 69) (.region [⟨0, ⟨(some 9), none, (.pure .id), [(.const (.int .i64 (-1)))]⟩, []⟩]) .skip)) (.seq (.region [⟨0, ⟨(some 70), none, (.pure .id), [(.tmp 9)]⟩, []⟩, ⟨0, ⟨(some 71), none, (.pure .id), [(.tmp 7)]⟩, []⟩, ⟨0, ⟨(some 72), none, (.pure (.bin .mul .none)), [(.tmp 70), (.tmp 71)]⟩, []⟩, ⟨0, ⟨(some 73), none, (.new (.bslice 1 [(.int .i64 0)] 1 [(0, 1)])), [(.tmp 72)]⟩, []⟩, ⟨0, ⟨(some 10), none, (.pure .id), [(.tmp 73)]⟩, []⟩]) (.seq (.seq (.region [⟨0, ⟨(some 11), none, (.pure .id), [(.const (.int .i64 0))]⟩, []⟩]) (.block 1 (.loop (.seq (.seq (.region [⟨0, ⟨(some 74), none, (.pure .id), [(.tmp 11)]⟩, []⟩, ⟨0, ⟨(some 75), none, (.pure (.faddr 2)), [(.tmp 3)]⟩, []⟩, ⟨0, ⟨(some 76), none, (.load (.load 1 false)), [(.tmp 75)]⟩, []⟩, ⟨0, ⟨(some 77), none, (.pure .len), [(.tmp 76)]⟩, []⟩, ⟨0, ⟨(some 78), none, (.pure (.bin .lss .none)), [(.tmp 74), (.tmp 77)]⟩, []⟩]) (.cond (.tmp 78) .skip (.exit 1))) (.seq (.block 2 (.region [⟨0, ⟨(some 81), none, (.pure .id), [(.tmp 10)]⟩, []⟩, ⟨0, ⟨(some 82), none, (.pure .id), [(.tmp 9)]⟩, []⟩, ⟨0, ⟨(some 83), none, (.pure (.un .neg)), [(.tmp 82)]⟩, []⟩, ⟨0, ⟨(some 84), none, (.pure (.faddr 2)), [(.tmp 3)]⟩, []⟩, ⟨0, ⟨(some 85), none, (.load (.load 1 false)), [(.tmp 84)]⟩, []⟩, ⟨0, ⟨(some 86), none, (.pure .id), [(.tmp 11)]⟩, []⟩, ⟨0, ⟨(some 87), none, (.pure (.iaddr 1)), [(.tmp 85), (.tmp 86)]⟩, []⟩, ⟨0, ⟨(some 88), none, (.load (.load 1 false)), [(.tmp 87)]⟩, []⟩, ⟨0, ⟨(some 89), none, (.pure (.bin .mul .none)), [(.tmp 83), (.tmp 88)]⟩, []⟩, ⟨0, ⟨(some 90), none, (.new (.bslice 1 [(.int .i64 0)] 1 [(0, 1)])), [(.tmp 89)]⟩, []⟩, ⟨0, ⟨(some 91), none, (.imp (.append 1 8)), [(.tmp 81), (.tmp 90)]⟩, []⟩, ⟨0, ⟨(some 10), none, (.pure .id), [(.tmp 91)]⟩, []⟩])) (.region [⟨0, ⟨(some 79), none, (.pure .id), [(.tmp 11)]⟩, []⟩, ⟨0, ⟨(some 80), none, (.pure (.bin .add .none)), [(.tmp 79), (.const (.int .i64 1))]⟩, []⟩, ⟨0, ⟨(some 11), none, (.pure .id), [(.tmp 80)]⟩, []⟩])))))) (.seq (.seq (.region [⟨0, ⟨(some 92), none, (.pure (.faddr 1)), [(.tmp 3)]⟩, []⟩, ⟨0, ⟨(some 93), none, (.load (.load 1 false)), [(.tmp 92)]⟩, []⟩, ⟨0, ⟨(some 94), none, (.pure (.bin .eql .none)), [(.tmp 93), (.const (.int .u8 2))]⟩, []⟩, ⟨0, ⟨(some 95), none, (.pure .id), [(.tmp 94)]⟩, []⟩, ⟨0, ⟨(some 96), (some (95, true)), (.pure .id), [(.tmp 1)]⟩, []⟩, ⟨0, ⟨(some 97), none, (.pure .pick), [(.tmp 95), (.tmp 96), (.const (.bool false))]⟩, []⟩]) (.cond (.tmp 97) (.region [⟨0, ⟨(some 98), none, (.pure .id), [(.tmp 8)]⟩, []⟩, ⟨0, ⟨(some 99), none, (.pure .id), [(.tmp 10)]⟩, []⟩, ⟨0, ⟨(some 100), none, (.call F_skolemref12_Put), [(.tmp 98), (.tmp 99)]⟩, []⟩, ⟨0, ⟨(some 8), none, (.pure .id), [(.tmp 100)]⟩, []⟩]) .skip)) (.seq (.seq (.region [⟨0, ⟨(some 12), none, (.pure .id), [(.const (.int .i64 0))]⟩, []⟩]) (.block 3 (.loop (.seq (.seq (.region [⟨0, ⟨(some 101), none, (.pure .id), [(.tmp 12)]⟩, []⟩, ⟨0, ⟨(some 102), none, (.pure (.faddr 2)), [(.tmp 3)]⟩, []⟩, ⟨0, ⟨(some 103), none, (.load (.load 1 false)), [(.tmp 102)]⟩, []⟩, ⟨0, ⟨(some 104), none, (.pure .len), [(.tmp 103)]⟩, []⟩, ⟨0, ⟨(some 105), none, (.pure (.bin .lss .none)), [(.tmp 101), (.tmp 104)]⟩, []⟩]) (.cond (.tmp 105) .skip (.exit 3))) (.seq (.block 4 (.seq (.region [⟨0, ⟨(some 108), none, (.pure (.faddr 1)), [(.tmp 3)]⟩, []⟩, ⟨0, ⟨(some 109), none, (.load (.load 1 false)), [(.tmp 108)]⟩, []⟩, ⟨0, ⟨(some 110), none, (.pure (.bin .eql .none)), [(.tmp 109), (.const (.int .u8 1))]⟩, []⟩, ⟨0, ⟨(some 111), none, (.pure .id), [(.tmp 110)]⟩, []⟩, ⟨0, ⟨(some 112), (some (111, true)), (.pure .id), [(.tmp 1)]⟩, []⟩, ⟨0, ⟨(some 113), none, (.pure .pick), [(.tmp 111), (.tmp 112), (.const (.bool false))]⟩, []⟩, ⟨0, ⟨(some 114), none, (.pure .id), [(.tmp 113)]⟩, []⟩, ⟨0, ⟨(some 115), (some (114, false)), (.pure (.faddr 1)), [(.tmp 3)]⟩, []⟩, ⟨0, ⟨(some 116), (some (114, false)), (.load (.load 1 false)), [(.tmp 115)]⟩, []⟩, ⟨0, ⟨(some 117), (some (114, false)), (.pure (.bin .eql .none)), [(.tmp 116), (.const (.int .u8 2))]⟩, []⟩, ⟨0, ⟨(some 118), (some (114, false)), (.pure .id), [(.tmp 117)]⟩, []⟩, ⟨0, ⟨(some 119), (some (118, true)), (.pure .id), [(.tmp 2)]⟩, []⟩, ⟨0, ⟨(some 120), (some (114, false)), (.pure .pick), [(.tmp 118), (.tmp 119), (.const (.bool false))]⟩, []⟩, ⟨0, ⟨(some 121), none, (.pure .pick), [(.tmp 114), (.const (.bool true)), (.tmp 120)]⟩, []⟩]) (.cond (.tmp 121) (.region [⟨0, ⟨(some 122), none, (.pure .id), [(.tmp 8)]⟩, []⟩, ⟨0, ⟨(some 123), none, (.pure .id), [(.tmp 9)]⟩, []⟩, ⟨0, ⟨(some 124), none, (.pure (.un .neg)), [(.tmp 123)]⟩, []⟩, ⟨0, ⟨(some 125), none, (.pure .id), [(.tmp 7)]⟩, []⟩, ⟨0, ⟨(some 126), none, (.pure (.bin .mul .none)), [(.tmp 124), (.tmp 125)]⟩, []⟩, ⟨0, ⟨(some 127), none, (.pure .id), [(.tmp 9)]⟩, []⟩, ⟨0, ⟨(some 128), none, (.pure (.faddr 2)), [(.tmp 3)]⟩, []⟩, ⟨0, ⟨(some 129), none, (.load (.load 1 false)), [(.tmp 128)]⟩, []⟩, ⟨0, ⟨(some 130), none, (.pure .id), [(.tmp 12)]⟩, []⟩, ⟨0, ⟨(some 131), none, (.pure (.iaddr 1)), [(.tmp 129), (.tmp 130)]⟩, []⟩, ⟨0, ⟨(some 132), none, (.load (.load 1 false)), [(.tmp 131)]⟩, []⟩, ⟨0, ⟨(some 133), none, (.pure (.bin .mul .none)), [(.tmp 127), (.tmp 132)]⟩, []⟩, ⟨0, ⟨(some 134), none, (.new (.bslice 1 [(.int .i64 0)] 2 [(0, 1), (1, 1)])), [(.tmp 126), (.tmp 133)]⟩, []⟩, ⟨0, ⟨(some 135), none, (.call F_skolemref12_Put), [(.tmp 122), (.tmp 134)]⟩, []⟩, ⟨0, ⟨(some 8), none, (.pure .id), [(.tmp 135)]⟩, []⟩]) .skip))) (.region [⟨0, ⟨(some 106), none, (.pure .id), [(.tmp 12)]⟩, []⟩, ⟨0, ⟨(some 107), none, (.pure (.bin .add .none)), [(.tmp 106), (.const (.int .i64 1))]⟩, []⟩, ⟨0, ⟨(some 12), none, (.pure .id), [(.tmp 107)]⟩, []⟩])))))) (.seq (.region [⟨0, ⟨(some 136), none, (.pure (.faddr 1)), [(.tmp 3)]⟩, []⟩, ⟨0, ⟨(some 137), none, (.load (.load 1 false)), [(.tmp 136)]⟩, []⟩, ⟨0, ⟨(some 138), none, (.pure (.bin .eql .none)), [(.tmp 137), (.const (.int .u8 1))]⟩, []⟩, ⟨0, ⟨(some 139), none, (.pure .id), [(.tmp 138)]⟩, []⟩, ⟨0, ⟨(some 140), (some (139, true)), (.pure .id), [(.tmp 2)]⟩, []⟩, ⟨0, ⟨(some 141), none, (.pure .pick), [(.tmp 139), (.tmp 140), (.const (.bool false))]⟩, []⟩]) (.cond (.tmp 141) (.region [⟨0, ⟨(some 142), none, (.pure .id), [(.tmp 8)]⟩, []⟩, ⟨0, ⟨(some 143), none, (.pure .id), [(.tmp 10)]⟩, []⟩, ⟨0, ⟨(some 144), none, (.call F_skolemref12_Put), [(.tmp 142), (.tmp 143)]⟩, []⟩, ⟨0, ⟨(some 8), none, (.pure .id), [(.tmp 144)]⟩, []⟩]) .skip)))))))) (.seq (.region [⟨0, ⟨(some 146), none, (.pure (.bin .eql .none)), [(.tmp 21), (.const (.int .u8 3))]⟩, []⟩, ⟨0, ⟨(some 145), none, (.pure .id), [(.tmp 146)]⟩, []⟩]) (.cond (.tmp 145) (.seq (.region [⟨0, ⟨(some 147), none, (.pure (.faddr 2)), [(.tmp 3)]⟩, []⟩, ⟨1, ⟨(some 148), none, (.load (.load 1 false)), [(.tmp 147)]⟩, []⟩, ⟨2, ⟨(some 149), none, (.pure (.iaddr 1)), [(.tmp 148), (.const (.int .i64 0))]⟩, []⟩, ⟨3, ⟨(some 150), none, (.load (.load 1 false)), [(.tmp 149)]⟩, []⟩, ⟨4, ⟨(some 151), none, (.pure (.faddr 2)), [(.tmp 3)]⟩, []⟩, ⟨5, ⟨(some 152), none, (.load (.load 1 false)), [(.tmp 151)]⟩, []⟩, ⟨6, ⟨(some 153), none, (.pure (.iaddr 1)), [(.tmp 152), (.const (.int .i64 1))]⟩, []⟩, ⟨7, ⟨(some 154), none, (.load (.load 1 false)), [(.tmp 153)]⟩, []⟩, ⟨8, ⟨(some 13), none, (.pure .id), [(.tmp 150)]⟩, []⟩, ⟨9, ⟨(some 14), none, (.pure .id), [(.tmp 154)]⟩, []⟩]) (.seq (.seq (.region [⟨0, ⟨(some 155), none, (.pure .id), [(.tmp 1)]⟩, []⟩]) (.cond (.tmp 155) (.region [⟨0, ⟨(some 156), none, (.pure .id), [(.tmp 8)]⟩, []⟩, ⟨0, ⟨(some 157), none, (.pure .id), [(.tmp 7)]⟩, []⟩, ⟨0, ⟨(some 158), none, (.pure (.un .neg)), [(.tmp 157)]⟩, []⟩, ⟨0, ⟨(some 159), none, (.pure .id), [(.tmp 13)]⟩, []⟩, ⟨0, ⟨(some 160), none, (.pure .id), [(.tmp 14)]⟩, []⟩, ⟨0, ⟨(some 161), none, (.new (.bslice 1 [(.int .i64 0)] 3 [(0, 1), (1, 1), (2, 1)])), [(.tmp 158), (.tmp 159), (.tmp 160)]⟩, []⟩, ⟨0, ⟨(some 162), none, (.call F_skolemref12_Put), [(.tmp 156), (.tmp 161)]⟩, []⟩, ⟨0, ⟨(some 163), none, (.pure .id), [(.tmp 7)]⟩, []⟩, ⟨0, ⟨(some 164), none, (.pure (.un .neg)), [(.tmp 163)]⟩, []⟩, ⟨0, ⟨(some 165), none, (.pure .id), [(.tmp 13)]⟩, []⟩, ⟨0, ⟨(some 166), none, (.pure (.un .neg)), [(.tmp 165)]⟩, []⟩, ⟨0, ⟨(some 167), none, (.pure .id), [(.tmp 14)]⟩, []⟩, ⟨0, ⟨(some 168), none, (.pure (.un .neg)), [(.tmp 167)]⟩, []⟩, ⟨0, ⟨(some 169), none, (.new (.bslice 1 [(.int .i64 0)] 3 [(0, 1), (1, 1), (2, 1)])), [(.tmp 164), (.tmp 166), (.tmp 168)]⟩, []⟩, ⟨0, ⟨(some 170), none, (.call F_skolemref12_Put), [(.tmp 162), (.tmp 169)]⟩, []⟩, ⟨0, ⟨(some 8), none, (.pure .id), [(.tmp 170)]⟩, []⟩]) .skip)) (.seq (.region [⟨0, ⟨(some 171), none, (.pure .id), [(.tmp 2)]⟩, []⟩]) (.cond (.tmp 171) (.region [⟨0, ⟨(some 172), none, (.pure .id), [(.tmp 8)]⟩, []⟩, ⟨0, ⟨(some 173), none, (.pure .id), [(.tmp 7)]⟩, []⟩, ⟨0, ⟨(some 174), none, (.pure .id), [(.tmp 13)]⟩, []⟩, ⟨0, ⟨(some 175), none, (.pure (.un .neg)), [(.tmp 174)]⟩, []⟩, ⟨0, ⟨(some 176), none, (.pure .id), [(.tmp 14)]⟩, []⟩, ⟨0, ⟨(some 177), none, (.new (.bslice 1 [(.int .i64 0)] 3 [(0, 1), (1, 1), (2, 1)])), [(.tmp 173), (.tmp 175), (.tmp 176)]⟩, []⟩, ⟨0, ⟨(some 178), none, (.call F_skolemref12_Put), [(.tmp 172), (.tmp 177)]⟩, []⟩, ⟨0, ⟨(some 179), none, (.pure .id), [(.tmp 7)]⟩, []⟩, ⟨0, ⟨(some 180), none, (.pure .id), [(.tmp 13)]⟩, []⟩, ⟨0, ⟨(some 181), none, (.pure .id), [(.tmp 14)]⟩, []⟩, ⟨0, ⟨(some 182), none, (.pure (.un .neg)), [(.tmp 181)]⟩, []⟩, ⟨0, ⟨(some 183), none, (.new (.bslice 1 [(.int .i64 0)] 3 [(0, 1), (1, 1), (2, 1)])), [(.tmp 179), (.tmp 180), (.tmp 182)]⟩, []⟩, ⟨0, ⟨(some 184), none, (.call F_skolemref12_Put), [(.tmp 178), (.tmp 183)]⟩, []⟩, ⟨0, ⟨(some 8), none, (.pure .id), [(.tmp 184)]⟩, []⟩]) .skip)))) (.seq (.region [⟨0, ⟨(some 22), none, (.pure (.faddr 2)), [(.tmp 3)]⟩, []⟩, ⟨1, ⟨(some 23), none, (.load (.load 1 false)), [(.tmp 22)]⟩, []⟩, ⟨2, ⟨(some 24), none, (.pure (.iaddr 1)), [(.tmp 23), (.const (.int .i64 0))]⟩, []⟩, ⟨3, ⟨(some 25), none, (.load (.load 1 false)), [(.tmp 24)]⟩, []⟩, ⟨4, ⟨(some 26), none, (.pure (.faddr 2)), [(.tmp 3)]⟩, []⟩, ⟨5, ⟨(some 27), none, (.load (.load 1 false)), [(.tmp 26)]⟩, []⟩, ⟨6, ⟨(some 28), none, (.pure (.iaddr 1)), [(.tmp 27), (.const (.int .i64 1))]⟩, []⟩, ⟨7, ⟨(some 29), none, (.load (.load 1 false)), [(.tmp 28)]⟩, []⟩, ⟨8, ⟨(some 30), none, (.pure (.faddr 2)), [(.tmp 3)]⟩, []⟩, ⟨9, ⟨(some 31), none, (.load (.load 1 false)), [(.tmp 30)]⟩, []⟩, ⟨10, ⟨(some 32), none, (.pure (.iaddr 1)), [(.tmp 31), (.const (.int .i64 2))]⟩, []⟩, ⟨11, ⟨(some 33), none, (.load (.load 1 false)), [(.tmp 32)]⟩, []⟩, ⟨12, ⟨(some 15), none, (.pure .id), [(.tmp 25)]⟩, []⟩, ⟨13, ⟨(some 16), none, (.pure .id), [(.tmp 29)]⟩, []⟩, ⟨14, ⟨(some 17), none, (.pure .id), [(.tmp 33)]⟩, []⟩]) (.seq (.seq (.region [⟨0, ⟨(some 34), none, (.pure .id), [(.tmp 1)]⟩, []⟩]) (.cond (.tmp 34) (.region [⟨0, ⟨(some 35), none, (.pure .id), [(.tmp 8)]⟩, []⟩, ⟨0, ⟨(some 36), none, (.pure .id), [(.tmp 7)]⟩, []⟩, ⟨0, ⟨(some 37), none, (.pure (.un .neg)), [(.tmp 36)]⟩, []⟩, ⟨0, ⟨(some 38), none, (.pure .id), [(.tmp 15)]⟩, []⟩, ⟨0, ⟨(some 39), none, (.pure (.un .neg)), [(.tmp 38)]⟩, []⟩, ⟨0, ⟨(some 40), none, (.pure .id), [(.tmp 16)]⟩, []⟩, ⟨0, ⟨(some 41), none, (.new (.bslice 1 [(.int .i64 0)] 3 [(0, 1), (1, 1), (2, 1)])), [(.tmp 37), (.tmp 39), (.tmp 40)]⟩, []⟩, ⟨0, ⟨(some 42), none, (.call F_skolemref12_Put), [(.tmp 35), (.tmp 41)]⟩, []⟩, ⟨0, ⟨(some 43), none, (.pure .id), [(.tmp 7)]⟩, []⟩, ⟨0, ⟨(some 44), none, (.pure (.un .neg)), [(.tmp 43)]⟩, []⟩, ⟨0, ⟨(some 45), none, (.pure .id), [(.tmp 15)]⟩, []⟩, ⟨0, ⟨(some 46), none, (.pure .id), [(.tmp 17)]⟩, []⟩, ⟨0, ⟨(some 47), none, (.new (.bslice 1 [(.int .i64 0)] 3 [(0, 1), (1, 1), (2, 1)])), [(.tmp 44), (.tmp 45), (.tmp 46)]⟩, []⟩, ⟨0, ⟨(some 48), none, (.call F_skolemref12_Put), [(.tmp 42), (.tmp 47)]⟩, []⟩, ⟨0, ⟨(some 8), none, (.pure .id), [(.tmp 48)]⟩, []⟩]) .skip)) (.seq (.region [⟨0, ⟨(some 49), none, (.pure .id), [(.tmp 2)]⟩, []⟩]) (.cond (.tmp 49) (.region [⟨0, ⟨(some 50), none, (.pure .id), [(.tmp 8)]⟩, []⟩, ⟨0, ⟨(some 51), none, (.pure .id), [(.tmp 7)]⟩, []⟩, ⟨0, ⟨(some 52), none, (.pure .id), [(.tmp 15)]⟩, []⟩, ⟨0, ⟨(some 53), none, (.pure (.un .neg)), [(.tmp 52)]⟩, []⟩, ⟨0, ⟨(some 54), none, (.pure .id), [(.tmp 16)]⟩, []⟩, ⟨0, ⟨(some 55), none, (.pure (.un .neg)), [(.tmp 54)]⟩, []⟩, ⟨0, ⟨(some 56), none, (.new (.bslice 1 [(.int .i64 0)] 3 [(0, 1), (1, 1), (2, 1)])), [(.tmp 51), (.tmp 53), (.tmp 55)]⟩, []⟩, ⟨0, ⟨(some 57), none, (.call F_skolemref12_Put), [(.tmp 50), (.tmp 56)]⟩, []⟩, ⟨0, ⟨(some 58), none, (.pure .id), [(.tmp 7)]⟩, []⟩, ⟨0, ⟨(some 59), none, (.pure .id), [(.tmp 15)]⟩, []⟩, ⟨0, ⟨(some 60), none, (.pure .id), [(.tmp 17)]⟩, []⟩, ⟨0, ⟨(some 61), none, (.pure (.un .neg)), [(.tmp 60)]⟩, []⟩, ⟨0, ⟨(some 62), none, (.new (.bslice 1 [(.int .i64 0)] 3 [(0, 1), (1, 1), (2, 1)])), [(.tmp 58), (.tmp 59), (.tmp 61)]⟩, []⟩, ⟨0, ⟨(some 63), none, (.call F_skolemref12_Put), [(.tmp 57), (.tmp 62)]⟩, []⟩, ⟨0, ⟨(some 8), none, (.pure .id), [(.tmp 63)]⟩, []⟩]) .skip)))))))))) (.seq (.region [⟨0, ⟨(some 185), none, (.pure .id), [(.tmp 8)]⟩, []⟩, ⟨0, ⟨(some 6), none, (.pure .id), [(.tmp 185)]⟩, []⟩]) .ret)))))⟩
theorem c_skolemref12_Clauses : compF Tryz.prog Tryz.f82 = some G_skolemref12_Clauses := by kernel_rfl
theorem gc_skolemref12_Clauses {args : List DV} {σ : GS} {Post : DV → GS → Prop} (h : @exB Tryz.prog ⟨G_skolemref12_Clauses.body⟩ (genv0 args G_skolemref12_Clauses.ntmps) σ ⟨@gretB G_skolemref12_Clauses.results ⟨Post⟩⟩) : GCall Tryz.prog F_skolemref12_Clauses args σ Post := gcall_ofB seatfollows Tryz.func82 (by kernel_rfl) c_skolemref12_Clauses h
noncomputable abbrev G_skolemref12_Put : GFun := ⟨18, [(.tmp 4)], (.seq (.region [⟨0, ⟨(some 4), none, (.pure .id), [(.const .nils)]⟩, []⟩]) (.seq (.region [⟨0, ⟨(some 8), none, (.pure .id), [(.tmp 1)]⟩, []⟩, ⟨0, ⟨(some 9), none, (.call F_skolemref12_sorted), [(.tmp 8)]⟩, []⟩, ⟨0, ⟨(some 7), none, (.pure .id), [(.tmp 9)]⟩, []⟩, ⟨0, ⟨(some 10), none, (.pure (.extract 0)), [(.tmp 7)]⟩, []⟩, ⟨0, ⟨(some 11), none, (.pure (.extract 1)), [(.tmp 7)]⟩, []⟩, ⟨0, ⟨(some 5), none, (.pure .id), [(.tmp 10)]⟩, []⟩, ⟨0, ⟨(some 6), none, (.pure .id), [(.tmp 11)]⟩, []⟩]) (.seq (.seq (.region [⟨0, ⟨(some 12), none, (.pure .id), [(.tmp 6)]⟩, []⟩]) (.cond (.tmp 12) (.seq (.region [⟨0, ⟨(some 13), none, (.pure .id), [(.tmp 0)]⟩, []⟩, ⟨0, ⟨(some 14), none, (.pure .id), [(.tmp 5)]⟩, []⟩, ⟨0, ⟨(some 15), none, (.new (.bslice 1 [.nils] 1 [(0, 1)])), [(.tmp 14)]⟩, []⟩, ⟨0, ⟨(some 16), none, (.imp (.append 1 24)), [(.tmp 13), (.tmp 15)]⟩, []⟩, ⟨0, ⟨(some 4), none, (.pure .id), [(.tmp 16)]⟩, []⟩]) .ret) .skip)) (.seq (.region [⟨0, ⟨(some 17), none, (.pure .id), [(.tmp 0)]⟩, []⟩, ⟨0, ⟨(some 4), none, (.pure .id), [(.tmp 17)]⟩, []⟩]) .ret))))⟩
theorem c_skolemref12_Put : compF Tryz.prog Tryz.f152 = some G_skolemref12_Put := by kernel_rfl
theorem gc_skolemref12_Put {args : List DV} {σ : GS} {Post : DV → GS → Prop} (h : @exB Tryz.prog ⟨G_skolemref12_Put.body⟩ (genv0 args G_skolemref12_Put.ntmps) σ ⟨@gretB G_skolemref12_Put.results ⟨Post⟩⟩) : GCall Tryz.prog F_skolemref12_Put args σ Post := gcall_ofB seatfollows Tryz.func152 (by kernel_rfl) c_skolemref12_Put h
noncomputable abbrev G_skolemref12_sorted : GFun := ⟨85, [(.tmp 2), (.tmp 3)], (.seq (.region [⟨0, ⟨(some 2), none, (.pure .id), [(.const .nils)]⟩, []⟩, ⟨0, ⟨(some 3), none, (.pure .id), [(.const (.bool false))]⟩, []⟩]) (.seq (.region [⟨0, ⟨(some 4), none, (.pure .id), [(.const .nils)]⟩, []⟩]) (.seq (.seq (.region [⟨0, ⟨(some 5), none, (.pure .id), [(.const (.int .i64 0))]⟩, []⟩]) (.block 0 (.loop (.seq (.seq (.region [⟨0, ⟨(some 9), none, (.pure .id), [(.tmp 5)]⟩, []⟩, ⟨0, ⟨(some 10), none, (.pure .id), [(.tmp 0)]⟩, []⟩, ⟨0, ⟨(some 11), none, (.pure .len), [(.tmp 10)]⟩, []⟩, ⟨0, ⟨(some 12), none, (.pure (.bin .lss .none)), [(.tmp 9), (.tmp 11)]⟩, []⟩]) (.cond (.tmp 12) .skip (.exit 0))) (.seq (.block 1 (.seq (.region [⟨0, ⟨(some 15), none, (.pure .id), [(.tmp 0)]⟩, []⟩, ⟨0, ⟨(some 16), none, (.pure .id), [(.tmp 5)]⟩, []⟩, ⟨0, ⟨(some 17), none, (.pure (.iaddr 1)), [(.tmp 15), (.tmp 16)]⟩, []⟩, ⟨0, ⟨(some 18), none, (.load (.load 1 false)), [(.tmp 17)]⟩, []⟩, ⟨0, ⟨(some 19), none, (.call F_skolemref05_Abs), [(.tmp 18)]⟩, []⟩, ⟨0, ⟨(some 6), none, (.pure .id), [(.tmp 19)]⟩, []⟩]) (.seq (.region [⟨0, ⟨(some 20), none, (.pure .id), [(.tmp 4)]⟩, []⟩, ⟨0, ⟨(some 21), none, (.pure .len), [(.tmp 20)]⟩, []⟩, ⟨0, ⟨(some 7), none, (.pure .id), [(.tmp 21)]⟩, []⟩]) (.seq (.block 2 (.loop (.seq (.seq (.region [⟨0, ⟨(some 22), none, (.pure .id), [(.tmp 7)]⟩, []⟩, ⟨0, ⟨(some 23), none, (.pure (.bin .gtr .none)), [(.tmp 22), (.const (.int .i64 0))]⟩, []⟩, ⟨0, ⟨(some 24), none, (.pure .id), [(.tmp 23)]⟩, []⟩, ⟨0, ⟨(some 25), (some (24, true)), (.pure .id), [(.tmp 4)]⟩, []⟩, ⟨0, ⟨(some 26), (some (24, true)), (.pure .id), [(.tmp 7)]⟩, []⟩, ⟨0, ⟨(some 27), (some (24, true)), (.pure (.bin .sub .none)), [(.tmp 26), (.const (.int .i64 1))]⟩, []⟩, ⟨0, ⟨(some 28), (some (24, true)), (.pure (.iaddr 1)), [(.tmp 25), (.tmp 27)]⟩, []⟩, ⟨0, ⟨(some 29), (some (24, true)), (.load (.load 1 false)), [(.tmp 28)]⟩, []⟩, ⟨0, ⟨(some 30), (some (24, true)), (.call F_skolemref05_Abs), [(.tmp 29)]⟩, []⟩, ⟨0, ⟨(some 31), (some (24, true)), (.pure .id), [(.tmp 6)]⟩, []⟩, ⟨0, ⟨(some 32), (some (24, true)), (.pure (.bin .gtr .none)), [(.tmp 30), (.tmp 31)]⟩, []⟩, ⟨0, ⟨(some 33), none, (.pure .pick), [(.tmp 24), (.tmp 32), (.const (.bool false))]⟩, []⟩]) (.cond (.tmp 33) .skip (.exit 2))) (.block 3 (.region [⟨0, ⟨(some 34), none, (.pure .id), [(.tmp 7)]⟩, []⟩, ⟨0, ⟨(some 35), none, (.pure (.bin .sub .none)), [(.tmp 34), (.const (.int .i64 1))]⟩, []⟩, ⟨0, ⟨(some 7), none, (.pure .id), [(.tmp 35)]⟩, []⟩]))))) (.seq (.seq (.region [⟨0, ⟨(some 36), none, (.pure .id), [(.tmp 7)]⟩, []⟩, ⟨0, ⟨(some 37), none, (.pure (.bin .gtr .none)), [(.tmp 36), (.const (.int .i64 0))]⟩, []⟩, ⟨0, ⟨(some 38), none, (.pure .id), [(.tmp 37)]⟩, []⟩, ⟨0, ⟨(some 39), (some (38, true)), (.pure .id), [(.tmp 4)]⟩, []⟩, ⟨0, ⟨(some 40), (some (38, true)), (.pure .id), [(.tmp 7)]⟩, []⟩, ⟨0, ⟨(some 41), (some (38, true)), (.pure (.bin .sub .none)), [(.tmp 40), (.const (.int .i64 1))]⟩, []⟩, ⟨0, ⟨(some 42), (some (38, true)), (.pure (.iaddr 1)), [(.tmp 39), (.tmp 41)]⟩, []⟩, ⟨0, ⟨(some 43), (some (38, true)), (.load (.load 1 false)), [(.tmp 42)]⟩, []⟩, ⟨0, ⟨(some 44), (some (38, true)), (.call F_skolemref05_Abs), [(.tmp 43)]⟩, []⟩, ⟨0, ⟨(some 45), (some (38, true)), (.pure .id), [(.tmp 6)]⟩, []⟩, ⟨0, ⟨(some 46), (some (38, true)), (.pure (.bin .eql .none)), [(.tmp 44), (.tmp 45)]⟩, []⟩, ⟨0, ⟨(some 47), none, (.pure .pick), [(.tmp 38), (.tmp 46), (.const (.bool false))]⟩, []⟩]) (.cond (.tmp 47) (.seq (.seq (.region [⟨0, ⟨(some 48), none, (.pure .id), [(.tmp 4)]⟩, []⟩, ⟨1, ⟨(some 49), none, (.pure .id), [(.tmp 7)]⟩, []⟩, ⟨2, ⟨(some 50), none, (.pure (.bin .sub .none)), [(.tmp 49), (.const (.int .i64 1))]⟩, []⟩, ⟨3, ⟨(some 51), none, (.pure (.iaddr 1)), [(.tmp 48), (.tmp 50)]⟩, []⟩, ⟨4, ⟨(some 52), none, (.load (.load 1 false)), [(.tmp 51)]⟩, []⟩, ⟨5, ⟨(some 53), none, (.pure .id), [(.tmp 0)]⟩, []⟩, ⟨6, ⟨(some 54), none, (.pure .id), [(.tmp 5)]⟩, []⟩, ⟨7, ⟨(some 55), none, (.pure (.iaddr 1)), [(.tmp 53), (.tmp 54)]⟩, []⟩, ⟨8, ⟨(some 56), none, (.load (.load 1 false)), [(.tmp 55)]⟩, []⟩, ⟨9, ⟨(some 57), none, (.pure (.bin .neq .none)), [(.tmp 52), (.tmp 56)]⟩, []⟩]) (.cond (.tmp 57) (.seq (.region [⟨0, ⟨(some 2), none, (.pure .id), [(.const .nils)]⟩, []⟩, ⟨0, ⟨(some 3), none, (.pure .id), [(.const (.bool false))]⟩, []⟩]) .ret) .skip)) (.exit 1)) .skip)) (.seq (.region [⟨0, ⟨(some 58), none, (.pure .id), [(.tmp 4)]⟩, []⟩, ⟨0, ⟨(some 59), none, (.new (.bslice 1 [(.int .i64 0)] 1 [(0, 1)])), [(.const (.int .i64 0))]⟩, []⟩, ⟨0, ⟨(some 60), none, (.imp (.append 1 8)), [(.tmp 58), (.tmp 59)]⟩, []⟩, ⟨0, ⟨(some 4), none, (.pure .id), [(.tmp 60)]⟩, []⟩]) (.seq (.seq (.region [⟨0, ⟨(some 61), none, (.pure .id), [(.tmp 4)]⟩, []⟩, ⟨0, ⟨(some 62), none, (.pure .len), [(.tmp 61)]⟩, []⟩, ⟨0, ⟨(some 63), none, (.pure (.bin .sub .none)), [(.tmp 62), (.const (.int .i64 1))]⟩, []⟩, ⟨0, ⟨(some 8), none, (.pure .id), [(.tmp 63)]⟩, []⟩]) (.block 4 (.loop (.seq (.seq (.region [⟨0, ⟨(some 64), none, (.pure .id), [(.tmp 8)]⟩, []⟩, ⟨0, ⟨(some 65), none, (.pure .id), [(.tmp 7)]⟩, []⟩, ⟨0, ⟨(some 66), none, (.pure (.bin .gtr .none)), [(.tmp 64), (.tmp 65)]⟩, []⟩]) (.cond (.tmp 66) .skip (.exit 4))) (.seq (.block 5 (.region [⟨0, ⟨(some 69), none, (.pure .id), [(.tmp 4)]⟩, []⟩, ⟨0, ⟨(some 70), none, (.pure .id), [(.tmp 8)]⟩, []⟩, ⟨0, ⟨(some 71), none, (.pure .id), [(.tmp 4)]⟩, []⟩, ⟨0, ⟨(some 72), none, (.pure .id), [(.tmp 8)]⟩, []⟩, ⟨0, ⟨(some 73), none, (.pure (.bin .sub .none)), [(.tmp 72), (.const (.int .i64 1))]⟩, []⟩, ⟨0, ⟨(some 74), none, (.pure (.iaddr 1)), [(.tmp 71), (.tmp 73)]⟩, []⟩, ⟨0, ⟨(some 75), none, (.load (.load 1 false)), [(.tmp 74)]⟩, []⟩, ⟨0, ⟨(some 76), none, (.pure (.iaddr 1)), [(.tmp 69), (.tmp 70)]⟩, []⟩, ⟨0, ⟨none, none, (.imp (.store 1)), [(.tmp 76), (.tmp 75)]⟩, []⟩])) (.region [⟨0, ⟨(some 67), none, (.pure .id), [(.tmp 8)]⟩, []⟩, ⟨0, ⟨(some 68), none, (.pure (.bin .sub .none)), [(.tmp 67), (.const (.int .i64 1))]⟩, []⟩, ⟨0, ⟨(some 8), none, (.pure .id), [(.tmp 68)]⟩, []⟩])))))) (.region [⟨0, ⟨(some 77), none, (.pure .id), [(.tmp 4)]⟩, []⟩, ⟨0, ⟨(some 78), none, (.pure .id), [(.tmp 7)]⟩, []⟩, ⟨0, ⟨(some 79), none, (.pure .id), [(.tmp 0)]⟩, []⟩, ⟨0, ⟨(some 80), none, (.pure .id), [(.tmp 5)]⟩, []⟩, ⟨0, ⟨(some 81), none, (.pure (.iaddr 1)), [(.tmp 79), (.tmp 80)]⟩, []⟩, ⟨0, ⟨(some 82), none, (.load (.load 1 false)), [(.tmp 81)]⟩, []⟩, ⟨0, ⟨(some 83), none, (.pure (.iaddr 1)), [(.tmp 77), (.tmp 78)]⟩, []⟩, ⟨0, ⟨none, none, (.imp (.store 1)), [(.tmp 83), (.tmp 82)]⟩, []⟩])))))))) (.region [⟨0, ⟨(some 13), none, (.pure .id), [(.tmp 5)]⟩, []⟩, ⟨0, ⟨(some 14), none, (.pure (.bin .add .none)), [(.tmp 13), (.const (.int .i64 1))]⟩, []⟩, ⟨0, ⟨(some 5), none, (.pure .id), [(.tmp 14)]⟩, []⟩])))))) (.seq (.region [⟨0, ⟨(some 84), none, (.pure .id), [(.tmp 4)]⟩, []⟩, ⟨0, ⟨(some 2), none, (.pure .id), [(.tmp 84)]⟩, []⟩, ⟨0, ⟨(some 3), none, (.pure .id), [(.const (.bool true))]⟩, []⟩]) .ret))))⟩
theorem c_skolemref12_sorted : compF Tryz.prog Tryz.f200 = some G_skolemref12_sorted := by kernel_rfl
theorem gc_skolemref12_sorted {args : List DV} {σ : GS} {Post : DV → GS → Prop} (h : @exB Tryz.prog ⟨G_skolemref12_sorted.body⟩ (genv0 args G_skolemref12_sorted.ntmps) σ ⟨@gretB G_skolemref12_sorted.results ⟨Post⟩⟩) : GCall Tryz.prog F_skolemref12_sorted args σ Post := gcall_ofB seatfollows Tryz.func200 (by kernel_rfl) c_skolemref12_sorted h
noncomputable abbrev G_skolemref12_SameClauses : GFun := ⟨27, [(.tmp 4)], (.seq (.region [⟨0, ⟨(some 4), none, (.pure .id), [(.const (.bool false))]⟩, []⟩]) (.seq (.seq (.region [⟨0, ⟨(some 6), none, (.pure .id), [(.tmp 0)]⟩, []⟩, ⟨0, ⟨(some 7), none, (.pure .len), [(.tmp 6)]⟩, []⟩, ⟨0, ⟨(some 8), none, (.pure .id), [(.tmp 1)]⟩, []⟩, ⟨0, ⟨(some 9), none, (.pure .len), [(.tmp 8)]⟩, []⟩, ⟨0, ⟨(some 10), none, (.pure (.bin .neq .none)), [(.tmp 7), (.tmp 9)]⟩, []⟩]) (.cond (.tmp 10) (.seq (.region [⟨0, ⟨(some 4), none, (.pure .id), [(.const (.bool false))]⟩, []⟩]) .ret) .skip)) (.seq (.seq (.region [⟨0, ⟨(some 5), none, (.pure .id), [(.const (.int .i64 0))]⟩, []⟩]) (.block 0 (.loop (.seq (.seq (.region [⟨0, ⟨(some 11), none, (.pure .id), [(.tmp 5)]⟩, []⟩, ⟨0, ⟨(some 12), none, (.pure .id), [(.tmp 0)]⟩, []⟩, ⟨0, ⟨(some 13), none, (.pure .len), [(.tmp 12)]⟩, []⟩, ⟨0, ⟨(some 14), none, (.pure (.bin .lss .none)), [(.tmp 11), (.tmp 13)]⟩, []⟩]) (.cond (.tmp 14) .skip (.exit 0))) (.seq (.block 1 (.seq (.region [⟨0, ⟨(some 17), none, (.pure .id), [(.tmp 0)]⟩, []⟩, ⟨1, ⟨(some 18), none, (.pure .id), [(.tmp 5)]⟩, []⟩, ⟨2, ⟨(some 19), none, (.pure (.iaddr 1)), [(.tmp 17), (.tmp 18)]⟩, []⟩, ⟨3, ⟨(some 20), none, (.load (.load 1 false)), [(.tmp 19)]⟩, []⟩, ⟨4, ⟨(some 21), none, (.pure .id), [(.tmp 1)]⟩, []⟩, ⟨5, ⟨(some 22), none, (.pure .id), [(.tmp 5)]⟩, []⟩, ⟨6, ⟨(some 23), none, (.pure (.iaddr 1)), [(.tmp 21), (.tmp 22)]⟩, []⟩, ⟨7, ⟨(some 24), none, (.load (.load 1 false)), [(.tmp 23)]⟩, []⟩, ⟨8, ⟨(some 25), none, (.call F_skolemref05_Ints), [(.tmp 20), (.tmp 24)]⟩, []⟩, ⟨9, ⟨(some 26), none, (.pure (.un .not)), [(.tmp 25)]⟩, []⟩]) (.cond (.tmp 26) (.seq (.region [⟨0, ⟨(some 4), none, (.pure .id), [(.const (.bool false))]⟩, []⟩]) .ret) .skip))) (.region [⟨0, ⟨(some 15), none, (.pure .id), [(.tmp 5)]⟩, []⟩, ⟨0, ⟨(some 16), none, (.pure (.bin .add .none)), [(.tmp 15), (.const (.int .i64 1))]⟩, []⟩, ⟨0, ⟨(some 5), none, (.pure .id), [(.tmp 16)]⟩, []⟩])))))) (.seq (.region [⟨0, ⟨(some 4), none, (.pure .id), [(.const (.bool true))]⟩, []⟩]) .ret))))⟩
theorem c_skolemref12_SameClauses : compF Tryz.prog Tryz.f23 = some G_skolemref12_SameClauses := by kernel_rfl
theorem gc_skolemref12_SameClauses {args : List DV} {σ : GS} {Post : DV → GS → Prop} (h : @exB Tryz.prog ⟨G_skolemref12_SameClauses.body⟩ (genv0 args G_skolemref12_SameClauses.ntmps) σ ⟨@gretB G_skolemref12_SameClauses.results ⟨Post⟩⟩) : GCall Tryz.prog F_skolemref12_SameClauses args σ Post := gcall_ofB seatfollows Tryz.func23 (by kernel_rfl) c_skolemref12_SameClauses h
end Go.Gh
namespace Go.Gh
open Go.RowKit Go.Proofs
set_option linter.unusedVariables false
set_option linter.unusedSimpArgs false
theorem idx_func_ok {f : FuncId} {pre caps : List DV} {xs : List Int} {p : Int → Bool} {σ : GS} {Post : DV → GS → Prop} (hl : xs.length < 2 ^ 60)
    (hf : ∀ x ∈ xs, ∀ K : DV → GS → Prop, K (.bool (p x)) σ → GCall Tryz.prog f (pre ++ .int .i64 x :: caps) σ K) (h : Post (.int .i64 (idxF p 0 xs)) σ) :
    GCall Tryz.prog F_slices_IndexFunc_int_int [fints xs, .func f pre caps] σ Post := by
  refine gc_slices_IndexFunc_int_int ?_
  simp [G_slices_IndexFunc_int_int, genv0, List.replicate]
  refine gfor xs.length (fun i e σ' => σ' = σ ∧ idxF p 0 xs = idxF p i (xs.drop i) ∧ e = mkEnv 19 [(0, fints xs), (1, .func f pre caps), (7, .int .i64 xs.length), (8, .int .i64 i)]) _ ?_ ⟨rfl, by simp, rfl⟩ ?_
  · simp [mkEnv, List.replicate]
  rintro i _ _ hi ⟨rfl, hI, rfl⟩
  simp [mkEnv, List.replicate]
  by_cases hlt : i < xs.length
  · obtain ⟨y, hy⟩ := nth_lt hlt
    rw [drop_get hy] at hI
    simp [hlt, hy]
    refine hf y (List.mem_of_getElem? hy) _ ?_
    by_cases h1 : p y = true
    · simp [h1]
      simpa [hI, idxF, h1] using h
    · simp [h1, wrap_suc (show i < _ by omega)]
      exact forK_go _ hlt (by simp [mkEnv, List.replicate]) ⟨rfl, by simp [hI, idxF, h1], rfl⟩
  · have : i = xs.length := by omega
    subst this
    simp
    simpa [hI, idxF] using h
theorem contains_func_ok {f : FuncId} {pre caps : List DV} {xs : List Int} {p : Int → Bool} {σ : GS} {Post : DV → GS → Prop} (hl : xs.length < 2 ^ 60)
    (hf : ∀ x ∈ xs, ∀ K : DV → GS → Prop, K (.bool (p x)) σ → GCall Tryz.prog f (pre ++ .int .i64 x :: caps) σ K) (h : Post (.bool (xs.any p)) σ) :
    GCall Tryz.prog F_slices_ContainsFunc_int_int [fints xs, .func f pre caps] σ Post := by
  refine gc_slices_ContainsFunc_int_int ?_
  simp [G_slices_ContainsFunc_int_int, genv0, List.replicate]
  refine idx_func_ok hl hf ?_
  simp [idxF_any]
  exact h
end Go.Gh
namespace Go.Gh
open Go.RowKit Go.Proofs
set_option linter.unusedVariables false
set_option linter.unusedSimpArgs false
theorem Own.other {α : Type} {n sz : Nat} {enc : α → List DV} {σ σ' : GS} {s : DV} {xs : List α} (h : Own n sz enc σ s xs) (hf : ∀ i, s.has i → σ'[i]? = σ[i]?) : Own n sz enc σ' s xs := h.fit hf
/-- A maker in the heap, its parts named; nothing is said of its maps yet. -/
structure MkC (n : Nat) (σ : GS) (id : Nat) (m : Mk) (si sa : DV) (at_ in_ : Nat) (la : List ((Int × Int) × DV)) (li : List (Int × DV)) : Prop where
  ge : n ≤ id
  row : σ[id]? = some (.row false [.bool true, si, sa, .map at_, .map in_, .bool m.full])
  ins : Own n 1 eint σ si m.ins
  ands : Own n 2 eand σ sa m.ands
  atm : MpO kpair σ at_ la
  inm : MpO kint σ in_ li
  at_ge : n ≤ at_
  in_ge : n ≤ in_
  ne : at_ ≠ in_
  si_id : ¬ si.has id
  sa_id : ¬ sa.has id
  si_sa : ∀ i, si.has i → ¬ sa.has i
/-- A maker in the heap, its parts named. -/
structure MkR (n : Nat) (σ : GS) (id : Nat) (m : Mk) (si sa : DV) (at_ in_ : Nat) (la : List ((Int × Int) × DV)) (li : List (Int × DV)) : Prop extends MkC n σ id m si sa at_ in_ la li where
  ats : ∀ p, kget p la = if 0 ≤ m.at p.1 p.2 then some (kint (2 * (1 + m.ins.length + m.at p.1 p.2))) else none
  ins_ : ∀ v, kget v li = if 0 ≤ edgeOf m.ins v then some (kint (edgeOf m.ins v)) else none
/-- A maker in the heap, from object n on. -/
def MkO (n : Nat) (σ : GS) (id : Nat) (m : Mk) : Prop := ∃ si sa at_ in_ la li, MkR n σ id m si sa at_ in_ la li
/-- What belongs to a maker. -/
def Ft (σ : GS) (id i : Nat) : Prop := i = id ∨ ∃ b si sa at_ in_ f, σ[id]? = some (.row false [b, si, sa, .map at_, .map in_, f]) ∧ (i = at_ ∨ i = in_ ∨ si.has i ∨ sa.has i)
/-- A maker was changed, and nothing else. -/
structure Stp (σ : GS) (id : Nat) (σ' : GS) : Prop where
  len : σ.length ≤ σ'.length
  get : ∀ i, i < σ.length → ¬ Ft σ id i → σ'[i]? = σ[i]?
  ft : ∀ i, i < σ.length → ¬ Ft σ id i → ¬ Ft σ' id i
theorem Stp.refl (σ : GS) (id : Nat) : Stp σ id σ := ⟨Nat.le_refl _, fun _ _ _ => rfl, fun _ _ h => h⟩
theorem Stp.trans {a b c : GS} {id : Nat} (h : Stp a id b) (k : Stp b id c) : Stp a id c :=
  ⟨Nat.le_trans h.len k.len, fun i hi hf => (k.get i (by have := h.len; omega) (h.ft i hi hf)).trans (h.get i hi hf), fun i hi hf => k.ft i (by have := h.len; omega) (h.ft i hi hf)⟩
section
variable {n id at_ in_ : Nat} {σ σ' : GS} {m : Mk} {si sa : DV} {la : List ((Int × Int) × DV)} {li : List (Int × DV)}
theorem MkC.ft (h : MkC n σ id m si sa at_ in_ la li) (i : Nat) : Ft σ id i ↔ i = id ∨ i = at_ ∨ i = in_ ∨ si.has i ∨ sa.has i := by
  unfold Ft
  constructor
  · rintro (h1 | ⟨b, si', sa', at', in', f, h1, h2⟩)
    · exact .inl h1
    · rw [h.row] at h1; cases h1; exact .inr h2
  · rintro (h1 | h2)
    · exact .inl h1
    · exact .inr ⟨_, _, _, _, _, _, h.row, h2⟩
theorem MkC.dom (h : MkC n σ id m si sa at_ in_ la li) {i : Nat} (hi : Ft σ id i) : i < σ.length ∧ n ≤ i := by
  rcases (h.ft i).1 hi with rfl | rfl | rfl | h1 | h1
  · exact ⟨get_dom h.row, h.ge⟩
  · exact ⟨h.atm.dom, h.at_ge⟩
  · exact ⟨h.inm.dom, h.in_ge⟩
  · exact ⟨h.ins.has_lt h1, h.ins.has_ge h1⟩
  · exact ⟨h.ands.has_lt h1, h.ands.has_ge h1⟩
/-- Other objects may change. -/
theorem MkC.fit (h : MkC n σ id m si sa at_ in_ la li) (k : ∀ i, Ft σ id i → σ'[i]? = σ[i]?) : MkC n σ' id m si sa at_ in_ la li := by
  have k' : ∀ i, (i = id ∨ i = at_ ∨ i = in_ ∨ si.has i ∨ sa.has i) → σ'[i]? = σ[i]? := fun i hi => k i ((h.ft i).2 hi)
  exact ⟨h.ge, (k' id (.inl rfl)).trans h.row, h.ins.fit fun i hi => k' i (.inr (.inr (.inr (.inl hi)))), h.ands.fit fun i hi => k' i (.inr (.inr (.inr (.inr hi)))), h.atm.fit (k' _ (.inr (.inl rfl))), h.inm.fit (k' _ (.inr (.inr (.inl rfl)))), h.at_ge, h.in_ge, h.ne, h.si_id, h.sa_id, h.si_sa⟩
theorem MkR.fit (h : MkR n σ id m si sa at_ in_ la li) (k : ∀ i, Ft σ id i → σ'[i]? = σ[i]?) : MkR n σ' id m si sa at_ in_ la li := ⟨h.toMkC.fit k, h.ats, h.ins_⟩
end
theorem MkO.fit {n id : Nat} {σ σ' : GS} {m : Mk} (h : MkO n σ id m) (k : ∀ i, Ft σ id i → σ'[i]? = σ[i]?) : MkO n σ' id m := by
  obtain ⟨si, sa, at_, in_, la, li, h⟩ := h
  exact ⟨_, _, _, _, _, _, h.fit k⟩
theorem MkO.dom {n id : Nat} {σ : GS} {m : Mk} (h : MkO n σ id m) {i : Nat} (hi : Ft σ id i) : i < σ.length ∧ n ≤ i := by
  obtain ⟨si, sa, at_, in_, la, li, h⟩ := h
  exact h.dom hi
theorem MkO.keep {n id : Nat} {σ σ' : GS} {m : Mk} (h : MkO n σ id m) (k : ∀ i, i < σ.length → σ'[i]? = σ[i]?) : MkO n σ' id m := h.fit fun i hi => k i (h.dom hi).1
theorem MkO.app {n id : Nat} {σ : GS} {m : Mk} (h : MkO n σ id m) (τ : GS) : MkO n (σ ++ τ) id m := h.keep fun i hi => List.getElem?_append_left hi
/-- What does not belong to a maker stays so. -/
theorem MkO.ft_eq {n id : Nat} {σ σ' : GS} {m : Mk} (h : MkO n σ id m) (k : σ'[id]? = σ[id]?) (i : Nat) : Ft σ' id i ↔ Ft σ id i := by
  unfold Ft; rw [k]
theorem MkO.stp {n id : Nat} {σ σ' : GS} {m : Mk} (h : MkO n σ id m) (hl : σ.length ≤ σ'.length) (k : ∀ i, i < σ.length → σ'[i]? = σ[i]?) : Stp σ id σ' := by
  refine ⟨hl, fun i hi _ => k i hi, fun i hi hf => ?_⟩
  rwa [h.ft_eq (k id (h.dom (.inl rfl)).1)]
/-- The parts of a maker, as a frozen graph. -/
theorem MkR.rd {n id at_ in_ : Nat} {σ : GS} {m : Mk} {si sa : DV} {la : List ((Int × Int) × DV)} {li : List (Int × DV)} (h : MkR n σ id m si sa at_ in_ la li) (ok : Nat → Prop) (hok : ∀ i, n ≤ i → ok i) : Rd σ ok (.agg [si, sa]) (AigP.enc ⟨m.ins, m.ands⟩) :=
  .agg (.cons (h.ins.rd (fun _ => rfl) hok) (.cons (h.ands.rd (fun _ => rfl) hok) .nil))
end Go.Gh
namespace Go.Gh
open Go.RowKit Go.Proofs
set_option linter.unusedVariables false
set_option linter.unusedSimpArgs false
/-- A slice's capacity, where it is known, holds its length. -/
def CapOk (s : DV) : Prop := ∀ a b n z c, s = .slice a b n z (some c) → n ≤ c
theorem append_cap {sz by_ : Nat} {s x v : DV} {σ σ' : GS} (h : gappend sz by_ s x σ = some (v, σ')) (hs : CapOk s) : CapOk v := by
  unfold gappend at h
  repeat' (split at h)
  all_goals first | (cases h; done) | skip
  all_goals
    cases h
    first
    | exact hs
    | (intro a b n z c e; cases e; done)
    | (intro a b n z c e; cases e; assumption)
theorem clone_ok {s : DV} {xs : List Int} {n : Nat} {σ : GS} {Post : DV → GS → Prop} (hq : nilq s ≠ []) (hn : true ∈ nilq s → xs = []) (hr : ∀ τ, gread 1 s (σ ++ τ) = some (xs.flatMap eint)) (hg : glen s = xs.length) (hl : xs.length < 2 ^ 43) (hnn : n ≤ σ.length)
    (k : ∀ s' σ', Own n 1 eint σ' s' xs → Fr σ.length σ σ' → (∀ i, s'.has i → σ.length ≤ i) → CapOk s' → Post s' σ') : GCall Tryz.prog F_slices_Clone_int_int [s] σ Post := by
  refine gc_slices_Clone_int_int ?_
  simp [G_slices_Clone_int_int, genv0, List.replicate]
  refine eqn_any hq fun b hb => ?_
  cases b with
  | true =>
    have := hn hb
    subst this
    simp
    exact k .nils σ .nil (.refl (Nat.le_refl _)) (fun i ⟨_, _, _, _, e⟩ => by cases e) (fun _ _ _ _ _ e => by cases e)
  | false =>
    have h0 : Own σ.length 1 eint (σ ++ [.row false (gzeros [.int .i64 0] 0)]) (.slice σ.length 0 0 1 (some 0)) ([] : List Int) := .inr ⟨σ.length, some 0, [], Nat.le_refl _, by simp, by simp [gzeros], fun c hc => by cases hc; simp⟩
    obtain ⟨s', σ', q1, q2, q3, q4, q5, q6, _⟩ := h0.append (by_ := 8) (ys := xs) (x := s) (fun _ => rfl) (hr _) hg (fun y _ => by simp) (by simp) (by simp; omega) (by decide)
    simp [q1]
    refine k s' σ' (by simpa using q2.weaken hnn) (((Fr.refl (Nat.le_refl _)).app _).trans q3) (fun i hi => ?_) (append_cap (sz := 1) (by_ := 8) (s := .slice σ.length 0 0 1 (some 0)) q1 (fun _ _ _ _ _ e => by cases e; exact Nat.le_refl _))
    exact q2.has_ge hi
theorem clone_frz {xs : List Int} {n : Nat} {σ : GS} {Post : DV → GS → Prop} (hl : xs.length < 2 ^ 43) (hnn : n ≤ σ.length)
    (k : ∀ s' σ', Own n 1 eint σ' s' xs → Fr σ.length σ σ' → (∀ i, s'.has i → σ.length ≤ i) → CapOk s' → Post s' σ') : GCall Tryz.prog F_slices_Clone_int_int [fints xs] σ Post := by
  refine clone_ok ?_ ?_ (fun τ => ?_) (by simp [glen]) hl hnn k
  · simp only [nilq]; split <;> simp
  · simp only [nilq, List.length_map]; intro h; split at h
    · simp at h
    · exact List.length_eq_zero_iff.1 (by omega)
  · simp [gread, flatMap_flatten]
end Go.Gh
namespace Go.Gh
open Go.RowKit Go.Proofs
set_option linter.unusedVariables false
set_option linter.unusedSimpArgs false
end Go.Gh
namespace Go.Gh
open Go.RowKit Go.Proofs
set_option linter.unusedVariables false
set_option linter.unusedSimpArgs false
/-- The state of copying: the box of the graph, the images, their box, the maker. -/
structure CpSt (n0 : Nat) (σ σ' : GS) (id : Nat) (g : AigP) (n : Nat) (T : List Int) (m : Mk) : Prop where
  box : σ'[σ.length]? = some (.row false [fints g.ins, fands g.ands])
  row : σ'[σ.length + 1]? = some (.row false (ints T))
  tob : σ'[σ.length + 2]? = some (.row false [.slice (σ.length + 1) 0 n 1 (some n)])
  mak : MkO n0 σ' id m
  stp : Stp σ id σ'
  nf : ∀ j, j < 3 → ¬ Ft σ' id (σ.length + j)
  tl : T.length = n
theorem CpSt.app {n0 id n : Nat} {σ σ' : GS} {g : AigP} {T : List Int} {m : Mk} (h : CpSt n0 σ σ' id g n T m) (τ : GS) : CpSt n0 σ (σ' ++ τ) id g n T m := by
  have hid := (h.mak.dom (.inl rfl)).1
  have e : (σ' ++ τ)[id]? = σ'[id]? := List.getElem?_append_left hid
  exact ⟨getE_append h.box, getE_append h.row, getE_append h.tob, h.mak.app τ, h.stp.trans (h.mak.stp (by simp) fun i hi => List.getElem?_append_left hi), fun j hj => by rw [h.mak.ft_eq e]; exact h.nf j hj, h.tl⟩
theorem CpSt.step {n0 id n : Nat} {σ σ' σ2 : GS} {g : AigP} {T : List Int} {m m' : Mk} (h : CpSt n0 σ σ' id g n T m) (hm : MkO n0 σ2 id m') (hs : Stp σ' id σ2) : CpSt n0 σ σ2 id g n T m' := by
  have hk : ∀ j o, j < 3 → σ'[σ.length + j]? = some o → σ2[σ.length + j]? = some o := fun j o hj ho => (hs.get _ (get_dom ho) (h.nf j hj)).trans ho
  exact ⟨hk 0 _ (by omega) h.box, hk 1 _ (by omega) h.row, hk 2 _ (by omega) h.tob, hm, h.stp.trans hs, fun j hj => hs.ft _ (by have := get_dom h.tob; omega) (h.nf j hj), h.tl⟩
theorem CpSt.set {n0 id n : Nat} {σ σ' : GS} {g : AigP} {T : List Int} {m : Mk} (h : CpSt n0 σ σ' id g n T m) (i : Nat) (x : Int) : CpSt n0 σ (σ'.set (σ.length + 1) (.row false (ints (T.set i x)))) id g n (T.set i x) m := by
  have hne : ∀ j, j ≠ σ.length + 1 → (σ'.set (σ.length + 1) (.row false (ints (T.set i x))))[j]? = σ'[j]? := fun j hj => List.getElem?_set_ne (Ne.symm hj)
  have hfne : ∀ j, Ft σ' id j → j ≠ σ.length + 1 := fun j hj e => h.nf 1 (by omega) (e ▸ hj)
  have hid := hne id (hfne id (.inl rfl))
  exact ⟨(hne _ (by omega)).trans h.box, List.getElem?_set_self (get_dom h.row), (hne _ (by omega)).trans h.tob, h.mak.fit fun j hj => hne j (hfne j hj), ⟨by simpa using h.stp.len, fun i hi hf => (hne i (by omega)).trans (h.stp.get i hi hf), fun i hi hf => by rw [h.mak.ft_eq hid]; exact h.stp.ft i hi hf⟩, fun j hj => by rw [h.mak.ft_eq hid]; exact h.nf j hj, by simp [h.tl]⟩
end Go.Gh
namespace Go.Gh
open Go.RowKit Go.Proofs
set_option linter.unusedVariables false
set_option linter.unusedSimpArgs false
set_option maxRecDepth 100000
abbrev GOut.enc (o : GOut) : DV := .tuple [o.g.enc, fints o.l, .int .i64 o.e]
@[simp] theorem closed_gout (o : GOut) : (GOut.enc o).closed = true := by simp
/-- The pairs of the map while its values are exchanged. -/
def mixed (f : Int → Int) (l : List (Int × Int)) (st seen : List Nat) : List (Int × DV) := (l.zip st).map fun p => (p.1.1, kint (if p.2 ∈ seen then f p.1.2 else p.1.2))
end Go.Gh
namespace Go.Gh
open Go.RowKit Go.Proofs
set_option linter.unusedVariables false
set_option linter.unusedSimpArgs false
set_option maxRecDepth 100000
end Go.Gh
namespace Go.Gh
open Go.RowKit Go.Proofs
set_option linter.unusedVariables false
set_option linter.unusedSimpArgs false
set_option maxRecDepth 100000
end Go.Gh
namespace Go.Gh
open Go.RowKit Go.Proofs
set_option linter.unusedVariables false
set_option linter.unusedSimpArgs false
set_option maxRecDepth 100000
/-- A reference maker in the heap, its parts named. Its inputs may be frozen. -/
structure RkR (n : Nat) (σ : GS) (id : Nat) (m : Mk) (si sa : DV) : Prop where
  ge : n ≤ id
  row : σ[id]? = some (.row false [si, sa, .bool m.full])
  ins : si = fints m.ins ∨ Own n 1 eint σ si m.ins
  ands : Own n 2 eand σ sa m.ands
  si_id : ¬ si.has id
  sa_id : ¬ sa.has id
  si_sa : ∀ i, si.has i → ¬ sa.has i
def RkO (n : Nat) (σ : GS) (id : Nat) (m : Mk) : Prop := ∃ si sa, RkR n σ id m si sa
def Rt (σ : GS) (id i : Nat) : Prop := i = id ∨ ∃ si sa f, σ[id]? = some (.row false [si, sa, f]) ∧ (si.has i ∨ sa.has i)
structure Rtp (σ : GS) (id : Nat) (σ' : GS) : Prop where
  len : σ.length ≤ σ'.length
  get : ∀ i, i < σ.length → ¬ Rt σ id i → σ'[i]? = σ[i]?
  ft : ∀ i, i < σ.length → ¬ Rt σ id i → ¬ Rt σ' id i
theorem Rtp.refl (σ : GS) (id : Nat) : Rtp σ id σ := ⟨Nat.le_refl _, fun _ _ _ => rfl, fun _ _ h => h⟩
theorem Rtp.trans {a b c : GS} {id : Nat} (h : Rtp a id b) (k : Rtp b id c) : Rtp a id c :=
  ⟨Nat.le_trans h.len k.len, fun i hi hf => (k.get i (by have := h.len; omega) (h.ft i hi hf)).trans (h.get i hi hf), fun i hi hf => k.ft i (by have := h.len; omega) (h.ft i hi hf)⟩
theorem fsl_not_has {sz : Nat} {es : List (List DV)} {i : Nat} : ¬ (DV.fsl sz es).has i := fun ⟨_, _, _, _, e⟩ => by cases e
section
variable {n id : Nat} {σ σ' : GS} {m : Mk} {si sa : DV}
theorem RkR.si_lt (h : RkR n σ id m si sa) {i : Nat} (hi : si.has i) : i < σ.length ∧ n ≤ i := by
  rcases h.ins with e | h1
  · rw [e] at hi; exact absurd hi fsl_not_has
  · exact ⟨h1.has_lt hi, h1.has_ge hi⟩
theorem RkR.ft (h : RkR n σ id m si sa) (i : Nat) : Rt σ id i ↔ i = id ∨ si.has i ∨ sa.has i := by
  unfold Rt
  constructor
  · rintro (h1 | ⟨si', sa', f, h1, h2⟩)
    · exact .inl h1
    · rw [h.row] at h1; cases h1; exact .inr h2
  · rintro (h1 | h2)
    · exact .inl h1
    · exact .inr ⟨_, _, _, h.row, h2⟩
theorem RkR.dom (h : RkR n σ id m si sa) {i : Nat} (hi : Rt σ id i) : i < σ.length ∧ n ≤ i := by
  rcases (h.ft i).1 hi with rfl | h1 | h1
  · exact ⟨get_dom h.row, h.ge⟩
  · exact h.si_lt h1
  · exact ⟨h.ands.has_lt h1, h.ands.has_ge h1⟩
theorem RkR.fit (h : RkR n σ id m si sa) (k : ∀ i, Rt σ id i → σ'[i]? = σ[i]?) : RkR n σ' id m si sa := by
  have k' : ∀ i, (i = id ∨ si.has i ∨ sa.has i) → σ'[i]? = σ[i]? := fun i hi => k i ((h.ft i).2 hi)
  exact ⟨h.ge, (k' id (.inl rfl)).trans h.row, h.ins.imp (fun h => h) fun h1 => h1.fit fun i hi => k' i (.inr (.inl hi)), h.ands.fit fun i hi => k' i (.inr (.inr hi)), h.si_id, h.sa_id, h.si_sa⟩
end
theorem RkO.fit {n id : Nat} {σ σ' : GS} {m : Mk} (h : RkO n σ id m) (k : ∀ i, Rt σ id i → σ'[i]? = σ[i]?) : RkO n σ' id m := by
  obtain ⟨si, sa, h⟩ := h
  exact ⟨_, _, h.fit k⟩
theorem RkO.dom {n id : Nat} {σ : GS} {m : Mk} (h : RkO n σ id m) {i : Nat} (hi : Rt σ id i) : i < σ.length ∧ n ≤ i := by
  obtain ⟨si, sa, h⟩ := h
  exact h.dom hi
theorem RkO.keep {n id : Nat} {σ σ' : GS} {m : Mk} (h : RkO n σ id m) (k : ∀ i, i < σ.length → σ'[i]? = σ[i]?) : RkO n σ' id m := h.fit fun i hi => k i (h.dom hi).1
theorem RkO.app {n id : Nat} {σ : GS} {m : Mk} (h : RkO n σ id m) (τ : GS) : RkO n (σ ++ τ) id m := h.keep fun i hi => List.getElem?_append_left hi
theorem RkO.ft_eq {n id : Nat} {σ σ' : GS} {m : Mk} (h : RkO n σ id m) (k : σ'[id]? = σ[id]?) (i : Nat) : Rt σ' id i ↔ Rt σ id i := by
  unfold Rt; rw [k]
theorem RkO.stp {n id : Nat} {σ σ' : GS} {m : Mk} (h : RkO n σ id m) (hl : σ.length ≤ σ'.length) (k : ∀ i, i < σ.length → σ'[i]? = σ[i]?) : Rtp σ id σ' := by
  refine ⟨hl, fun i hi _ => k i hi, fun i hi hf => ?_⟩
  rwa [h.ft_eq (k id (h.dom (.inl rfl)).1)]
theorem RkR.rd {n id : Nat} {σ : GS} {m : Mk} {si sa : DV} (h : RkR n σ id m si sa) (ok : Nat → Prop) (hok : ∀ i, n ≤ i → ok i) : Rd σ ok (.agg [si, sa]) (AigP.enc ⟨m.ins, m.ands⟩) := by
  have h1 : Rd σ ok si (fints m.ins) := by
    rcases h.ins with e | h1
    · rw [e]; exact .same _
    · exact h1.rd (fun _ => rfl) hok
  exact .agg (.cons h1 (.cons (h.ands.rd (fun _ => rfl) hok) .nil))
end Go.Gh
namespace Go.Gh
open Go.RowKit Go.Proofs
set_option linter.unusedVariables false
set_option linter.unusedSimpArgs false
set_option maxRecDepth 100000
def Mk.disj (m : Mk) (a b : Int) : Int × Mk := (notE (m.conj (notE a) (notE b)).1, (m.conj (notE a) (notE b)).2)
/-- What an operation on a maker leaves: at most k Ands more. -/
structure Gd (m : Mk) (r : Int × Mk) (k : Nat) : Prop where
  ok : r.2.ok
  lo : m.n ≤ r.2.n
  hi : r.2.n ≤ m.n + k
  ins : r.2.ins = m.ins
  e0 : 0 ≤ r.1
  e1 : r.1 < 2 * r.2.n
  full : m.n + k ≤ 200000 → r.2.full = m.full
theorem Gd.conj {m : Mk} {r : Int × Mk} {k : Nat} (h : Gd m r k) {a b : Int} (a0 : 0 ≤ a) (a1 : a < 2 * r.2.n) (b0 : 0 ≤ b) (b1 : b < 2 * r.2.n) : Gd m (r.2.conj a b) (k + 1) := by
  have h1 := Mk.conj_n r.2 a b
  have h2 := Mk.conj_range a0 a1 b0 b1
  have := h.lo; have := h.hi
  exact ⟨Mk.conj_ok a0 a1 b0 b1 h.ok, by omega, by omega, by rw [Mk.conj_ins, h.ins], h2.1, h2.2, fun hh => by rw [Mk.conj_full _ _ _ (by omega)]; exact h.full (by omega)⟩
theorem Gd.not {m : Mk} {r : Int × Mk} {k : Nat} (h : Gd m r k) : Gd m (notE r.1, r.2) k :=
  ⟨h.ok, h.lo, h.hi, h.ins, (notE_range h.e0 h.e1).1, (notE_range h.e0 h.e1).2, h.full⟩
theorem Gd.self {m : Mk} (h : m.ok) {e : Int} (e0 : 0 ≤ e) (e1 : e < 2 * m.n) : Gd m (e, m) 0 := ⟨h, Nat.le_refl _, Nat.le_refl _, rfl, e0, e1, fun _ => rfl⟩
theorem Gd.grow {m : Mk} {r : Int × Mk} {k j : Nat} (h : Gd m r k) (hj : k ≤ j) : Gd m r j := ⟨h.ok, h.lo, by have := h.hi; omega, h.ins, h.e0, h.e1, fun hh => h.full (by omega)⟩
theorem Gd.disj {m : Mk} {r : Int × Mk} {k : Nat} (h : Gd m r k) {a b : Int} (a0 : 0 ≤ a) (a1 : a < 2 * r.2.n) (b0 : 0 ≤ b) (b1 : b < 2 * r.2.n) : Gd m (r.2.disj a b) (k + 1) :=
  (h.conj (notE_range a0 a1).1 (notE_range a0 a1).2 (notE_range b0 b1).1 (notE_range b0 b1).2).not
end Go.Gh
namespace Go.Gh
open Go.RowKit Go.Sort Go.Shelf Go.Proofs
set_option linter.unusedVariables false
set_option linter.unusedSimpArgs false
end Go.Gh
namespace Go.Gh
open Go.RowKit Go.Proofs
set_option linter.unusedVariables false
set_option linter.unusedSimpArgs false
set_option maxRecDepth 100000
def NoCap : DV → Prop
  | .slice _ _ _ _ (some _) => False
  | _ => True
end Go.Gh
namespace Go.Gh
open Go.RowKit Go.Proofs
set_option linter.unusedVariables false
set_option linter.unusedSimpArgs false
set_option maxRecDepth 100000
theorem compact_snoc (x y : Int) : ∀ l : List Int, compactI (l ++ [x, y]) = if x = y then compactI (l ++ [x]) else compactI (l ++ [x]) ++ [y] := by
  by_cases h : x = y
  · subst h
    intro l
    rw [if_pos rfl]
    induction l with
    | nil => simp [compactI]
    | cons a l ih =>
      cases l with
      | nil => simp [compactI]
      | cons b l =>
        simp only [List.cons_append, compactI] at ih ⊢
        rw [ih]
  · intro l
    rw [if_neg h]
    induction l with
    | nil => simp [compactI, h]
    | cons a l ih =>
      cases l with
      | nil =>
        simp only [List.cons_append, List.nil_append, compactI, if_neg h]
        split <;> rfl
      | cons b l =>
        simp only [List.cons_append, compactI] at ih ⊢
        rw [ih]
        split <;> rfl
theorem compact_take {xs : List Int} {m : Nat} {x y : Int} (hx : xs[m]? = some x) (hy : xs[m + 1]? = some y) : compactI (xs.take (m + 2)) = if x = y then compactI (xs.take (m + 1)) else compactI (xs.take (m + 1)) ++ [y] := by
  rw [take_get hy, take_get hx, List.append_assoc]
  exact compact_snoc x y _
theorem slice_lo {id off L k : Nat} (h : k ≤ L) : gpure (.slice 1 true false false) [.slice id off L 1 none, .int .i64 (k : Int)] = some (.slice id (off + k) (L - k) 1 none) := by
  simp [gpure, gslice, gbm, gbh, gbl, gbound, h]
theorem slice_hi {id off L k : Nat} (h : k ≤ L) : gpure (.slice 1 false true false) [.slice id off L 1 none, .int .i64 (k : Int)] = some (.slice id off k 1 none) := by
  simp [gpure, gslice, gbm, gbh, gbl, gbound, h]
theorem iaddr_off {id off n i : Nat} {k : IntKind} {cap : Option Nat} (h : i < n) : gpure (.iaddr 1) [.slice id off n 1 cap, .int k (i : Int)] = some (.ptr id (off + i)) := by
  have : ((i : Int) < n) := by omega
  simp [gpure, this]
set_option maxHeartbeats 1000000 in
theorem slices_Compact_ok {n : Nat} {s : DV} {xs : List Int} {σ : GS} {Post : DV → GS → Prop} (hO : Own n 1 eint σ s xs) (hN : NoCap s) (hl : xs.length < 2 ^ 40) (hn : n ≤ σ.length)
    (k : ∀ s' σ', Own n 1 eint σ' s' (compactI xs) → Fr n σ σ' → Post s' σ') : GCall Tryz.prog F_slices_Compact_int_int [s] σ Post := by
  refine gc_slices_Compact_int_int ?_
  rcases hO with ⟨rfl, rfl⟩ | ⟨id, cap, rest, h1, rfl, h3, h4⟩
  · simp [G_slices_Compact_int_int, genv0, List.replicate]
    exact k _ _ .nil (.refl hn)
  cases cap with
  | some c => exact absurd hN (by simp [NoCap])
  | none =>
  have hid := get_dom h3
  have hfm : ∀ l : List Int, l.flatMap eint = ints l := fun l => by
    induction l with
    | nil => rfl
    | cons x l ih => rw [List.flatMap_cons, ih]; rfl
  have hcs : ∀ (j : Nat) (x : Int), xs[j]? = some x → (xs.flatMap eint ++ rest)[j]? = some (.int .i64 x) := fun j x hj => by
    have hjl := get_dom hj
    rw [hfm, List.getElem?_append_left (by simpa using hjl)]
    simp [hj]
  have hrow : ∀ (j : Nat) (x : Int), xs[j]? = some x → gload (.load 1 false) [.ptr id j] σ = some (.int .i64 x) := fun j x hj => by
    rw [ld_at h3]; exact hcs j x hj
  have same : ∀ {τ : DV}, compactI xs = xs → Post (.slice id 0 xs.length 1 none) σ := fun h => k _ _ (by rw [h]; exact .inr ⟨id, none, rest, h1, rfl, h3, fun c e => by cases e⟩) (.refl hn)
  by_cases c2 : xs.length < 2
  · have c2' : ((xs.length : Int) < 2) := by omega
    simp [G_slices_Compact_int_int, genv0, List.replicate, c2']
    refine same (τ := .nils) ?_
    match xs, c2 with
    | [], _ => rfl
    | [x], _ => rfl
  have c2' : ¬ ((xs.length : Int) < 2) := by omega
  simp [G_slices_Compact_int_int, genv0, List.replicate, c2']
  refine gfor xs.length (fun i e σ' => σ' = σ ∧ e = mkEnv 61 [(0, .slice id 0 xs.length 1 none), (3, .int .i64 ((i : Int) + 1))] ∧ compactI (xs.take (i + 1)) = xs.take (i + 1) ∧ i + 1 ≤ xs.length) _ ?_ ⟨rfl, rfl, ?_, by omega⟩ ?_
  · simp [mkEnv, List.replicate]
  · match xs with
    | [] => rfl
    | x :: xs => rfl
  rintro i _ σz hi ⟨hσz, rfl, hI, hik⟩
  rw [hσz]
  clear hσz σz
  simp [mkEnv, List.replicate]
  by_cases hlt : i + 1 < xs.length
  · obtain ⟨x, hx⟩ := get_lt (xs := xs) (i := i) (by omega)
    obtain ⟨y, hy⟩ := get_lt (xs := xs) (i := i + 1) (by omega)
    have hlt' : ((i : Int) + 1 < xs.length) := by omega
    have ia0 := iaddr_off (id := id) (off := 0) (n := xs.length) (i := i) (k := .i64) (cap := none) (by omega)
    have ia1 := iaddr_off (id := id) (off := 0) (n := xs.length) (i := i + 1) (k := .i64) (cap := none) (by omega)
    have l0 := hrow _ _ hx
    have l1 := hrow _ _ hy
    have hct := compact_take hx hy
    have ew : IntKind.i64.wrap ((i : Int) + 1 + 1) = (i : Int) + 1 + 1 := by rw [wrap_small] <;> omega
    have em : IntKind.i64.wrap (i : Int) = (i : Int) := by rw [wrap_small] <;> omega
    simp at ia0 ia1
    simp [hlt', ia0, ia1, l0, l1, em]
    by_cases hxy : y = x
    · have hsl := slice_lo (id := id) (off := 0) (L := xs.length) (k := i + 1) (by omega)
      simp at hsl
      simp [hxy, hsl]
      have hC0 : compactI (xs.take (i + 2)) = xs.take (i + 1) := by rw [hct, if_pos hxy.symm, hI]
      refine gfor xs.length (fun i2 e σ' => ∃ cs kk, e = mkEnv 61 [(0, .slice id 0 xs.length 1 none), (3, .int .i64 (kk : Nat)), (4, .slice id (i + 1) (xs.length - (i + 1)) 1 none), (5, .int .i64 ((i2 : Int) + 1))] ∧
          σ'[id]? = some (.row false cs) ∧ Fr n σ σ' ∧ cs.length = xs.length + rest.length ∧ kk = (compactI (xs.take (i + i2 + 2))).length ∧ cs.take kk = ints (compactI (xs.take (i + i2 + 2))) ∧ (∀ (j : Nat) (x : Int), kk ≤ j → xs[j]? = some x → cs[j]? = some (.int .i64 x)) ∧ i + i2 + 2 ≤ xs.length ∧ kk ≤ i + i2 + 1) _ ?_
          ⟨xs.flatMap eint ++ rest, i + 1, rfl, h3, .refl hn, by simp [hfm], ?_, ?_, fun j x _ hj => hcs j x hj, by omega, by omega⟩ ?_
      · simp [mkEnv, List.replicate]
      · rw [Nat.add_zero, hC0]; simp; omega
      · rw [Nat.add_zero, hC0, hfm, List.take_append_of_le_length (by simp; omega)]; simp
      rintro i2 _ σ' hi2 ⟨cs, kk, rfl, r1, r2, r3, r4, r5, r6, r7, r8⟩
      have hid' := get_dom r1
      simp [mkEnv, List.replicate]
      by_cases hlt2 : i + i2 + 2 < xs.length
      · obtain ⟨u, hu⟩ := get_lt (xs := xs) (i := i + i2 + 1) (by omega)
        obtain ⟨v, hv⟩ := get_lt (xs := xs) (i := i + i2 + 2) (by omega)
        have hct2 := compact_take hu hv
        have q0 := iaddr_off (id := id) (off := i + 1) (n := xs.length - (i + 1)) (i := i2) (k := .i64) (cap := none) (by omega)
        have q1 := iaddr_off (id := id) (off := i + 1) (n := xs.length - (i + 1)) (i := i2 + 1) (k := .i64) (cap := none) (by omega)
        have m0 : gload (.load 1 false) [.ptr id (i + 1 + i2)] σ' = some (.int .i64 u) := by
          rw [ld_at r1]; exact r6 _ _ (by omega) (by rw [show i + 1 + i2 = i + i2 + 1 by omega]; exact hu)
        have m1 : gload (.load 1 false) [.ptr id (i + 1 + (i2 + 1))] σ' = some (.int .i64 v) := by
          rw [ld_at r1]; exact r6 _ _ (by omega) (by rw [show i + 1 + (i2 + 1) = i + i2 + 2 by omega]; exact hv)
        have hlt2' : ((i2 : Int) + 1 < ((xs.length - (i + 1) : Nat) : Int)) := by omega
        have ew2 : IntKind.i64.wrap ((i2 : Int) + 1 + 1) = (i2 : Int) + 1 + 1 := by rw [wrap_small] <;> omega
        have em2 : IntKind.i64.wrap (i2 : Int) = (i2 : Int) := by rw [wrap_small] <;> omega
        have ek : IntKind.i64.wrap ((kk : Int) + 1) = ((kk + 1 : Nat) : Int) := by rw [wrap_small] <;> omega
        simp at q0 q1
        have ck := hlt2'
        by_cases huv : v = u
        · simp [ck, q0, q1, m0, m1, em2, huv, ew2]
          refine forK_go _ (by omega) (by simp [mkEnv, List.replicate]) ⟨cs, kk, rfl, r1, r2, r3, ?_, ?_, r6, by omega, by omega⟩
          · rw [show i + (i2 + 1) + 2 = i + i2 + 1 + 2 by omega, hct2, if_pos huv.symm]; exact r4
          · rw [show i + (i2 + 1) + 2 = i + i2 + 1 + 2 by omega, hct2, if_pos huv.symm]; exact r5
        · have q2 := iaddr_off (id := id) (off := 0) (n := xs.length) (i := kk) (k := .i64) (cap := none) (by omega)
          have hst : gimp (.store 1) [.ptr id kk, .int .i64 v] σ' = some (.tuple [], σ'.set id (.row false (cs.set kk (.int .i64 v)))) := by
            simp only [gimp, r1, DV.cells]
            rw [if_pos ⟨rfl, by show kk + 1 ≤ cs.length; omega, rfl⟩, over_one (by omega)]
          simp at q2
          simp [ck, q0, q1, m0, m1, em2, huv, ew2, q2, hst, ek]
          refine forK_go _ (by omega) (by simp [mkEnv, List.replicate]) ⟨cs.set kk (.int .i64 v), kk + 1, rfl, List.getElem?_set_self hid', r2.set h1 _, by simp [r3], ?_, ?_, fun j x hj hx => ?_, by omega, by omega⟩
          · rw [show i + (i2 + 1) + 2 = i + i2 + 1 + 2 by omega, hct2, if_neg (fun e => huv e.symm)]; simp [r4]
          · rw [show i + (i2 + 1) + 2 = i + i2 + 1 + 2 by omega, hct2, if_neg (fun e => huv e.symm)]
            rw [List.take_add_one, List.getElem?_set_self (by omega), List.take_set_of_le (Nat.le_refl _), r5]
            simp
          · rw [List.getElem?_set_ne (by omega)]; exact r6 j x (by omega) hx
      · have hlt2' : ¬ ((i2 : Int) + 1 < ((xs.length - (i + 1) : Nat) : Int)) := by omega
        have ck := hlt2'
        have he : i + i2 + 2 = xs.length := by omega
        rw [he, List.take_length] at r4 r5
        have hsl2 := slice_lo (id := id) (off := 0) (L := xs.length) (k := kk) (by omega)
        have hsh2 := slice_hi (id := id) (off := 0) (L := xs.length) (k := kk) (by omega)
        have hcl : gimp (.clear 1 [.int .i64 0]) [.slice id kk (xs.length - kk) 1 none] σ' = some (.tuple [], σ'.set id (.row false (over cs kk (List.replicate (xs.length - kk) (.int .i64 0))))) := by
          have g0 : ¬ (xs.length - kk = 0) := by omega
          have g1 : kk + (xs.length - kk) ≤ cs.length := by omega
          simp [gimp, gzeros, r1, g0, g1]
        simp at hsl2
        simp [ck, hsl2, hcl, hsh2]
        refine k _ _ (.inr ⟨id, none, (over cs kk (List.replicate (xs.length - kk) (.int .i64 0))).drop kk, h1, by rw [r4], ?_, fun c e => by cases e⟩) (r2.set h1 _)
        rw [List.getElem?_set_self hid', hfm, ← r5]
        congr 2
        unfold over
        rw [List.drop_left' (by simp; omega)]
    · simp [hxy, ew]
      refine forK_go (mkEnv 61 [(0, .slice id 0 xs.length 1 none), (3, .int .i64 ((i : Int) + 1 + 1))]) (by omega) (by simp [mkEnv, List.replicate]) ⟨rfl, by rw [Int.natCast_add]; rfl, ?_, by omega⟩
      rw [hct, if_neg (fun e => hxy e.symm), hI, take_get hy]
  · have : i + 1 = xs.length := by omega
    have hlt' : ¬ ((i : Int) + 1 < xs.length) := by omega
    rw [this, List.take_length] at hI
    simp [hlt']
    exact same (τ := .nils) hI
end Go.Gh
namespace Go.Gh
open Go.RowKit Go.Proofs
set_option linter.unusedVariables false
set_option linter.unusedSimpArgs false
set_option maxRecDepth 100000
/-- The state of copying in the reference. -/
structure RpSt (n0 : Nat) (σ σ' : GS) (id : Nat) (g : AigP) (n : Nat) (T : List Int) (m : Mk) : Prop where
  box : σ'[σ.length]? = some (.row false [fints g.ins, fands g.ands])
  row : σ'[σ.length + 1]? = some (.row false (ints T))
  mak : RkO n0 σ' id m
  stp : Rtp σ id σ'
  nf : ∀ j, j < 2 → ¬ Rt σ' id (σ.length + j)
  tl : T.length = n
theorem RpSt.step {n0 id n : Nat} {σ σ' σ2 : GS} {g : AigP} {T : List Int} {m m' : Mk} (h : RpSt n0 σ σ' id g n T m) (hm : RkO n0 σ2 id m') (hs : Rtp σ' id σ2) : RpSt n0 σ σ2 id g n T m' := by
  have hk : ∀ j o, j < 2 → σ'[σ.length + j]? = some o → σ2[σ.length + j]? = some o := fun j o hj ho => (hs.get _ (get_dom ho) (h.nf j hj)).trans ho
  exact ⟨hk 0 _ (by omega) h.box, hk 1 _ (by omega) h.row, hm, h.stp.trans hs, fun j hj => hs.ft _ (by have := get_dom h.row; omega) (h.nf j hj), h.tl⟩
theorem RpSt.set {n0 id n : Nat} {σ σ' : GS} {g : AigP} {T : List Int} {m : Mk} (h : RpSt n0 σ σ' id g n T m) (i : Nat) (x : Int) : RpSt n0 σ (σ'.set (σ.length + 1) (.row false (ints (T.set i x)))) id g n (T.set i x) m := by
  have hne : ∀ j, j ≠ σ.length + 1 → (σ'.set (σ.length + 1) (.row false (ints (T.set i x))))[j]? = σ'[j]? := fun j hj => List.getElem?_set_ne (Ne.symm hj)
  have hfne : ∀ j, Rt σ' id j → j ≠ σ.length + 1 := fun j hj e => h.nf 1 (by omega) (e ▸ hj)
  have hid := hne id (hfne id (.inl rfl))
  exact ⟨(hne _ (by omega)).trans h.box, List.getElem?_set_self (get_dom h.row), h.mak.fit fun j hj => hne j (hfne j hj), ⟨by simpa using h.stp.len, fun i hi hf => (hne i (by omega)).trans (h.stp.get i hi hf), fun i hi hf => by rw [h.mak.ft_eq hid]; exact h.stp.ft i hi hf⟩, fun j hj => by rw [h.mak.ft_eq hid]; exact h.nf j hj, by simp [h.tl]⟩
end Go.Gh
namespace Go.Gh
open Go.RowKit Go.Proofs
set_option linter.unusedVariables false
set_option linter.unusedSimpArgs false
set_option maxRecDepth 100000
theorem ref_In_ok {a : List Int} {x : Int} {σ : GS} {Post : DV → GS → Prop} (hl : a.length < 2 ^ 60) (h : Post (.bool (a.contains x)) σ) : GCall Tryz.prog F_skolemref05_In [fints a, .int .i64 x] σ Post := by
  refine gc_skolemref05_In ?_
  simp [G_skolemref05_In, genv0, List.replicate]
  refine gfor a.length (fun i e σ' => σ' = σ ∧ a.contains x = (a.drop i).contains x ∧ e = mkEnv 18 [(0, fints a), (1, .int .i64 x), (5, .int .i64 i)]) _ ?_ ⟨rfl, by simp, rfl⟩ ?_
  · simp [mkEnv, List.replicate]
  rintro i _ _ hi ⟨rfl, hI, rfl⟩
  simp [mkEnv, List.replicate]
  by_cases hlt : i < a.length
  · obtain ⟨y, hy⟩ := nth_lt hlt
    rw [drop_get hy, List.contains_cons] at hI
    have es : IntKind.i64.wrap ((i : Int) + 1) = (i : Int) + 1 := by rw [wrap_small] <;> omega
    by_cases c : y = x
    · have c' : (x == y) = true := by simp [c]
      simp [hlt, hy, c]
      rw [hI, c'] at h; simpa using h
    · have c' : (x == y) = false := by simpa using fun e => c e.symm
      simp [hlt, hy, c, es]
      exact forK_go _ hlt (by simp [mkEnv, List.replicate]) ⟨rfl, by rw [hI, c']; simp, rfl⟩
  · have : i = a.length := by omega
    subst this
    simp
    rw [hI] at h; simpa using h
theorem ref_Abs_ok {x : Int} {σ : GS} {Post : DV → GS → Prop} (h : Post (.int .i64 (gabs x)) σ) : GCall Tryz.prog F_skolemref05_Abs [.int .i64 x] σ Post := by
  refine gc_skolemref05_Abs ?_
  unfold gabs at h
  by_cases c : x < 0
  · rw [if_pos c] at h
    simp [G_skolemref05_Abs, genv0, List.replicate, c]
    exact h
  · rw [if_neg c] at h
    simp [G_skolemref05_Abs, genv0, List.replicate, c]
    exact h
theorem ref_variable_ok {v : Int} {σ : GS} {Post : DV → GS → Prop} (h : Post (.bool (isVar v)) σ) : GCall Tryz.prog F_skolemref05_variable [.int .i64 v] σ Post := by
  refine gc_skolemref05_variable ?_
  by_cases h1 : 1 ≤ v <;> simp [G_skolemref05_variable, genv0, List.replicate, h1] <;> simpa [isVar, h1] using h
theorem ref_Normal_ok {a : List Int} {σ : GS} {Post : DV → GS → Prop} (hl : a.length < 2 ^ 50) (h : Post (.bool (normal a)) σ) : GCall Tryz.prog F_skolemref05_Normal [fints a] σ Post := by
  rw [normal_eq] at h
  refine gc_skolemref05_Normal ?_
  simp [G_skolemref05_Normal, genv0, List.replicate]
  refine gfor a.length (fun i e σ' => σ' = σ ∧ (∃ last, normR 0 a = normR last (a.drop i) ∧ (i = 0 → last = 0) ∧ ∀ j, j + 1 = i → ∃ y, a[j]? = some y ∧ last = gabs y) ∧ e = mkEnv 35 [(0, fints a), (3, .int .i64 i)]) _ ?_ ⟨rfl, ⟨0, by simp, fun _ => rfl, fun j h => by omega⟩, rfl⟩ ?_
  · simp [mkEnv, List.replicate]
  rintro i _ _ hi ⟨rfl, ⟨last, hI, hl0, hl1⟩, rfl⟩
  simp [mkEnv, List.replicate]
  by_cases hlt : i < a.length
  · obtain ⟨y, hy⟩ := nth_lt hlt
    have hy' := nth_get hy
    rw [drop_get hy] at hI
    have es : IntKind.i64.wrap ((i : Int) + 1) = (i : Int) + 1 := by rw [wrap_small] <;> omega
    simp [hlt, hy]
    refine ref_Abs_ok ?_
    simp
    refine ref_variable_ok ?_
    by_cases hv : isVar (gabs y) = true
    · cases i with
      | zero =>
        have := hl0 rfl
        subst this
        have h3 : 0 < gabs y := by have := hv; simp only [isVar, Bool.and_eq_true, decide_eq_true_eq] at this; omega
        simp [hv]
        refine forK_go _ hlt (by simp [mkEnv, List.replicate]) ⟨rfl, ⟨gabs y, by simp [hI, normR, hv, h3], fun e => by omega, fun j hj => ?_⟩, rfl⟩
        have : j = 0 := by omega
        subst this; exact ⟨y, hy', rfl⟩
      | succ i =>
        obtain ⟨z, hz, hlz⟩ := hl1 i rfl
        have hz' : nth a i = some z := hz
        have hge : (0 : Int) ≤ (i : Int) + 1 := by omega
        have hgt : (0 : Int) < (i : Int) + 1 := by omega
        have htn : ((i : Int) + 1).toNat = i + 1 := by omega
        have ew' : IntKind.i64.wrap (i : Int) = i := by rw [wrap_small] <;> omega
        have es2 : IntKind.i64.wrap ((i : Int) + 1 + 1) = (i : Int) + 1 + 1 := by rw [wrap_small] <;> omega
        simp [hv, hge, hgt, htn, hy, ew', hz']
        refine ref_Abs_ok ?_
        simp [hge, htn, hy, ew', hz']
        refine ref_Abs_ok ?_
        by_cases h4 : gabs y ≤ last
        · have h5 : ¬ last < gabs y := by omega
          rw [hlz] at h4 h5
          simp [h4]
          rw [hI, hlz] at h
          simpa [normR, hv, h5] using h
        · have h5 : last < gabs y := by omega
          rw [hlz] at h4
          simp [h4, es2]
          refine forK_go _ hlt (by simp [mkEnv, List.replicate]) ⟨rfl, ⟨gabs y, by simp [hI, normR, hv, h5], fun e => by omega, fun j hj => ?_⟩, rfl⟩
          have : j = i + 1 := by omega
          subst this; exact ⟨y, hy', rfl⟩
    · simp [hv]
      simpa [hI, normR, hv] using h
  · have : i = a.length := by omega
    subst this
    simp
    simpa [hI, normR] using h
theorem ref_Ints_ok {xs ys : List Int} {σ : GS} {Post : DV → GS → Prop} (hl : xs.length < 2 ^ 60) (h : Post (.bool (decide (xs = ys))) σ) : GCall Tryz.prog F_skolemref05_Ints [fints xs, fints ys] σ Post := by
  refine gc_skolemref05_Ints ?_
  by_cases hlen : xs.length = ys.length
  rotate_left
  · have hne : xs ≠ ys := fun e => hlen (by rw [e])
    have hlen' : ¬ ((xs.length : Int) = ys.length) := by omega
    simp [G_skolemref05_Ints, genv0, List.replicate, hlen']
    simpa [hne] using h
  simp [G_skolemref05_Ints, genv0, List.replicate, hlen]
  refine gfor xs.length (fun i e σ' => σ' = σ ∧ (xs = ys ↔ xs.drop i = ys.drop i) ∧ e = mkEnv 26 [(0, fints xs), (1, fints ys), (5, .int .i64 i)]) _ ?_ ⟨rfl, by simp, rfl⟩ ?_
  · simp [mkEnv, List.replicate]
  rintro i _ _ hi ⟨rfl, hI, rfl⟩
  simp [mkEnv, List.replicate]
  by_cases hlt : i < xs.length
  · obtain ⟨x, hx⟩ := nth_lt hlt
    obtain ⟨y, hy⟩ := nth_lt (l := ys) (i := i) (by omega)
    rw [drop_get hx, drop_get hy, List.cons.injEq] at hI
    have es : IntKind.i64.wrap ((i : Int) + 1) = (i : Int) + 1 := by rw [wrap_small] <;> omega
    by_cases c : x = y
    · simp [hlt, hx, hy, c, es]
      exact forK_go _ hlt (by simp [mkEnv, List.replicate]) ⟨rfl, by rw [hI]; simp [c], rfl⟩
    · have hne : xs ≠ ys := fun e => c (hI.1 e).1
      simp [hlt, hx, hy, c]
      simpa [hne] using h
  · have : i = xs.length := by omega
    subst this
    have he : xs = ys := hI.2 (by rw [List.drop_length, hlen, List.drop_length])
    simp
    simpa [he] using h
end Go.Gh
namespace Go.Gh
open Go.RowKit Go.Proofs
set_option linter.unusedVariables false
set_option linter.unusedSimpArgs false
set_option maxRecDepth 100000
/-- The variable of a literal; 0 of what is none. -/
def absE (x : Int) : Int := if x < -65536 ∨ 65536 < x then 0 else ab x
theorem absE_in {x : Int} (h : -65536 ≤ x ∧ x ≤ 65536) : absE x = ab x := if_neg (by omega)
theorem enc_abs_ok {x : Int} {σ : GS} {Post : DV → GS → Prop} (h : Post (.int .i64 (absE x)) σ) : GCall Tryz.prog F_enc_abs [.int .i64 x] σ Post := by
  refine gc_enc_abs ?_
  by_cases h1 : x < -65536
  · rw [show absE x = 0 from if_pos (.inl h1)] at h
    simp [G_enc_abs, genv0, List.replicate, h1]
    exact h
  by_cases h2 : 65536 < x
  · rw [show absE x = 0 from if_pos (.inr h2)] at h
    simp [G_enc_abs, genv0, List.replicate, h1, h2]
    exact h
  have e : IntKind.i64.wrap (-x) = -x := by rw [wrap_small] <;> omega
  have e2 : max x (-x) = absE x := by rw [absE_in (by omega)]; unfold ab; split <;> omega
  simp [G_enc_abs, genv0, List.replicate, h1, h2, e, e2]
  exact h
/-- Is a list in the order of variables, and are these above a number? -/
def nrmE (last : Int) : List Int → Bool
  | [] => true
  | x :: l => if absE x ≤ last then false else nrmE (absE x) l
theorem nrmE_in : ∀ {l : List Int} {last : Int}, (∀ x ∈ l, -65536 ≤ x ∧ x ≤ 65536) → nrmE last l = nrmA last l
  | [], _, _ => rfl
  | x :: l, last, h => by rw [nrmE, nrmA, absE_in (h x (by simp)), nrmE_in fun y hy => h y (by simp [hy])]
theorem enc_normal_ok {l : List Int} {σ : GS} {Post : DV → GS → Prop} (hl : l.length < 2 ^ 60) (h : Post (.bool (nrmE 0 l)) σ) : GCall Tryz.prog F_enc_normal [fints l] σ Post := by
  refine gc_enc_normal ?_
  simp [G_enc_normal, genv0, List.replicate]
  refine gfor l.length (fun i e σ' => σ' = σ ∧ ∃ last, nrmE 0 l = nrmE last (l.drop i) ∧ e = mkEnv 19 [(3, .int .i64 last), (6, fints l), (7, .int .i64 l.length), (8, .int .i64 i)]) _ ?_ ⟨rfl, 0, by simp, rfl⟩ ?_
  · simp [mkEnv, List.replicate]
  rintro i _ _ hi ⟨rfl, last, hI, rfl⟩
  simp [mkEnv, List.replicate]
  by_cases hlt : i < l.length
  · obtain ⟨x, hx⟩ := nth_lt hlt
    have es : IntKind.i64.wrap ((i : Int) + 1) = (i : Int) + 1 := by rw [wrap_small] <;> omega
    rw [drop_get hx, nrmE] at hI
    simp [hlt, hx]
    refine enc_abs_ok ?_
    by_cases c : absE x ≤ last
    · rw [if_pos c] at hI
      rw [hI] at h
      simp [c]
      exact h
    · rw [if_neg c] at hI
      simp [c]
      refine enc_abs_ok ?_
      simp [es]
      exact forK_go _ hlt (by simp [mkEnv, List.replicate]) ⟨rfl, absE x, hI, rfl⟩
  · have : i = l.length := by omega
    subst this
    rw [List.drop_length] at hI
    rw [hI] at h
    simp
    exact h
theorem enc_normal_live {m : Nat} {s : DV} {l : List Int} {σ : GS} {Post : DV → GS → Prop} (hO : Own m 1 eint σ s l) (hl : l.length < 2 ^ 60) (h : Post (.bool (nrmE 0 l)) σ) : GCall Tryz.prog F_enc_normal [s] σ Post := by
  refine GCall.borrow (args' := [fints l]) (r := .bool (nrmE 0 l)) (.cons (hO.rd (fun _ => rfl) fun _ _ => trivial) .nil) (by simp) rfl ?_ h
  exact enc_normal_ok hl rfl
theorem append_cap0 {sz b id : Nat} {x s' : DV} {σ σ' : GS} (hx : glen x ≠ 0) (h : gimp (.append sz b) [.slice id 0 0 sz (some 0), x] σ = some (s', σ')) : NoCap s' := by
  simp only [gimp, gappend] at h
  split at h
  · cases h
  simp only [if_neg hx] at h
  repeat' (split at h)
  all_goals first | (cases h; done) | skip
  all_goals first | (exfalso; omega) | (cases h; exact trivial)
/-- A copy of one's own. -/
theorem clone_nc {m : Nat} {s : DV} {xs : List Int} {σ : GS} {Post : DV → GS → Prop} (hO : Own m 1 eint σ s xs) (hl : xs.length < 2 ^ 43)
    (k : ∀ s' σ', Own σ.length 1 eint σ' s' xs → Fr σ.length σ σ' → (NoCap s' ∨ xs = []) → Post s' σ') : GCall Tryz.prog F_slices_Clone_int_int [s] σ Post := by
  refine gc_slices_Clone_int_int ?_
  simp [G_slices_Clone_int_int, genv0, List.replicate]
  refine eqn_any ?_ fun b hb => ?_
  · rcases hO with ⟨rfl, _⟩ | ⟨id, cap, rest, _, rfl, _⟩ <;> simp only [nilq]
    · simp
    · split <;> simp
  cases b with
  | true =>
    have : xs = [] := by
      rcases hO with ⟨rfl, h⟩ | ⟨id, cap, rest, _, rfl, _⟩
      · exact h
      · simp only [nilq] at hb
        split at hb
        · simp at hb
        · exact List.length_eq_zero_iff.1 (by omega)
    subst this
    simp
    exact k .nils σ .nil (.refl (Nat.le_refl _)) (.inr rfl)
  | false =>
    have h0 : Own σ.length 1 eint (σ ++ [.row false (gzeros [.int .i64 0] 0)]) (.slice σ.length 0 0 1 (some 0)) ([] : List Int) := .inr ⟨σ.length, some 0, [], Nat.le_refl _, by simp, by simp [gzeros], fun c hc => by cases hc; simp⟩
    obtain ⟨r1, r2⟩ := (hO.fr (Fr.rfl'.app [.row false (gzeros [.int .i64 0] 0)])).read fun _ => rfl
    obtain ⟨s', σ', q1, q2, q3, q4, q5, q6, q7⟩ := h0.append (by_ := 8) (ys := xs) (x := s) (fun _ => rfl) r1 r2 (fun y _ => by simp) (by simp) (by simp; omega) (by decide)
    simp [q1]
    refine k s' σ' (by simpa using q2) (((Fr.refl (Nat.le_refl _)).app _).trans q3) ?_
    by_cases hx : xs = []
    · exact .inr hx
    · exact .inl (append_cap0 (by rw [r2]; intro e; exact hx (List.length_eq_zero_iff.1 e)) q1)
theorem compact_nc {n : Nat} {s : DV} {xs : List Int} {σ : GS} {Post : DV → GS → Prop} (hO : Own n 1 eint σ s xs) (hN : NoCap s ∨ xs = []) (hl : xs.length < 2 ^ 40) (hn : n ≤ σ.length)
    (k : ∀ s' σ', Own n 1 eint σ' s' (compactI xs) → Fr n σ σ' → Post s' σ') : GCall Tryz.prog F_slices_Compact_int_int [s] σ Post := by
  rcases hN with hN | rfl
  · exact slices_Compact_ok hO hN hl hn k
  · refine gc_slices_Compact_int_int ?_
    have hlen := hO.len
    simp at hlen
    simp [G_slices_Compact_int_int, genv0, List.replicate, hlen]
    exact k _ _ hO (.refl hn)
end Go.Gh
namespace Go.Gh
open Go.RowKit Go.Sort Go.Shelf Go.Proofs
set_option linter.unusedVariables false
set_option linter.unusedSimpArgs false
def sortf_ren : Go.Shelf.Ren := ⟨fun | 6 => 156 | 15 => 202 | 14 => 201 | 28 => 229 | 29 => 230 | 20 => 221 | 21 => 222 | 22 => 223 | 23 => 224 | 24 => 225 | 25 => 226 | 26 => 227 | 27 => 228 | 46 => 234 | 47 => 235 | 48 => 236 | 49 => 237 | 50 => 238 | 57 => 239 | n => n, fun | 22 => 23 | 24 => 3 | 25 => 183 | 3 => 3 | 39 => 142 | 0 => 0 | 53 => 262 | 55 => 264 | 4 => 4 | 46 => 256 | 45 => 255 | 50 => 181 | 5 => 5 | 9 => 9 | 66 => 266 | 70 => 270 | 76 => 272 | 77 => 273 | n => n, fun | n => n⟩
theorem sortf_lays : Go.Proofs.SlLaysF.n6 Tryz.prog sortf_ren := {
  mixed := by kernel_rfl
  f6 := ⟨ "slices.SortFunc[[]int,int]", by decide, Tryz.func156.trans (congrArg some (by kernel_rfl))⟩
  f14 := ⟨ "slices.pdqsortCmpFunc[int]", by decide, Tryz.func201.trans (congrArg some (by kernel_rfl))⟩
  f15 := Tryz.func202.trans (congrArg some (by kernel_rfl))
  f20 := ⟨ "slices.insertionSortCmpFunc[int]", by decide, Tryz.func221.trans (congrArg some (by kernel_rfl))⟩
  f21 := ⟨ "slices.heapSortCmpFunc[int]", by decide, Tryz.func222.trans (congrArg some (by kernel_rfl))⟩
  f22 := ⟨ "slices.breakPatternsCmpFunc[int]", by decide, Tryz.func223.trans (congrArg some (by kernel_rfl))⟩
  f23 := ⟨ "slices.choosePivotCmpFunc[int]", by decide, Tryz.func224.trans (congrArg some (by kernel_rfl))⟩
  f24 := ⟨ "slices.reverseRangeCmpFunc[int]", by decide, Tryz.func225.trans (congrArg some (by kernel_rfl))⟩
  f25 := ⟨ "slices.partialInsertionSortCmpFunc[int]", by decide, Tryz.func226.trans (congrArg some (by kernel_rfl))⟩
  f26 := ⟨ "slices.partitionEqualCmpFunc[int]", by decide, Tryz.func227.trans (congrArg some (by kernel_rfl))⟩
  f27 := ⟨ "slices.partitionCmpFunc[int]", by decide, Tryz.func228.trans (congrArg some (by kernel_rfl))⟩
  f28 := Tryz.func229.trans (congrArg some (by kernel_rfl))
  f29 := Tryz.func230.trans (congrArg some (by kernel_rfl))
  f46 := ⟨ "slices.siftDownCmpFunc[int]", by decide, Tryz.func234.trans (congrArg some (by kernel_rfl))⟩
  f47 := Tryz.func235.trans (congrArg some (by kernel_rfl))
  f48 := Tryz.func236.trans (congrArg some (by kernel_rfl))
  f49 := ⟨ "slices.medianAdjacentCmpFunc[int]", by decide, Tryz.func237.trans (congrArg some (by kernel_rfl))⟩
  f50 := ⟨ "slices.medianCmpFunc[int]", by decide, Tryz.func238.trans (congrArg some (by kernel_rfl))⟩
  f57 := ⟨ "slices.order2CmpFunc[int]", by decide, Tryz.func239.trans (congrArg some (by kernel_rfl))⟩
  t0 := Tryz.underlying0
  a0 := Tryz.isAgg0
  z0 := Tryz.sizeOf0
  v0 := Tryz.zeroValue0
  t3 := Tryz.underlying3
  a3 := Tryz.isAgg3
  z3 := Tryz.sizeOf3
  v3 := Tryz.zeroValue3
  t4 := Tryz.underlying4
  a4 := Tryz.isAgg4
  z4 := Tryz.sizeOf4
  v4 := Tryz.zeroValue4
  t5 := Tryz.underlying5
  a5 := Tryz.isAgg5
  z5 := Tryz.sizeOf5
  v5 := Tryz.zeroValue5
  t9 := Tryz.underlying9
  a9 := Tryz.isAgg9
  z9 := Tryz.sizeOf9
  v9 := Tryz.zeroValue9
  t22 := Tryz.underlying23
  a22 := Tryz.isAgg23
  z22 := Tryz.sizeOf23
  v22 := Tryz.zeroValue23
  a24 := Tryz.isAgg3
  z24 := Tryz.sizeOf3
  t25 := Tryz.underlying183
  a25 := Tryz.isAgg183
  z25 := Tryz.sizeOf183
  v25 := Tryz.zeroValue183
  t39 := Tryz.underlying142
  a39 := Tryz.isAgg142
  z39 := Tryz.sizeOf142
  v39 := Tryz.zeroValue142
  t45 := Tryz.underlying255
  a45 := Tryz.isAgg255
  z45 := Tryz.sizeOf255
  v45 := Tryz.zeroValue255
  t46 := Tryz.underlying256
  a46 := Tryz.isAgg256
  z46 := Tryz.sizeOf256
  v46 := Tryz.zeroValue256
  t50 := Tryz.underlying181
  a50 := Tryz.isAgg181
  z50 := Tryz.sizeOf181
  v50 := Tryz.zeroValue181
  t53 := Tryz.underlying262
  a53 := Tryz.isAgg262
  z53 := Tryz.sizeOf262
  v53 := Tryz.zeroValue262
  t55 := Tryz.underlying264
  a55 := Tryz.isAgg264
  z55 := Tryz.sizeOf264
  v55 := Tryz.zeroValue264
  t66 := Tryz.underlying266
  a66 := Tryz.isAgg266
  z66 := Tryz.sizeOf266
  v66 := Tryz.zeroValue266
  t70 := Tryz.underlying270
  a70 := Tryz.isAgg270
  z70 := Tryz.sizeOf270
  v70 := Tryz.zeroValue270
  t76 := Tryz.underlying272
  a76 := Tryz.isAgg272
  z76 := Tryz.sizeOf272
  v76 := Tryz.zeroValue272
  t77 := Tryz.underlying273
  a77 := Tryz.isAgg273
  z77 := Tryz.sizeOf273
  v77 := Tryz.zeroValue273 }
end Go.Gh
namespace Go.Gh
open Go.RowKit Go.Sort Go.Proofs Go.Shelf Go.Lib
set_option linter.unusedVariables false
set_option linter.unusedSimpArgs false
set_option maxRecDepth 100000
set_option maxHeartbeats 1000000 in
theorem abs_calls (x : Int) (h : -65536 ≤ x ∧ x ≤ 65536) (W : World) : Calls Tryz.prog 78 #[.int .i64 x] W fun e w' => e = .returned (.int .i64 (ab x)) ∧ w' = W := by
  have e : IntKind.i64.wrap (-x) = -x := by rw [wrap_small] <;> omega
  have d1 : decide (x < -65536) = false := by simp; omega
  have d2 : decide (x > 65536) = false := by simp; omega
  have e2 : max x (-x) = ab x := by unfold ab; split <;> omega
  go_enter Tryz.func78, Tryz.ntmps78
  go_wp2
  go_ret
  exact ⟨rfl, rfl⟩
theorem ab_le {x : Int} (h : -65536 ≤ x ∧ x ≤ 65536) : 0 ≤ ab x ∧ ab x ≤ 65536 := by unfold ab; split <;> omega
set_option maxHeartbeats 1000000 in
theorem put_cmp (x y : LitV) (W : World) : Calls Tryz.prog 157 #[.int .i64 x.1, .int .i64 y.1] W fun e w' => e = .returned (.int .i64 (cfL x y)) ∧ ∃ q os', w' = grow (W.drewN q) os' := by
  obtain ⟨x, hx⟩ := x
  obtain ⟨y, hy⟩ := y
  have cx := fun W' => abs_calls x hx W'
  have cy := fun W' => abs_calls y hy W'
  have hax := ab_le hx
  have hay := ab_le hy
  show Calls Tryz.prog 157 #[.int .i64 x, .int .i64 y] W fun e w' => e = .returned (.int .i64 (if ab x = ab y then x - y else ab x - ab y)) ∧ ∃ q os', w' = grow (W.drewN q) os'
  have e1 : IntKind.i64.wrap (x - y) = x - y := by rw [wrap_small] <;> omega
  have e2 : IntKind.i64.wrap (ab x - ab y) = ab x - ab y := by rw [wrap_small] <;> omega
  generalize ab x = a at *
  generalize ab y = b at *
  have hr : ∀ c : Prop, (∃ q os', W = grow (W.drewN q) os') := fun _ => ⟨0, #[], by rw [grow_empty]; rfl⟩
  go_enter Tryz.func157, Tryz.ntmps157
  by_cases c : a = b
  · have d : (a == b) = true := by simpa using c
    have d' : (a != b) = false := by simpa using c
    have d'' : decide (a ≠ b) = false := by simpa using c
    rw [if_pos c]
    go_wp2_with (go_at_call 78; first | (with_reducible refine (cx _).mono ?_; rintro e w' ⟨rfl, rfl⟩) | (with_reducible refine (cy _).mono ?_; rintro e w' ⟨rfl, rfl⟩))
    go_ret
    exact ⟨rfl, hr True⟩
  · rw [if_neg c]
    have d : (a == b) = false := by simpa using c
    have d' : (a != b) = true := by simpa using c
    have d'' : decide (a ≠ b) = true := by simpa using c
    go_wp2_with (go_at_call 78; first | (with_reducible refine (cx _).mono ?_; rintro e w' ⟨rfl, rfl⟩) | (with_reducible refine (cy _).mono ?_; rintro e w' ⟨rfl, rfl⟩))
    go_ret
    exact ⟨rfl, hr True⟩
theorem sortLC : SortLC Tryz.prog 156 157 := by
  have eg : ∀ args w, (callFunc 157 args).run Tryz.prog w = .ok (.enter 157 args) w := enters_of Tryz.func157 (by kernel_rfl) rfl
  refine ⟨fun blk off cap d w hH hblk hsz => ?_, fun p cap w => AnyF.slices_SortFunc_none (ρ := sortf_ren) { sortf_lays with } p cap _ w⟩
  exact Any.slices_SortFunc_total sortf_lays encL (fun x => rfl) cfL swoL 157 #[] blk off cap d w eg (fun _ _ _ _ x y => put_cmp x y _) hH hblk hsz totL
theorem sortLX : ∃ fn, Tryz.prog.funcs[156]? = some fn ∧ (fn.name == "runtime.NumGoroutine") = false ∧ fn.body.isSome = true :=
  ⟨Tryz.f156, Tryz.func156, by decide, rfl⟩
end Go.Gh
namespace Go.Gh
open Go.RowKit Go.Proofs
set_option linter.unusedVariables false
set_option linter.unusedSimpArgs false
set_option maxRecDepth 100000
/-- A list of clauses that grows, behind a pointer. -/
def CB (n : Nat) (σ : GS) (id : Nat) (cs : List (List Int)) : Prop := ∃ s raws, (id < n ∧ n ≤ σ.length) ∧ σ[id]? = some (.row false [s]) ∧ LX n σ s raws cs
/-- What a list of clauses writes. -/
def Fc (σ : GS) (id i : Nat) : Prop := i = id ∨ ∃ s, σ[id]? = some (.row false [s]) ∧ s.has i
/-- What can be reached from a cell that holds a list of lists. -/
def Rch (σ : GS) (id i : Nat) : Prop := ∃ s, σ[id]? = some (.row false [s]) ∧ (s.has i ∨ ∃ j len sz cap cs r, s = .slice j 0 len sz cap ∧ σ[j]? = some (.row false cs) ∧ r ∈ cs.take len ∧ r.has i)
theorem LX.rch {n id i : Nat} {σ : GS} {s : DV} {raws : List DV} {cs : List (List Int)} (h : LX n σ s raws cs) (hr : σ[id]? = some (.row false [s])) : Rch σ id i ↔ LHas s raws i := by
  have hcells : ∀ {j len sz : Nat} {cap : Option Nat} {c : List DV}, s = .slice j 0 len sz cap → σ[j]? = some (.row false c) → c.take len = raws := fun {j len sz cap c} e hc => by
    rcases h.own with ⟨e', _⟩ | ⟨id', cap', rest, _, e', h3, _⟩
    · rw [e] at e'; cases e'
    · rw [e] at e'; cases e'
      rw [hc] at h3; cases h3
      rw [show raws.flatMap eone = raws by induction raws <;> simp_all [eone], List.take_left]
  constructor
  · rintro ⟨t, ht, hh⟩
    rw [hr] at ht; cases ht
    rcases hh with hh | ⟨j, len, sz, cap, c, r, e, hc, hm, hh⟩
    · exact .inl hh
    · rw [hcells e hc] at hm; exact .inr ⟨r, hm, hh⟩
  · rintro (hh | ⟨r, hm, hh⟩)
    · exact ⟨s, hr, .inl hh⟩
    · rcases h.own with ⟨_, e'⟩ | ⟨id', cap', rest, _, e', h3, _⟩
      · subst e'; cases hm
      · exact ⟨s, hr, .inr ⟨_, _, _, _, _, r, e', h3, by rw [hcells e' h3]; exact hm, hh⟩⟩
structure Stc (σ : GS) (id : Nat) (σ' : GS) : Prop where
  len : σ.length ≤ σ'.length
  get : ∀ i, i < σ.length → ¬ Fc σ id i → σ'[i]? = σ[i]?
  ft : ∀ i, i < σ.length → ¬ Fc σ id i → ¬ Fc σ' id i
  nw : ∀ i, Rch σ' id i → Rch σ id i ∨ σ.length ≤ i
theorem Stc.refl (σ : GS) (id : Nat) : Stc σ id σ := ⟨Nat.le_refl _, fun _ _ _ => rfl, fun _ _ h => h, fun _ h => .inl h⟩
theorem Stc.trans {a b c : GS} {id : Nat} (h : Stc a id b) (k : Stc b id c) : Stc a id c :=
  ⟨Nat.le_trans h.len k.len, fun i hi hf => (k.get i (by have := h.len; omega) (h.ft i hi hf)).trans (h.get i hi hf), fun i hi hf => k.ft i (by have := h.len; omega) (h.ft i hi hf), fun i hi => (k.nw i hi).elim (h.nw i) fun hh => .inr (Nat.le_trans h.len hh)⟩
theorem CB.dom {n id : Nat} {σ : GS} {cs : List (List Int)} (h : CB n σ id cs) : id < n ∧ n ≤ σ.length ∧ id < σ.length := by
  obtain ⟨s, raws, h1, h2, _⟩ := h
  exact ⟨h1.1, h1.2, get_dom h2⟩
theorem CB.keep {n id : Nat} {σ σ' : GS} {cs : List (List Int)} (h : CB n σ id cs) (hl : σ.length ≤ σ'.length) (k : ∀ i, i < σ.length → σ'[i]? = σ[i]?) : CB n σ' id cs := by
  obtain ⟨s, raws, h1, h2, h3⟩ := h
  exact ⟨s, raws, ⟨h1.1, by omega⟩, (k id (get_dom h2)).trans h2, h3.fit fun i hi => k i (h3.lt hi).2⟩
/-- Objects below the bound may change, but for the pointer's own. -/
theorem CB.other {n id : Nat} {σ σ' : GS} {cs : List (List Int)} (h : CB n σ id cs) (hl : σ.length ≤ σ'.length) (k : ∀ i, i < σ.length → (i = id ∨ n ≤ i) → σ'[i]? = σ[i]?) : CB n σ' id cs := by
  obtain ⟨s, raws, h1, h2, h3⟩ := h
  exact ⟨s, raws, ⟨h1.1, by omega⟩, (k id (get_dom h2) (.inl rfl)).trans h2, h3.fit fun i hi => k i (h3.lt hi).2 (.inr (h3.lt hi).1)⟩
theorem CB.fcDom {n id : Nat} {σ : GS} {cs : List (List Int)} (h : CB n σ id cs) {i : Nat} (hf : Fc σ id i) : (i = id ∨ n ≤ i) ∧ i < σ.length := by
  obtain ⟨s, raws, h1, h2, h3⟩ := h
  rcases hf with rfl | ⟨s', hs, hi⟩
  · exact ⟨.inl rfl, get_dom h2⟩
  · rw [h2] at hs; cases hs; exact ⟨.inr (h3.lt (.inl hi)).1, (h3.lt (.inl hi)).2⟩
/-- What grows behind leaves it. -/
theorem CB.stc {n id : Nat} {σ σ' : GS} {cs : List (List Int)} (h : CB n σ id cs) (hl : σ.length ≤ σ'.length) (k : ∀ i, i < σ.length → σ'[i]? = σ[i]?) : Stc σ id σ' := by
  refine ⟨hl, fun i hi _ => k i hi, fun i hi hf hf' => hf ?_, fun i hi => .inl ?_⟩
  · rcases hf' with h1 | ⟨s, h1, h2⟩
    · exact .inl h1
    · exact .inr ⟨s, by rw [← k id h.dom.2.2]; exact h1, h2⟩
  · obtain ⟨s, raws, h1, h2, h3⟩ := h
    have h3' : LX n σ' s raws cs := h3.fit fun i hi => k i (h3.lt hi).2
    exact (h3.rch h2).2 ((h3'.rch ((k id (get_dom h2)).trans h2)).1 hi)
theorem CB.app {n id : Nat} {σ : GS} {cs : List (List Int)} (h : CB n σ id cs) (τ : GS) : CB n (σ ++ τ) id cs := h.keep (by simp) fun i hi => List.getElem?_append_left hi
theorem CB.stcApp {n id : Nat} {σ : GS} {cs : List (List Int)} (h : CB n σ id cs) (τ : GS) : Stc σ id (σ ++ τ) := h.stc (by simp) fun i hi => List.getElem?_append_left hi
/-- A literal. -/
def Lt (x : Int) : Prop := x ≠ 0 ∧ -65536 ≤ x ∧ x ≤ 65536
theorem Lt.neg {x : Int} (h : Lt x) : Lt (-x) := by unfold Lt at *; omega
theorem Lt.wrapN {x : Int} (h : Lt x) : IntKind.i64.wrap (-x) = -x := by unfold Lt at h; rw [wrap_small] <;> omega
theorem perm_all {l m : List Int} {p : Int → Prop} (hp : l.Perm m) (h : ∀ x ∈ l, p x) : ∀ x ∈ m, p x := fun x hx => h x (hp.mem_iff.2 hx)
theorem enc_put_ok {n m id : Nat} {cs : List (List Int)} {l : DV} {raw : List Int} {σ : GS} {Post : DV → GS → Prop} (hB : CB n σ id cs) (hO : Own m 1 eint σ l raw) (hl : raw.length < 2 ^ 30) (hlit : ∀ x ∈ raw, Lt x) (hcs : cs.length < 2 ^ 40)
    (k : ∀ σ', CB n σ' id (cs ++ (normL raw).toList) → Stc σ id σ' → Post (.tuple []) σ') : GCall Tryz.prog F_enc_clauses_put [.ptr id 0, l] σ Post := by
  have hB0 := hB
  obtain ⟨s, raws, ⟨hn, hn2⟩, hrow, hX⟩ := hB
  have hid := get_dom hrow
  refine gc_enc_clauses_put ?_
  simp [G_enc_clauses_put, genv0, List.replicate]
  refine clone_nc hO (by omega) fun s1 σ1 o1 f1 c1 => ?_
  simp
  refine (Own.sortL (f := 156) (g := 157) sortLC sortLX o1 (fun x hx => (hlit x hx).2) (by omega) f1.len).mono ?_
  rintro v σ2 ⟨rfl, ys, hp, hs, o2, f2, l2, _⟩
  simp
  have hyl := hp.length_eq
  have hylit := perm_all hp hlit
  refine compact_nc o2 (c1.imp (fun h => h) fun h => List.length_eq_zero_iff.1 (by rw [← hyl, h]; rfl)) (by omega) f2.len fun s3 σ3 o3 f3 => ?_
  simp
  have hcl := compact_len ys
  have hclit : ∀ x ∈ compactI ys, Lt x := fun x hx => hylit x ((mem_compactI _ _).1 hx)
  refine enc_normal_live o3 (by omega) ?_
  have hnp := norm_prog hp hs fun x hx => (hlit x hx).1
  rw [nrmE_in fun x hx => (hclit x hx).2]
  have hF : Fr σ.length σ σ3 := (f1.trans f2).trans f3
  have hk : ∀ i, i < σ.length → σ3[i]? = σ[i]? := hF.get
  by_cases c : nrmA 0 (compactI ys) = true
  rotate_left
  · rw [if_neg c] at hnp
    rw [hnp] at k
    simp only [Option.toList, List.append_nil] at k
    simp [c]
    exact k _ (hB0.keep hF.len hk) (hB0.stc hF.len hk)
  rw [if_pos c] at hnp
  rw [hnp] at k
  simp only [Option.toList] at k
  have hld : gload (.load 1 false) [.ptr id 0] σ3 = some s := by rw [ld_at ((hk id hid).trans hrow)]; rfl
  have hX3 : LX n σ3 s raws cs := hX.fit fun i hi => hk i (hX.lt hi).2
  have hba : galloc (.bslice 1 [.nils] 1 [(0, 1)]) [s3] = some (.row false [s3], fun id => .slice id 0 1 1 (some 1)) := ga_b1_flat o3.flat
  obtain ⟨s', σ4, q1, q2, q3, q4, q5, q6⟩ := hX3.push (r := s3) (c := compactI ys) (.inr ⟨o3.weaken (by omega), fun i hi hi' => by have := o3.has_ge hi; have := (hX.lt (.inl hi')).2; omega⟩) (by have := hF.len; omega) (by omega)
  have hrow4 : σ4[id]? = some (.row false [s]) := (q5 id (by have := hF.len; omega) fun h => by have := (hX.lt (.inl h)).1; omega).trans ((hk id hid).trans hrow)
  have hst : gimp (.store 1) [.ptr id 0, s'] σ4 = some (.tuple [], σ4.set id (.row false [s'])) := by
    simp [gimp, hrow4, cells_of_flat q2.own.flat, over, q2.own.flat]
  simp [c, hld, hba, q1, hst]
  have hset : ∀ i, i ≠ id → (σ4.set id (.row false [s']))[i]? = σ4[i]? := fun i hi => List.getElem?_set_ne (Ne.symm hi)
  have hnew : ∀ j, LHas s' (raws ++ [s3]) j → j ≠ id := by
    intro j hj e
    rcases hj with hj | ⟨r, hr, hj⟩
    · rcases q6 j hj with h | h
      · have := (hX.lt (.inl h)).1; omega
      · have := hF.len; omega
    · rcases List.mem_append.1 hr with hr | hr
      · have := (hX.lt (.inr ⟨r, hr, hj⟩)).1; omega
      · simp at hr; subst hr; have := o3.has_ge hj; omega
  have hid4 : id < σ4.length := get_dom hrow4
  have hX5 : LX n (σ4.set id (.row false [s'])) s' (raws ++ [s3]) (cs ++ [compactI ys]) := q2.fit fun i hi => hset i (hnew i hi)
  have hrow5 : (σ4.set id (.row false [s']))[id]? = some (.row false [s']) := by rw [List.getElem?_set_self hid4]
  refine k _ ⟨s', raws ++ [s3], ⟨hn, by have := hF.len; simp; omega⟩, hrow5, hX5⟩ ⟨by have := hF.len; simp; omega, fun i hi hf => ?_, fun i hi hf hf' => ?_, fun i hi => ?_⟩
  · have h1 : i ≠ id := fun e => hf (.inl e)
    rw [hset i h1, q5 i (by have := hF.len; omega) fun h => hf (.inr ⟨s, hrow, h⟩), hk i hi]
  · rcases hf' with h1 | ⟨t, h1, h2⟩
    · exact hf (.inl h1)
    · rw [List.getElem?_set_self hid4] at h1
      cases h1
      rcases q6 i h2 with h | h
      · exact hf (.inr ⟨s, hrow, h⟩)
      · have := hF.len; omega
  · rcases (hX5.rch hrow5).1 hi with h | ⟨r, hr, h⟩
    · rcases q6 i h with h | h
      · exact .inl ((hX.rch hrow).2 (.inl h))
      · exact .inr (by have := hF.len; omega)
    · rcases List.mem_append.1 hr with hr | hr
      · exact .inl ((hX.rch hrow).2 (.inr ⟨r, hr, h⟩))
      · simp at hr; subst hr; exact .inr (by have := o3.has_ge h; have := f1.len; have := f2.len; omega)
end Go.Gh
namespace Go.Gh
open Go.RowKit Go.Proofs
set_option linter.unusedVariables false
set_option linter.unusedSimpArgs false
set_option maxRecDepth 100000
end Go.Gh
namespace Go.Gh
open Go.RowKit Go.Proofs
set_option linter.unusedVariables false
set_option linter.unusedSimpArgs false
set_option maxRecDepth 100000
end Go.Gh
namespace Go.Gh
open Go.RowKit Go.Proofs
set_option linter.unusedVariables false
set_option linter.unusedSimpArgs false
set_option maxRecDepth 100000
@[simp] theorem wrap_two : IntKind.i64.wrap 2 = 2 := by decide
theorem flat_ei : ∀ L : List Int, L.flatMap eint = L.map fun x => DV.int .i64 x
  | [] => rfl
  | x :: l => by rw [List.flatMap_cons, flat_ei l]; rfl
theorem own_laid {σ : GS} (L : List Int) : Own σ.length 1 eint (σ ++ [.row false (L.map fun x => DV.int .i64 x)]) (.slice σ.length 0 L.length 1 (some L.length)) L :=
  .at_ (Nat.le_refl _) (by simp [flat_ei]) (fun c h => by cases h; rfl)
theorem lt2 {a b : Int} (ha : Lt a) (hb : Lt b) : ∀ x ∈ [a, b], Lt x := by intro x hx; simp at hx; rcases hx with rfl | rfl <;> assumption
theorem lt3 {a b c : Int} (ha : Lt a) (hb : Lt b) (hc : Lt c) : ∀ x ∈ [a, b, c], Lt x := by intro x hx; simp at hx; rcases hx with rfl | rfl | rfl <;> assumption
theorem fm_snoc (l : List (List Int)) (x : List Int) : (l ++ [x]).filterMap normL = l.filterMap normL ++ (normL x).toList := by
  rw [List.filterMap_append]
  congr 1
theorem fm_len (l : List (List Int)) : (l.filterMap normL).length ≤ l.length := List.length_filterMap_le _ _
/-- Two clauses that were laid. -/
theorem enc_both_ok {n id : Nat} {cs : List (List Int)} {a b c d e f : Int} {want : Bool} {σ : GS} {Post : DV → GS → Prop} (hB : CB n σ id cs) (ha : Lt a) (hb : Lt b) (hc : Lt c) (hd : Lt d) (he : Lt e) (hf : Lt f) (hcs : cs.length < 2 ^ 39)
    (k : ∀ σ', CB n σ' id (cs ++ if want then [[a, b, c], [d, e, f]].filterMap normL else []) → Stc σ id σ' → Post (.tuple []) σ') : GCall Tryz.prog F_enc_both [.ptr id 0, .agg [.int .i64 a, .int .i64 b, .int .i64 c, .int .i64 d, .int .i64 e, .int .i64 f], .bool want] σ Post := by
  refine gc_enc_both ?_
  simp [G_enc_both, genv0, List.replicate]
  refine gfor 2 (fun i env σ' => CB n σ' id (cs ++ if want then ([[a, b, c], [d, e, f]].take i).filterMap normL else []) ∧ Stc σ id σ' ∧ env = mkEnv 17 [(0, .ptr id 0), (2, .bool want), (8, .agg [.int .i64 a, .int .i64 b, .int .i64 c, .int .i64 d, .int .i64 e, .int .i64 f]), (9, .int .i64 i)]) _ ?_ ⟨by simpa using hB.app _, hB.stcApp _, rfl⟩ ?_
  · simp [mkEnv, List.replicate]
  rintro i _ σ1 hi ⟨hB1, hS1, rfl⟩
  simp [mkEnv, List.replicate]
  rcases (show i = 0 ∨ i = 1 ∨ i = 2 by omega) with rfl | rfl | rfl
  · have hix : gpure (.index 2 3 true) [.agg [.int .i64 a, .int .i64 b, .int .i64 c, .int .i64 d, .int .i64 e, .int .i64 f], .int .i64 0] = some (.agg [.int .i64 a, .int .i64 b, .int .i64 c]) := rfl
    have hst : gimp (.store 3) [.ptr σ1.length 0, .agg [.int .i64 a, .int .i64 b, .int .i64 c]] (σ1 ++ [.row false [.int .i64 0, .int .i64 0, .int .i64 0]]) = some (.tuple [], σ1 ++ [.row false ([a, b, c].map fun x => DV.int .i64 x)]) := by simp
    have has : gload (.aslice 3 1 false false) [.ptr σ1.length 0] (σ1 ++ [.row false ([a, b, c].map fun x => DV.int .i64 x)]) = some (.slice σ1.length 0 3 1 (some 3)) := by simp [gload, gaslice, gbh, gbl]
    cases want with
    | false =>
      simp [hix, hst]
      exact forK_go _ (by omega) (by simp [mkEnv, List.replicate]) ⟨by simpa using hB1.app _, hS1.trans (hB1.stcApp _), rfl⟩
    | true =>
      simp only [if_true] at k hB1
      simp [hix, hst]
      rw [show [DV.int .i64 a, .int .i64 b, .int .i64 c] = [a, b, c].map (fun x => DV.int .i64 x) from rfl, has]
      simp
      refine enc_put_ok (hB1.app _) (own_laid [a, b, c]) (by simp) (lt3 ha hb hc) (by simp; omega) fun σ2 hB2 hS2 => ?_
      simp
      refine forK_go _ (by omega) (by simp [mkEnv, List.replicate]) ⟨?_, (hS1.trans (hB1.stcApp _)).trans hS2, rfl⟩
      have e := fm_snoc [] [a, b, c]
      simp only [List.nil_append, List.filterMap_nil] at e
      simpa [e] using hB2
  · have hix : gpure (.index 2 3 true) [.agg [.int .i64 a, .int .i64 b, .int .i64 c, .int .i64 d, .int .i64 e, .int .i64 f], .int .i64 1] = some (.agg [.int .i64 d, .int .i64 e, .int .i64 f]) := rfl
    have hst : gimp (.store 3) [.ptr σ1.length 0, .agg [.int .i64 d, .int .i64 e, .int .i64 f]] (σ1 ++ [.row false [.int .i64 0, .int .i64 0, .int .i64 0]]) = some (.tuple [], σ1 ++ [.row false ([d, e, f].map fun x => DV.int .i64 x)]) := by simp
    have has : gload (.aslice 3 1 false false) [.ptr σ1.length 0] (σ1 ++ [.row false ([d, e, f].map fun x => DV.int .i64 x)]) = some (.slice σ1.length 0 3 1 (some 3)) := by simp [gload, gaslice, gbh, gbl]
    cases want with
    | false =>
      simp [hix, hst]
      exact forK_go _ (by omega) (by simp [mkEnv, List.replicate]) ⟨by simpa using hB1.app _, hS1.trans (hB1.stcApp _), rfl⟩
    | true =>
      simp only [if_true] at k hB1
      simp [hix, hst]
      rw [show [DV.int .i64 d, .int .i64 e, .int .i64 f] = [d, e, f].map (fun x => DV.int .i64 x) from rfl, has]
      simp
      refine enc_put_ok (hB1.app _) (own_laid [d, e, f]) (by simp) (lt3 hd he hf) (by have := fm_len ([[a, b, c], [d, e, f]].take 1); simp at this; simp; omega) fun σ2 hB2 hS2 => ?_
      simp
      refine forK_go _ (by omega) (by simp [mkEnv, List.replicate]) ⟨?_, (hS1.trans (hB1.stcApp _)).trans hS2, rfl⟩
      have e2 := fm_snoc [[a, b, c]] [d, e, f]
      rw [show ([[a, b, c], [d, e, f]].take (1 + 1)) = [[a, b, c]] ++ [[d, e, f]] from rfl, if_pos rfl, e2]
      simpa using hB2
  · simp
    exact k _ (by simpa using hB1) hS1
theorem enc_neg_ok {i : List Int} {σ : GS} {Post : DV → GS → Prop} (hl : i.length < 2 ^ 40) (hlit : ∀ x ∈ i, Lt x) (k : ∀ s σ', Own σ.length 1 eint σ' s (i.map fun l => -l) → Fr σ.length σ σ' → Post s σ') : GCall Tryz.prog F_enc_neg [fints i] σ Post := by
  refine gc_enc_neg ?_
  have hms := mslice_ints (n := i.length) (by omega) .i64 .i64
  simp [G_enc_neg, genv0, List.replicate, hms]
  refine gfor i.length (fun j e σ' => Fr σ.length σ σ' ∧ Own σ.length 1 eint σ' (.slice σ.length 0 i.length 1 (some i.length)) (((i.take j).map fun l => -l) ++ List.replicate (i.length - j) 0) ∧ e = mkEnv 23 [(3, .slice σ.length 0 i.length 1 (some i.length)), (9, fints i), (10, .int .i64 i.length), (11, .int .i64 j)]) _ ?_ ⟨.self _, ?_, rfl⟩ ?_
  · simp [mkEnv, List.replicate]
  · have := own_laid (σ := σ) (List.replicate i.length 0)
    simpa [ints] using this
  rintro j _ σ1 hj ⟨hF, hO, rfl⟩
  simp [mkEnv, List.replicate]
  by_cases hlt : j < i.length
  · obtain ⟨x, hx⟩ := nth_lt hlt
    have hx' := nth_get hx
    have hxl := hlit x (List.mem_of_getElem? hx')
    have es : IntKind.i64.wrap ((j : Int) + 1) = (j : Int) + 1 := by rw [wrap_small] <;> omega
    obtain ⟨d, σ2, r1, r2, r3, r4, r5, r6⟩ := hO.set (f := fun x => DV.int .i64 x) (i := j) (by simp; omega) (-x) (by simp) (k := .i64)
    simp [hlt, hx, hxl.wrapN, r2, r3, es]
    refine forK_go _ hlt (by simp [mkEnv, List.replicate]) ⟨⟨by rw [r5]; exact hF.len, fun m hm => ?_⟩, ?_, rfl⟩
    · rw [r6 m fun h => by obtain ⟨_, _, _, _, e⟩ := h; cases e; omega]; exact hF.get m hm
    · have e : ((((i.take j).map fun l => -l) ++ List.replicate (i.length - j) 0).set j (-x)) = ((i.take (j + 1)).map fun l => -l) ++ List.replicate (i.length - (j + 1)) 0 := by
        have hjl : ((i.take j).map fun l => -l).length = j := by simp; omega
        rw [List.set_append_right _ _ (by omega), hjl, Nat.sub_self, take_get hx', show i.length - j = (i.length - (j + 1)) + 1 by omega, List.replicate_succ]
        simp
      rw [← e]; exact r4
  · have : j = i.length := by omega
    subst this
    simp
    exact k _ _ (by simpa using hO) hF
end Go.Gh
namespace Go.Gh
open Go.RowKit Go.Proofs
set_option linter.unusedVariables false
set_option linter.unusedSimpArgs false
set_option maxRecDepth 100000
theorem lt_map {i : List Int} (hi : ∀ l ∈ i, Lt l) : ∀ x ∈ i.map (fun l => -l), Lt x := fun x hx => by
  obtain ⟨y, hy, rfl⟩ := List.mem_map.1 hx; exact (hi y hy).neg
theorem lt_snoc {i : List Int} {x : Int} (hi : ∀ l ∈ i, Lt l) (hx : Lt x) : ∀ y ∈ i ++ [x], Lt y := fun y hy => by
  rcases List.mem_append.1 hy with h | h
  · exact hi y h
  · simp at h; subst h; exact hx
theorem fm_take {i : List Int} {f : Int → List Int} {j : Nat} {y : Int} (h : i[j]? = some y) (cs : List (List Int)) : cs ++ ((i.take (j + 1)).map f).filterMap normL = cs ++ ((i.take j).map f).filterMap normL ++ (normL (f y)).toList := by
  rw [take_get h, List.map_append, List.map_cons, List.map_nil, fm_snoc, List.append_assoc]
theorem gcl_1 (x : Int) (i : List Int) (pl mi : Bool) : gcl x 1 i pl mi = (if pl = true then (i.map fun l => [-x, l]).filterMap normL else []) ++ (if mi = true then [(i.map fun l => -l) ++ [x]].filterMap normL else []) := by
  unfold gcl rawP
  rw [if_pos rfl, List.filterMap_append]
  cases pl <;> cases mi <;> rfl
theorem gcl_2 (x : Int) (i : List Int) (pl mi : Bool) : gcl x 2 i pl mi = (if pl = true then [i ++ [-x]].filterMap normL else []) ++ (if mi = true then (i.map fun l => [x, -l]).filterMap normL else []) := by
  unfold gcl rawP
  rw [if_neg (by decide), if_pos rfl, List.filterMap_append]
  cases pl <;> cases mi <;> rfl
theorem gcl_3 (x : Int) (i : List Int) (pl mi : Bool) : gcl x 3 i pl mi = (if pl = true then [[-x, i.getD 0 0, i.getD 1 0], [-x, -i.getD 0 0, -i.getD 1 0]].filterMap normL else []) ++ (if mi = true then [[x, -i.getD 0 0, i.getD 1 0], [x, i.getD 0 0, -i.getD 1 0]].filterMap normL else []) := by
  unfold gcl rawP
  rw [if_neg (by decide), if_neg (by decide), if_pos rfl, List.filterMap_append]
  cases pl <;> cases mi <;> rfl
theorem gcl_4 (x : Int) (i : List Int) (pl mi : Bool) : gcl x 4 i pl mi = (if pl = true then [[-x, -i.getD 0 0, i.getD 1 0], [-x, i.getD 0 0, i.getD 2 0]].filterMap normL else []) ++ (if mi = true then [[x, -i.getD 0 0, -i.getD 1 0], [x, i.getD 0 0, -i.getD 2 0]].filterMap normL else []) := by
  unfold gcl rawP
  rw [if_neg (by decide), if_neg (by decide), if_neg (by decide), List.filterMap_append]
  cases pl <;> cases mi <;> rfl
theorem enc_w1_ok {n id : Nat} {cs : List (List Int)} {x : Int} {i : List Int} {pl mi : Bool} {σ : GS} {Post : DV → GS → Prop} (hB : CB n σ id cs) (hx : Lt x) (hi : ∀ l ∈ i, Lt l) (hil : i.length < 2 ^ 29) (hcs : cs.length < 2 ^ 38)
    (k : ∀ σ', CB n σ' id (cs ++ gcl x 1 i pl mi) → Stc σ id σ' → Post (.tuple []) σ') : GCall Tryz.prog F_enc_writers_1 [.ptr id 0, .int .i64 x, fints i, .bool pl, .bool mi] σ Post := by
  refine gc_enc_writers_1 ?_
  have hsnoc := lt_snoc (lt_map hi) hx
  cases pl with
  | false =>
    cases mi with
    | false =>
      simp [G_enc_writers_1, genv0, List.replicate]
      exact k _ (by simpa [gcl_1, gcl_2] using hB) (.refl _ _)
    | true =>
      simp [G_enc_writers_1, genv0, List.replicate]
      refine enc_neg_ok (by omega) hi fun s σ1 hO hF => ?_
      obtain ⟨s', σ2, q1, q2, q3, q4, q5, q6⟩ := hO.push (by_ := 8) x (fun _ => rfl) (by simp) hF.len (by simp; omega) (by decide)
      have hF2 := hF.trans q3
      simp [q1]
      refine enc_put_ok (hB.keep hF2.len hF2.get) q2 (by simp; omega) hsnoc (by omega) fun σ3 hB3 hS3 => ?_
      simp
      refine k _ ?_ ((hB.stc hF2.len hF2.get).trans hS3)
      have := fm_snoc [] ((i.map fun l => -l) ++ [x])
      simp only [List.nil_append, List.filterMap_nil] at this
      rw [← this] at hB3
      simpa only [gcl_1, if_true, Bool.false_eq_true, if_false, List.nil_append] using hB3
  | true =>
    simp [G_enc_writers_1, genv0, List.replicate]
    refine gfor i.length (fun j e σ' => CB n σ' id (cs ++ ((i.take j).map fun l => [-x, l]).filterMap normL) ∧ Stc σ id σ' ∧ e = mkEnv 34 [(0, .ptr id 0), (1, .int .i64 x), (2, fints i), (4, .bool mi), (13, fints i), (14, .int .i64 i.length), (15, .int .i64 j)]) _ ?_ ⟨by simpa using hB, .refl _ _, rfl⟩ ?_
    · simp [mkEnv, List.replicate]
    rintro j _ σ1 hj ⟨hB1, hS1, rfl⟩
    have hln := fm_len ((i.take j).map fun l => [-x, l])
    simp only [List.length_map, List.length_take] at hln
    simp [mkEnv, List.replicate]
    by_cases hlt : j < i.length
    · obtain ⟨y, hy⟩ := nth_lt hlt
      have hy' := nth_get hy
      have hyl := hi y (List.mem_of_getElem? hy')
      have es : IntKind.i64.wrap ((j : Int) + 1) = (j : Int) + 1 := by rw [wrap_small] <;> omega
      simp [hlt, hy, hx.wrapN]
      refine enc_put_ok (hB1.app _) (own_laid [-x, y]) (by simp) (lt2 hx.neg hyl) (by rw [List.length_append]; omega) fun σ2 hB2 hS2 => ?_
      simp [es]
      exact forK_go _ hlt (by simp [mkEnv, List.replicate]) ⟨by rw [fm_take hy']; exact hB2, (hS1.trans (hB1.stcApp _)).trans hS2, rfl⟩
    · have : j = i.length := by omega
      subst this
      rw [List.take_length] at hB1 hln
      cases mi with
      | false =>
        simp
        exact k _ (by simpa [gcl_1, gcl_2] using hB1) hS1
      | true =>
        simp
        refine enc_neg_ok (by omega) hi fun s σ2 hO hF => ?_
        obtain ⟨s', σ3, q1, q2, q3, q4, q5, q6⟩ := hO.push (by_ := 8) x (fun _ => rfl) (by simp) hF.len (by simp; omega) (by decide)
        have hF2 := hF.trans q3
        simp [q1]
        refine enc_put_ok (hB1.keep hF2.len hF2.get) q2 (by simp; omega) hsnoc (by rw [List.length_append]; omega) fun σ4 hB4 hS4 => ?_
        simp
        refine k _ ?_ ((hS1.trans (hB1.stc hF2.len hF2.get)).trans hS4)
        have := fm_snoc [] ((i.map fun l => -l) ++ [x])
        simp only [List.nil_append, List.filterMap_nil] at this
        rw [List.append_assoc, ← this] at hB4
        simpa only [gcl_1, if_true] using hB4
theorem clone_f {xs : List Int} {σ : GS} {Post : DV → GS → Prop} (hl : xs.length < 2 ^ 43) (k : ∀ s' σ', Own σ.length 1 eint σ' s' xs → Fr σ.length σ σ' → Post s' σ') : GCall Tryz.prog F_slices_Clone_int_int [fints xs] σ Post :=
  clone_frz hl (Nat.le_refl _) fun s' σ' h1 h2 _ _ => k s' σ' h1 h2
theorem enc_w2_ok {n id : Nat} {cs : List (List Int)} {x : Int} {i : List Int} {pl mi : Bool} {σ : GS} {Post : DV → GS → Prop} (hB : CB n σ id cs) (hx : Lt x) (hi : ∀ l ∈ i, Lt l) (hil : i.length < 2 ^ 29) (hcs : cs.length < 2 ^ 38)
    (k : ∀ σ', CB n σ' id (cs ++ gcl x 2 i pl mi) → Stc σ id σ' → Post (.tuple []) σ') : GCall Tryz.prog F_enc_writers_2 [.ptr id 0, .int .i64 x, fints i, .bool pl, .bool mi] σ Post := by
  refine gc_enc_writers_2 ?_
  have hsnoc := lt_snoc hi hx.neg
  cases pl with
  | false =>
    cases mi with
    | false =>
      simp [G_enc_writers_2, genv0, List.replicate]
      exact k _ (by simpa [gcl_1, gcl_2] using hB) (.refl _ _)
    | true =>
      simp [G_enc_writers_2, genv0, List.replicate]
      refine gfor i.length (fun j e σ' => CB n σ' id (cs ++ ((i.take j).map fun l => [x, -l]).filterMap normL) ∧ Stc σ id σ' ∧ e = mkEnv 35 [(0, .ptr id 0), (1, .int .i64 x), (22, fints i), (23, .int .i64 i.length), (24, .int .i64 j)]) _ ?_ ⟨by simpa using hB, .refl _ _, rfl⟩ ?_
      · simp [mkEnv, List.replicate]
      rintro j _ σ1 hj ⟨hB1, hS1, rfl⟩
      have hln := fm_len ((i.take j).map fun l => [x, -l])
      simp only [List.length_map, List.length_take] at hln
      simp [mkEnv, List.replicate]
      by_cases hlt : j < i.length
      · obtain ⟨y, hy⟩ := nth_lt hlt
        have hy' := nth_get hy
        have hyl := hi y (List.mem_of_getElem? hy')
        have es : IntKind.i64.wrap ((j : Int) + 1) = (j : Int) + 1 := by rw [wrap_small] <;> omega
        simp [hlt, hy, hyl.wrapN]
        refine enc_put_ok (hB1.app _) (own_laid [x, -y]) (by simp) (lt2 hx hyl.neg) (by rw [List.length_append]; omega) fun σ2 hB2 hS2 => ?_
        simp [es]
        exact forK_go _ hlt (by simp [mkEnv, List.replicate]) ⟨by rw [fm_take hy']; exact hB2, (hS1.trans (hB1.stcApp _)).trans hS2, rfl⟩
      · have : j = i.length := by omega
        subst this
        rw [List.take_length] at hB1
        simp
        exact k _ (by simpa [gcl_1, gcl_2] using hB1) hS1
  | true =>
    simp [G_enc_writers_2, genv0, List.replicate]
    refine clone_f (by omega) fun s σ1 hO hF => ?_
    obtain ⟨s', σ2, q1, q2, q3, q4, q5, q6⟩ := hO.push (by_ := 8) (-x) (fun _ => rfl) (by simp) hF.len (by omega) (by decide)
    have hF2 := hF.trans q3
    simp [hx.wrapN, q1]
    refine enc_put_ok (hB.keep hF2.len hF2.get) q2 (by simp; omega) hsnoc (by omega) fun σ3 hB3 hS3 => ?_
    have hS3 := (hB.stc hF2.len hF2.get).trans hS3
    have e1 := fm_snoc [] (i ++ [-x])
    simp only [List.nil_append, List.filterMap_nil] at e1
    rw [← e1] at hB3
    cases mi with
    | false =>
      simp
      exact k _ (by simpa only [gcl_2, if_true, Bool.false_eq_true, if_false, List.append_nil] using hB3) hS3
    | true =>
      simp
      have hl1 := fm_len [i ++ [-x]]
      rw [List.length_singleton] at hl1
      refine gfor i.length (fun j e σ' => CB n σ' id (cs ++ [i ++ [-x]].filterMap normL ++ ((i.take j).map fun l => [x, -l]).filterMap normL) ∧ Stc σ id σ' ∧ e = mkEnv 35 [(0, .ptr id 0), (1, .int .i64 x), (22, fints i), (23, .int .i64 i.length), (24, .int .i64 j)]) _ ?_ ⟨by simpa using hB3, hS3, rfl⟩ ?_
      · simp [mkEnv, List.replicate]
      rintro j _ σ4 hj ⟨hB4, hS4, rfl⟩
      have hln := fm_len ((i.take j).map fun l => [x, -l])
      simp only [List.length_map, List.length_take] at hln
      simp [mkEnv, List.replicate]
      by_cases hlt : j < i.length
      · obtain ⟨y, hy⟩ := nth_lt hlt
        have hy' := nth_get hy
        have hyl := hi y (List.mem_of_getElem? hy')
        have es : IntKind.i64.wrap ((j : Int) + 1) = (j : Int) + 1 := by rw [wrap_small] <;> omega
        simp [hlt, hy, hyl.wrapN]
        refine enc_put_ok (hB4.app _) (own_laid [x, -y]) (by simp) (lt2 hx hyl.neg) (by rw [List.length_append, List.length_append]; omega) fun σ5 hB5 hS5 => ?_
        simp [es]
        exact forK_go _ hlt (by simp [mkEnv, List.replicate]) ⟨by rw [fm_take hy']; exact hB5, (hS4.trans (hB4.stcApp _)).trans hS5, rfl⟩
      · have : j = i.length := by omega
        subst this
        rw [List.take_length] at hB4
        simp
        refine k _ ?_ hS4
        simpa only [gcl_2, if_true, ← List.append_assoc] using hB4
end Go.Gh
namespace Go.Gh
open Go.RowKit Go.Proofs
set_option linter.unusedVariables false
set_option linter.unusedSimpArgs false
set_option maxRecDepth 100000
@[simp] theorem nth_0 {α : Type} (x : α) (l : List α) : nth (x :: l) 0 = some x := rfl
@[simp] theorem nth_1 {α : Type} (x y : α) (l : List α) : nth (x :: y :: l) 1 = some y := rfl
@[simp] theorem nth_2 {α : Type} (x y z : α) (l : List α) : nth (x :: y :: z :: l) 2 = some z := rfl
@[simp] theorem fill_111 (z0 z1 z2 : DV) (a b c : Int) : gfill [(0, 1), (1, 1), (2, 1)] [z0, z1, z2] [.int .i64 a, .int .i64 b, .int .i64 c] = some [.int .i64 a, .int .i64 b, .int .i64 c] := rfl
@[simp] theorem fill_33 (z0 z1 z2 z3 z4 z5 a b c d e f : DV) : gfill [(0, 3), (3, 3)] [z0, z1, z2, z3, z4, z5] [.agg [a, b, c], .agg [d, e, f]] = some [a, b, c, d, e, f] := by simp [gfill, DV.cells, over]
theorem enc_w3_ok {n id : Nat} {cs : List (List Int)} {x a b : Int} {pl mi : Bool} {σ : GS} {Post : DV → GS → Prop} (hB : CB n σ id cs) (hx : Lt x) (ha : Lt a) (hb : Lt b) (hcs : cs.length < 2 ^ 38)
    (k : ∀ σ', CB n σ' id (cs ++ gcl x 3 [a, b] pl mi) → Stc σ id σ' → Post (.tuple []) σ') : GCall Tryz.prog F_enc_writers_3 [.ptr id 0, .int .i64 x, fints [a, b], .bool pl, .bool mi] σ Post := by
  refine gc_enc_writers_3 ?_
  rw [gcl_3] at k
  simp only [List.getD_cons_zero, List.getD_cons_succ] at k
  simp [G_enc_writers_3, genv0, List.replicate, hx.wrapN, ha.wrapN, hb.wrapN]
  refine enc_both_ok hB hx.neg ha hb hx.neg ha.neg hb.neg (by omega) fun σ1 hB1 hS1 => ?_
  simp [ha.wrapN, hb.wrapN]
  refine enc_both_ok hB1 hx ha.neg hb hx ha hb.neg ?_ fun σ2 hB2 hS2 => ?_
  · have := fm_len [[-x, a, b], [-x, -a, -b]]
    simp only [List.length_cons, List.length_nil] at this
    rw [List.length_append]; split
    · omega
    · simp; omega
  · simp
    rw [List.append_assoc] at hB2
    exact k _ hB2 (hS1.trans hS2)
theorem enc_w4_ok {n id : Nat} {cs : List (List Int)} {x c a b : Int} {pl mi : Bool} {σ : GS} {Post : DV → GS → Prop} (hB : CB n σ id cs) (hx : Lt x) (hc : Lt c) (ha : Lt a) (hb : Lt b) (hcs : cs.length < 2 ^ 38)
    (k : ∀ σ', CB n σ' id (cs ++ gcl x 4 [c, a, b] pl mi) → Stc σ id σ' → Post (.tuple []) σ') : GCall Tryz.prog F_enc_writers_4 [.ptr id 0, .int .i64 x, fints [c, a, b], .bool pl, .bool mi] σ Post := by
  refine gc_enc_writers_4 ?_
  rw [gcl_4] at k
  simp only [List.getD_cons_zero, List.getD_cons_succ] at k
  simp [G_enc_writers_4, genv0, List.replicate, hx.wrapN, ha.wrapN, hb.wrapN, hc.wrapN]
  refine enc_both_ok hB hx.neg hc.neg ha hx.neg hc hb (by omega) fun σ1 hB1 hS1 => ?_
  simp [ha.wrapN, hb.wrapN, hc.wrapN]
  refine enc_both_ok hB1 hx hc.neg ha.neg hx hc hb.neg ?_ fun σ2 hB2 hS2 => ?_
  · have := fm_len [[-x, -c, a], [-x, c, b]]
    simp only [List.length_cons, List.length_nil] at this
    rw [List.length_append]; split
    · omega
    · simp; omega
  · simp
    rw [List.append_assoc] at hB2
    exact k _ hB2 (hS1.trans hS2)
abbrev ku8 (x : Int) : DV := .int .u8 x
instance : KeyE (.int .u8) ku8 where
  eq a b := by simp only [ku8, keyEq, and_self, if_true]; rfl
  fits a := rfl
/-- What writes the clauses of a gate, by the kind. -/
def wE : List (Int × DV) := [(1, .func F_enc_writers_1 [] []), (2, .func F_enc_writers_2 [] []), (3, .func F_enc_writers_3 [] []), (4, .func F_enc_writers_4 [] [])]
theorem enc_writers_ok {σ : GS} {Post : DV → GS → Prop} (k : ∀ σ', MpO ku8 σ' σ.length wE → Fr σ.length σ σ' → Post (.map σ.length) σ') : GCall Tryz.prog F_enc_writers [] σ Post := by
  refine gc_enc_writers ?_
  have h0 : MpO ku8 (σ ++ [.mp [] ([], 0)]) σ.length ([] : List (Int × DV)) := MpO.new
  obtain ⟨o1, a1, b1⟩ := h0.set (kt := .int .u8) 1 (.func F_enc_writers_1 [] [])
  obtain ⟨o2, a2, b2⟩ := b1.set (kt := .int .u8) 2 (.func F_enc_writers_2 [] [])
  obtain ⟨o3, a3, b3⟩ := b2.set (kt := .int .u8) 3 (.func F_enc_writers_3 [] [])
  obtain ⟨o4, a4, b4⟩ := b3.set (kt := .int .u8) 4 (.func F_enc_writers_4 [] [])
  simp only [ku8] at a1 a2 a3 a4
  simp at a1 a2 a3 a4
  simp [G_enc_writers, genv0, List.replicate, a1, a2, a3, a4]
  refine k _ ?_ ?_
  · simpa [kset, wE] using b4
  · exact Fr.self _
theorem absE_lt {x : Int} : absE x ≠ 0 ↔ Lt x := by
  unfold absE Lt
  by_cases c : x < -65536 ∨ 65536 < x
  · rw [if_pos c]; omega
  · rw [if_neg c]; unfold ab; split <;> omega
/-- A gate. -/
structure GateP where
  v : Int
  k : Int
  ins : List Int
abbrev egate (g : GateP) : List DV := [.int .i64 g.v, .int .u8 g.k, fints g.ins]
abbrev GateP.enc (g : GateP) : DV := .agg (egate g)
end Go.Gh
namespace Go.Gh
set_option linter.unusedVariables false
set_option linter.unusedSimpArgs false
theorem insA_le : ∀ {r : List Int} {x : Int} {r' : List Int}, insA r x = some r' → r'.length ≤ r.length + 1
  | [], x, r', h => by cases h; simp
  | y :: l, x, r', h => by
    rw [insA] at h
    split at h
    · obtain ⟨m, hm, rfl⟩ := Option.map_eq_some_iff.1 h
      have := insA_le hm; simp; omega
    · split at h
      · split at h
        · cases h; simp
        · cases h
      · cases h; simp
theorem normL_le {l r : List Int} (h : normL l = some r) : r.length ≤ l.length := by
  have : ∀ (l r r' : List Int), l.foldl (fun o x => Option.bind o fun r => insA r x) (some r) = some r' → r'.length ≤ r.length + l.length := by
    intro l
    induction l with
    | nil => intro r r' h; cases h; simp
    | cons x l ih =>
      intro r r' h
      rw [List.foldl_cons, Option.bind_some] at h
      cases hi : insA r x with
      | none => rw [hi, normL_none_fold] at h; cases h
      | some m =>
        rw [hi] at h
        have h1 := ih m r' h
        have h2 := insA_le hi
        simp only [List.length_cons]; omega
  have := this l [] r h
  simpa using this
/-- The literal of an edge, from the variables of nodes. -/
def ofE (name : List Int) (e : Int) : Int := if e % 2 = 1 then -(name.getD (e / 2).toNat 0) else name.getD (e / 2).toNat 0
/-- The variables of nodes, the next one, and the clauses so far. -/
structure Nm where
  name : List Int
  next : Int
  cs : List (List Int)
def nmNew (g : AigP) (s : Nm) (i : Nat) : List (List Int) :=
  if i = 0 then [[-s.next]] else gcl s.next 1 [ofE (s.name.set i s.next) (g.ands.getD (i - (1 + g.ins.length)) (0, 0)).1, ofE (s.name.set i s.next) (g.ands.getD (i - (1 + g.ins.length)) (0, 0)).2] true true
def nmSkip (g : AigP) (r : List Bool) (i : Nat) : Bool := !r.getD i false || (decide (0 < i) && decide (i < 1 + g.ins.length))
def nmStep (g : AigP) (r : List Bool) (s : Nm) (i : Nat) : Option Nm :=
  if nmSkip g r i = true then some s else if 65536 < s.next then none else some ⟨s.name.set i s.next, s.next + 1, s.cs ++ nmNew g s i⟩
/-- What is kept on the way. -/
structure NmOk (g : AigP) (r : List Bool) (first : Int) (k : Nat) (s : Nm) : Prop where
  len : s.name.length = g.nodes
  lo : first ≤ s.next
  var : ∀ j, j < k → nmSkip g r j = false → isVar (s.name.getD j 0) = true
  inp : ∀ j v, g.ins[j]? = some v → s.name.getD (j + 1) 0 = v
  cnt : s.cs.length ≤ if k = 0 then 0 else 3 * (1 + (k - (1 + g.ins.length)))
  sz : ∀ c ∈ s.cs, c.length ≤ 3
theorem ins_vars {g : AigP} (hm : g.may = true) : ∀ v ∈ g.ins, isVar v = true := insOk_vars (AigP.may_ins hm)
theorem nmSetN {l : List Int} {i j : Nat} {x : Int} (h : i ≠ j) : (l.set i x).getD j 0 = l.getD j 0 := by
  rw [List.getD_eq_getElem?_getD, List.getD_eq_getElem?_getD, List.getElem?_set_ne h]
theorem nmSetS {l : List Int} {i : Nat} {x : Int} (h : i < l.length) : (l.set i x).getD i 0 = x := by
  rw [List.getD_eq_getElem?_getD, List.getElem?_set_self h]; rfl
/-- A node that is reached, or an input, has a variable. -/
theorem NmOk.node {g : AigP} {r : List Bool} {first : Int} {k : Nat} {s : Nm} (h : NmOk g r first k s) (hm : g.may = true) {j : Nat} (hj : j < k) (hr : r.getD j false = true) (hjn : j < g.nodes) : isVar (s.name.getD j 0) = true := by
  by_cases c : 0 < j ∧ j < 1 + g.ins.length
  · have hjl : j - 1 < g.ins.length := by omega
    have h1 := h.inp (j - 1) _ (List.getElem?_eq_getElem hjl)
    rw [show j - 1 + 1 = j by omega] at h1
    rw [h1]
    exact ins_vars hm _ (List.getElem_mem hjl)
  · refine h.var j hj ?_
    unfold nmSkip
    rw [hr]
    simp
    omega
theorem ofE_lt {name : List Int} {e : Int} (h : isVar (name.getD (e / 2).toNat 0) = true) : Lt (ofE name e) := by
  unfold isVar at h
  simp only [Bool.and_eq_true, decide_eq_true_eq] at h
  unfold ofE Lt
  split <;> omega
theorem NmOk.zero {g : AigP} {r : List Bool} {first : Int} : NmOk g r first 0 ⟨0 :: g.ins ++ List.replicate g.ands.length 0, first, []⟩ := by
  refine ⟨?_, Int.le_refl _, fun j h => by omega, fun j v hv => ?_, by simp, fun c hc => by cases hc⟩
  · simp [AigP.nodes]; omega
  · have hj := (List.getElem?_eq_some_iff.1 hv).1
    rw [List.getD_eq_getElem?_getD, List.cons_append, List.getElem?_cons_succ, List.getElem?_append_left hj, hv]; rfl
/-- The literals of an And's edges. -/
theorem NmOk.lits {g : AigP} {edges : List Int} {first : Int} {k : Nat} {s : Nm} (h : NmOk g (g.reach edges) first k s) (hm : g.may = true) (hk : k < g.nodes) (hb : 1 + g.ins.length ≤ k) (hs : nmSkip g (g.reach edges) k = false) {p : Int × Int} (hp : g.ands[k - (1 + g.ins.length)]? = some p) (x : Int) :
    (0 ≤ p.1 ∧ (p.1 / 2).toNat < k ∧ Lt (ofE (s.name.set k x) p.1)) ∧ (0 ≤ p.2 ∧ (p.2 / 2).toNat < k ∧ Lt (ofE (s.name.set k x) p.2)) := by
  have hr : (g.reach edges).getD (1 + g.ins.length + (k - (1 + g.ins.length))) false = true := by
    rw [show 1 + g.ins.length + (k - (1 + g.ins.length)) = k by omega]
    unfold nmSkip at hs
    simp only [Bool.or_eq_false_iff, Bool.not_eq_false'] at hs
    exact hs.1
  obtain ⟨c1, c2⟩ := AigP.reach_child hm hp hr
  obtain ⟨q1, q2, q3, q4⟩ := andsOk_get (AigP.may_ands hm) hp
  have k1 : (p.1 / 2).toNat < k := by omega
  have k2 : (p.2 / 2).toNat < k := by omega
  refine ⟨⟨q1, k1, ?_⟩, ⟨q2, k2, ?_⟩⟩
  · refine ofE_lt ?_
    rw [nmSetN (by omega)]
    exact h.node hm k1 c1 (by omega)
  · refine ofE_lt ?_
    rw [nmSetN (by omega)]
    exact h.node hm k2 c2 (by omega)
theorem gcl_and2 {v a b : Int} : (gcl v 1 [a, b] true true).length ≤ 3 ∧ ∀ c ∈ gcl v 1 [a, b] true true, c.length ≤ 3 := by
  constructor
  · refine Nat.le_trans (List.length_filterMap_le _ _) ?_
    simp [rawP]
  · intro c hc
    obtain ⟨r, hr, h⟩ := List.mem_filterMap.1 hc
    have hrl : r.length ≤ 3 := by
      simp [rawP] at hr
      rcases hr with rfl | rfl | rfl <;> simp
    exact Nat.le_trans (normL_le h) hrl
theorem NmOk.step {g : AigP} {edges : List Int} {first : Int} {k : Nat} {s s' : Nm} (h : NmOk g (g.reach edges) first k s) (hm : g.may = true) (hf : 1 ≤ first) (hk : k < g.nodes) (hst : nmStep g (g.reach edges) s k = some s') : NmOk g (g.reach edges) first (k + 1) s' := by
  unfold nmStep at hst
  split at hst
  · rename_i hs
    cases hst
    exact ⟨h.len, h.lo, fun j hj hsk => by
      by_cases e : j = k
      · subst e; rw [hs] at hsk; cases hsk
      · exact h.var j (by omega) hsk, h.inp, by have := h.cnt; rw [if_neg (by omega)]; split at this <;> omega, h.sz⟩
  · rename_i hs
    split at hst
    · cases hst
    · rename_i hn
      cases hst
      have hs : nmSkip g (g.reach edges) k = false := by simpa using hs
      have hkn : k = 0 ∨ 1 + g.ins.length ≤ k := by
        unfold nmSkip at hs
        simp at hs
        omega
      refine ⟨by simp [h.len], by have := h.lo; show first ≤ s.next + 1; omega, fun j hj hsk => ?_, fun j v hv => ?_, ?_, ?_⟩
      · show isVar ((s.name.set k s.next).getD j 0) = true
        by_cases e : j = k
        · subst e
          rw [nmSetS (by rw [h.len]; exact hk)]
          have := h.lo
          simp [isVar]; omega
        · rw [nmSetN (Ne.symm e)]
          exact h.var j (by omega) hsk
      · show (s.name.set k s.next).getD (j + 1) 0 = v
        have hj := (List.getElem?_eq_some_iff.1 hv).1
        rw [nmSetN (by omega)]
        exact h.inp j v hv
      · show (s.cs ++ nmNew g s k).length ≤ if k + 1 = 0 then 0 else 3 * (1 + (k + 1 - (1 + g.ins.length)))
        have := h.cnt
        have h2 : (nmNew g s k).length ≤ 3 := by
          unfold nmNew; split
          · simp
          · exact gcl_and2.1
        rw [List.length_append, if_neg (by omega)]
        split at this <;> omega
      · intro c hc
        rcases List.mem_append.1 hc with hc | hc
        · exact h.sz c hc
        · unfold nmNew at hc
          split at hc
          · simp at hc; subst hc; simp
          · exact gcl_and2.2 c hc
end Go.Gh
namespace Go.Gh
open Go.RowKit Go.Proofs
set_option linter.unusedVariables false
set_option linter.unusedSimpArgs false
set_option maxRecDepth 100000
theorem shpG_cases {k : Int} {n : Nat} (h : shpG k n = true) : k = 1 ∨ k = 2 ∨ (k = 3 ∧ n = 2) ∨ (k = 4 ∧ n = 3) := by
  simp [shpG] at h; omega
theorem enc_w_ok {g : GateP} (hs : shpG g.k g.ins.length = true) : ∃ F, kget g.k wE = some (.func F [] []) ∧ ∀ {n id : Nat} {cs : List (List Int)} {pl mi : Bool} {σ : GS} {Post : DV → GS → Prop}, CB n σ id cs → Lt g.v → (∀ l ∈ g.ins, Lt l) → g.ins.length < 2 ^ 29 → cs.length < 2 ^ 38 →
    (∀ σ', CB n σ' id (cs ++ gcl g.v g.k g.ins pl mi) → Stc σ id σ' → Post (.tuple []) σ') → GCall Tryz.prog F [.ptr id 0, .int .i64 g.v, fints g.ins, .bool pl, .bool mi] σ Post := by
  obtain ⟨v, k, ins⟩ := g
  rcases shpG_cases hs with h | h | ⟨h, h2⟩ | ⟨h, h2⟩ <;> simp only at h <;> subst h
  · exact ⟨_, rfl, fun hB hx hi hl hcs k => enc_w1_ok hB hx hi hl hcs k⟩
  · exact ⟨_, rfl, fun hB hx hi hl hcs k => enc_w2_ok hB hx hi hl hcs k⟩
  · match ins, h2 with
    | [a, b], _ => exact ⟨_, rfl, fun hB hx hi hl hcs k => enc_w3_ok hB hx (hi a (by simp)) (hi b (by simp)) hcs k⟩
  · match ins, h2 with
    | [c, a, b], _ => exact ⟨_, rfl, fun hB hx hi hl hcs k => enc_w4_ok hB hx (hi c (by simp)) (hi a (by simp)) (hi b (by simp)) hcs k⟩
theorem CB.out {n id : Nat} {σ : GS} {cs : List (List Int)} (h : CB n σ id cs) : ∃ s, gload (.load 1 false) [.ptr id 0] σ = some s ∧ (∀ ok : Nat → Prop, (∀ i, n ≤ i → ok i) → Rd σ ok s (fcls cs)) ∧ gpure .len [s] = some (.int .i64 cs.length) := by
  obtain ⟨s, raws, h1, h2, h3⟩ := h
  exact ⟨s, by rw [ld_at h2]; rfl, fun ok hok => h3.rd hok, by rw [h3.own.len, h3.len]⟩
theorem Stc.fr {n id m : Nat} {σ σ' : GS} {cs : List (List Int)} (h : Stc σ id σ') (hB : CB n σ id cs) (hm : m ≤ id) : Fr m σ σ' :=
  ⟨by have := hB.dom; have := h.len; omega, fun i hi => h.get i (by have := hB.dom; omega) fun hf => by have := (hB.fcDom hf).1; have := hB.dom; omega⟩
end Go.Gh
