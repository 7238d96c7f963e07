/-
  Proved: the reference's game over the net of a puzzle has the answer of the table of winning places.
  Part 4 of 7. Conditions: none. A verified frame that runs compiled texts over a ghost heap, the contracts of the functions that the statement reaches, and the plain law.
-/
import Derived.Test.YtjlehbncpjccmaaXT3
import Derived.Test.YtjlehbncpjccmaaProg
import Derived.KernelRfl
namespace Go.Gh
open Go.Proofs
theorem tryfollows : Try.prog.follows .mixedOrders = true := by kernel_rfl
abbrev g24 : GFun := ⟨18, [(.tmp 4)], (.seq (.region [⟨0, ⟨(some 4), none, (.pure .id), [(.const (.bool false))]⟩, []⟩]) (.seq (.seq (.region [⟨0, ⟨(some 5), none, (.pure .id), [(.const (.int .i64 0))]⟩, []⟩]) (.block 0 (.loop (.seq (.seq (.region [⟨0, ⟨(some 6), none, (.pure .id), [(.tmp 5)]⟩, []⟩, ⟨0, ⟨(some 7), none, (.pure .id), [(.tmp 0)]⟩, []⟩, ⟨0, ⟨(some 8), none, (.pure .len), [(.tmp 7)]⟩, []⟩, ⟨0, ⟨(some 9), none, (.pure (.bin .lss .none)), [(.tmp 6), (.tmp 8)]⟩, []⟩]) (.cond (.tmp 9) .skip (.exit 0))) (.seq (.block 1 (.seq (.region [⟨0, ⟨(some 12), none, (.pure .id), [(.tmp 0)]⟩, []⟩, ⟨0, ⟨(some 13), none, (.pure .id), [(.tmp 5)]⟩, []⟩, ⟨0, ⟨(some 14), none, (.pure (.iaddr 1)), [(.tmp 12), (.tmp 13)]⟩, []⟩, ⟨0, ⟨(some 15), none, (.load (.load 1 false)), [(.tmp 14)]⟩, []⟩, ⟨0, ⟨(some 16), none, (.pure .id), [(.tmp 1)]⟩, []⟩, ⟨0, ⟨(some 17), none, (.pure (.bin .eql .none)), [(.tmp 15), (.tmp 16)]⟩, []⟩]) (.cond (.tmp 17) (.seq (.region [⟨0, ⟨(some 4), none, (.pure .id), [(.const (.bool true))]⟩, []⟩]) .ret) .skip))) (.region [⟨0, ⟨(some 10), none, (.pure .id), [(.tmp 5)]⟩, []⟩, ⟨0, ⟨(some 11), none, (.pure (.bin .add .none)), [(.tmp 10), (.const (.int .i64 1))]⟩, []⟩, ⟨0, ⟨(some 5), none, (.pure .id), [(.tmp 11)]⟩, []⟩])))))) (.seq (.region [⟨0, ⟨(some 4), none, (.pure .id), [(.const (.bool false))]⟩, []⟩]) .ret)))⟩
theorem c24 : compF Try.prog Try.f24 = some g24 := by kernel_rfl
theorem gc24 {args : List DV} {σ : GS} {Post : DV → GS → Prop} (h : @exB Try.prog ⟨g24.body⟩ (genv0 args g24.ntmps) σ ⟨@gretB g24.results ⟨Post⟩⟩) : GCall Try.prog 24 args σ Post := gcall_ofB tryfollows Try.func24 (by kernel_rfl) c24 h
abbrev g25 : GFun := ⟨35, [(.tmp 2)], (.seq (.region [⟨0, ⟨(some 2), none, (.pure .id), [(.const (.bool false))]⟩, []⟩]) (.seq (.seq (.region [⟨0, ⟨(some 3), none, (.pure .id), [(.const (.int .i64 0))]⟩, []⟩]) (.block 0 (.loop (.seq (.seq (.region [⟨0, ⟨(some 4), none, (.pure .id), [(.tmp 3)]⟩, []⟩, ⟨0, ⟨(some 5), none, (.pure .id), [(.tmp 0)]⟩, []⟩, ⟨0, ⟨(some 6), none, (.pure .len), [(.tmp 5)]⟩, []⟩, ⟨0, ⟨(some 7), none, (.pure (.bin .lss .none)), [(.tmp 4), (.tmp 6)]⟩, []⟩]) (.cond (.tmp 7) .skip (.exit 0))) (.seq (.block 1 (.seq (.region [⟨0, ⟨(some 10), none, (.pure .id), [(.tmp 0)]⟩, []⟩, ⟨1, ⟨(some 11), none, (.pure .id), [(.tmp 3)]⟩, []⟩, ⟨2, ⟨(some 12), none, (.pure (.iaddr 1)), [(.tmp 10), (.tmp 11)]⟩, []⟩, ⟨3, ⟨(some 13), none, (.load (.load 1 false)), [(.tmp 12)]⟩, []⟩, ⟨4, ⟨(some 14), none, (.call 51), [(.tmp 13)]⟩, []⟩, ⟨5, ⟨(some 15), none, (.call 50), [(.tmp 14)]⟩, []⟩, ⟨6, ⟨(some 16), none, (.pure (.un .not)), [(.tmp 15)]⟩, []⟩, ⟨7, ⟨(some 17), none, (.pure .id), [(.tmp 16)]⟩, []⟩, ⟨8, ⟨(some 18), (some (17, false)), (.pure .id), [(.tmp 3)]⟩, []⟩, ⟨9, ⟨(some 19), (some (17, false)), (.pure (.bin .gtr .none)), [(.tmp 18), (.const (.int .i64 0))]⟩, []⟩, ⟨10, ⟨(some 20), (some (17, false)), (.pure .id), [(.tmp 19)]⟩, []⟩, ⟨11, ⟨(some 21), (some (20, true)), (.pure .id), [(.tmp 0)]⟩, []⟩, ⟨12, ⟨(some 22), (some (20, true)), (.pure .id), [(.tmp 3)]⟩, []⟩, ⟨13, ⟨(some 23), (some (20, true)), (.pure (.iaddr 1)), [(.tmp 21), (.tmp 22)]⟩, []⟩, ⟨14, ⟨(some 24), (some (20, true)), (.load (.load 1 false)), [(.tmp 23)]⟩, []⟩, ⟨16, ⟨(some 26), (some (20, true)), (.pure .id), [(.tmp 0)]⟩, []⟩, ⟨17, ⟨(some 27), (some (20, true)), (.pure .id), [(.tmp 3)]⟩, []⟩, ⟨18, ⟨(some 28), (some (20, true)), (.pure (.bin .sub .none)), [(.tmp 27), (.const (.int .i64 1))]⟩, []⟩, ⟨19, ⟨(some 29), (some (20, true)), (.pure (.iaddr 1)), [(.tmp 26), (.tmp 28)]⟩, []⟩, ⟨20, ⟨(some 30), (some (20, true)), (.load (.load 1 false)), [(.tmp 29)]⟩, []⟩, ⟨15, ⟨(some 25), (some (20, true)), (.call 51), [(.tmp 24)]⟩, [⟨(some 30), (some (20, true)), (.load (.load 1 false)), [(.tmp 29)]⟩]⟩, ⟨21, ⟨(some 31), (some (20, true)), (.call 51), [(.tmp 30)]⟩, []⟩, ⟨22, ⟨(some 32), (some (20, true)), (.pure (.bin .leq .none)), [(.tmp 25), (.tmp 31)]⟩, []⟩, ⟨23, ⟨(some 33), (some (17, false)), (.pure .pick), [(.tmp 20), (.tmp 32), (.const (.bool false))]⟩, []⟩, ⟨24, ⟨(some 34), none, (.pure .pick), [(.tmp 17), (.const (.bool true)), (.tmp 33)]⟩, []⟩]) (.cond (.tmp 34) (.seq (.region [⟨0, ⟨(some 2), none, (.pure .id), [(.const (.bool false))]⟩, []⟩]) .ret) .skip))) (.region [⟨0, ⟨(some 8), none, (.pure .id), [(.tmp 3)]⟩, []⟩, ⟨0, ⟨(some 9), none, (.pure (.bin .add .none)), [(.tmp 8), (.const (.int .i64 1))]⟩, []⟩, ⟨0, ⟨(some 3), none, (.pure .id), [(.tmp 9)]⟩, []⟩])))))) (.seq (.region [⟨0, ⟨(some 2), none, (.pure .id), [(.const (.bool true))]⟩, []⟩]) .ret)))⟩
theorem c25 : compF Try.prog Try.f25 = some g25 := by kernel_rfl
theorem gc25 {args : List DV} {σ : GS} {Post : DV → GS → Prop} (h : @exB Try.prog ⟨g25.body⟩ (genv0 args g25.ntmps) σ ⟨@gretB g25.results ⟨Post⟩⟩) : GCall Try.prog 25 args σ Post := gcall_ofB tryfollows Try.func25 (by kernel_rfl) c25 h
abbrev g27 : GFun := ⟨20, [(.tmp 4), (.tmp 5)], (.seq (.region [⟨0, ⟨(some 2), none, (.new .box), [(.tmp 0)]⟩, []⟩, ⟨0, ⟨(some 4), none, (.pure .id), [(.const (.bool false))]⟩, []⟩, ⟨0, ⟨(some 5), none, (.pure .id), [(.const (.int .i64 0))]⟩, []⟩]) (.seq (.seq (.region [⟨0, ⟨(some 6), none, (.load (.load 3 true)), [(.tmp 2)]⟩, []⟩, ⟨0, ⟨(some 7), none, (.call 54), [(.tmp 6)]⟩, []⟩, ⟨0, ⟨(some 8), none, (.pure (.un .not)), [(.tmp 7)]⟩, []⟩, ⟨0, ⟨(some 9), none, (.pure .id), [(.tmp 8)]⟩, []⟩, ⟨0, ⟨(some 10), (some (9, false)), (.pure .id), [(.tmp 1)]⟩, []⟩, ⟨0, ⟨(some 11), (some (9, false)), (.call 25), [(.tmp 10)]⟩, []⟩, ⟨0, ⟨(some 12), (some (9, false)), (.pure (.un .not)), [(.tmp 11)]⟩, []⟩, ⟨0, ⟨(some 13), none, (.pure .pick), [(.tmp 9), (.const (.bool true)), (.tmp 12)]⟩, []⟩]) (.cond (.tmp 13) (.seq (.region [⟨0, ⟨(some 4), none, (.pure .id), [(.const (.bool false))]⟩, []⟩, ⟨0, ⟨(some 5), none, (.pure .id), [(.const (.int .i64 2))]⟩, []⟩]) .ret) .skip)) (.seq (.region [⟨0, ⟨(some 14), none, (.load (.load 3 true)), [(.tmp 2)]⟩, []⟩, ⟨1, ⟨(some 15), none, (.pure .id), [(.tmp 1)]⟩, []⟩, ⟨3, ⟨(some 17), none, (.pure (.faddr 2)), [(.tmp 2)]⟩, []⟩, ⟨4, ⟨(some 18), none, (.load (.load 1 false)), [(.tmp 17)]⟩, []⟩, ⟨2, ⟨(some 16), none, (.call 56), [(.tmp 14), (.tmp 15)]⟩, [⟨(some 18), none, (.load (.load 1 false)), [(.tmp 17)]⟩]⟩, ⟨5, ⟨(some 19), none, (.call 55), [(.tmp 16), (.tmp 18)]⟩, []⟩, ⟨6, ⟨(some 4), none, (.pure .id), [(.tmp 19)]⟩, []⟩, ⟨7, ⟨(some 5), none, (.pure .id), [(.const (.int .i64 0))]⟩, []⟩]) .ret)))⟩
theorem c27 : compF Try.prog Try.f27 = some g27 := by kernel_rfl
theorem gc27 {args : List DV} {σ : GS} {Post : DV → GS → Prop} (h : @exB Try.prog ⟨g27.body⟩ (genv0 args g27.ntmps) σ ⟨@gretB g27.results ⟨Post⟩⟩) : GCall Try.prog 27 args σ Post := gcall_ofB tryfollows Try.func27 (by kernel_rfl) c27 h
abbrev g28 : GFun := ⟨19, [(.tmp 4)], (.seq (.region [⟨0, ⟨(some 2), none, (.new .box), [(.tmp 0)]⟩, []⟩, ⟨0, ⟨(some 4), none, (.pure .id), [(.const (.bool false))]⟩, []⟩]) (.seq (.seq (.region [⟨0, ⟨(some 5), none, (.pure .id), [(.const (.int .i64 0))]⟩, []⟩]) (.block 0 (.loop (.seq (.seq (.region [⟨0, ⟨(some 6), none, (.pure .id), [(.tmp 5)]⟩, []⟩, ⟨0, ⟨(some 7), none, (.pure .id), [(.tmp 1)]⟩, []⟩, ⟨0, ⟨(some 8), none, (.pure .len), [(.tmp 7)]⟩, []⟩, ⟨0, ⟨(some 9), none, (.pure (.bin .lss .none)), [(.tmp 6), (.tmp 8)]⟩, []⟩]) (.cond (.tmp 9) .skip (.exit 0))) (.seq (.block 1 (.seq (.region [⟨0, ⟨(some 12), none, (.pure (.faddr 2)), [(.tmp 2)]⟩, []⟩, ⟨1, ⟨(some 13), none, (.load (.load 1 false)), [(.tmp 12)]⟩, []⟩, ⟨2, ⟨(some 14), none, (.pure .id), [(.tmp 1)]⟩, []⟩, ⟨3, ⟨(some 15), none, (.pure .id), [(.tmp 5)]⟩, []⟩, ⟨4, ⟨(some 16), none, (.pure (.iaddr 1)), [(.tmp 14), (.tmp 15)]⟩, []⟩, ⟨5, ⟨(some 17), none, (.load (.load 1 false)), [(.tmp 16)]⟩, []⟩, ⟨6, ⟨(some 18), none, (.call 24), [(.tmp 13), (.tmp 17)]⟩, []⟩]) (.cond (.tmp 18) (.seq (.region [⟨0, ⟨(some 4), none, (.pure .id), [(.const (.bool true))]⟩, []⟩]) .ret) .skip))) (.region [⟨0, ⟨(some 10), none, (.pure .id), [(.tmp 5)]⟩, []⟩, ⟨0, ⟨(some 11), none, (.pure (.bin .add .none)), [(.tmp 10), (.const (.int .i64 1))]⟩, []⟩, ⟨0, ⟨(some 5), none, (.pure .id), [(.tmp 11)]⟩, []⟩])))))) (.seq (.region [⟨0, ⟨(some 4), none, (.pure .id), [(.const (.bool false))]⟩, []⟩]) .ret)))⟩
theorem c28 : compF Try.prog Try.f28 = some g28 := by kernel_rfl
theorem gc28 {args : List DV} {σ : GS} {Post : DV → GS → Prop} (h : @exB Try.prog ⟨g28.body⟩ (genv0 args g28.ntmps) σ ⟨@gretB g28.results ⟨Post⟩⟩) : GCall Try.prog 28 args σ Post := gcall_ofB tryfollows Try.func28 (by kernel_rfl) c28 h
abbrev g41 : GFun := ⟨18, [(.tmp 4)], (.seq (.region [⟨0, ⟨(some 4), none, (.pure .id), [(.const (.bool false))]⟩, []⟩]) (.seq (.seq (.region [⟨0, ⟨(some 5), none, (.pure .id), [(.const (.int .i64 0))]⟩, []⟩]) (.block 0 (.loop (.seq (.seq (.region [⟨0, ⟨(some 6), none, (.pure .id), [(.tmp 5)]⟩, []⟩, ⟨0, ⟨(some 7), none, (.pure .id), [(.tmp 0)]⟩, []⟩, ⟨0, ⟨(some 8), none, (.pure .len), [(.tmp 7)]⟩, []⟩, ⟨0, ⟨(some 9), none, (.pure (.bin .lss .none)), [(.tmp 6), (.tmp 8)]⟩, []⟩]) (.cond (.tmp 9) .skip (.exit 0))) (.seq (.block 1 (.seq (.region [⟨0, ⟨(some 12), none, (.pure .id), [(.tmp 0)]⟩, []⟩, ⟨0, ⟨(some 13), none, (.pure .id), [(.tmp 5)]⟩, []⟩, ⟨0, ⟨(some 14), none, (.pure (.iaddr 1)), [(.tmp 12), (.tmp 13)]⟩, []⟩, ⟨0, ⟨(some 15), none, (.load (.load 1 false)), [(.tmp 14)]⟩, []⟩, ⟨0, ⟨(some 16), none, (.pure .id), [(.tmp 1)]⟩, []⟩, ⟨0, ⟨(some 17), none, (.pure (.bin .eql .none)), [(.tmp 15), (.tmp 16)]⟩, []⟩]) (.cond (.tmp 17) (.seq (.region [⟨0, ⟨(some 4), none, (.pure .id), [(.const (.bool true))]⟩, []⟩]) .ret) .skip))) (.region [⟨0, ⟨(some 10), none, (.pure .id), [(.tmp 5)]⟩, []⟩, ⟨0, ⟨(some 11), none, (.pure (.bin .add .none)), [(.tmp 10), (.const (.int .i64 1))]⟩, []⟩, ⟨0, ⟨(some 5), none, (.pure .id), [(.tmp 11)]⟩, []⟩])))))) (.seq (.region [⟨0, ⟨(some 4), none, (.pure .id), [(.const (.bool false))]⟩, []⟩]) .ret)))⟩
theorem c41 : compF Try.prog Try.f41 = some g41 := by kernel_rfl
theorem gc41 {args : List DV} {σ : GS} {Post : DV → GS → Prop} (h : @exB Try.prog ⟨g41.body⟩ (genv0 args g41.ntmps) σ ⟨@gretB g41.results ⟨Post⟩⟩) : GCall Try.prog 41 args σ Post := gcall_ofB tryfollows Try.func41 (by kernel_rfl) c41 h
abbrev g50 : GFun := ⟨9, [(.tmp 2)], (.seq (.region [⟨0, ⟨(some 2), none, (.pure .id), [(.const (.bool false))]⟩, []⟩]) (.seq (.region [⟨0, ⟨(some 3), none, (.pure .id), [(.tmp 0)]⟩, []⟩, ⟨0, ⟨(some 4), none, (.pure (.bin .geq .none)), [(.tmp 3), (.const (.int .i64 1))]⟩, []⟩, ⟨0, ⟨(some 5), none, (.pure .id), [(.tmp 4)]⟩, []⟩, ⟨0, ⟨(some 6), (some (5, true)), (.pure .id), [(.tmp 0)]⟩, []⟩, ⟨0, ⟨(some 7), (some (5, true)), (.pure (.bin .leq .none)), [(.tmp 6), (.const (.int .i64 65536))]⟩, []⟩, ⟨0, ⟨(some 8), none, (.pure .pick), [(.tmp 5), (.tmp 7), (.const (.bool false))]⟩, []⟩, ⟨0, ⟨(some 2), none, (.pure .id), [(.tmp 8)]⟩, []⟩]) .ret))⟩
theorem c50 : compF Try.prog Try.f50 = some g50 := by kernel_rfl
theorem gc50 {args : List DV} {σ : GS} {Post : DV → GS → Prop} (h : @exB Try.prog ⟨g50.body⟩ (genv0 args g50.ntmps) σ ⟨@gretB g50.results ⟨Post⟩⟩) : GCall Try.prog 50 args σ Post := gcall_ofB tryfollows Try.func50 (by kernel_rfl) c50 h
abbrev g51 : GFun := ⟨9, [(.tmp 2)], (.seq (.region [⟨0, ⟨(some 2), none, (.pure .id), [(.const (.int .i64 0))]⟩, []⟩]) (.seq (.seq (.region [⟨0, ⟨(some 3), none, (.pure .id), [(.tmp 0)]⟩, []⟩, ⟨0, ⟨(some 4), none, (.pure (.bin .lss .none)), [(.tmp 3), (.const (.int .i64 0))]⟩, []⟩]) (.cond (.tmp 4) (.seq (.region [⟨0, ⟨(some 5), none, (.pure .id), [(.tmp 0)]⟩, []⟩, ⟨0, ⟨(some 6), none, (.pure (.un .neg)), [(.tmp 5)]⟩, []⟩, ⟨0, ⟨(some 7), none, (.pure .mx), [(.const (.int .i64 0)), (.tmp 6)]⟩, []⟩, ⟨0, ⟨(some 2), none, (.pure .id), [(.tmp 7)]⟩, []⟩]) .ret) .skip)) (.seq (.region [⟨0, ⟨(some 8), none, (.pure .id), [(.tmp 0)]⟩, []⟩, ⟨0, ⟨(some 2), none, (.pure .id), [(.tmp 8)]⟩, []⟩]) .ret)))⟩
theorem c51 : compF Try.prog Try.f51 = some g51 := by kernel_rfl
theorem gc51 {args : List DV} {σ : GS} {Post : DV → GS → Prop} (h : @exB Try.prog ⟨g51.body⟩ (genv0 args g51.ntmps) σ ⟨@gretB g51.results ⟨Post⟩⟩) : GCall Try.prog 51 args σ Post := gcall_ofB tryfollows Try.func51 (by kernel_rfl) c51 h
abbrev g54 : GFun := ⟨76, [(.tmp 2)], (.seq (.region [⟨0, ⟨(some 1), none, (.new .box), [(.tmp 0)]⟩, []⟩, ⟨0, ⟨(some 2), none, (.pure .id), [(.const (.bool false))]⟩, []⟩]) (.seq (.seq (.region [⟨0, ⟨(some 8), none, (.pure (.faddr 0)), [(.tmp 1)]⟩, []⟩, ⟨0, ⟨(some 9), none, (.load (.load 1 false)), [(.tmp 8)]⟩, []⟩, ⟨0, ⟨(some 10), none, (.call 71), [(.tmp 9)]⟩, []⟩, ⟨0, ⟨(some 11), none, (.pure (.un .not)), [(.tmp 10)]⟩, []⟩]) (.cond (.tmp 11) (.seq (.region [⟨0, ⟨(some 2), none, (.pure .id), [(.const (.bool false))]⟩, []⟩]) .ret) .skip)) (.seq (.region [⟨0, ⟨(some 12), none, (.pure (.faddr 0)), [(.tmp 1)]⟩, []⟩, ⟨0, ⟨(some 13), none, (.load (.load 1 false)), [(.tmp 12)]⟩, []⟩, ⟨0, ⟨(some 14), none, (.call 73), [(.tmp 13)]⟩, []⟩, ⟨0, ⟨(some 15), none, (.call 72), [(.tmp 14)]⟩, []⟩, ⟨0, ⟨(some 3), none, (.pure .id), [(.tmp 15)]⟩, []⟩]) (.seq (.region [⟨0, ⟨(some 4), none, (.pure .id), [(.const (.int .i64 0))]⟩, []⟩]) (.seq (.seq (.region [⟨0, ⟨(some 5), none, (.pure .id), [(.const (.int .i64 0))]⟩, []⟩]) (.block 0 (.loop (.seq (.seq (.region [⟨0, ⟨(some 16), none, (.pure .id), [(.tmp 5)]⟩, []⟩, ⟨0, ⟨(some 17), none, (.pure (.faddr 1)), [(.tmp 1)]⟩, []⟩, ⟨0, ⟨(some 18), none, (.load (.load 1 false)), [(.tmp 17)]⟩, []⟩, ⟨0, ⟨(some 19), none, (.pure .len), [(.tmp 18)]⟩, []⟩, ⟨0, ⟨(some 20), none, (.pure (.bin .lss .none)), [(.tmp 16), (.tmp 19)]⟩, []⟩]) (.cond (.tmp 20) .skip (.exit 0))) (.seq (.block 1 (.seq (.region [⟨0, ⟨(some 23), none, (.pure (.faddr 1)), [(.tmp 1)]⟩, []⟩, ⟨0, ⟨(some 24), none, (.load (.load 1 false)), [(.tmp 23)]⟩, []⟩, ⟨0, ⟨(some 25), none, (.pure .id), [(.tmp 5)]⟩, []⟩, ⟨0, ⟨(some 26), none, (.pure (.iaddr 3)), [(.tmp 24), (.tmp 25)]⟩, []⟩, ⟨0, ⟨(some 27), none, (.load (.load 3 true)), [(.tmp 26)]⟩, []⟩, ⟨0, ⟨(some 6), none, (.new (.alloc [(.int .i64 0), (.int .u8 0), .nils])), []⟩, []⟩, ⟨0, ⟨none, none, (.imp (.store 3)), [(.tmp 6), (.tmp 27)]⟩, []⟩]) (.seq (.region [⟨0, ⟨(some 28), none, (.pure .id), [(.tmp 4)]⟩, []⟩, ⟨0, ⟨(some 29), none, (.pure (.faddr 2)), [(.tmp 6)]⟩, []⟩, ⟨0, ⟨(some 30), none, (.load (.load 1 false)), [(.tmp 29)]⟩, []⟩, ⟨0, ⟨(some 31), none, (.pure .len), [(.tmp 30)]⟩, []⟩, ⟨0, ⟨(some 32), none, (.pure (.bin .add .none)), [(.tmp 28), (.tmp 31)]⟩, []⟩, ⟨0, ⟨(some 4), none, (.pure .id), [(.tmp 32)]⟩, []⟩]) (.seq (.seq (.region [⟨0, ⟨(some 33), none, (.pure (.faddr 0)), [(.tmp 6)]⟩, []⟩, ⟨0, ⟨(some 34), none, (.load (.load 1 false)), [(.tmp 33)]⟩, []⟩, ⟨0, ⟨(some 35), none, (.call 50), [(.tmp 34)]⟩, []⟩, ⟨0, ⟨(some 36), none, (.pure (.un .not)), [(.tmp 35)]⟩, []⟩, ⟨0, ⟨(some 37), none, (.pure .id), [(.tmp 36)]⟩, []⟩, ⟨0, ⟨(some 38), (some (37, false)), (.pure .id), [(.tmp 3)]⟩, []⟩, ⟨0, ⟨(some 39), (some (37, false)), (.pure (.faddr 0)), [(.tmp 6)]⟩, []⟩, ⟨0, ⟨(some 40), (some (37, false)), (.load (.load 1 false)), [(.tmp 39)]⟩, []⟩, ⟨0, ⟨(some 41), (some (37, false)), (.pure (.iaddr 1)), [(.tmp 38), (.tmp 40)]⟩, []⟩, ⟨0, ⟨(some 42), (some (37, false)), (.load (.load 1 false)), [(.tmp 41)]⟩, []⟩, ⟨0, ⟨(some 43), none, (.pure .pick), [(.tmp 37), (.const (.bool true)), (.tmp 42)]⟩, []⟩, ⟨0, ⟨(some 44), none, (.pure .id), [(.tmp 43)]⟩, []⟩, ⟨0, ⟨(some 45), (some (44, false)), (.load (.load 3 true)), [(.tmp 6)]⟩, []⟩, ⟨0, ⟨(some 46), (some (44, false)), (.call 74), [(.tmp 45)]⟩, []⟩, ⟨0, ⟨(some 47), (some (44, false)), (.pure (.un .not)), [(.tmp 46)]⟩, []⟩, ⟨0, ⟨(some 48), none, (.pure .pick), [(.tmp 44), (.const (.bool true)), (.tmp 47)]⟩, []⟩, ⟨0, ⟨(some 49), none, (.pure .id), [(.tmp 48)]⟩, []⟩, ⟨0, ⟨(some 50), (some (49, false)), (.pure .id), [(.tmp 4)]⟩, []⟩, ⟨0, ⟨(some 51), (some (49, false)), (.pure (.bin .gtr .none)), [(.tmp 50), (.const (.int .i64 200000))]⟩, []⟩, ⟨0, ⟨(some 52), none, (.pure .pick), [(.tmp 49), (.const (.bool true)), (.tmp 51)]⟩, []⟩]) (.cond (.tmp 52) (.seq (.region [⟨0, ⟨(some 2), none, (.pure .id), [(.const (.bool false))]⟩, []⟩]) .ret) .skip)) (.seq (.seq (.region [⟨0, ⟨(some 7), none, (.pure .id), [(.const (.int .i64 0))]⟩, []⟩]) (.block 2 (.loop (.seq (.seq (.region [⟨0, ⟨(some 53), none, (.pure .id), [(.tmp 7)]⟩, []⟩, ⟨0, ⟨(some 54), none, (.pure (.faddr 2)), [(.tmp 6)]⟩, []⟩, ⟨0, ⟨(some 55), none, (.load (.load 1 false)), [(.tmp 54)]⟩, []⟩, ⟨0, ⟨(some 56), none, (.pure .len), [(.tmp 55)]⟩, []⟩, ⟨0, ⟨(some 57), none, (.pure (.bin .lss .none)), [(.tmp 53), (.tmp 56)]⟩, []⟩]) (.cond (.tmp 57) .skip (.exit 2))) (.seq (.block 3 (.seq (.region [⟨0, ⟨(some 60), none, (.pure .id), [(.tmp 3)]⟩, []⟩, ⟨0, ⟨(some 61), none, (.pure (.faddr 2)), [(.tmp 6)]⟩, []⟩, ⟨0, ⟨(some 62), none, (.load (.load 1 false)), [(.tmp 61)]⟩, []⟩, ⟨0, ⟨(some 63), none, (.pure .id), [(.tmp 7)]⟩, []⟩, ⟨0, ⟨(some 64), none, (.pure (.iaddr 1)), [(.tmp 62), (.tmp 63)]⟩, []⟩, ⟨0, ⟨(some 65), none, (.load (.load 1 false)), [(.tmp 64)]⟩, []⟩, ⟨0, ⟨(some 66), none, (.call 75), [(.tmp 60), (.tmp 65)]⟩, []⟩, ⟨0, ⟨(some 67), none, (.pure (.un .not)), [(.tmp 66)]⟩, []⟩]) (.cond (.tmp 67) (.seq (.region [⟨0, ⟨(some 2), none, (.pure .id), [(.const (.bool false))]⟩, []⟩]) .ret) .skip))) (.region [⟨0, ⟨(some 58), none, (.pure .id), [(.tmp 7)]⟩, []⟩, ⟨0, ⟨(some 59), none, (.pure (.bin .add .none)), [(.tmp 58), (.const (.int .i64 1))]⟩, []⟩, ⟨0, ⟨(some 7), none, (.pure .id), [(.tmp 59)]⟩, []⟩])))))) (.region [⟨0, ⟨(some 68), none, (.pure .id), [(.tmp 3)]⟩, []⟩, ⟨0, ⟨(some 69), none, (.pure (.faddr 0)), [(.tmp 6)]⟩, []⟩, ⟨0, ⟨(some 70), none, (.load (.load 1 false)), [(.tmp 69)]⟩, []⟩, ⟨0, ⟨(some 71), none, (.pure (.iaddr 1)), [(.tmp 68), (.tmp 70)]⟩, []⟩, ⟨0, ⟨none, none, (.imp (.store 1)), [(.tmp 71), (.const (.bool true))]⟩, []⟩])))))) (.region [⟨0, ⟨(some 21), none, (.pure .id), [(.tmp 5)]⟩, []⟩, ⟨0, ⟨(some 22), none, (.pure (.bin .add .none)), [(.tmp 21), (.const (.int .i64 1))]⟩, []⟩, ⟨0, ⟨(some 5), none, (.pure .id), [(.tmp 22)]⟩, []⟩])))))) (.seq (.region [⟨0, ⟨(some 72), none, (.pure .id), [(.tmp 3)]⟩, []⟩, ⟨0, ⟨(some 73), none, (.pure (.faddr 2)), [(.tmp 1)]⟩, []⟩, ⟨0, ⟨(some 74), none, (.load (.load 1 false)), [(.tmp 73)]⟩, []⟩, ⟨0, ⟨(some 75), none, (.call 75), [(.tmp 72), (.tmp 74)]⟩, []⟩, ⟨0, ⟨(some 2), none, (.pure .id), [(.tmp 75)]⟩, []⟩]) .ret))))))⟩
theorem c54 : compF Try.prog Try.f54 = some g54 := by kernel_rfl
theorem gc54 {args : List DV} {σ : GS} {Post : DV → GS → Prop} (h : @exB Try.prog ⟨g54.body⟩ (genv0 args g54.ntmps) σ ⟨@gretB g54.results ⟨Post⟩⟩) : GCall Try.prog 54 args σ Post := gcall_ofB tryfollows Try.func54 (by kernel_rfl) c54 h
abbrev g55 : GFun := ⟨13, [(.tmp 4)], (.seq (.region [⟨0, ⟨(some 4), none, (.pure .id), [(.const (.bool false))]⟩, []⟩]) (.seq (.region [⟨0, ⟨(some 5), none, (.pure .id), [(.tmp 0)]⟩, []⟩, ⟨0, ⟨(some 6), none, (.pure .id), [(.tmp 1)]⟩, []⟩, ⟨0, ⟨(some 7), none, (.call 51), [(.tmp 6)]⟩, []⟩, ⟨0, ⟨(some 8), none, (.pure (.iaddr 1)), [(.tmp 5), (.tmp 7)]⟩, []⟩, ⟨0, ⟨(some 9), none, (.load (.load 1 false)), [(.tmp 8)]⟩, []⟩, ⟨0, ⟨(some 10), none, (.pure .id), [(.tmp 1)]⟩, []⟩, ⟨0, ⟨(some 11), none, (.pure (.bin .gtr .none)), [(.tmp 10), (.const (.int .i64 0))]⟩, []⟩, ⟨0, ⟨(some 12), none, (.pure (.bin .eql .bool)), [(.tmp 9), (.tmp 11)]⟩, []⟩, ⟨0, ⟨(some 4), none, (.pure .id), [(.tmp 12)]⟩, []⟩]) .ret))⟩
theorem c55 : compF Try.prog Try.f55 = some g55 := by kernel_rfl
theorem gc55 {args : List DV} {σ : GS} {Post : DV → GS → Prop} (h : @exB Try.prog ⟨g55.body⟩ (genv0 args g55.ntmps) σ ⟨@gretB g55.results ⟨Post⟩⟩) : GCall Try.prog 55 args σ Post := gcall_ofB tryfollows Try.func55 (by kernel_rfl) c55 h
abbrev g56 : GFun := ⟨65, [(.tmp 4)], (.seq (.region [⟨0, ⟨(some 2), none, (.new .box), [(.tmp 0)]⟩, []⟩, ⟨0, ⟨(some 4), none, (.pure .id), [(.const .nils)]⟩, []⟩]) (.seq (.region [⟨0, ⟨(some 9), none, (.new (.mslice 1 1 [(.bool false)])), [(.const (.int .i64 65537)), (.const (.int .i64 65537))]⟩, []⟩, ⟨0, ⟨(some 5), none, (.pure .id), [(.tmp 9)]⟩, []⟩]) (.seq (.region [⟨0, ⟨(some 10), none, (.pure (.faddr 0)), [(.tmp 2)]⟩, []⟩, ⟨0, ⟨(some 11), none, (.load (.load 1 false)), [(.tmp 10)]⟩, []⟩, ⟨0, ⟨(some 12), none, (.call 73), [(.tmp 11)]⟩, []⟩, ⟨0, ⟨(some 13), none, (.call 72), [(.tmp 12)]⟩, []⟩, ⟨0, ⟨(some 6), none, (.pure .id), [(.tmp 13)]⟩, []⟩]) (.seq (.seq (.region [⟨0, ⟨(some 7), none, (.pure .id), [(.const (.int .i64 0))]⟩, []⟩]) (.block 0 (.loop (.seq (.seq (.region [⟨0, ⟨(some 14), none, (.pure .id), [(.tmp 7)]⟩, []⟩, ⟨0, ⟨(some 15), none, (.pure .id), [(.tmp 1)]⟩, []⟩, ⟨0, ⟨(some 16), none, (.pure .len), [(.tmp 15)]⟩, []⟩, ⟨0, ⟨(some 17), none, (.pure (.bin .lss .none)), [(.tmp 14), (.tmp 16)]⟩, []⟩]) (.cond (.tmp 17) .skip (.exit 0))) (.seq (.block 1 (.region [⟨0, ⟨(some 20), none, (.pure .id), [(.tmp 5)]⟩, []⟩, ⟨1, ⟨(some 21), none, (.pure .id), [(.tmp 1)]⟩, []⟩, ⟨2, ⟨(some 22), none, (.pure .id), [(.tmp 7)]⟩, []⟩, ⟨3, ⟨(some 23), none, (.pure (.iaddr 1)), [(.tmp 21), (.tmp 22)]⟩, []⟩, ⟨4, ⟨(some 24), none, (.load (.load 1 false)), [(.tmp 23)]⟩, []⟩, ⟨6, ⟨(some 26), none, (.pure .id), [(.tmp 1)]⟩, []⟩, ⟨7, ⟨(some 27), none, (.pure .id), [(.tmp 7)]⟩, []⟩, ⟨8, ⟨(some 28), none, (.pure (.iaddr 1)), [(.tmp 26), (.tmp 27)]⟩, []⟩, ⟨9, ⟨(some 29), none, (.load (.load 1 false)), [(.tmp 28)]⟩, []⟩, ⟨10, ⟨(some 30), none, (.pure (.bin .gtr .none)), [(.tmp 29), (.const (.int .i64 0))]⟩, []⟩, ⟨5, ⟨(some 25), none, (.call 51), [(.tmp 24)]⟩, [⟨(some 29), none, (.load (.load 1 false)), [(.tmp 28)]⟩]⟩, ⟨11, ⟨(some 31), none, (.pure .id), [(.tmp 30)]⟩, []⟩, ⟨12, ⟨(some 32), (some (31, true)), (.pure .id), [(.tmp 6)]⟩, []⟩, ⟨13, ⟨(some 33), (some (31, true)), (.pure .id), [(.tmp 1)]⟩, []⟩, ⟨14, ⟨(some 34), (some (31, true)), (.pure .id), [(.tmp 7)]⟩, []⟩, ⟨15, ⟨(some 35), (some (31, true)), (.pure (.iaddr 1)), [(.tmp 33), (.tmp 34)]⟩, []⟩, ⟨16, ⟨(some 36), (some (31, true)), (.load (.load 1 false)), [(.tmp 35)]⟩, []⟩, ⟨17, ⟨(some 37), (some (31, true)), (.call 51), [(.tmp 36)]⟩, []⟩, ⟨18, ⟨(some 38), (some (31, true)), (.pure (.iaddr 1)), [(.tmp 32), (.tmp 37)]⟩, []⟩, ⟨19, ⟨(some 39), (some (31, true)), (.load (.load 1 false)), [(.tmp 38)]⟩, []⟩, ⟨20, ⟨(some 40), none, (.pure .pick), [(.tmp 31), (.tmp 39), (.const (.bool false))]⟩, []⟩, ⟨21, ⟨(some 41), none, (.pure (.iaddr 1)), [(.tmp 20), (.tmp 25)]⟩, []⟩, ⟨22, ⟨none, none, (.imp (.store 1)), [(.tmp 41), (.tmp 40)]⟩, []⟩])) (.region [⟨0, ⟨(some 18), none, (.pure .id), [(.tmp 7)]⟩, []⟩, ⟨0, ⟨(some 19), none, (.pure (.bin .add .none)), [(.tmp 18), (.const (.int .i64 1))]⟩, []⟩, ⟨0, ⟨(some 7), none, (.pure .id), [(.tmp 19)]⟩, []⟩])))))) (.seq (.seq (.region [⟨0, ⟨(some 8), none, (.pure .id), [(.const (.int .i64 0))]⟩, []⟩]) (.block 2 (.loop (.seq (.seq (.region [⟨0, ⟨(some 42), none, (.pure .id), [(.tmp 8)]⟩, []⟩, ⟨0, ⟨(some 43), none, (.pure (.faddr 1)), [(.tmp 2)]⟩, []⟩, ⟨0, ⟨(some 44), none, (.load (.load 1 false)), [(.tmp 43)]⟩, []⟩, ⟨0, ⟨(some 45), none, (.pure .len), [(.tmp 44)]⟩, []⟩, ⟨0, ⟨(some 46), none, (.pure (.bin .lss .none)), [(.tmp 42), (.tmp 45)]⟩, []⟩]) (.cond (.tmp 46) .skip (.exit 2))) (.seq (.block 3 (.region [⟨0, ⟨(some 49), none, (.pure .id), [(.tmp 5)]⟩, []⟩, ⟨1, ⟨(some 50), none, (.pure (.faddr 1)), [(.tmp 2)]⟩, []⟩, ⟨2, ⟨(some 51), none, (.load (.load 1 false)), [(.tmp 50)]⟩, []⟩, ⟨3, ⟨(some 52), none, (.pure .id), [(.tmp 8)]⟩, []⟩, ⟨4, ⟨(some 53), none, (.pure (.iaddr 3)), [(.tmp 51), (.tmp 52)]⟩, []⟩, ⟨5, ⟨(some 54), none, (.pure (.faddr 0)), [(.tmp 53)]⟩, []⟩, ⟨6, ⟨(some 55), none, (.load (.load 1 false)), [(.tmp 54)]⟩, []⟩, ⟨7, ⟨(some 56), none, (.pure .id), [(.tmp 5)]⟩, []⟩, ⟨8, ⟨(some 57), none, (.pure (.faddr 1)), [(.tmp 2)]⟩, []⟩, ⟨9, ⟨(some 58), none, (.load (.load 1 false)), [(.tmp 57)]⟩, []⟩, ⟨10, ⟨(some 59), none, (.pure .id), [(.tmp 8)]⟩, []⟩, ⟨11, ⟨(some 60), none, (.pure (.iaddr 3)), [(.tmp 58), (.tmp 59)]⟩, []⟩, ⟨12, ⟨(some 61), none, (.load (.load 3 true)), [(.tmp 60)]⟩, []⟩, ⟨13, ⟨(some 62), none, (.call 76), [(.tmp 56), (.tmp 61)]⟩, [⟨(some 51), none, (.load (.load 1 false)), [(.tmp 50)]⟩, ⟨(some 55), none, (.load (.load 1 false)), [(.tmp 54)]⟩]⟩, ⟨14, ⟨(some 63), none, (.pure (.iaddr 1)), [(.tmp 49), (.tmp 55)]⟩, []⟩, ⟨15, ⟨none, none, (.imp (.store 1)), [(.tmp 63), (.tmp 62)]⟩, []⟩])) (.region [⟨0, ⟨(some 47), none, (.pure .id), [(.tmp 8)]⟩, []⟩, ⟨0, ⟨(some 48), none, (.pure (.bin .add .none)), [(.tmp 47), (.const (.int .i64 1))]⟩, []⟩, ⟨0, ⟨(some 8), none, (.pure .id), [(.tmp 48)]⟩, []⟩])))))) (.seq (.region [⟨0, ⟨(some 64), none, (.pure .id), [(.tmp 5)]⟩, []⟩, ⟨0, ⟨(some 4), none, (.pure .id), [(.tmp 64)]⟩, []⟩]) .ret))))))⟩
theorem c56 : compF Try.prog Try.f56 = some g56 := by kernel_rfl
theorem gc56 {args : List DV} {σ : GS} {Post : DV → GS → Prop} (h : @exB Try.prog ⟨g56.body⟩ (genv0 args g56.ntmps) σ ⟨@gretB g56.results ⟨Post⟩⟩) : GCall Try.prog 56 args σ Post := gcall_ofB tryfollows Try.func56 (by kernel_rfl) c56 h
abbrev g71 : GFun := ⟨85, [(.tmp 2)], (.seq (.region [⟨0, ⟨(some 2), none, (.pure .id), [(.const (.bool false))]⟩, []⟩]) (.seq (.region [⟨0, ⟨(some 3), none, (.pure .id), [(.const .nils)]⟩, []⟩]) (.seq (.seq (.region [⟨0, ⟨(some 4), none, (.pure .id), [(.const (.int .i64 0))]⟩, []⟩]) (.block 0 (.loop (.seq (.seq (.region [⟨0, ⟨(some 6), none, (.pure .id), [(.tmp 4)]⟩, []⟩, ⟨0, ⟨(some 7), none, (.pure .id), [(.tmp 0)]⟩, []⟩, ⟨0, ⟨(some 8), none, (.pure .len), [(.tmp 7)]⟩, []⟩, ⟨0, ⟨(some 9), none, (.pure (.bin .lss .none)), [(.tmp 6), (.tmp 8)]⟩, []⟩]) (.cond (.tmp 9) .skip (.exit 0))) (.seq (.block 1 (.seq (.seq (.region [⟨0, ⟨(some 12), none, (.pure .id), [(.tmp 0)]⟩, []⟩, ⟨1, ⟨(some 13), none, (.pure .id), [(.tmp 4)]⟩, []⟩, ⟨2, ⟨(some 14), none, (.pure (.iaddr 2)), [(.tmp 12), (.tmp 13)]⟩, []⟩, ⟨3, ⟨(some 15), none, (.pure (.faddr 1)), [(.tmp 14)]⟩, []⟩, ⟨4, ⟨(some 16), none, (.load (.load 1 false)), [(.tmp 15)]⟩, []⟩, ⟨5, ⟨(some 17), none, (.pure .len), [(.tmp 16)]⟩, []⟩, ⟨6, ⟨(some 18), none, (.pure (.bin .eql .none)), [(.tmp 17), (.const (.int .i64 0))]⟩, []⟩, ⟨7, ⟨(some 19), none, (.pure .id), [(.tmp 18)]⟩, []⟩, ⟨8, ⟨(some 20), (some (19, false)), (.pure .id), [(.tmp 4)]⟩, []⟩, ⟨9, ⟨(some 21), (some (19, false)), (.pure (.bin .gtr .none)), [(.tmp 20), (.const (.int .i64 0))]⟩, []⟩, ⟨10, ⟨(some 22), (some (19, false)), (.pure .id), [(.tmp 21)]⟩, []⟩, ⟨11, ⟨(some 23), (some (22, true)), (.pure .id), [(.tmp 0)]⟩, []⟩, ⟨12, ⟨(some 24), (some (22, true)), (.pure .id), [(.tmp 4)]⟩, []⟩, ⟨13, ⟨(some 25), (some (22, true)), (.pure (.iaddr 2)), [(.tmp 23), (.tmp 24)]⟩, []⟩, ⟨14, ⟨(some 26), (some (22, true)), (.pure (.faddr 0)), [(.tmp 25)]⟩, []⟩, ⟨15, ⟨(some 27), (some (22, true)), (.load (.load 1 false)), [(.tmp 26)]⟩, []⟩, ⟨16, ⟨(some 28), (some (22, true)), (.pure .id), [(.tmp 0)]⟩, []⟩, ⟨17, ⟨(some 29), (some (22, true)), (.pure .id), [(.tmp 4)]⟩, []⟩, ⟨18, ⟨(some 30), (some (22, true)), (.pure (.bin .sub .none)), [(.tmp 29), (.const (.int .i64 1))]⟩, []⟩, ⟨19, ⟨(some 31), (some (22, true)), (.pure (.iaddr 2)), [(.tmp 28), (.tmp 30)]⟩, []⟩, ⟨20, ⟨(some 32), (some (22, true)), (.pure (.faddr 0)), [(.tmp 31)]⟩, []⟩, ⟨21, ⟨(some 33), (some (22, true)), (.load (.load 1 false)), [(.tmp 32)]⟩, []⟩, ⟨22, ⟨(some 34), (some (22, true)), (.pure (.bin .eql .bool)), [(.tmp 27), (.tmp 33)]⟩, []⟩, ⟨23, ⟨(some 35), (some (19, false)), (.pure .pick), [(.tmp 22), (.tmp 34), (.const (.bool false))]⟩, []⟩, ⟨24, ⟨(some 36), none, (.pure .pick), [(.tmp 19), (.const (.bool true)), (.tmp 35)]⟩, []⟩]) (.cond (.tmp 36) (.seq (.region [⟨0, ⟨(some 2), none, (.pure .id), [(.const (.bool false))]⟩, []⟩]) .ret) .skip)) (.seq (.region [⟨0, ⟨(some 5), none, (.pure .id), [(.const (.int .i64 0))]⟩, []⟩]) (.block 2 (.loop (.seq (.seq (.region [⟨0, ⟨(some 37), none, (.pure .id), [(.tmp 5)]⟩, []⟩, ⟨0, ⟨(some 38), none, (.pure .id), [(.tmp 0)]⟩, []⟩, ⟨0, ⟨(some 39), none, (.pure .id), [(.tmp 4)]⟩, []⟩, ⟨0, ⟨(some 40), none, (.pure (.iaddr 2)), [(.tmp 38), (.tmp 39)]⟩, []⟩, ⟨0, ⟨(some 41), none, (.pure (.faddr 1)), [(.tmp 40)]⟩, []⟩, ⟨0, ⟨(some 42), none, (.load (.load 1 false)), [(.tmp 41)]⟩, []⟩, ⟨0, ⟨(some 43), none, (.pure .len), [(.tmp 42)]⟩, []⟩, ⟨0, ⟨(some 44), none, (.pure (.bin .lss .none)), [(.tmp 37), (.tmp 43)]⟩, []⟩]) (.cond (.tmp 44) .skip (.exit 2))) (.seq (.block 3 (.seq (.seq (.region [⟨0, ⟨(some 47), none, (.pure .id), [(.tmp 0)]⟩, []⟩, ⟨0, ⟨(some 48), none, (.pure .id), [(.tmp 4)]⟩, []⟩, ⟨0, ⟨(some 49), none, (.pure (.iaddr 2)), [(.tmp 47), (.tmp 48)]⟩, []⟩, ⟨0, ⟨(some 50), none, (.pure (.faddr 1)), [(.tmp 49)]⟩, []⟩, ⟨0, ⟨(some 51), none, (.load (.load 1 false)), [(.tmp 50)]⟩, []⟩, ⟨0, ⟨(some 52), none, (.pure .id), [(.tmp 5)]⟩, []⟩, ⟨0, ⟨(some 53), none, (.pure (.iaddr 1)), [(.tmp 51), (.tmp 52)]⟩, []⟩, ⟨0, ⟨(some 54), none, (.load (.load 1 false)), [(.tmp 53)]⟩, []⟩, ⟨0, ⟨(some 55), none, (.call 50), [(.tmp 54)]⟩, []⟩, ⟨0, ⟨(some 56), none, (.pure (.un .not)), [(.tmp 55)]⟩, []⟩, ⟨0, ⟨(some 57), none, (.pure .id), [(.tmp 56)]⟩, []⟩, ⟨0, ⟨(some 58), (some (57, false)), (.pure .id), [(.tmp 3)]⟩, []⟩, ⟨0, ⟨(some 59), (some (57, false)), (.pure .id), [(.tmp 0)]⟩, []⟩, ⟨0, ⟨(some 60), (some (57, false)), (.pure .id), [(.tmp 4)]⟩, []⟩, ⟨0, ⟨(some 61), (some (57, false)), (.pure (.iaddr 2)), [(.tmp 59), (.tmp 60)]⟩, []⟩, ⟨0, ⟨(some 62), (some (57, false)), (.pure (.faddr 1)), [(.tmp 61)]⟩, []⟩, ⟨0, ⟨(some 63), (some (57, false)), (.load (.load 1 false)), [(.tmp 62)]⟩, []⟩, ⟨0, ⟨(some 64), (some (57, false)), (.pure .id), [(.tmp 5)]⟩, []⟩, ⟨0, ⟨(some 65), (some (57, false)), (.pure (.iaddr 1)), [(.tmp 63), (.tmp 64)]⟩, []⟩, ⟨0, ⟨(some 66), (some (57, false)), (.load (.load 1 false)), [(.tmp 65)]⟩, []⟩, ⟨0, ⟨(some 67), (some (57, false)), (.call 41), [(.tmp 58), (.tmp 66)]⟩, []⟩, ⟨0, ⟨(some 68), none, (.pure .pick), [(.tmp 57), (.const (.bool true)), (.tmp 67)]⟩, []⟩, ⟨0, ⟨(some 69), none, (.pure .id), [(.tmp 68)]⟩, []⟩, ⟨0, ⟨(some 70), (some (69, false)), (.pure .id), [(.tmp 3)]⟩, []⟩, ⟨0, ⟨(some 71), (some (69, false)), (.pure .len), [(.tmp 70)]⟩, []⟩, ⟨0, ⟨(some 72), (some (69, false)), (.pure (.bin .eql .none)), [(.tmp 71), (.const (.int .i64 1024))]⟩, []⟩, ⟨0, ⟨(some 73), none, (.pure .pick), [(.tmp 69), (.const (.bool true)), (.tmp 72)]⟩, []⟩]) (.cond (.tmp 73) (.seq (.region [⟨0, ⟨(some 2), none, (.pure .id), [(.const (.bool false))]⟩, []⟩]) .ret) .skip)) (.region [⟨0, ⟨(some 74), none, (.pure .id), [(.tmp 3)]⟩, []⟩, ⟨0, ⟨(some 75), none, (.pure .id), [(.tmp 0)]⟩, []⟩, ⟨0, ⟨(some 76), none, (.pure .id), [(.tmp 4)]⟩, []⟩, ⟨0, ⟨(some 77), none, (.pure (.iaddr 2)), [(.tmp 75), (.tmp 76)]⟩, []⟩, ⟨0, ⟨(some 78), none, (.pure (.faddr 1)), [(.tmp 77)]⟩, []⟩, ⟨0, ⟨(some 79), none, (.load (.load 1 false)), [(.tmp 78)]⟩, []⟩, ⟨0, ⟨(some 80), none, (.pure .id), [(.tmp 5)]⟩, []⟩, ⟨0, ⟨(some 81), none, (.pure (.iaddr 1)), [(.tmp 79), (.tmp 80)]⟩, []⟩, ⟨0, ⟨(some 82), none, (.load (.load 1 false)), [(.tmp 81)]⟩, []⟩, ⟨0, ⟨(some 83), none, (.new (.bslice 1 [(.int .i64 0)] 1 [(0, 1)])), [(.tmp 82)]⟩, []⟩, ⟨0, ⟨(some 84), none, (.imp (.append 1 8)), [(.tmp 74), (.tmp 83)]⟩, []⟩, ⟨0, ⟨(some 3), none, (.pure .id), [(.tmp 84)]⟩, []⟩]))) (.region [⟨0, ⟨(some 45), none, (.pure .id), [(.tmp 5)]⟩, []⟩, ⟨0, ⟨(some 46), none, (.pure (.bin .add .none)), [(.tmp 45), (.const (.int .i64 1))]⟩, []⟩, ⟨0, ⟨(some 5), none, (.pure .id), [(.tmp 46)]⟩, []⟩])))))))) (.region [⟨0, ⟨(some 10), none, (.pure .id), [(.tmp 4)]⟩, []⟩, ⟨0, ⟨(some 11), none, (.pure (.bin .add .none)), [(.tmp 10), (.const (.int .i64 1))]⟩, []⟩, ⟨0, ⟨(some 4), none, (.pure .id), [(.tmp 11)]⟩, []⟩])))))) (.seq (.region [⟨0, ⟨(some 2), none, (.pure .id), [(.const (.bool true))]⟩, []⟩]) .ret))))⟩
theorem c71 : compF Try.prog Try.f71 = some g71 := by kernel_rfl
theorem gc71 {args : List DV} {σ : GS} {Post : DV → GS → Prop} (h : @exB Try.prog ⟨g71.body⟩ (genv0 args g71.ntmps) σ ⟨@gretB g71.results ⟨Post⟩⟩) : GCall Try.prog 71 args σ Post := gcall_ofB tryfollows Try.func71 (by kernel_rfl) c71 h
abbrev g72 : GFun := ⟨19, [(.tmp 2)], (.seq (.region [⟨0, ⟨(some 2), none, (.pure .id), [(.const .nils)]⟩, []⟩]) (.seq (.region [⟨0, ⟨(some 5), none, (.new (.mslice 1 1 [(.bool false)])), [(.const (.int .i64 65537)), (.const (.int .i64 65537))]⟩, []⟩, ⟨0, ⟨(some 3), none, (.pure .id), [(.tmp 5)]⟩, []⟩]) (.seq (.seq (.region [⟨0, ⟨(some 4), none, (.pure .id), [(.const (.int .i64 0))]⟩, []⟩]) (.block 0 (.loop (.seq (.seq (.region [⟨0, ⟨(some 6), none, (.pure .id), [(.tmp 4)]⟩, []⟩, ⟨0, ⟨(some 7), none, (.pure .id), [(.tmp 0)]⟩, []⟩, ⟨0, ⟨(some 8), none, (.pure .len), [(.tmp 7)]⟩, []⟩, ⟨0, ⟨(some 9), none, (.pure (.bin .lss .none)), [(.tmp 6), (.tmp 8)]⟩, []⟩]) (.cond (.tmp 9) .skip (.exit 0))) (.seq (.block 1 (.region [⟨0, ⟨(some 12), none, (.pure .id), [(.tmp 3)]⟩, []⟩, ⟨0, ⟨(some 13), none, (.pure .id), [(.tmp 0)]⟩, []⟩, ⟨0, ⟨(some 14), none, (.pure .id), [(.tmp 4)]⟩, []⟩, ⟨0, ⟨(some 15), none, (.pure (.iaddr 1)), [(.tmp 13), (.tmp 14)]⟩, []⟩, ⟨0, ⟨(some 16), none, (.load (.load 1 false)), [(.tmp 15)]⟩, []⟩, ⟨0, ⟨(some 17), none, (.pure (.iaddr 1)), [(.tmp 12), (.tmp 16)]⟩, []⟩, ⟨0, ⟨none, none, (.imp (.store 1)), [(.tmp 17), (.const (.bool true))]⟩, []⟩])) (.region [⟨0, ⟨(some 10), none, (.pure .id), [(.tmp 4)]⟩, []⟩, ⟨0, ⟨(some 11), none, (.pure (.bin .add .none)), [(.tmp 10), (.const (.int .i64 1))]⟩, []⟩, ⟨0, ⟨(some 4), none, (.pure .id), [(.tmp 11)]⟩, []⟩])))))) (.seq (.region [⟨0, ⟨(some 18), none, (.pure .id), [(.tmp 3)]⟩, []⟩, ⟨0, ⟨(some 2), none, (.pure .id), [(.tmp 18)]⟩, []⟩]) .ret))))⟩
theorem c72 : compF Try.prog Try.f72 = some g72 := by kernel_rfl
theorem gc72 {args : List DV} {σ : GS} {Post : DV → GS → Prop} (h : @exB Try.prog ⟨g72.body⟩ (genv0 args g72.ntmps) σ ⟨@gretB g72.results ⟨Post⟩⟩) : GCall Try.prog 72 args σ Post := gcall_ofB tryfollows Try.func72 (by kernel_rfl) c72 h
abbrev g73 : GFun := ⟨19, [(.tmp 2)], (.seq (.region [⟨0, ⟨(some 2), none, (.pure .id), [(.const .nils)]⟩, []⟩]) (.seq (.region [⟨0, ⟨(some 3), none, (.pure .id), [(.const .nils)]⟩, []⟩]) (.seq (.seq (.region [⟨0, ⟨(some 4), none, (.pure .id), [(.const (.int .i64 0))]⟩, []⟩]) (.block 0 (.loop (.seq (.seq (.region [⟨0, ⟨(some 5), none, (.pure .id), [(.tmp 4)]⟩, []⟩, ⟨0, ⟨(some 6), none, (.pure .id), [(.tmp 0)]⟩, []⟩, ⟨0, ⟨(some 7), none, (.pure .len), [(.tmp 6)]⟩, []⟩, ⟨0, ⟨(some 8), none, (.pure (.bin .lss .none)), [(.tmp 5), (.tmp 7)]⟩, []⟩]) (.cond (.tmp 8) .skip (.exit 0))) (.seq (.block 1 (.region [⟨0, ⟨(some 11), none, (.pure .id), [(.tmp 3)]⟩, []⟩, ⟨0, ⟨(some 12), none, (.pure .id), [(.tmp 0)]⟩, []⟩, ⟨0, ⟨(some 13), none, (.pure .id), [(.tmp 4)]⟩, []⟩, ⟨0, ⟨(some 14), none, (.pure (.iaddr 2)), [(.tmp 12), (.tmp 13)]⟩, []⟩, ⟨0, ⟨(some 15), none, (.pure (.faddr 1)), [(.tmp 14)]⟩, []⟩, ⟨0, ⟨(some 16), none, (.load (.load 1 false)), [(.tmp 15)]⟩, []⟩, ⟨0, ⟨(some 17), none, (.imp (.append 1 8)), [(.tmp 11), (.tmp 16)]⟩, []⟩, ⟨0, ⟨(some 3), none, (.pure .id), [(.tmp 17)]⟩, []⟩])) (.region [⟨0, ⟨(some 9), none, (.pure .id), [(.tmp 4)]⟩, []⟩, ⟨0, ⟨(some 10), none, (.pure (.bin .add .none)), [(.tmp 9), (.const (.int .i64 1))]⟩, []⟩, ⟨0, ⟨(some 4), none, (.pure .id), [(.tmp 10)]⟩, []⟩])))))) (.seq (.region [⟨0, ⟨(some 18), none, (.pure .id), [(.tmp 3)]⟩, []⟩, ⟨0, ⟨(some 2), none, (.pure .id), [(.tmp 18)]⟩, []⟩]) .ret))))⟩
theorem c73 : compF Try.prog Try.f73 = some g73 := by kernel_rfl
theorem gc73 {args : List DV} {σ : GS} {Post : DV → GS → Prop} (h : @exB Try.prog ⟨g73.body⟩ (genv0 args g73.ntmps) σ ⟨@gretB g73.results ⟨Post⟩⟩) : GCall Try.prog 73 args σ Post := gcall_ofB tryfollows Try.func73 (by kernel_rfl) c73 h
abbrev g74 : GFun := ⟨20, [(.tmp 2)], (.seq (.region [⟨0, ⟨(some 1), none, (.new .box), [(.tmp 0)]⟩, []⟩, ⟨0, ⟨(some 2), none, (.pure .id), [(.const (.bool false))]⟩, []⟩]) (.seq (.seq (.region [⟨0, ⟨(some 3), none, (.pure (.faddr 1)), [(.tmp 1)]⟩, []⟩, ⟨0, ⟨(some 4), none, (.load (.load 1 false)), [(.tmp 3)]⟩, []⟩]) (.block 0 (.seq (.seq (.region [⟨0, ⟨(some 6), none, (.pure (.bin .eql .none)), [(.tmp 4), (.const (.int .u8 1))]⟩, []⟩, ⟨0, ⟨(some 5), none, (.pure .id), [(.tmp 6)]⟩, []⟩]) (.cond (.tmp 5) .skip (.region [⟨0, ⟨(some 7), none, (.pure (.bin .eql .none)), [(.tmp 4), (.const (.int .u8 2))]⟩, []⟩, ⟨0, ⟨(some 5), none, (.pure .id), [(.tmp 7)]⟩, []⟩]))) (.cond (.tmp 5) (.seq (.region [⟨0, ⟨(some 2), none, (.pure .id), [(.const (.bool true))]⟩, []⟩]) .ret) (.seq (.region [⟨0, ⟨(some 9), none, (.pure (.bin .eql .none)), [(.tmp 4), (.const (.int .u8 3))]⟩, []⟩, ⟨0, ⟨(some 8), none, (.pure .id), [(.tmp 9)]⟩, []⟩]) (.cond (.tmp 8) (.seq (.region [⟨0, ⟨(some 10), none, (.pure (.faddr 2)), [(.tmp 1)]⟩, []⟩, ⟨0, ⟨(some 11), none, (.load (.load 1 false)), [(.tmp 10)]⟩, []⟩, ⟨0, ⟨(some 12), none, (.pure .len), [(.tmp 11)]⟩, []⟩, ⟨0, ⟨(some 13), none, (.pure (.bin .eql .none)), [(.tmp 12), (.const (.int .i64 2))]⟩, []⟩, ⟨0, ⟨(some 2), none, (.pure .id), [(.tmp 13)]⟩, []⟩]) .ret) (.seq (.region [⟨0, ⟨(some 15), none, (.pure (.bin .eql .none)), [(.tmp 4), (.const (.int .u8 4))]⟩, []⟩, ⟨0, ⟨(some 14), none, (.pure .id), [(.tmp 15)]⟩, []⟩]) (.cond (.tmp 14) (.seq (.region [⟨0, ⟨(some 16), none, (.pure (.faddr 2)), [(.tmp 1)]⟩, []⟩, ⟨0, ⟨(some 17), none, (.load (.load 1 false)), [(.tmp 16)]⟩, []⟩, ⟨0, ⟨(some 18), none, (.pure .len), [(.tmp 17)]⟩, []⟩, ⟨0, ⟨(some 19), none, (.pure (.bin .eql .none)), [(.tmp 18), (.const (.int .i64 3))]⟩, []⟩, ⟨0, ⟨(some 2), none, (.pure .id), [(.tmp 19)]⟩, []⟩]) .ret) .skip)))))))) (.seq (.region [⟨0, ⟨(some 2), none, (.pure .id), [(.const (.bool false))]⟩, []⟩]) .ret)))⟩
theorem c74 : compF Try.prog Try.f74 = some g74 := by kernel_rfl
theorem gc74 {args : List DV} {σ : GS} {Post : DV → GS → Prop} (h : @exB Try.prog ⟨g74.body⟩ (genv0 args g74.ntmps) σ ⟨@gretB g74.results ⟨Post⟩⟩) : GCall Try.prog 74 args σ Post := gcall_ofB tryfollows Try.func74 (by kernel_rfl) c74 h
abbrev g75 : GFun := ⟨15, [(.tmp 4)], (.seq (.region [⟨0, ⟨(some 4), none, (.pure .id), [(.const (.bool false))]⟩, []⟩]) (.seq (.region [⟨0, ⟨(some 5), none, (.pure .id), [(.tmp 1)]⟩, []⟩, ⟨0, ⟨(some 6), none, (.call 51), [(.tmp 5)]⟩, []⟩, ⟨0, ⟨(some 7), none, (.call 50), [(.tmp 6)]⟩, []⟩, ⟨0, ⟨(some 8), none, (.pure .id), [(.tmp 7)]⟩, []⟩, ⟨0, ⟨(some 9), (some (8, true)), (.pure .id), [(.tmp 0)]⟩, []⟩, ⟨0, ⟨(some 10), (some (8, true)), (.pure .id), [(.tmp 1)]⟩, []⟩, ⟨0, ⟨(some 11), (some (8, true)), (.call 51), [(.tmp 10)]⟩, []⟩, ⟨0, ⟨(some 12), (some (8, true)), (.pure (.iaddr 1)), [(.tmp 9), (.tmp 11)]⟩, []⟩, ⟨0, ⟨(some 13), (some (8, true)), (.load (.load 1 false)), [(.tmp 12)]⟩, []⟩, ⟨0, ⟨(some 14), none, (.pure .pick), [(.tmp 8), (.tmp 13), (.const (.bool false))]⟩, []⟩, ⟨0, ⟨(some 4), none, (.pure .id), [(.tmp 14)]⟩, []⟩]) .ret))⟩
theorem c75 : compF Try.prog Try.f75 = some g75 := by kernel_rfl
theorem gc75 {args : List DV} {σ : GS} {Post : DV → GS → Prop} (h : @exB Try.prog ⟨g75.body⟩ (genv0 args g75.ntmps) σ ⟨@gretB g75.results ⟨Post⟩⟩) : GCall Try.prog 75 args σ Post := gcall_ofB tryfollows Try.func75 (by kernel_rfl) c75 h
abbrev g76 : GFun := ⟨75, [(.tmp 4)], (.seq (.region [⟨0, ⟨(some 3), none, (.new .box), [(.tmp 1)]⟩, []⟩, ⟨0, ⟨(some 4), none, (.pure .id), [(.const (.bool false))]⟩, []⟩]) (.seq (.seq (.region [⟨0, ⟨(some 7), none, (.pure (.faddr 1)), [(.tmp 3)]⟩, []⟩, ⟨0, ⟨(some 8), none, (.load (.load 1 false)), [(.tmp 7)]⟩, []⟩]) (.block 0 (.seq (.region [⟨0, ⟨(some 10), none, (.pure (.bin .eql .none)), [(.tmp 8), (.const (.int .u8 1))]⟩, []⟩, ⟨0, ⟨(some 9), none, (.pure .id), [(.tmp 10)]⟩, []⟩]) (.cond (.tmp 9) (.seq (.seq (.region [⟨0, ⟨(some 5), none, (.pure .id), [(.const (.int .i64 0))]⟩, []⟩]) (.block 1 (.loop (.seq (.seq (.region [⟨0, ⟨(some 11), none, (.pure .id), [(.tmp 5)]⟩, []⟩, ⟨0, ⟨(some 12), none, (.pure (.faddr 2)), [(.tmp 3)]⟩, []⟩, ⟨0, ⟨(some 13), none, (.load (.load 1 false)), [(.tmp 12)]⟩, []⟩, ⟨0, ⟨(some 14), none, (.pure .len), [(.tmp 13)]⟩, []⟩, ⟨0, ⟨(some 15), none, (.pure (.bin .lss .none)), [(.tmp 11), (.tmp 14)]⟩, []⟩]) (.cond (.tmp 15) .skip (.exit 1))) (.seq (.block 2 (.seq (.region [⟨0, ⟨(some 18), none, (.pure .id), [(.tmp 0)]⟩, []⟩, ⟨0, ⟨(some 19), none, (.pure (.faddr 2)), [(.tmp 3)]⟩, []⟩, ⟨0, ⟨(some 20), none, (.load (.load 1 false)), [(.tmp 19)]⟩, []⟩, ⟨0, ⟨(some 21), none, (.pure .id), [(.tmp 5)]⟩, []⟩, ⟨0, ⟨(some 22), none, (.pure (.iaddr 1)), [(.tmp 20), (.tmp 21)]⟩, []⟩, ⟨0, ⟨(some 23), none, (.load (.load 1 false)), [(.tmp 22)]⟩, []⟩, ⟨0, ⟨(some 24), none, (.call 55), [(.tmp 18), (.tmp 23)]⟩, []⟩, ⟨0, ⟨(some 25), none, (.pure (.un .not)), [(.tmp 24)]⟩, []⟩]) (.cond (.tmp 25) (.seq (.region [⟨0, ⟨(some 4), none, (.pure .id), [(.const (.bool false))]⟩, []⟩]) .ret) .skip))) (.region [⟨0, ⟨(some 16), none, (.pure .id), [(.tmp 5)]⟩, []⟩, ⟨0, ⟨(some 17), none, (.pure (.bin .add .none)), [(.tmp 16), (.const (.int .i64 1))]⟩, []⟩, ⟨0, ⟨(some 5), none, (.pure .id), [(.tmp 17)]⟩, []⟩])))))) (.seq (.region [⟨0, ⟨(some 4), none, (.pure .id), [(.const (.bool true))]⟩, []⟩]) .ret)) (.seq (.region [⟨0, ⟨(some 27), none, (.pure (.bin .eql .none)), [(.tmp 8), (.const (.int .u8 2))]⟩, []⟩, ⟨0, ⟨(some 26), none, (.pure .id), [(.tmp 27)]⟩, []⟩]) (.cond (.tmp 26) (.seq (.seq (.region [⟨0, ⟨(some 6), none, (.pure .id), [(.const (.int .i64 0))]⟩, []⟩]) (.block 3 (.loop (.seq (.seq (.region [⟨0, ⟨(some 28), none, (.pure .id), [(.tmp 6)]⟩, []⟩, ⟨0, ⟨(some 29), none, (.pure (.faddr 2)), [(.tmp 3)]⟩, []⟩, ⟨0, ⟨(some 30), none, (.load (.load 1 false)), [(.tmp 29)]⟩, []⟩, ⟨0, ⟨(some 31), none, (.pure .len), [(.tmp 30)]⟩, []⟩, ⟨0, ⟨(some 32), none, (.pure (.bin .lss .none)), [(.tmp 28), (.tmp 31)]⟩, []⟩]) (.cond (.tmp 32) .skip (.exit 3))) (.seq (.block 4 (.seq (.region [⟨0, ⟨(some 35), none, (.pure .id), [(.tmp 0)]⟩, []⟩, ⟨0, ⟨(some 36), none, (.pure (.faddr 2)), [(.tmp 3)]⟩, []⟩, ⟨0, ⟨(some 37), none, (.load (.load 1 false)), [(.tmp 36)]⟩, []⟩, ⟨0, ⟨(some 38), none, (.pure .id), [(.tmp 6)]⟩, []⟩, ⟨0, ⟨(some 39), none, (.pure (.iaddr 1)), [(.tmp 37), (.tmp 38)]⟩, []⟩, ⟨0, ⟨(some 40), none, (.load (.load 1 false)), [(.tmp 39)]⟩, []⟩, ⟨0, ⟨(some 41), none, (.call 55), [(.tmp 35), (.tmp 40)]⟩, []⟩]) (.cond (.tmp 41) (.seq (.region [⟨0, ⟨(some 4), none, (.pure .id), [(.const (.bool true))]⟩, []⟩]) .ret) .skip))) (.region [⟨0, ⟨(some 33), none, (.pure .id), [(.tmp 6)]⟩, []⟩, ⟨0, ⟨(some 34), none, (.pure (.bin .add .none)), [(.tmp 33), (.const (.int .i64 1))]⟩, []⟩, ⟨0, ⟨(some 6), none, (.pure .id), [(.tmp 34)]⟩, []⟩])))))) (.seq (.region [⟨0, ⟨(some 4), none, (.pure .id), [(.const (.bool false))]⟩, []⟩]) .ret)) (.seq (.region [⟨0, ⟨(some 43), none, (.pure (.bin .eql .none)), [(.tmp 8), (.const (.int .u8 3))]⟩, []⟩, ⟨0, ⟨(some 42), none, (.pure .id), [(.tmp 43)]⟩, []⟩]) (.cond (.tmp 42) (.seq (.region [⟨0, ⟨(some 44), none, (.pure .id), [(.tmp 0)]⟩, []⟩, ⟨1, ⟨(some 45), none, (.pure (.faddr 2)), [(.tmp 3)]⟩, []⟩, ⟨2, ⟨(some 46), none, (.load (.load 1 false)), [(.tmp 45)]⟩, []⟩, ⟨3, ⟨(some 47), none, (.pure (.iaddr 1)), [(.tmp 46), (.const (.int .i64 0))]⟩, []⟩, ⟨4, ⟨(some 48), none, (.load (.load 1 false)), [(.tmp 47)]⟩, []⟩, ⟨6, ⟨(some 50), none, (.pure .id), [(.tmp 0)]⟩, []⟩, ⟨7, ⟨(some 51), none, (.pure (.faddr 2)), [(.tmp 3)]⟩, []⟩, ⟨8, ⟨(some 52), none, (.load (.load 1 false)), [(.tmp 51)]⟩, []⟩, ⟨9, ⟨(some 53), none, (.pure (.iaddr 1)), [(.tmp 52), (.const (.int .i64 1))]⟩, []⟩, ⟨10, ⟨(some 54), none, (.load (.load 1 false)), [(.tmp 53)]⟩, []⟩, ⟨5, ⟨(some 49), none, (.call 55), [(.tmp 44), (.tmp 48)]⟩, [⟨(some 52), none, (.load (.load 1 false)), [(.tmp 51)]⟩, ⟨(some 54), none, (.load (.load 1 false)), [(.tmp 53)]⟩]⟩, ⟨11, ⟨(some 55), none, (.call 55), [(.tmp 50), (.tmp 54)]⟩, []⟩, ⟨12, ⟨(some 56), none, (.pure (.bin .neq .bool)), [(.tmp 49), (.tmp 55)]⟩, []⟩, ⟨13, ⟨(some 4), none, (.pure .id), [(.tmp 56)]⟩, []⟩]) .ret) .skip)))))))) (.seq (.seq (.region [⟨0, ⟨(some 57), none, (.pure .id), [(.tmp 0)]⟩, []⟩, ⟨0, ⟨(some 58), none, (.pure (.faddr 2)), [(.tmp 3)]⟩, []⟩, ⟨0, ⟨(some 59), none, (.load (.load 1 false)), [(.tmp 58)]⟩, []⟩, ⟨0, ⟨(some 60), none, (.pure (.iaddr 1)), [(.tmp 59), (.const (.int .i64 0))]⟩, []⟩, ⟨0, ⟨(some 61), none, (.load (.load 1 false)), [(.tmp 60)]⟩, []⟩, ⟨0, ⟨(some 62), none, (.call 55), [(.tmp 57), (.tmp 61)]⟩, []⟩]) (.cond (.tmp 62) (.seq (.region [⟨0, ⟨(some 63), none, (.pure .id), [(.tmp 0)]⟩, []⟩, ⟨0, ⟨(some 64), none, (.pure (.faddr 2)), [(.tmp 3)]⟩, []⟩, ⟨0, ⟨(some 65), none, (.load (.load 1 false)), [(.tmp 64)]⟩, []⟩, ⟨0, ⟨(some 66), none, (.pure (.iaddr 1)), [(.tmp 65), (.const (.int .i64 1))]⟩, []⟩, ⟨0, ⟨(some 67), none, (.load (.load 1 false)), [(.tmp 66)]⟩, []⟩, ⟨0, ⟨(some 68), none, (.call 55), [(.tmp 63), (.tmp 67)]⟩, []⟩, ⟨0, ⟨(some 4), none, (.pure .id), [(.tmp 68)]⟩, []⟩]) .ret) .skip)) (.seq (.region [⟨0, ⟨(some 69), none, (.pure .id), [(.tmp 0)]⟩, []⟩, ⟨0, ⟨(some 70), none, (.pure (.faddr 2)), [(.tmp 3)]⟩, []⟩, ⟨0, ⟨(some 71), none, (.load (.load 1 false)), [(.tmp 70)]⟩, []⟩, ⟨0, ⟨(some 72), none, (.pure (.iaddr 1)), [(.tmp 71), (.const (.int .i64 2))]⟩, []⟩, ⟨0, ⟨(some 73), none, (.load (.load 1 false)), [(.tmp 72)]⟩, []⟩, ⟨0, ⟨(some 74), none, (.call 55), [(.tmp 69), (.tmp 73)]⟩, []⟩, ⟨0, ⟨(some 4), none, (.pure .id), [(.tmp 74)]⟩, []⟩]) .ret))))⟩
theorem c76 : compF Try.prog Try.f76 = some g76 := by kernel_rfl
theorem gc76 {args : List DV} {σ : GS} {Post : DV → GS → Prop} (h : @exB Try.prog ⟨g76.body⟩ (genv0 args g76.ntmps) σ ⟨@gretB g76.results ⟨Post⟩⟩) : GCall Try.prog 76 args σ Post := gcall_ofB tryfollows Try.func76 (by kernel_rfl) c76 h
end Go.Gh
namespace Go.Gh
open Go.RowKit Go.Proofs
set_option linter.unusedVariables false
set_option linter.unusedSimpArgs false
theorem variable_ok {v : Int} {σ : GS} {Post : DV → GS → Prop} (h : Post (.bool (isVar v)) σ) : GCall Try.prog 50 [.int .i64 v] σ Post := by
  refine gc50 ?_
  by_cases h1 : 1 ≤ v <;> simp [g50, genv0, List.replicate, h1] <;> simpa [isVar, h1] using h
theorem abs_ok {l : Int} {σ : GS} {Post : DV → GS → Prop} (h : Post (.int .i64 (gabs l)) σ) : GCall Try.prog 51 [.int .i64 l] σ Post := by
  refine gc51 ?_
  by_cases h1 : l < 0 <;> simp [g51, genv0, List.replicate, h1] <;> simpa [gabs, h1] using h
theorem isVar_nat {l : Int} (h : isVar l = true) : ((l.toNat : Nat) : Int) = l ∧ l.toNat < 65537 := by simp [isVar] at h; omega
theorem known_ok {l : Int} {m : List Bool} {s : DV} {σ : GS} {Post : DV → GS → Prop} (hs : SBool σ s m) (hm : m.length = 65537) (h : Post (.bool (isVar (gabs l) && m.getD (gabs l).toNat false)) σ) : GCall Try.prog 75 [s, .int .i64 l] σ Post := by
  refine gc75 ?_
  simp [g75, genv0, List.replicate]
  refine abs_ok ?_
  simp
  refine variable_ok ?_
  by_cases h1 : isVar (gabs l) = true
  · simp [h1]
    refine abs_ok ?_
    obtain ⟨h3, h2⟩ := isVar_nat h1
    obtain ⟨x, hx⟩ := get_lt (xs := m) (i := (gabs l).toNat) (by omega)
    obtain ⟨id, off, p1, p2⟩ := hs.get (k := .i64) hx
    rw [h3] at p1
    simp [p1, p2]
    simpa [h1, List.getD, hx] using h
  · simp [h1]
    simpa [h1] using h
def lit (m : List Bool) (l : Int) : Bool := m.getD (gabs l).toNat false == decide (0 < l)
theorem holds_ok {l : Int} {m : List Bool} {s : DV} {σ : GS} {Post : DV → GS → Prop} (hs : SBool σ s m) (hm : m.length = 65537) (hl : isVar (gabs l) = true) (h : Post (.bool (lit m l)) σ) : GCall Try.prog 55 [s, .int .i64 l] σ Post := by
  refine gc55 ?_
  simp [g55, genv0, List.replicate]
  refine abs_ok ?_
  obtain ⟨h3, h2⟩ := isVar_nat hl
  obtain ⟨x, hx⟩ := get_lt (xs := m) (i := (gabs l).toNat) (by omega)
  obtain ⟨id, off, p1, p2⟩ := hs.get (k := .i64) hx
  rw [h3] at p1
  simp [p1, p2]
  simpa [lit, List.getD, hx] using h
theorem in_aux {xs : List Int} {x : Int} (h : ∀ j < xs.length, xs[j]? ≠ some x) : xs.contains x = false := by
  rw [Bool.eq_false_iff]
  intro hm
  obtain ⟨j, hj⟩ := List.mem_iff_getElem?.1 (List.contains_iff_mem.1 hm)
  exact h j (get_dom hj) hj
theorem in_ok {xs : List Int} {x : Int} {s : DV} {σ : GS} {Post : DV → GS → Prop} (hs : SInt σ s xs) (hmx : xs.length < 2 ^ 60) (h : Post (.bool (xs.contains x)) σ) : GCall Try.prog 41 [s, .int .i64 x] σ Post := by
  refine gc41 ?_
  simp [g41, genv0, List.replicate]
  refine gfor xs.length (fun i e σ' => σ' = σ ∧ (∀ j < i, xs[j]? ≠ some x) ∧ e = mkEnv 18 [(0, s), (1, .int .i64 x), (5, .int .i64 i)]) _ ?_ ⟨rfl, fun j hj => absurd hj (Nat.not_lt_zero _), rfl⟩ ?_
  · simp [mkEnv, List.replicate]
  rintro i _ _ hi ⟨rfl, hno, rfl⟩
  simp [mkEnv, List.replicate, hs.len]
  by_cases hlt : i < xs.length
  · obtain ⟨y, hy⟩ := get_lt hlt
    obtain ⟨id, off, p1, p2⟩ := hs.get (k := .i64) hy
    by_cases hx : y = x
    · simp [hlt, p1, p2, hx]
      have hm : xs.contains x = true := List.contains_iff_mem.2 (hx ▸ List.mem_of_getElem? hy)
      rw [hm] at h; exact h
    · simp [hlt, p1, p2, hx, wrap_suc (show i < _ by omega)]
      refine forK_go _ hlt ?_ ⟨rfl, fun j hj => ?_, rfl⟩
      · simp [mkEnv, List.replicate]
      · rcases Nat.lt_succ_iff_lt_or_eq.1 hj with h' | rfl
        · exact hno j h'
        · simpa [hy] using hx
  · have : i = xs.length := by omega
    subst this
    simp
    rw [in_aux hno] at h; exact h
theorem has_ok {xs : List Int} {x : Int} {s : DV} {σ : GS} {Post : DV → GS → Prop} (hs : SInt σ s xs) (hmx : xs.length < 2 ^ 60) (h : Post (.bool (xs.contains x)) σ) : GCall Try.prog 24 [s, .int .i64 x] σ Post := by
  refine gc24 ?_
  simp [g24, genv0, List.replicate]
  refine gfor xs.length (fun i e σ' => σ' = σ ∧ (∀ j < i, xs[j]? ≠ some x) ∧ e = mkEnv 18 [(0, s), (1, .int .i64 x), (5, .int .i64 i)]) _ ?_ ⟨rfl, fun j hj => absurd hj (Nat.not_lt_zero _), rfl⟩ ?_
  · simp [mkEnv, List.replicate]
  rintro i _ _ hi ⟨rfl, hno, rfl⟩
  simp [mkEnv, List.replicate, hs.len]
  by_cases hlt : i < xs.length
  · obtain ⟨y, hy⟩ := get_lt hlt
    obtain ⟨id, off, p1, p2⟩ := hs.get (k := .i64) hy
    by_cases hx : y = x
    · simp [hlt, p1, p2, hx]
      have hm : xs.contains x = true := List.contains_iff_mem.2 (hx ▸ List.mem_of_getElem? hy)
      rw [hm] at h; exact h
    · simp [hlt, p1, p2, hx, wrap_suc (show i < _ by omega)]
      refine forK_go _ hlt ?_ ⟨rfl, fun j hj => ?_, rfl⟩
      · simp [mkEnv, List.replicate]
      · rcases Nat.lt_succ_iff_lt_or_eq.1 hj with h' | rfl
        · exact hno j h'
        · simpa [hy] using hx
  · have : i = xs.length := by omega
    subst this
    simp
    rw [in_aux hno] at h; exact h
/-- A block of a prefix. -/
structure Blk where
  ex : Bool
  vars : List Int
def RBlk (σ : GS) (c : List DV) (b : Blk) : Prop := ∃ s, c = [.bool b.ex, s] ∧ SInt σ s b.vars
theorem RBlk.mono : RMono RBlk := fun _ _ _ _ hf ⟨s, h1, h2⟩ => ⟨s, h1, h2.fr hf⟩
/-- A gate. -/
structure Gat where
  var : Int
  kind : Int
  ins : List Int
def RGat (σ : GS) (c : List DV) (g : Gat) : Prop := ∃ s, c = [.int .i64 g.var, .int .u8 g.kind, s] ∧ SInt σ s g.ins
theorem RGat.mono : RMono RGat := fun _ _ _ _ hf ⟨s, h1, h2⟩ => ⟨s, h1, h2.fr hf⟩
end Go.Gh
namespace Go.Gh
open Go.RowKit Go.Proofs
set_option linter.unusedVariables false
set_option linter.unusedSimpArgs false
theorem Sl.get2 {α : Type} {R : GS → List DV → α → Prop} {σ : GS} {s : DV} {xs : List α} {sz : Nat} (h : Sl sz R σ s xs) {i : Nat} {x : α} (hi : xs[i]? = some x) {k : IntKind} :
    ∃ id off c, gpure (.iaddr sz) [s, .int k (i : Int)] = some (.ptr id off) ∧ R σ c x ∧ (∀ j, j < sz → gload (.load 1 false) [.ptr id (off + j)] σ = c[j]?) ∧ gload (.load sz true) [.ptr id off] σ = some (.agg c) :=
  let ⟨id, off, c, h1, _, h3, h4, h5⟩ := h.at_ hi (k := k)
  ⟨id, off, c, h1, h3, h4, h5⟩
/-- An element of a prefix: its address, its kind and its variables. -/
theorem blk_get {σ : GS} {s : DV} {xs : List Blk} (h : Sl 2 RBlk σ s xs) {i : Nat} {x : Blk} (hi : xs[i]? = some x) {k : IntKind} :
    ∃ id off v, gpure (.iaddr 2) [s, .int k (i : Int)] = some (.ptr id off) ∧ gload (.load 1 false) [.ptr id off] σ = some (.bool x.ex) ∧ gload (.load 1 false) [.ptr id (off + 1)] σ = some v ∧ SInt σ v x.vars ∧ gload (.load 2 true) [.ptr id off] σ = some (.agg [.bool x.ex, v]) := by
  obtain ⟨id, off, c, h1, ⟨v, rfl, hv⟩, h4, h5⟩ := h.get2 hi (k := k)
  exact ⟨id, off, v, h1, by simpa using h4 0 (by omega), by simpa using h4 1 (by omega), hv, h5⟩
theorem gat_get {σ : GS} {s : DV} {xs : List Gat} (h : Sl 3 RGat σ s xs) {i : Nat} {x : Gat} (hi : xs[i]? = some x) {k : IntKind} :
    ∃ id off v, gpure (.iaddr 3) [s, .int k (i : Int)] = some (.ptr id off) ∧ gload (.load 1 false) [.ptr id off] σ = some (.int .i64 x.var) ∧ gload (.load 1 false) [.ptr id (off + 1)] σ = some (.int .u8 x.kind) ∧ gload (.load 1 false) [.ptr id (off + 2)] σ = some v ∧ SInt σ v x.ins ∧ gload (.load 3 true) [.ptr id off] σ = some (.agg [.int .i64 x.var, .int .u8 x.kind, v]) := by
  obtain ⟨id, off, c, h1, ⟨v, rfl, hv⟩, h4, h5⟩ := h.get2 hi (k := k)
  exact ⟨id, off, v, h1, by simpa using h4 0 (by omega), by simpa using h4 1 (by omega), by simpa using h4 2 (by omega), hv, h5⟩
def flatVars (p : List Blk) : List Int := p.flatMap Blk.vars
theorem flatVars_take {p : List Blk} {i : Nat} {b : Blk} (h : p[i]? = some b) : flatVars (p.take (i + 1)) = flatVars (p.take i) ++ b.vars := by
  obtain ⟨hi, rfl⟩ := List.getElem?_eq_some_iff.1 h
  unfold flatVars
  rw [List.take_succ_eq_append_getElem hi]; simp only [List.flatMap_append, List.flatMap_cons, List.flatMap_nil, List.append_nil]
theorem flatVars_le {p : List Blk} (i : Nat) : (flatVars (p.take i)).length ≤ (flatVars p).length := by
  unfold flatVars
  conv => rhs; rw [← List.take_append_drop i p]
  rw [List.flatMap_append, List.length_append]; omega
theorem vars_ok {p : List Blk} {s : DV} {σ : GS} {Post : DV → GS → Prop} (hs : Sl 2 RBlk σ s p) (hmx : p.length < 2 ^ 60) (hm2 : (flatVars p).length < 2 ^ 40)
    (h : ∀ v σ', Fr σ.length σ σ' → σ.length ≤ σ'.length → OInt σ.length σ' v (flatVars p) → Post v σ') : GCall Try.prog 73 [s] σ Post := by
  refine gc73 ?_
  simp [g73, genv0, List.replicate]
  refine gfor p.length (fun i e σ' => ∃ v, Fr σ.length σ σ' ∧ OInt σ.length σ' v (flatVars (p.take i)) ∧ e = mkEnv 19 [(0, s), (3, v), (4, .int .i64 i)]) _ ?_ ⟨.nils, Fr.rfl', by simpa [flatVars] using OInt.nil, rfl⟩ ?_
  · simp [mkEnv, List.replicate]
  rintro i _ σ' hi ⟨v, hf, hv, rfl⟩
  have hs' := hs.fr RBlk.mono hf
  simp [mkEnv, List.replicate, hs'.len]
  by_cases hlt : i < p.length
  · obtain ⟨b, hb⟩ := get_lt hlt
    obtain ⟨id, off, u, p1, p2, p3, p4, p5⟩ := blk_get hs' (k := .i64) hb
    have hle := flatVars_le (p := p) (i + 1)
    rw [flatVars_take hb, List.length_append] at hle
    obtain ⟨v', σ2, q1, q2, q3, q4, q5⟩ := hv.append p4 hf.len (by omega)
    simp [hlt, p1, p3, q1, wrap_suc (show i < _ by omega)]
    exact forK_go _ hlt (by simp [mkEnv, List.replicate]) ⟨v', hf.trans q3, by rw [flatVars_take hb]; exact q2, rfl⟩
  · have : i = p.length := by omega
    subst this
    simp
    exact h _ _ hf hf.len (by simpa using hv)
def blank : List Bool := List.replicate 65537 false
theorem blank_len : blank.length = 65537 := List.length_replicate
def mark (l : List Int) : List Bool := l.foldl (fun m v => m.set v.toNat true) blank
theorem mark_len (l : List Int) : (mark l).length = 65537 := by
  have : ∀ (l : List Int) (m : List Bool), (l.foldl (fun m v => m.set v.toNat true) m).length = m.length := by
    intro l
    induction l with
    | nil => intro m; rfl
    | cons x l ih => intro m; simp [ih]
  unfold mark; rw [this, blank_len]
theorem mark_nil : mark [] = blank := rfl
theorem mark_snoc (l : List Int) (x : Int) : mark (l ++ [x]) = (mark l).set x.toNat true := by simp [mark]
theorem mslice_blank : galloc (.mslice 1 1 [.bool false]) [.int .i64 65537, .int .i64 65537] = some (.row false (bools blank), fun id => .slice id 0 65537 1 (some 65537)) := by
  rw [show bools blank = List.replicate 65537 (DV.bool false) from List.map_replicate]
  rfl
theorem marks_ok {l : List Int} {s : DV} {σ : GS} {Post : DV → GS → Prop} (hs : SInt σ s l) (hmx : l.length < 2 ^ 60) (hv : ∀ x ∈ l, isVar x = true)
    (h : Post (.slice σ.length 0 65537 1 (some 65537)) (σ ++ [.row false (bools (mark l))])) : GCall Try.prog 72 [s] σ Post := by
  refine gc72 ?_
  simp [g72, genv0, List.replicate, mslice_blank]
  refine gfor l.length (fun i e σ' => σ' = σ ++ [.row false (bools (mark (l.take i)))] ∧ e = mkEnv 19 [(0, s), (3, .slice σ.length 0 65537 1 (some 65537)), (4, .int .i64 i)]) _ ?_ ⟨by simp [mark_nil], rfl⟩ ?_
  · simp [mkEnv, List.replicate]
  rintro i _ σ' hi ⟨rfl, rfl⟩
  have hs' := hs.app [.row false (bools (mark (l.take i)))]
  simp [mkEnv, List.replicate, hs'.len]
  by_cases hlt : i < l.length
  · obtain ⟨x, hx⟩ := get_lt hlt
    obtain ⟨id, off, p1, p2⟩ := hs'.get (k := .i64) hx
    obtain ⟨q1, q2⟩ := isVar_nat (hv x (List.mem_of_getElem? hx))
    have q3 : gpure (.iaddr 1) [.slice σ.length 0 65537 1 (some 65537), .int .i64 x] = some (.ptr σ.length x.toNat) := by
      have := iaddr_own (id := σ.length) (n := 65537) (sz := 1) (k := .i64) (cap := some 65537) q2
      rw [q1] at this; simpa using this
    have q4 := store_bool (σ := σ ++ [.row false (bools (mark (l.take i)))]) (id := σ.length) (bs := mark (l.take i)) (b := true) (by simp) (show x.toNat < _ by rw [mark_len]; exact q2)
    simp [hlt, p1, p2, q3, q4, wrap_suc (show i < _ by omega)]
    refine forK_go _ hlt (by simp [mkEnv, List.replicate]) ⟨?_, rfl⟩
    obtain ⟨_, rfl⟩ := List.getElem?_eq_some_iff.1 hx
    rw [List.take_succ_eq_append_getElem hlt, mark_snoc]
    simp [bools]
  · have : i = l.length := by omega
    subst this
    simp
    simpa using h
def shapeG (g : Gat) : Bool := if g.kind = 1 ∨ g.kind = 2 then true else if g.kind = 3 then decide ((g.ins.length : Int) = 2) else if g.kind = 4 then decide ((g.ins.length : Int) = 3) else false
theorem shape_ok {g : Gat} {v : DV} {σ : GS} {Post : DV → GS → Prop} (hv : SInt σ v g.ins)
    (h : ∀ σ', Fr σ.length σ σ' → Post (.bool (shapeG g)) σ') : GCall Try.prog 74 [.agg [.int .i64 g.var, .int .u8 g.kind, v]] σ Post := by
  refine gc74 ?_
  have hv' := (hv.app [.row false [.int .i64 g.var, .int .u8 g.kind, v]]).len
  simp [g74, genv0, List.replicate, galloc, DV.cells, gload]
  have hr := h (σ ++ [.row false [.int .i64 g.var, .int .u8 g.kind, v]]) (Fr.rfl'.app _)
  by_cases h1 : g.kind = 1
  · simp [h1]; simpa [shapeG, h1] using hr
  by_cases h2 : g.kind = 2
  · simp [h1, h2]; simpa [shapeG, h2] using hr
  by_cases h3 : g.kind = 3
  · simp [h1, h2, h3, gload, hv']; simpa [shapeG, h1, h2, h3] using hr
  by_cases h4 : g.kind = 4
  · simp [h1, h2, h3, h4, gload, hv']; simpa [shapeG, h1, h2, h3, h4] using hr
  simp [h1, h2, h3, h4]
  simpa [shapeG, h1, h2, h3, h4] using hr
end Go.Gh
namespace Go.Gh
open Go.RowKit Go.Proofs
set_option linter.unusedVariables false
set_option linter.unusedSimpArgs false
def gateV (m : List Bool) (g : Gat) : Bool := if g.kind = 1 then g.ins.all (lit m) else if g.kind = 2 then g.ins.any (lit m) else
  if g.kind = 3 then lit m (g.ins.getD 0 0) != lit m (g.ins.getD 1 0) else if lit m (g.ins.getD 0 0) then lit m (g.ins.getD 1 0) else lit m (g.ins.getD 2 0)
theorem all_aux {α : Type} {xs : List α} {p : α → Bool} (h : ∀ j x, j < xs.length → xs[j]? = some x → p x = true) : xs.all p = true :=
  List.all_eq_true.2 fun x hx => let ⟨j, hj⟩ := List.mem_iff_getElem?.1 hx; h j x (get_dom hj) hj
theorem any_aux {α : Type} {xs : List α} {p : α → Bool} (h : ∀ j x, j < xs.length → xs[j]? = some x → p x = false) : xs.any p = false :=
  List.any_eq_false.2 fun x hx => let ⟨j, hj⟩ := List.mem_iff_getElem?.1 hx; by simp [h j x (get_dom hj) hj]
theorem gate_ok {g : Gat} {m : List Bool} {s v : DV} {σ : GS} {Post : DV → GS → Prop} (hs : SBool σ s m) (hm : m.length = 65537) (hv : SInt σ v g.ins) (hmx : g.ins.length < 2 ^ 40)
    (hl : ∀ l ∈ g.ins, isVar (gabs l) = true) (hsh : shapeG g = true) (h : ∀ σ', Fr σ.length σ σ' → σ.length ≤ σ'.length → Post (.bool (gateV m g)) σ') : GCall Try.prog 76 [s, .agg [.int .i64 g.var, .int .u8 g.kind, v]] σ Post := by
  refine gc76 ?_
  have hr := h (σ ++ [.row false [.int .i64 g.var, .int .u8 g.kind, v]]) (Fr.rfl'.app _) (by simp)
  have hs' := hs.fr (Fr.rfl'.app [.row false [.int .i64 g.var, .int .u8 g.kind, v]])
  have hv' := hv.app [.row false [.int .i64 g.var, .int .u8 g.kind, v]]
  have hvl := hv'.len
  simp [g76, genv0, List.replicate]
  by_cases h1 : g.kind = 1
  · simp [h1]
    simp [h1] at hs' hv' hvl hr
    refine gfor g.ins.length (fun i e σ' => σ' = σ ++ [.row false [.int .i64 g.var, .int .u8 1, v]] ∧ (∀ j x, j < i → g.ins[j]? = some x → lit m x = true) ∧ e = mkEnv 75 [(0, s), (3, .ptr σ.length 0), (5, .int .i64 i)]) _ ?_ ⟨rfl, fun j x hj => absurd hj (Nat.not_lt_zero _), rfl⟩ ?_
    · simp [mkEnv, List.replicate]
    rintro i _ _ hi ⟨rfl, hno, rfl⟩
    simp [mkEnv, List.replicate, hvl]
    by_cases hlt : i < g.ins.length
    · obtain ⟨y, hy⟩ := get_lt hlt
      obtain ⟨id, off, p1, p2⟩ := hv'.get (k := .i64) hy
      simp [hlt, p1, p2]
      refine holds_ok hs' hm (hl y (List.mem_of_getElem? hy)) ?_
      by_cases hx : lit m y = true
      · simp [hx, wrap_suc (show i < _ by omega)]
        refine forK_go _ hlt ?_ ⟨rfl, fun j x hj hjx => ?_, rfl⟩
        · simp [mkEnv, List.replicate]
        · rcases Nat.lt_succ_iff_lt_or_eq.1 hj with h' | rfl
          · exact hno j x h' hjx
          · rw [hy] at hjx; cases hjx; exact hx
      · simp [hx]
        have : gateV m g = false := by simp only [gateV, h1, if_pos]; exact List.all_eq_false.2 ⟨y, List.mem_of_getElem? hy, by simpa using hx⟩
        rw [this] at hr; exact hr
    · have : i = g.ins.length := by omega
      subst this
      simp
      have : gateV m g = true := by simp only [gateV, h1, if_pos]; exact all_aux fun j x hj hjx => hno j x hj hjx
      rw [this] at hr; exact hr
  by_cases h2 : g.kind = 2
  · simp [h1, h2]
    simp [h2] at hs' hv' hvl hr
    refine gfor g.ins.length (fun i e σ' => σ' = σ ++ [.row false [.int .i64 g.var, .int .u8 2, v]] ∧ (∀ j x, j < i → g.ins[j]? = some x → lit m x = false) ∧ e = mkEnv 75 [(0, s), (3, .ptr σ.length 0), (6, .int .i64 i)]) _ ?_ ⟨rfl, fun j x hj => absurd hj (Nat.not_lt_zero _), rfl⟩ ?_
    · simp [mkEnv, List.replicate]
    rintro i _ _ hi ⟨rfl, hno, rfl⟩
    simp [mkEnv, List.replicate, hvl]
    by_cases hlt : i < g.ins.length
    · obtain ⟨y, hy⟩ := get_lt hlt
      obtain ⟨id, off, p1, p2⟩ := hv'.get (k := .i64) hy
      simp [hlt, p1, p2]
      refine holds_ok hs' hm (hl y (List.mem_of_getElem? hy)) ?_
      by_cases hx : lit m y = true
      · simp [hx]
        have : gateV m g = true := by simp only [gateV, h2]; exact List.any_eq_true.2 ⟨y, List.mem_of_getElem? hy, hx⟩
        rw [this] at hr; exact hr
      · simp [hx, wrap_suc (show i < _ by omega)]
        refine forK_go _ hlt ?_ ⟨rfl, fun j x hj hjx => ?_, rfl⟩
        · simp [mkEnv, List.replicate]
        · rcases Nat.lt_succ_iff_lt_or_eq.1 hj with h' | rfl
          · exact hno j x h' hjx
          · rw [hy] at hjx; cases hjx; simpa using hx
    · have : i = g.ins.length := by omega
      subst this
      simp
      have : gateV m g = false := by simp only [gateV, h2]; exact any_aux fun j x hj hjx => hno j x hj hjx
      rw [this] at hr; exact hr
  by_cases h3 : g.kind = 3
  · simp [shapeG, h3] at hsh
    obtain ⟨a, ha⟩ := get_lt (xs := g.ins) (i := 0) (by omega)
    obtain ⟨b, hb⟩ := get_lt (xs := g.ins) (i := 1) (by omega)
    obtain ⟨id, off, p1, p2⟩ := hv'.get (k := .i64) ha
    obtain ⟨id', off', p3, p4⟩ := hv'.get (k := .i64) hb
    simp at p1 p3
    simp [h1, h2, h3] at p2 p4 hs' hr ⊢
    simp [p1, p2, p3, p4]
    refine holds_ok hs' hm (hl a (List.mem_of_getElem? ha)) ?_
    simp [p1, p2, p3, p4]
    refine holds_ok hs' hm (hl b (List.mem_of_getElem? hb)) ?_
    simp
    have : gateV m g = (lit m a != lit m b) := by simp [gateV, h3, ha, hb]
    rw [this] at hr; exact hr
  have h4 : g.kind = 4 := by
    rcases Decidable.em (g.kind = 4) with h4 | h4
    · exact h4
    · simp [shapeG, h1, h2, h3, h4] at hsh
  simp [shapeG, h4] at hsh
  obtain ⟨a, ha⟩ := get_lt (xs := g.ins) (i := 0) (by omega)
  obtain ⟨b, hb⟩ := get_lt (xs := g.ins) (i := 1) (by omega)
  obtain ⟨c, hc⟩ := get_lt (xs := g.ins) (i := 2) (by omega)
  obtain ⟨id, off, p1, p2⟩ := hv'.get (k := .i64) ha
  obtain ⟨id', off', p3, p4⟩ := hv'.get (k := .i64) hb
  obtain ⟨id2, off2, p5, p6⟩ := hv'.get (k := .i64) hc
  simp at p1 p3 p5
  simp [h4] at p2 p4 p6 hs' hr ⊢
  simp [p1, p2]
  refine holds_ok hs' hm (hl a (List.mem_of_getElem? ha)) ?_
  by_cases hx : lit m a = true
  · simp [hx, p3, p4]
    refine holds_ok hs' hm (hl b (List.mem_of_getElem? hb)) ?_
    simp
    have : gateV m g = lit m b := by simp [gateV, h4, ha, hb, hx]
    rw [this] at hr; exact hr
  · simp [hx, p5, p6]
    refine holds_ok hs' hm (hl c (List.mem_of_getElem? hc)) ?_
    simp
    have : gateV m g = lit m c := by simp [gateV, h4, ha, hc, hx]
    rw [this] at hr; exact hr
end Go.Gh
namespace Go.Gh
open Go.RowKit Go.Proofs
set_option linter.unusedVariables false
set_option linter.unusedSimpArgs false
theorem normal_ok {a : List Int} {s : DV} {σ : GS} {Post : DV → GS → Prop} (hs : SInt σ s a) (hmx : a.length < 2 ^ 60) (h : Post (.bool (normal a)) σ) : GCall Try.prog 25 [s] σ Post := by
  refine gc25 ?_
  simp [g25, genv0, List.replicate]
  refine gfor a.length (fun i e σ' => σ' = σ ∧ (∃ pv, (a.take i).foldl nstep (some 0) = some pv ∧ (i = 0 → pv = 0) ∧ ∀ j, i = j + 1 → ∃ y, a[j]? = some y ∧ pv = gabs y) ∧ e = mkEnv 35 [(0, s), (3, .int .i64 i)]) _ ?_ ⟨rfl, ⟨0, rfl, fun _ => rfl, fun j hj => by omega⟩, rfl⟩ ?_
  · simp [mkEnv, List.replicate]
  rintro i _ _ hi ⟨rfl, ⟨pv, hpv, hp0, hp1⟩, rfl⟩
  simp [mkEnv, List.replicate, hs.len]
  by_cases hlt : i < a.length
  · obtain ⟨y, hy⟩ := get_lt hlt
    obtain ⟨id, off, p1, p2⟩ := hs.get (k := .i64) hy
    simp [hlt, p1, p2]
    refine abs_ok ?_
    simp
    refine variable_ok ?_
    have hst := fold_take (f := nstep) hy (some 0)
    rw [hpv] at hst
    by_cases h1 : isVar (gabs y) = true
    · cases i with
      | zero =>
        have h0 := hp0 rfl
        subst h0
        have hpos : (0 : Int) < gabs y := by simp [isVar] at h1; omega
        simp [h1]
        refine forK_go _ hlt ?_ ⟨rfl, ⟨gabs y, ?_, fun e => by omega, fun j hj => ?_⟩, rfl⟩
        · simp [mkEnv, List.replicate]
        · rw [hst]; simp [nstep, h1, hpos]
        · obtain rfl : j = 0 := by omega
          exact ⟨y, hy, rfl⟩
      | succ j =>
        obtain ⟨z, hz, rfl⟩ := hp1 j rfl
        obtain ⟨id', off', p3, p4⟩ := hs.get (k := .i64) hz
        have hw : IntKind.i64.wrap (j : Int) = (j : Int) := wrap_nat (by omega)
        have hpos : (0 : Int) < (j : Int) + 1 := by omega
        simp at p1
        simp [h1, hpos, p1, p2, hw, p3, p4]
        refine abs_ok ?_
        simp [p1, p2]
        refine abs_ok ?_
        by_cases h2 : gabs z < gabs y
        · have hn : ¬ gabs y ≤ gabs z := by omega
          simp [hn]
          have hw2 : IntKind.i64.wrap ((j : Int) + 1 + 1) = ((j + 1 + 1 : Nat) : Int) := by rw [wrap_small] <;> omega
          simp [hw2]
          refine forK_go _ hlt ?_ ⟨rfl, ⟨gabs y, ?_, fun e => by omega, fun j' hj => ?_⟩, rfl⟩
          · simp [mkEnv, List.replicate]
          · rw [hst]; simp [nstep, h1, h2]
          · obtain rfl : j' = j + 1 := by omega
            exact ⟨y, hy, rfl⟩
        · have hn : gabs y ≤ gabs z := by omega
          simp [hn]
          have : normal a = false := by
            unfold normal
            rw [ofold (fun _ => rfl) (j + 1 + 1) (by rw [hst]; simp [nstep, h1, h2])]; rfl
          rw [this] at h; exact h
    · simp [h1]
      have : normal a = false := by
        unfold normal
        rw [ofold (fun _ => rfl) (i + 1) (by rw [hst]; simp [nstep, h1])]; rfl
      rw [this] at h; exact h
  · have : i = a.length := by omega
    subst this
    simp
    have : normal a = true := by
      unfold normal
      rw [List.take_length] at hpv; rw [hpv]; rfl
    rw [this] at h; exact h
end Go.Gh
namespace Go.Gh
open Go.RowKit Go.Proofs
set_option linter.unusedVariables false
set_option linter.unusedSimpArgs false
def varStep (o : Option (List Int)) (v : Int) : Option (List Int) := o.bind fun seen => if isVar v && !(seen.contains v) && !(decide ((seen.length : Int) = 1024)) then some (seen ++ [v]) else none
def bstep (o : Option (Option Bool × List Int)) (b : Blk) : Option (Option Bool × List Int) := o.bind fun p => if decide (b.vars.length = 0) || p.1 == some b.ex then none else (b.vars.foldl varStep (some p.2)).map fun s => (some b.ex, s)
/-- Is a prefix valid? -/
def prefOk (p : List Blk) : Bool := (p.foldl bstep (some (none, []))).isSome
theorem prefix_ok {p : List Blk} {s : DV} {σ : GS} {Post : DV → GS → Prop} (hs : Sl 2 RBlk σ s p) (hmx : p.length < 2 ^ 60) (hm2 : ∀ b ∈ p, b.vars.length < 2 ^ 60)
    (h : ∀ σ', Fr σ.length σ σ' → Post (.bool (prefOk p)) σ') : GCall Try.prog 71 [s] σ Post := by
  refine gc71 ?_
  simp [g71, genv0, List.replicate]
  refine gfor p.length (fun i e σ' => ∃ pv seen v, (p.take i).foldl bstep (some (none, [])) = some (pv, seen) ∧ (i = 0 → pv = none) ∧ (∀ j, i = j + 1 → ∃ b, p[j]? = some b ∧ pv = some b.ex) ∧ Fr σ.length σ σ' ∧ OInt σ.length σ' v seen ∧ seen.length ≤ 1024 ∧ e = mkEnv 85 [(0, s), (3, v), (4, .int .i64 i)]) _ ?_
    ⟨none, [], .nils, rfl, fun _ => rfl, fun j hj => by omega, Fr.rfl', OInt.nil, by simp, rfl⟩ ?_
  · simp [mkEnv, List.replicate]
  rintro i _ σ' hi ⟨pv, seen, v, hst, hp0, hp1, hf, hv, hsl, rfl⟩
  have hs' := hs.fr RBlk.mono hf
  simp [mkEnv, List.replicate, hs'.len]
  by_cases hlt : i < p.length
  · obtain ⟨b, hb⟩ := get_lt hlt
    obtain ⟨id, off, u, p1, p2, p3, p4, p5⟩ := blk_get hs' (k := .i64) hb
    have hst' := fold_take (f := bstep) hb (some (none, []))
    rw [hst] at hst'
    have hno : ∀ σ', Fr σ.length σ σ' → (p.take (i + 1)).foldl bstep (some (none, [])) = none → Post (.bool false) σ' := by
      intro σ' hf' hn
      have : prefOk p = false := by unfold prefOk; rw [ofold (fun _ => rfl) (i + 1) hn]; rfl
      rw [← this]; exact h σ' hf'
    simp [hlt, p1, p3, p4.len]
    by_cases h1 : b.vars.length = 0
    · have h1' : b.vars = [] := List.length_eq_zero_iff.1 h1
      simp [h1']
      exact hno _ hf (by rw [hst']; simp [bstep, h1'])
    have h1' : b.vars ≠ [] := fun e => h1 (by rw [e]; rfl)
    have hcase : (decide (0 < i) = false ∧ pv = none) ∨ (decide (0 < i) = true ∧ ∃ j b', i = j + 1 ∧ p[j]? = some b' ∧ pv = some b'.ex) := by
      cases i with
      | zero => exact .inl ⟨rfl, hp0 rfl⟩
      | succ j => obtain ⟨b', q1, q2⟩ := hp1 j rfl; exact .inr ⟨by simp, j, b', rfl, q1, q2⟩
    have hin : ¬ (pv = some b.ex) → (p.take (i + 1)).foldl bstep (some (none, [])) = (b.vars.foldl varStep (some seen)).map fun s => (some b.ex, s) := by
      intro hne
      rw [hst']; simp [bstep, h1', hne]
    rcases hcase with hcase | hcase
    case' inl =>
      obtain ⟨hd, rfl⟩ := hcase
      simp [h1', hd]
      have hin' := hin (by simp)
      clear hin hst'
    case' inr =>
      obtain ⟨hd, j, b', hij, hb', rfl⟩ := hcase
      obtain ⟨id', off', u', q1, q2, q3, q4, q5⟩ := blk_get hs' (k := .i64) hb'
      have hw : IntKind.i64.wrap ((i : Int) - 1) = (j : Int) := by rw [wrap_small] <;> omega
      by_cases hex : b.ex = b'.ex
      · have hexb : (b.ex == b'.ex) = true := by simp [hex]
        simp [h1', hd, p1, p2, hw, q1, q2]
        rw [hexb]
        simp
        exact hno _ hf (by rw [hst']; simp [bstep, h1', hex])
      have hexb : (b.ex == b'.ex) = false := by simpa using hex
      simp [h1', hd, p1, p2, hw, q1, q2, hexb]
      have hin' := hin (by simpa using fun e => hex e.symm)
      clear hin hst'
    all_goals
      refine gfor b.vars.length (fun k e σ' => ∃ seen' v', (b.vars.take k).foldl varStep (some seen) = some seen' ∧ Fr σ.length σ σ' ∧ OInt σ.length σ' v' seen' ∧ seen'.length ≤ 1024 ∧ e = mkEnv 85 [(0, s), (3, v'), (4, .int .i64 i), (5, .int .i64 k)]) _ ?_ ⟨seen, v, rfl, hf, hv, hsl, rfl⟩ ?_
      · simp [mkEnv, List.replicate]
      clear p1 p2 p3 p4 p5 hv hf hs' id off u
      rintro k _ σ' hk ⟨seen', v', hst2, hf, hv, hsl', rfl⟩
      have hs' := hs.fr RBlk.mono hf
      obtain ⟨id, off, u, p1, p2, p3, p4, p5⟩ := blk_get hs' (k := .i64) hb
      have hbm := hm2 b (List.mem_of_getElem? hb)
      simp [mkEnv, List.replicate, p1, p3, p4.len]
      by_cases hkt : k < b.vars.length
      · obtain ⟨y, hy⟩ := get_lt hkt
        obtain ⟨id2, off2, r1, r2⟩ := p4.get (k := .i64) hy
        have hst3 := fold_take (f := varStep) hy (some seen)
        rw [hst2] at hst3
        have hno2 : ∀ σ', Fr σ.length σ σ' → (b.vars.take (k + 1)).foldl varStep (some seen) = none → Post (.bool false) σ' := fun σ' hf' hn => hno σ' hf' (by rw [hin', ofold (fun _ => rfl) (k + 1) hn]; rfl)
        simp [hkt, p1, p3, r1, r2]
        refine variable_ok ?_
        by_cases g1 : isVar y = true
        · simp [g1, p1, p3, r1, r2]
          refine in_ok hv.sl (by omega) ?_
          by_cases g2 : seen'.contains y = true
          · simp only [g2]
            simp
            exact hno2 _ hf (by rw [hst3]; simp only [varStep, Option.bind_some, g1, g2]; rfl)
          · have g2' : seen'.contains y = false := by simpa using g2
            simp only [g2']
            simp [hv.sl.len]
            by_cases g3 : (seen'.length : Int) = 1024
            · simp [g3]
              exact hno2 _ hf (by rw [hst3]; simp only [varStep, Option.bind_some, g1, g2', g3]; rfl)
            · simp [g3, p1, p3, r1, r2]
              obtain ⟨v2, σ2, t1, t2, t3, t4, t5⟩ := hv.push y hf.len (by omega)
              simp [t1, wrap_suc (show k < _ by omega)]
              refine forK_go _ hkt (by simp [mkEnv, List.replicate]) ⟨_, v2, ?_, hf.trans t3, t2, ?_, rfl⟩
              · rw [hst3]; simp only [varStep, Option.bind_some, g1, g2']
                simp [g3]
              · simp; omega
        · simp [g1]
          exact hno2 _ hf (by rw [hst3]; simp [varStep, g1])
      · have : k = b.vars.length := by omega
        subst this
        rw [List.take_length] at hst2
        rw [hst2] at hin'
        simp [wrap_suc (show i < _ by omega)]
        exact forK_go _ hlt (by simp [mkEnv, List.replicate]) ⟨_, _, v', hin', fun e => by omega, fun j' hj' => ⟨b, (show i = j' by omega) ▸ hb, rfl⟩, hf, hv, hsl', rfl⟩
  · have : i = p.length := by omega
    subst this
    simp
    have : prefOk p = true := by unfold prefOk; rw [List.take_length] at hst; rw [hst]; rfl
    rw [← this]; exact h _ hf
end Go.Gh
namespace Go.Gh
open Go.RowKit Go.Proofs
set_option linter.unusedVariables false
set_option linter.unusedSimpArgs false
theorem varStep_fold {l : List Int} : ∀ {s s' : List Int}, l.foldl varStep (some s) = some s' → s' = s ++ l ∧ (∀ x ∈ l, isVar x = true) ∧ (s.Nodup → s'.Nodup) ∧ (s.length ≤ 1024 → s'.length ≤ 1024) := by
  induction l with
  | nil => intro s s' h; cases h; simp
  | cons x l ih =>
    intro s s' h
    rw [List.foldl_cons] at h
    by_cases hc : (isVar x && !(s.contains x) && !(decide ((s.length : Int) = 1024))) = true
    · have : varStep (some s) x = some (s ++ [x]) := by simp only [varStep, Option.bind_some, hc]; rfl
      rw [this] at h
      obtain ⟨h1, h2, h3, h4⟩ := ih h
      simp at hc
      refine ⟨by simp [h1], ?_, ?_, ?_⟩
      · intro y hy
        rcases List.mem_cons.1 hy with rfl | hy
        · exact hc.1.1
        · exact h2 y hy
      · intro hn
        refine h3 (List.nodup_append.2 ⟨hn, by simp, ?_⟩)
        intro a ha b hb
        simp at hb
        subst hb
        intro e; subst e
        exact hc.1.2 ha
      · intro hs
        exact h4 (by simp; omega)
    · have : varStep (some s) x = none := by simp only [varStep, Option.bind_some, hc]; rfl
      rw [this] at h
      have hn : ∀ l : List Int, l.foldl varStep none = none := by
        intro l
        induction l with
        | nil => rfl
        | cons x l ih => simpa [varStep] using ih
      rw [hn] at h; cases h
theorem bstep_fold {p : List Blk} : ∀ {a a' : Option Bool × List Int}, p.foldl bstep (some a) = some a' → a'.2 = a.2 ++ flatVars p ∧ (∀ x ∈ flatVars p, isVar x = true) ∧ (a.2.Nodup → a'.2.Nodup) ∧ (a.2.length ≤ 1024 → a'.2.length ≤ 1024) := by
  induction p with
  | nil => intro s s' h; cases h; simp [flatVars]
  | cons b p ih =>
    intro a a' h
    rw [List.foldl_cons] at h
    have hn : ∀ l : List Blk, l.foldl bstep none = none := by
      intro l
      induction l with
      | nil => rfl
      | cons x l ih => simpa [bstep] using ih
    by_cases hc : (decide (b.vars.length = 0) || a.1 == some b.ex) = true
    · have : bstep (some a) b = none := by simp only [bstep, Option.bind_some, hc]; rfl
      rw [this, hn] at h; cases h
    · have : bstep (some a) b = (b.vars.foldl varStep (some a.2)).map fun s => (some b.ex, s) := by simp only [bstep, Option.bind_some, hc]; rfl
      rw [this] at h
      cases hv : b.vars.foldl varStep (some a.2) with
      | none => rw [hv] at h; simp [hn] at h
      | some s =>
        rw [hv] at h
        obtain ⟨g1, g2, g3, g4⟩ := varStep_fold hv
        obtain ⟨h1, h2, h3, h4⟩ := ih h
        refine ⟨by rw [h1]; simp [flatVars, g1], ?_, fun k => h3 (g3 k), fun k => h4 (g4 k)⟩
        intro x hx
        simp only [flatVars, List.flatMap_cons, List.mem_append] at hx
        rcases hx with hx | hx
        · exact g2 x hx
        · exact h2 x hx
theorem prefOk_vars {p : List Blk} (h : prefOk p = true) : (∀ x ∈ flatVars p, isVar x = true) ∧ (flatVars p).Nodup ∧ (flatVars p).length ≤ 1024 := by
  unfold prefOk at h
  obtain ⟨a, ha⟩ := Option.isSome_iff_exists.1 h
  obtain ⟨h1, h2, h3, h4⟩ := bstep_fold ha
  simp at h1
  exact ⟨h2, by rw [← h1]; exact h3 (by simp), by rw [← h1]; exact h4 (by simp)⟩
/-- A net. -/
structure NetP where
  pre : List Blk
  gates : List Gat
  out : Int
structure NetV (σ : GS) (p g : DV) (n : NetP) : Prop where
  pre : Sl 2 RBlk σ p n.pre
  gates : Sl 3 RGat σ g n.gates
theorem NetV.fr {σ σ' : GS} {p g : DV} {n : NetP} (h : NetV σ p g n) (hf : Fr σ.length σ σ') : NetV σ' p g n := ⟨h.pre.fr RBlk.mono hf, h.gates.fr RGat.mono hf⟩
structure NetSm (n : NetP) : Prop where
  pre : n.pre.length < 2 ^ 60
  vars : ∀ b ∈ n.pre, b.vars.length < 2 ^ 60
  gates : n.gates.length < 2 ^ 60
  ins : ∀ g ∈ n.gates, g.ins.length < 2 ^ 40
def knownB (m : List Bool) (l : Int) : Bool := isVar (gabs l) && m.getD (gabs l).toNat false
def mstep (o : Option (List Bool × Int)) (g : Gat) : Option (List Bool × Int) := o.bind fun p =>
  if isVar g.var && !(p.1.getD g.var.toNat false) && shapeG g && !(decide (200000 < p.2 + g.ins.length)) && g.ins.all (knownB p.1) then some (p.1.set g.var.toNat true, p.2 + g.ins.length) else none
/-- Is a net valid? -/
def mayNet (n : NetP) : Bool := prefOk n.pre && match n.gates.foldl mstep (some (mark (flatVars n.pre), 0)) with | some p => knownB p.1 n.out | none => false
theorem SBool.at_own {σ : GS} {id : Nat} {m : List Bool} (h : σ[id]? = some (.row false (bools m))) (hm : m.length = 65537) : SBool σ (.slice id 0 65537 1 (some 65537)) m := by
  have := SBool.of (cap := some 65537) h
  rw [hm] at this; exact this
theorem iaddr_bools {id : Nat} {v : Int} (h : isVar v = true) : gpure (.iaddr 1) [.slice id 0 65537 1 (some 65537), .int .i64 v] = some (.ptr id v.toNat) := by
  obtain ⟨h1, h2⟩ := isVar_nat h
  have := iaddr_own (id := id) (n := 65537) (sz := 1) (k := .i64) (cap := some 65537) h2
  rw [h1] at this; simpa using this
theorem may_ok {n : NetP} {p g : DV} {σ : GS} {Post : DV → GS → Prop} (hn : NetV σ p g n) (hs : NetSm n) (h : ∀ σ', Fr σ.length σ σ' → Post (.bool (mayNet n)) σ') : GCall Try.prog 54 [.agg [p, g, .int .i64 n.out]] σ Post := by
  refine gc54 ?_
  have hb0 : (σ ++ [.row false [p, g, .int .i64 n.out]])[σ.length]? = some (.row false [p, g, .int .i64 n.out]) := by simp
  have hf0 : Fr σ.length σ (σ ++ [.row false [p, g, .int .i64 n.out]]) := Fr.rfl'.app _
  generalize hσ1 : σ ++ [.row false [p, g, .int .i64 n.out]] = σ1 at hb0 hf0
  have hlt1 : σ.length < σ1.length := by rw [← hσ1]; simp
  simp [g54, genv0, List.replicate, hσ1, ld_at hb0]
  refine prefix_ok (hn.fr hf0).pre hs.pre hs.vars fun σ2 hf2 => ?_
  have hb2 := hf2.at_ hb0
  by_cases hp : prefOk n.pre = true
  · obtain ⟨hv1, hv2, hv3⟩ := prefOk_vars hp
    simp [hp, ld_at hb2]
    have hn2 := (hn.fr hf0).fr hf2
    refine vars_ok hn2.pre hs.pre (by omega) fun vv σ3 hf3 hl3 hvv => ?_
    simp
    refine marks_ok hvv.sl (by omega) hv1 ?_
    have hb3 : (σ3 ++ [.row false (bools (mark (flatVars n.pre)))])[σ.length]? = some (.row false [p, g, .int .i64 n.out]) := getE_append (hf3.at_ hb2)
    have hf03 : Fr σ.length σ σ3 := (hf0.trans (hf2.mono (by omega))).trans (hf3.mono (by have := hf2.len; omega))
    have hl23 : σ1.length ≤ σ3.length := Nat.le_trans hf2.len hl3
    have hn3 := hn2.fr hf3
    clear hf2 hf3 hb2 hl3 hn2 hvv
    simp
    refine gfor n.gates.length (fun i e σ' => ∃ m many, (n.gates.take i).foldl mstep (some (mark (flatVars n.pre), 0)) = some (m, many) ∧ m.length = 65537 ∧ 0 ≤ many ∧ many ≤ 200000 ∧ Fr σ3.length σ3 σ' ∧ σ3.length < σ'.length ∧ σ'[σ3.length]? = some (.row false (bools m)) ∧
      e = mkEnv 76 [(1, .ptr σ.length 0), (3, .slice σ3.length 0 65537 1 (some 65537)), (4, .int .i64 many), (5, .int .i64 i)]) _ ?_ ⟨_, 0, rfl, mark_len _, by omega, by omega, Fr.rfl'.app _, by simp, by simp, rfl⟩ ?_
    · simp [mkEnv, List.replicate]
    rintro i _ σ4 hi ⟨m, many, hst, hm, hmn0, hmn, hf4, hl4, hrow, rfl⟩
    have hb4 : σ4[σ.length]? = some (.row false [p, g, .int .i64 n.out]) := by
      rw [hf4.get _ (by omega), ← hb3, List.getElem?_append_left (by omega)]
    have hn4 := hn3.fr hf4
    have hf04 := hf03.trans (hf4.mono (by omega))
    simp [mkEnv, List.replicate, ld_at hb4, hn4.gates.len]
    by_cases hlt : i < n.gates.length
    · obtain ⟨G, hG⟩ := get_lt hlt
      obtain ⟨id, off, u, p1, p2, p3, p4, p5, p6⟩ := gat_get hn4.gates (k := .i64) hG
      have hGs := hs.ins G (List.mem_of_getElem? hG)
      have hsg := hs.gates
      have hst' := fold_take (f := mstep) hG (some (mark (flatVars n.pre), 0))
      rw [hst] at hst'
      have hno : ∀ σ', Fr σ.length σ σ' → mstep (some (m, many)) G = none → Post (.bool false) σ' := by
        intro σ' hf' hnn
        have : mayNet n = false := by
          unfold mayNet
          rw [ofold (fun _ => rfl) (i + 1) (by rw [hst', hnn]), hp]; rfl
        rw [← this]; exact h σ' hf'
      have hfl := p5.flat
      have hsta := st_agg (σ := σ4) (τ := []) (cs := [.int .i64 G.var, .int .u8 G.kind, u]) (zs := [.int .i64 0, .int .u8 0, .nils]) (n := 3) rfl rfl (by simp [DV.flat]; simpa [DV.flat] using hfl)
      simp [hlt, ld_at hb4, p1, p6, hsta]
      have hf5 : Fr σ4.length σ4 (σ4 ++ [.row false [.int .i64 G.var, .int .u8 G.kind, u]]) := Fr.rfl'.app _
      have hg5 : (σ4 ++ [.row false [.int .i64 G.var, .int .u8 G.kind, u]])[σ4.length]? = some (.row false [.int .i64 G.var, .int .u8 G.kind, u]) := by simp
      have hrow5 := hf5.at_ hrow
      have p55 := p5.fr hf5
      have hl5 : (σ4 ++ [GObj.row false [DV.int .i64 G.var, .int .u8 G.kind, u]]).length = σ4.length + 1 := by simp
      generalize hσ5 : (σ4 ++ [GObj.row false [DV.int .i64 G.var, .int .u8 G.kind, u]] : GS) = σ5 at *
      have hf05 := hf04.trans (hf5.mono (by omega))
      have hw : IntKind.i64.wrap (many + (G.ins.length : Int)) = many + (G.ins.length : Int) := by rw [wrap_small] <;> omega
      simp [ld_at hg5, p55.len, hw]
      refine variable_ok ?_
      by_cases g1 : isVar G.var = true
      · obtain ⟨hm5a, hm5b⟩ := isVar_nat g1
        have hmr := SBool.at_own hrow5 hm
        obtain ⟨x, hx⟩ := get_lt (xs := m) (i := G.var.toNat) (by omega)
        have q1 := ld_at (k := G.var.toNat) hrow5
        have q1' : (bools m)[G.var.toNat]? = some (.bool x) := by simp [bools, hx]
        rw [q1'] at q1
        simp [g1, ld_at hg5, iaddr_bools g1, q1]
        by_cases g2 : x = true
        · simp [g2]
          exact hno _ hf05 (by simp [mstep, g1, hx, g2])
        · have g2' : x = false := by simpa using g2
          simp [g2', ld_agg hg5]
          refine shape_ok p55 fun σ6 hf6 => ?_
          have hg6 := hf6.at_ hg5
          have hrow6 := hf6.at_ hrow5
          have p56 := p55.fr hf6
          have hf06 := hf05.trans (hf6.mono (by have := hf05.len; omega))
          have hl6 := hf6.len
          by_cases g3 : shapeG G = true
          · simp [g3]
            by_cases g4 : 200000 < many + (G.ins.length : Int)
            · simp [g4]
              exact hno _ hf06 (by simp [mstep]; intro _ _ _ h5; omega)
            · simp [g4]
              refine gfor G.ins.length (fun k e σ' => σ' = σ6 ∧ (∀ j y, j < k → G.ins[j]? = some y → knownB m y = true) ∧ e = mkEnv 76 [(1, .ptr σ.length 0), (3, .slice σ3.length 0 65537 1 (some 65537)), (4, .int .i64 (many + (G.ins.length : Int))), (5, .int .i64 i), (6, .ptr σ4.length 0), (7, .int .i64 k)]) _ ?_ ⟨rfl, fun j y hj => absurd hj (Nat.not_lt_zero _), rfl⟩ ?_
              · simp [mkEnv, List.replicate]
              rintro k _ _ hk ⟨rfl, hall, rfl⟩
              simp [mkEnv, List.replicate, ld_at hg6, p56.len]
              by_cases hkt : k < G.ins.length
              · obtain ⟨y, hy⟩ := get_lt hkt
                obtain ⟨id2, off2, r1, r2⟩ := p56.get (k := .i64) hy
                simp [hkt, ld_at hg6, r1, r2]
                refine known_ok (SBool.at_own hrow6 hm) hm ?_
                by_cases g5 : knownB m y = true
                · have g5' := g5; unfold knownB at g5'
                  simp only [g5']
                  simp [wrap_suc (show k < _ by omega)]
                  refine forK_go _ hkt (by simp [mkEnv, List.replicate]) ⟨rfl, fun j z hj hz => ?_, rfl⟩
                  rcases Nat.lt_succ_iff_lt_or_eq.1 hj with h' | rfl
                  · exact hall j z h' hz
                  · rw [hy] at hz; cases hz; exact g5
                · have g5f : knownB m y = false := by simpa using g5
                  have g5' := g5f; unfold knownB at g5'
                  simp only [g5']
                  simp
                  have : G.ins.all (knownB m) = false := List.all_eq_false.2 ⟨y, List.mem_of_getElem? hy, g5⟩
                  exact hno _ hf06 (by simp only [mstep, Option.bind_some, this]; simp)
              · have : k = G.ins.length := by omega
                subst this
                have hallT : G.ins.all (knownB m) = true := all_aux fun j x _ hx => hall j x (get_dom hx) hx
                simp [ld_at hg6, iaddr_bools g1, store_bool hrow6 (show G.var.toNat < _ by omega), wrap_suc (show i < _ by omega)]
                refine forK_go _ hlt (by simp [mkEnv, List.replicate]) ⟨m.set G.var.toNat true, many + (G.ins.length : Int), ?_, by simp [hm], by omega, by omega, ?_, by simp; omega, ?_, rfl⟩
                · rw [hst']; simp only [mstep, Option.bind_some, g1, g3, hallT]
                  simp [hx, g2', g4]
                · exact ((hf4.trans (hf5.mono (by omega))).trans (hf6.mono (by omega))).set (Nat.le_refl _) _
                · rw [List.getElem?_set_self (by omega)]
                  simp [bools]
          · simp [g3]
            exact hno _ hf06 (by simp [mstep, g3])
      · simp [g1]
        exact hno _ hf05 (by simp [mstep, g1])
    · have : i = n.gates.length := by omega
      subst this
      simp [ld_at hb4]
      refine known_ok (SBool.at_own hrow hm) hm ?_
      simp
      rw [List.take_length] at hst
      have : mayNet n = knownB m n.out := by unfold mayNet; rw [hp, hst]; rfl
      have hr := h _ hf04
      rw [this] at hr; unfold knownB at hr; simpa using hr
  · simp [hp]
    have : mayNet n = false := by simp [mayNet, hp]
    rw [← this]; exact h _ (hf0.trans (hf2.mono (by omega)))
end Go.Gh
namespace Go.Gh
open Go.RowKit Go.Proofs
set_option linter.unusedVariables false
set_option linter.unusedSimpArgs false
theorem nfold_vars {a : List Int} : ∀ {s s' : Int}, a.foldl nstep (some s) = some s' → ∀ x ∈ a, isVar (gabs x) = true := by
  induction a with
  | nil => intro s s' h x hx; cases hx
  | cons y a ih =>
    intro s s' h x hx
    rw [List.foldl_cons] at h
    by_cases hc : (isVar (gabs y) && decide (s < gabs y)) = true
    · have : nstep (some s) y = some (gabs y) := by simp only [nstep, Option.bind_some, hc]; rfl
      rw [this] at h
      simp at hc
      rcases List.mem_cons.1 hx with rfl | hx
      · exact hc.1
      · exact ih h x hx
    · have : nstep (some s) y = none := by simp only [nstep, Option.bind_some, hc]; rfl
      rw [this] at h
      have hn : ∀ l : List Int, l.foldl nstep none = none := by
        intro l
        induction l with
        | nil => rfl
        | cons x l ih => simpa [nstep] using ih
      rw [hn] at h; cases h
theorem normal_vars {a : List Int} (h : normal a = true) : ∀ x ∈ a, isVar (gabs x) = true := by
  unfold normal at h
  obtain ⟨s, hs⟩ := Option.isSome_iff_exists.1 h
  exact nfold_vars hs
structure GateFine (g : Gat) : Prop where
  var : isVar g.var = true
  shape : shapeG g = true
  ins : ∀ l ∈ g.ins, isVar (gabs l) = true
theorem mfold_fine {gs : List Gat} : ∀ {s s' : List Bool × Int}, gs.foldl mstep (some s) = some s' → ∀ g ∈ gs, GateFine g := by
  induction gs with
  | nil => intro s s' h x hx; cases hx
  | cons y a ih =>
    intro s s' h x hx
    rw [List.foldl_cons] at h
    have hn : ∀ l : List Gat, l.foldl mstep none = none := by
      intro l
      induction l with
      | nil => rfl
      | cons x l ih => simpa [mstep] using ih
    cases hc : mstep (some s) y with
    | none => rw [hc, hn] at h; cases h
    | some s2 =>
      rw [hc] at h
      rcases List.mem_cons.1 hx with rfl | hx
      · simp only [mstep, Option.bind_some] at hc
        split at hc
        · rename_i hcc
          simp only [Bool.and_eq_true] at hcc
          refine ⟨hcc.1.1.1.1, hcc.1.1.2, fun l hl => ?_⟩
          have := List.all_eq_true.1 hcc.2 l hl
          simp [knownB] at this
          exact this.1
        · cases hc
      · exact ih h x hx
theorem mayNet_fine {n : NetP} (h : mayNet n = true) : prefOk n.pre = true ∧ (∀ g ∈ n.gates, GateFine g) ∧ isVar (gabs n.out) = true := by
  unfold mayNet at h
  rw [Bool.and_eq_true] at h
  obtain ⟨h1, h2⟩ := h
  split at h2
  · rename_i q hq
    simp [knownB] at h2
    exact ⟨h1, mfold_fine hq, h2.1⟩
  · cases h2
def inV (m : List Bool) (v : List Bool) (x : Int) : List Bool := v.set (gabs x).toNat (decide (0 < x) && m.getD (gabs x).toNat false)
def gtV (v : List Bool) (g : Gat) : List Bool := v.set g.var.toNat (gateV v g)
/-- The values of all variables of a net. -/
def allV (n : NetP) (a : List Int) : List Bool := n.gates.foldl gtV (a.foldl (inV (mark (flatVars n.pre))) blank)
theorem inV_len (m : List Bool) (a : List Int) : ∀ v : List Bool, (a.foldl (inV m) v).length = v.length := by
  induction a with
  | nil => intro v; rfl
  | cons x a ih => intro v; rw [List.foldl_cons, ih]; simp [inV]
theorem gtV_len (gs : List Gat) : ∀ v : List Bool, (gs.foldl gtV v).length = v.length := by
  induction gs with
  | nil => intro v; rfl
  | cons x a ih => intro v; rw [List.foldl_cons, ih]; simp [gtV]
theorem allV_len (n : NetP) (a : List Int) : (allV n a).length = 65537 := by rw [allV, gtV_len, inV_len, blank_len]
theorem all_ok {n : NetP} {p g s : DV} {a : List Int} {σ : GS} {Post : DV → GS → Prop} (hn : NetV σ p g n) (ha : SInt σ s a) (hs : NetSm n) (hal : a.length < 2 ^ 60) (hm : mayNet n = true) (hav : ∀ x ∈ a, isVar (gabs x) = true)
    (h : ∀ v σ', Fr σ.length σ σ' → SBool σ' v (allV n a) → Post v σ') : GCall Try.prog 56 [.agg [p, g, .int .i64 n.out], s] σ Post := by
  refine gc56 ?_
  obtain ⟨hp, hfine, hout⟩ := mayNet_fine hm
  obtain ⟨hv1, hv2, hv3⟩ := prefOk_vars hp
  have hb0 : (σ ++ [GObj.row false [p, g, .int .i64 n.out], .row false (bools blank)])[σ.length]? = some (.row false [p, g, .int .i64 n.out]) := by simp
  have hw0 : (σ ++ [GObj.row false [p, g, .int .i64 n.out], .row false (bools blank)])[σ.length + 1]? = some (.row false (bools blank)) := by simp
  have hf0 : Fr σ.length σ (σ ++ [GObj.row false [p, g, .int .i64 n.out], .row false (bools blank)]) := Fr.rfl'.app _
  have hl0 : (σ ++ [GObj.row false [p, g, .int .i64 n.out], .row false (bools blank)]).length = σ.length + 2 := by simp
  simp [g56, genv0, List.replicate, mslice_blank]
  generalize hσ1 : σ ++ [GObj.row false [p, g, .int .i64 n.out], .row false (bools blank)] = σ1 at hb0 hf0 hw0 hl0 ⊢
  try simp [ld_at hb0]
  have hn1 := hn.fr hf0
  refine vars_ok hn1.pre hs.pre (by omega) fun vv σ2 hf2 hl2 hvv => ?_
  simp
  refine marks_ok hvv.sl (by omega) hv1 ?_
  have hb2 := getE_append (τ := [.row false (bools (mark (flatVars n.pre)))]) (hf2.at_ hb0)
  have hw2 := getE_append (τ := [.row false (bools (mark (flatVars n.pre)))]) (hf2.at_ hw0)
  have hm2 : (σ2 ++ [GObj.row false (bools (mark (flatVars n.pre)))])[σ2.length]? = some (.row false (bools (mark (flatVars n.pre)))) := by simp
  have hf02 : Fr σ.length σ (σ2 ++ [GObj.row false (bools (mark (flatVars n.pre)))]) := (hf0.trans (hf2.mono (by omega))).app _
  have hl3 : (σ2 ++ [GObj.row false (bools (mark (flatVars n.pre)))]).length = σ2.length + 1 := by simp
  clear hf2 hb0 hw0 hvv hn1
  generalize hσ3 : σ2 ++ [GObj.row false (bools (mark (flatVars n.pre)))] = σ3 at *
  simp
  refine gfor a.length (fun i e σ' => ∃ v, (a.take i).foldl (inV (mark (flatVars n.pre))) blank = v ∧ σ'.length = σ3.length ∧ (∀ j, j ≠ σ.length + 1 → σ'[j]? = σ3[j]?) ∧ σ'[σ.length + 1]? = some (.row false (bools v)) ∧
    e = mkEnv 65 [(1, s), (2, .ptr σ.length 0), (5, .slice (σ.length + 1) 0 65537 1 (some 65537)), (6, .slice σ2.length 0 65537 1 (some 65537)), (7, .int .i64 i)]) _ ?_ ⟨_, rfl, rfl, fun _ _ => rfl, hw2, rfl⟩ ?_
  · simp [mkEnv, List.replicate]
  · rintro i _ σ4 hi ⟨v, hv, hl4, hfr4, hrow, rfl⟩
    have hf04 : Fr σ.length σ σ4 := ⟨by omega, fun j hj => by rw [hfr4 j (by omega)]; exact hf02.get j hj⟩
    have ha4 := ha.fr hf04
    have hvl : v.length = 65537 := by rw [← hv, inV_len, blank_len]
    simp [mkEnv, List.replicate, ha4.len]
    by_cases hlt : i < a.length
    · obtain ⟨x, hx⟩ := get_lt hlt
      obtain ⟨id, off, p1, p2⟩ := ha4.get (k := .i64) hx
      have hxv := hav x (List.mem_of_getElem? hx)
      obtain ⟨hx1, hx2⟩ := isVar_nat hxv
      have hst := fold_take (f := inV (mark (flatVars n.pre))) hx blank
      rw [hv] at hst
      simp [hlt, p1, p2]
      refine abs_ok ?_
      have hgo : ∀ b, b = (decide (0 < x) && (mark (flatVars n.pre)).getD (gabs x).toNat false) → gimp (.store 1) [.ptr (σ.length + 1) (gabs x).toNat, .bool b] σ4 = some (.tuple [], σ4.set (σ.length + 1) (.row false (bools ((a.take (i + 1)).foldl (inV (mark (flatVars n.pre))) blank)))) := by
        intro b hb
        rw [store_bool hrow (by omega), hst, hb]; rfl
      have hend : ∀ (u : Env) , True := fun _ => trivial
      have hnext : (fun i e σ' => ∃ v, (a.take i).foldl (inV (mark (flatVars n.pre))) blank = v ∧ σ'.length = σ3.length ∧ (∀ j, j ≠ σ.length + 1 → σ'[j]? = σ3[j]?) ∧ σ'[σ.length + 1]? = some (.row false (bools v)) ∧
          e = mkEnv 65 [(1, s), (2, .ptr σ.length 0), (5, .slice (σ.length + 1) 0 65537 1 (some 65537)), (6, .slice σ2.length 0 65537 1 (some 65537)), (7, .int .i64 (i : Nat))]) (i + 1) (mkEnv 65 [(1, s), (2, .ptr σ.length 0), (5, .slice (σ.length + 1) 0 65537 1 (some 65537)), (6, .slice σ2.length 0 65537 1 (some 65537)), (7, .int .i64 (i + 1 : Nat))]) (σ4.set (σ.length + 1) (.row false (bools ((a.take (i + 1)).foldl (inV (mark (flatVars n.pre))) blank)))) := by
        refine ⟨_, rfl, by simpa using hl4, fun j hj => ?_, ?_, rfl⟩
        · rw [List.getElem?_set_ne (fun e => hj e.symm)]; exact hfr4 j hj
        · rw [List.getElem?_set_self (by omega)]
      by_cases hpos : 0 < x
      · have hm4 : σ4[σ2.length]? = some (.row false (bools (mark (flatVars n.pre)))) := by rw [hfr4 _ (by omega)]; exact hm2
        obtain ⟨y, hy⟩ := get_lt (xs := mark (flatVars n.pre)) (i := (gabs x).toNat) (by rw [mark_len]; omega)
        have q1 := ld_at (k := (gabs x).toNat) hm4
        have q2 : (bools (mark (flatVars n.pre)))[(gabs x).toNat]? = some (.bool y) := by simp [bools, hy]
        rw [q2] at q1
        have q3 := hgo y (by simp [hpos, hy])
        simp [hpos, p1, p2]
        refine abs_ok ?_
        simp [iaddr_bools hxv, q1, q3, wrap_suc (show i < _ by omega)]
        exact forK_go _ hlt (by simp [mkEnv, List.replicate]) hnext
      · have q3 := hgo false (by simp [hpos])
        simp [hpos, iaddr_bools hxv, q3, p1, p2, wrap_suc (show i < _ by omega)]
        exact forK_go _ hlt (by simp [mkEnv, List.replicate]) hnext
    · have : i = a.length := by omega
      subst this
      rw [List.take_length] at hv
      simp
      clear hm2 hw2
      have hb4 : σ4[σ.length]? = some (.row false [p, g, .int .i64 n.out]) := by rw [hfr4 _ (by omega)]; exact hb2
      have hl34 : σ.length + 2 ≤ σ4.length := by omega
      refine gfor n.gates.length (fun i e σ' => ∃ v', (n.gates.take i).foldl gtV v = v' ∧ σ4.length ≤ σ'.length ∧ (∀ j, j < σ.length + 1 → σ'[j]? = σ4[j]?) ∧ σ'[σ.length + 1]? = some (.row false (bools v')) ∧
        e = mkEnv 65 [(2, .ptr σ.length 0), (5, .slice (σ.length + 1) 0 65537 1 (some 65537)), (8, .int .i64 i)]) _ ?_ ⟨_, rfl, Nat.le_refl _, fun _ _ => rfl, hrow, rfl⟩ ?_
      · simp [mkEnv, List.replicate]
      rintro i _ σ5 hi ⟨v', hv', hl5, hfr5, hrow5, rfl⟩
      have hf05 : Fr σ.length σ σ5 := ⟨by omega, fun j hj => by rw [hfr5 j (by omega)]; exact hf04.get j hj⟩
      have hn5 := hn.fr hf05
      have hb5 : σ5[σ.length]? = some (.row false [p, g, .int .i64 n.out]) := by rw [hfr5 _ (by omega)]; exact hb4
      have hvl' : v'.length = 65537 := by rw [← hv', gtV_len, hvl]
      have hsg := hs.gates
      simp [mkEnv, List.replicate, ld_at hb5, hn5.gates.len]
      by_cases hgt : i < n.gates.length
      · obtain ⟨G, hG⟩ := get_lt hgt
        obtain ⟨id, off, u, p1, p2, p3, p4, p5, p6⟩ := gat_get hn5.gates (k := .i64) hG
        have hGm := List.mem_of_getElem? hG
        have hst := fold_take (f := gtV) hG v
        rw [hv'] at hst
        simp [hgt, ld_at hb5, p1, p2, p6]
        refine gate_ok (SBool.at_own hrow5 hvl') hvl' p5 (hs.ins G hGm) (hfine G hGm).ins (hfine G hGm).shape fun σ6 hf6 hl6 => ?_
        have hb6 := hf6.at_ hb5
        have hrow6 := hf6.at_ hrow5
        have hn6 := hn5.fr hf6
        obtain ⟨hg1, hg2⟩ := isVar_nat (hfine G hGm).var
        obtain ⟨id', off', u', p1', p2', p3', p4', p5', p6'⟩ := gat_get hn6.gates (k := .i64) hG
        rw [p1] at p1'
        cases p1'
        have q3 := store_bool (b := gateV v' G) hrow6 (show G.var.toNat < _ by omega)
        simp [ld_at hb5, ld_at hb6, p2, p2', iaddr_bools (hfine G hGm).var, q3, wrap_suc (show i < _ by omega)]
        refine forK_go _ hgt (by simp [mkEnv, List.replicate]) ⟨_, rfl, by simp; omega, fun j hj => ?_, ?_, rfl⟩
        · rw [List.getElem?_set_ne (by omega), hf6.get j (by omega)]; exact hfr5 j hj
        · rw [List.getElem?_set_self (by omega), hst]; simp [gtV, bools]
      · have : i = n.gates.length := by omega
        subst this
        simp
        rw [List.take_length] at hv'
        refine h _ _ hf05 ?_
        have := SBool.at_own hrow5 hvl'
        rw [← hv', ← hv] at this
        exact this
/-- The value of a net. -/
def evalNet (n : NetP) (a : List Int) : Bool := lit (allV n a) n.out
theorem eval_ok {n : NetP} {p g s : DV} {a : List Int} {σ : GS} {Post : DV → GS → Prop} (hn : NetV σ p g n) (ha : SInt σ s a) (hs : NetSm n) (hal : a.length < 2 ^ 60)
    (h : ∀ σ', Fr σ.length σ σ' → Post (if mayNet n && normal a then .tuple [.bool (evalNet n a), .int .i64 0] else .tuple [.bool false, .int .i64 2]) σ') : GCall Try.prog 27 [.agg [p, g, .int .i64 n.out], s] σ Post := by
  refine gc27 ?_
  have hb0 : (σ ++ [GObj.row false [p, g, .int .i64 n.out]])[σ.length]? = some (.row false [p, g, .int .i64 n.out]) := by simp
  have hf0 : Fr σ.length σ (σ ++ [GObj.row false [p, g, .int .i64 n.out]]) := Fr.rfl'.app _
  have hl0 : (σ ++ [GObj.row false [p, g, .int .i64 n.out]]).length = σ.length + 1 := by simp
  simp [g27, genv0, List.replicate]
  generalize hσ1 : σ ++ [GObj.row false [p, g, .int .i64 n.out]] = σ1 at hb0 hf0 hl0 ⊢
  try simp [ld_agg hb0]
  refine may_ok (hn.fr hf0) hs fun σ2 hf2 => ?_
  have hf02 := hf0.trans (hf2.mono (by omega))
  have hb2 := hf2.at_ hb0
  have hl2 := hf2.len
  by_cases hm : mayNet n = true
  · simp [hm]
    refine normal_ok ((ha.fr hf0).fr hf2) hal ?_
    by_cases hna : normal a = true
    · simp [hna, ld_agg hb2, ld_at hb2]
      obtain ⟨hp, hfine, hout⟩ := mayNet_fine hm
      refine all_ok ((hn.fr hf0).fr hf2) ((ha.fr hf0).fr hf2) hs hal hm (normal_vars hna) fun v σ3 hf3 hv => ?_
      simp [ld_at hb2, ld_at (hf3.at_ hb2)]
      refine holds_ok hv (allV_len n a) hout ?_
      simp
      have := h σ3 (hf02.trans (hf3.mono (by omega)))
      simpa [hm, hna, evalNet] using this
    · simp [hna]
      have := h σ2 hf02
      simpa [hm, hna] using this
  · simp [hm]
    have := h σ2 hf02
    simpa [hm] using this
end Go.Gh
namespace Go.Gh
open Go.Proofs
abbrev g8 : GFun := ⟨33, [(.tmp 2)], (.seq (.region [⟨0, ⟨(some 1), none, (.new .box), [(.tmp 0)]⟩, []⟩, ⟨0, ⟨(some 2), none, (.pure .id), [(.const (.bool false))]⟩, []⟩]) (.seq (.seq (.region [⟨0, ⟨(some 3), none, (.pure .id), [(.const (.int .i64 0))]⟩, []⟩]) (.block 0 (.loop (.seq (.seq (.region [⟨0, ⟨(some 4), none, (.pure .id), [(.tmp 3)]⟩, []⟩, ⟨0, ⟨(some 5), none, (.pure (.faddr 0)), [(.tmp 1)]⟩, []⟩, ⟨0, ⟨(some 6), none, (.load (.load 1 false)), [(.tmp 5)]⟩, []⟩, ⟨0, ⟨(some 7), none, (.pure .len), [(.tmp 6)]⟩, []⟩, ⟨0, ⟨(some 8), none, (.pure (.bin .lss .none)), [(.tmp 4), (.tmp 7)]⟩, []⟩, ⟨0, ⟨(some 9), none, (.pure .id), [(.tmp 8)]⟩, []⟩, ⟨0, ⟨(some 10), (some (9, true)), (.pure .id), [(.tmp 3)]⟩, []⟩, ⟨0, ⟨(some 11), (some (9, true)), (.pure (.bin .lss .none)), [(.tmp 10), (.const (.int .i64 20))]⟩, []⟩, ⟨0, ⟨(some 12), none, (.pure .pick), [(.tmp 9), (.tmp 11), (.const (.bool false))]⟩, []⟩]) (.cond (.tmp 12) .skip (.exit 0))) (.seq (.block 1 (.seq (.region [⟨0, ⟨(some 15), none, (.pure (.faddr 0)), [(.tmp 1)]⟩, []⟩, ⟨0, ⟨(some 16), none, (.load (.load 1 false)), [(.tmp 15)]⟩, []⟩, ⟨0, ⟨(some 17), none, (.pure .id), [(.tmp 3)]⟩, []⟩, ⟨0, ⟨(some 18), none, (.pure (.iaddr 2)), [(.tmp 16), (.tmp 17)]⟩, []⟩, ⟨0, ⟨(some 19), none, (.pure (.faddr 1)), [(.tmp 18)]⟩, []⟩, ⟨0, ⟨(some 20), none, (.load (.load 1 false)), [(.tmp 19)]⟩, []⟩, ⟨0, ⟨(some 21), none, (.pure .len), [(.tmp 20)]⟩, []⟩, ⟨0, ⟨(some 22), none, (.pure (.bin .gtr .none)), [(.tmp 21), (.const (.int .i64 20))]⟩, []⟩]) (.cond (.tmp 22) (.seq (.region [⟨0, ⟨(some 2), none, (.pure .id), [(.const (.bool true))]⟩, []⟩]) .ret) .skip))) (.region [⟨0, ⟨(some 13), none, (.pure .id), [(.tmp 3)]⟩, []⟩, ⟨0, ⟨(some 14), none, (.pure (.bin .add .none)), [(.tmp 13), (.const (.int .i64 1))]⟩, []⟩, ⟨0, ⟨(some 3), none, (.pure .id), [(.tmp 14)]⟩, []⟩])))))) (.seq (.region [⟨0, ⟨(some 23), none, (.pure (.faddr 0)), [(.tmp 1)]⟩, []⟩, ⟨0, ⟨(some 24), none, (.load (.load 1 false)), [(.tmp 23)]⟩, []⟩, ⟨0, ⟨(some 25), none, (.pure .len), [(.tmp 24)]⟩, []⟩, ⟨0, ⟨(some 26), none, (.pure (.bin .gtr .none)), [(.tmp 25), (.const (.int .i64 20))]⟩, []⟩, ⟨0, ⟨(some 27), none, (.pure .id), [(.tmp 26)]⟩, []⟩, ⟨0, ⟨(some 28), (some (27, false)), (.pure (.faddr 2)), [(.tmp 1)]⟩, []⟩, ⟨0, ⟨(some 29), (some (27, false)), (.load (.load 1 false)), [(.tmp 28)]⟩, []⟩, ⟨0, ⟨(some 30), (some (27, false)), (.pure .len), [(.tmp 29)]⟩, []⟩, ⟨0, ⟨(some 31), (some (27, false)), (.pure (.bin .gtr .none)), [(.tmp 30), (.const (.int .i64 20))]⟩, []⟩, ⟨0, ⟨(some 32), none, (.pure .pick), [(.tmp 27), (.const (.bool true)), (.tmp 31)]⟩, []⟩, ⟨0, ⟨(some 2), none, (.pure .id), [(.tmp 32)]⟩, []⟩]) .ret)))⟩
theorem c8 : compF Try.prog Try.f8 = some g8 := by kernel_rfl
theorem gc8 {args : List DV} {σ : GS} {Post : DV → GS → Prop} (h : @exB Try.prog ⟨g8.body⟩ (genv0 args g8.ntmps) σ ⟨@gretB g8.results ⟨Post⟩⟩) : GCall Try.prog 8 args σ Post := gcall_ofB tryfollows Try.func8 (by kernel_rfl) c8 h
abbrev g19 : GFun := ⟨113, [(.tmp 2)], (.seq (.region [⟨0, ⟨(some 1), none, (.new .box), [(.tmp 0)]⟩, []⟩, ⟨0, ⟨(some 2), none, (.pure .id), [(.const (.bool false))]⟩, []⟩]) (.seq (.region [⟨0, ⟨(some 8), none, (.pure (.faddr 0)), [(.tmp 1)]⟩, []⟩, ⟨0, ⟨(some 9), none, (.load (.load 1 false)), [(.tmp 8)]⟩, []⟩, ⟨0, ⟨(some 10), none, (.pure .len), [(.tmp 9)]⟩, []⟩, ⟨0, ⟨(some 3), none, (.pure .id), [(.tmp 10)]⟩, []⟩]) (.seq (.seq (.region [⟨0, ⟨(some 11), none, (.pure .id), [(.tmp 3)]⟩, []⟩, ⟨0, ⟨(some 12), none, (.pure (.bin .lss .none)), [(.tmp 11), (.const (.int .i64 1))]⟩, []⟩, ⟨0, ⟨(some 13), none, (.pure .id), [(.tmp 12)]⟩, []⟩, ⟨0, ⟨(some 14), (some (13, false)), (.pure .id), [(.tmp 3)]⟩, []⟩, ⟨0, ⟨(some 15), (some (13, false)), (.pure (.bin .gtr .none)), [(.tmp 14), (.const (.int .i64 16))]⟩, []⟩, ⟨0, ⟨(some 16), none, (.pure .pick), [(.tmp 13), (.const (.bool true)), (.tmp 15)]⟩, []⟩, ⟨0, ⟨(some 17), none, (.pure .id), [(.tmp 16)]⟩, []⟩, ⟨0, ⟨(some 18), (some (17, false)), (.pure (.faddr 1)), [(.tmp 1)]⟩, []⟩, ⟨0, ⟨(some 19), (some (17, false)), (.load (.load 1 false)), [(.tmp 18)]⟩, []⟩, ⟨0, ⟨(some 20), (some (17, false)), (.pure (.bin .lss .none)), [(.tmp 19), (.const (.int .i64 0))]⟩, []⟩, ⟨0, ⟨(some 21), none, (.pure .pick), [(.tmp 17), (.const (.bool true)), (.tmp 20)]⟩, []⟩, ⟨0, ⟨(some 22), none, (.pure .id), [(.tmp 21)]⟩, []⟩, ⟨0, ⟨(some 23), (some (22, false)), (.pure (.faddr 1)), [(.tmp 1)]⟩, []⟩, ⟨0, ⟨(some 24), (some (22, false)), (.load (.load 1 false)), [(.tmp 23)]⟩, []⟩, ⟨0, ⟨(some 25), (some (22, false)), (.pure .id), [(.tmp 3)]⟩, []⟩, ⟨0, ⟨(some 26), (some (22, false)), (.pure (.bin .geq .none)), [(.tmp 24), (.tmp 25)]⟩, []⟩, ⟨0, ⟨(some 27), none, (.pure .pick), [(.tmp 22), (.const (.bool true)), (.tmp 26)]⟩, []⟩, ⟨0, ⟨(some 28), none, (.pure .id), [(.tmp 27)]⟩, []⟩, ⟨0, ⟨(some 29), (some (28, false)), (.pure (.faddr 3)), [(.tmp 1)]⟩, []⟩, ⟨0, ⟨(some 30), (some (28, false)), (.load (.load 1 false)), [(.tmp 29)]⟩, []⟩, ⟨0, ⟨(some 31), (some (28, false)), (.pure (.bin .lss .none)), [(.tmp 30), (.const (.int .i64 0))]⟩, []⟩, ⟨0, ⟨(some 32), none, (.pure .pick), [(.tmp 28), (.const (.bool true)), (.tmp 31)]⟩, []⟩, ⟨0, ⟨(some 33), none, (.pure .id), [(.tmp 32)]⟩, []⟩, ⟨0, ⟨(some 34), (some (33, false)), (.pure (.faddr 3)), [(.tmp 1)]⟩, []⟩, ⟨0, ⟨(some 35), (some (33, false)), (.load (.load 1 false)), [(.tmp 34)]⟩, []⟩, ⟨0, ⟨(some 36), (some (33, false)), (.pure (.bin .gtr .none)), [(.tmp 35), (.const (.int .i64 8))]⟩, []⟩, ⟨0, ⟨(some 37), none, (.pure .pick), [(.tmp 33), (.const (.bool true)), (.tmp 36)]⟩, []⟩]) (.cond (.tmp 37) (.seq (.region [⟨0, ⟨(some 2), none, (.pure .id), [(.const (.bool false))]⟩, []⟩]) .ret) .skip)) (.seq (.seq (.region [⟨0, ⟨(some 4), none, (.pure .id), [(.const (.int .i64 0))]⟩, []⟩]) (.block 0 (.loop (.seq (.seq (.region [⟨0, ⟨(some 38), none, (.pure .id), [(.tmp 4)]⟩, []⟩, ⟨0, ⟨(some 39), none, (.pure .id), [(.tmp 3)]⟩, []⟩, ⟨0, ⟨(some 40), none, (.pure (.bin .lss .none)), [(.tmp 38), (.tmp 39)]⟩, []⟩]) (.cond (.tmp 40) .skip (.exit 0))) (.seq (.block 1 (.seq (.region [⟨0, ⟨(some 43), none, (.pure (.faddr 0)), [(.tmp 1)]⟩, []⟩, ⟨0, ⟨(some 44), none, (.load (.load 1 false)), [(.tmp 43)]⟩, []⟩, ⟨0, ⟨(some 45), none, (.pure .id), [(.tmp 4)]⟩, []⟩, ⟨0, ⟨(some 46), none, (.pure (.iaddr 2)), [(.tmp 44), (.tmp 45)]⟩, []⟩, ⟨0, ⟨(some 47), none, (.pure (.faddr 1)), [(.tmp 46)]⟩, []⟩, ⟨0, ⟨(some 48), none, (.load (.load 1 false)), [(.tmp 47)]⟩, []⟩, ⟨0, ⟨(some 5), none, (.pure .id), [(.tmp 48)]⟩, []⟩]) (.seq (.region [⟨0, ⟨(some 6), none, (.pure .id), [(.const (.int .i64 0))]⟩, []⟩]) (.block 2 (.loop (.seq (.seq (.region [⟨0, ⟨(some 49), none, (.pure .id), [(.tmp 6)]⟩, []⟩, ⟨0, ⟨(some 50), none, (.pure .id), [(.tmp 5)]⟩, []⟩, ⟨0, ⟨(some 51), none, (.pure .len), [(.tmp 50)]⟩, []⟩, ⟨0, ⟨(some 52), none, (.pure (.bin .lss .none)), [(.tmp 49), (.tmp 51)]⟩, []⟩]) (.cond (.tmp 52) .skip (.exit 2))) (.seq (.block 3 (.seq (.region [⟨0, ⟨(some 55), none, (.pure .id), [(.tmp 5)]⟩, []⟩, ⟨0, ⟨(some 56), none, (.pure .len), [(.tmp 55)]⟩, []⟩, ⟨0, ⟨(some 57), none, (.pure (.bin .gtr .none)), [(.tmp 56), (.const (.int .i64 4))]⟩, []⟩, ⟨0, ⟨(some 58), none, (.pure .id), [(.tmp 57)]⟩, []⟩, ⟨0, ⟨(some 59), (some (58, false)), (.pure .id), [(.tmp 5)]⟩, []⟩, ⟨0, ⟨(some 60), (some (58, false)), (.pure .id), [(.tmp 6)]⟩, []⟩, ⟨0, ⟨(some 61), (some (58, false)), (.pure (.iaddr 1)), [(.tmp 59), (.tmp 60)]⟩, []⟩, ⟨0, ⟨(some 62), (some (58, false)), (.load (.load 1 false)), [(.tmp 61)]⟩, []⟩, ⟨0, ⟨(some 63), (some (58, false)), (.pure (.bin .lss .none)), [(.tmp 62), (.const (.int .i64 0))]⟩, []⟩, ⟨0, ⟨(some 64), none, (.pure .pick), [(.tmp 58), (.const (.bool true)), (.tmp 63)]⟩, []⟩, ⟨0, ⟨(some 65), none, (.pure .id), [(.tmp 64)]⟩, []⟩, ⟨0, ⟨(some 66), (some (65, false)), (.pure .id), [(.tmp 5)]⟩, []⟩, ⟨0, ⟨(some 67), (some (65, false)), (.pure .id), [(.tmp 6)]⟩, []⟩, ⟨0, ⟨(some 68), (some (65, false)), (.pure (.iaddr 1)), [(.tmp 66), (.tmp 67)]⟩, []⟩, ⟨0, ⟨(some 69), (some (65, false)), (.load (.load 1 false)), [(.tmp 68)]⟩, []⟩, ⟨0, ⟨(some 70), (some (65, false)), (.pure .id), [(.tmp 3)]⟩, []⟩, ⟨0, ⟨(some 71), (some (65, false)), (.pure (.bin .geq .none)), [(.tmp 69), (.tmp 70)]⟩, []⟩, ⟨0, ⟨(some 72), none, (.pure .pick), [(.tmp 65), (.const (.bool true)), (.tmp 71)]⟩, []⟩]) (.cond (.tmp 72) (.seq (.region [⟨0, ⟨(some 2), none, (.pure .id), [(.const (.bool false))]⟩, []⟩]) .ret) .skip))) (.region [⟨0, ⟨(some 53), none, (.pure .id), [(.tmp 6)]⟩, []⟩, ⟨0, ⟨(some 54), none, (.pure (.bin .add .none)), [(.tmp 53), (.const (.int .i64 1))]⟩, []⟩, ⟨0, ⟨(some 6), none, (.pure .id), [(.tmp 54)]⟩, []⟩])))))))) (.region [⟨0, ⟨(some 41), none, (.pure .id), [(.tmp 4)]⟩, []⟩, ⟨0, ⟨(some 42), none, (.pure (.bin .add .none)), [(.tmp 41), (.const (.int .i64 1))]⟩, []⟩, ⟨0, ⟨(some 4), none, (.pure .id), [(.tmp 42)]⟩, []⟩])))))) (.seq (.seq (.region [⟨0, ⟨(some 7), none, (.pure .id), [(.const (.int .i64 0))]⟩, []⟩]) (.block 4 (.loop (.seq (.seq (.region [⟨0, ⟨(some 73), none, (.pure .id), [(.tmp 7)]⟩, []⟩, ⟨0, ⟨(some 74), none, (.pure (.faddr 2)), [(.tmp 1)]⟩, []⟩, ⟨0, ⟨(some 75), none, (.load (.load 1 false)), [(.tmp 74)]⟩, []⟩, ⟨0, ⟨(some 76), none, (.pure .len), [(.tmp 75)]⟩, []⟩, ⟨0, ⟨(some 77), none, (.pure (.bin .lss .none)), [(.tmp 73), (.tmp 76)]⟩, []⟩]) (.cond (.tmp 77) .skip (.exit 4))) (.seq (.block 5 (.seq (.region [⟨0, ⟨(some 80), none, (.pure (.faddr 2)), [(.tmp 1)]⟩, []⟩, ⟨1, ⟨(some 81), none, (.load (.load 1 false)), [(.tmp 80)]⟩, []⟩, ⟨2, ⟨(some 82), none, (.pure .id), [(.tmp 7)]⟩, []⟩, ⟨3, ⟨(some 83), none, (.pure (.iaddr 1)), [(.tmp 81), (.tmp 82)]⟩, []⟩, ⟨4, ⟨(some 84), none, (.load (.load 1 false)), [(.tmp 83)]⟩, []⟩, ⟨5, ⟨(some 85), none, (.pure (.bin .lss .none)), [(.tmp 84), (.const (.int .i64 0))]⟩, []⟩, ⟨6, ⟨(some 86), none, (.pure .id), [(.tmp 85)]⟩, []⟩, ⟨7, ⟨(some 87), (some (86, false)), (.pure (.faddr 2)), [(.tmp 1)]⟩, []⟩, ⟨8, ⟨(some 88), (some (86, false)), (.load (.load 1 false)), [(.tmp 87)]⟩, []⟩, ⟨9, ⟨(some 89), (some (86, false)), (.pure .id), [(.tmp 7)]⟩, []⟩, ⟨10, ⟨(some 90), (some (86, false)), (.pure (.iaddr 1)), [(.tmp 88), (.tmp 89)]⟩, []⟩, ⟨11, ⟨(some 91), (some (86, false)), (.load (.load 1 false)), [(.tmp 90)]⟩, []⟩, ⟨12, ⟨(some 92), (some (86, false)), (.pure .id), [(.tmp 3)]⟩, []⟩, ⟨13, ⟨(some 93), (some (86, false)), (.pure (.bin .geq .none)), [(.tmp 91), (.tmp 92)]⟩, []⟩, ⟨14, ⟨(some 94), none, (.pure .pick), [(.tmp 86), (.const (.bool true)), (.tmp 93)]⟩, []⟩, ⟨15, ⟨(some 95), none, (.pure .id), [(.tmp 94)]⟩, []⟩, ⟨16, ⟨(some 96), (some (95, false)), (.pure .id), [(.tmp 7)]⟩, []⟩, ⟨17, ⟨(some 97), (some (95, false)), (.pure (.bin .gtr .none)), [(.tmp 96), (.const (.int .i64 0))]⟩, []⟩, ⟨18, ⟨(some 98), (some (95, false)), (.pure .id), [(.tmp 97)]⟩, []⟩, ⟨19, ⟨(some 99), (some (98, true)), (.pure (.faddr 2)), [(.tmp 1)]⟩, []⟩, ⟨20, ⟨(some 100), (some (98, true)), (.load (.load 1 false)), [(.tmp 99)]⟩, []⟩, ⟨21, ⟨(some 101), (some (98, true)), (.pure .id), [(.tmp 7)]⟩, []⟩, ⟨22, ⟨(some 102), (some (98, true)), (.pure (.bin .sub .none)), [(.tmp 101), (.const (.int .i64 1))]⟩, []⟩, ⟨23, ⟨(some 103), (some (98, true)), (.pure (.iaddr 1)), [(.tmp 100), (.tmp 102)]⟩, []⟩, ⟨24, ⟨(some 104), (some (98, true)), (.load (.load 1 false)), [(.tmp 103)]⟩, []⟩, ⟨25, ⟨(some 105), (some (98, true)), (.pure (.faddr 2)), [(.tmp 1)]⟩, []⟩, ⟨26, ⟨(some 106), (some (98, true)), (.load (.load 1 false)), [(.tmp 105)]⟩, []⟩, ⟨27, ⟨(some 107), (some (98, true)), (.pure .id), [(.tmp 7)]⟩, []⟩, ⟨28, ⟨(some 108), (some (98, true)), (.pure (.iaddr 1)), [(.tmp 106), (.tmp 107)]⟩, []⟩, ⟨29, ⟨(some 109), (some (98, true)), (.load (.load 1 false)), [(.tmp 108)]⟩, []⟩, ⟨30, ⟨(some 110), (some (98, true)), (.pure (.bin .geq .none)), [(.tmp 104), (.tmp 109)]⟩, []⟩, ⟨31, ⟨(some 111), (some (95, false)), (.pure .pick), [(.tmp 98), (.tmp 110), (.const (.bool false))]⟩, []⟩, ⟨32, ⟨(some 112), none, (.pure .pick), [(.tmp 95), (.const (.bool true)), (.tmp 111)]⟩, []⟩]) (.cond (.tmp 112) (.seq (.region [⟨0, ⟨(some 2), none, (.pure .id), [(.const (.bool false))]⟩, []⟩]) .ret) .skip))) (.region [⟨0, ⟨(some 78), none, (.pure .id), [(.tmp 7)]⟩, []⟩, ⟨0, ⟨(some 79), none, (.pure (.bin .add .none)), [(.tmp 78), (.const (.int .i64 1))]⟩, []⟩, ⟨0, ⟨(some 7), none, (.pure .id), [(.tmp 79)]⟩, []⟩])))))) (.seq (.region [⟨0, ⟨(some 2), none, (.pure .id), [(.const (.bool true))]⟩, []⟩]) .ret))))))⟩
theorem c19 : compF Try.prog Try.f19 = some g19 := by kernel_rfl
theorem gc19 {args : List DV} {σ : GS} {Post : DV → GS → Prop} (h : @exB Try.prog ⟨g19.body⟩ (genv0 args g19.ntmps) σ ⟨@gretB g19.results ⟨Post⟩⟩) : GCall Try.prog 19 args σ Post := gcall_ofB tryfollows Try.func19 (by kernel_rfl) c19 h
abbrev g29 : GFun := ⟨19, [(.tmp 2)], (.seq (.region [⟨0, ⟨(some 2), none, (.pure .id), [(.const .nils)]⟩, []⟩]) (.seq (.region [⟨0, ⟨(some 3), none, (.pure .id), [(.const .nils)]⟩, []⟩]) (.seq (.seq (.region [⟨0, ⟨(some 4), none, (.pure .id), [(.const (.int .i64 0))]⟩, []⟩]) (.block 0 (.loop (.seq (.seq (.region [⟨0, ⟨(some 5), none, (.pure .id), [(.tmp 4)]⟩, []⟩, ⟨0, ⟨(some 6), none, (.pure .id), [(.tmp 0)]⟩, []⟩, ⟨0, ⟨(some 7), none, (.pure .len), [(.tmp 6)]⟩, []⟩, ⟨0, ⟨(some 8), none, (.pure (.bin .lss .none)), [(.tmp 5), (.tmp 7)]⟩, []⟩]) (.cond (.tmp 8) .skip (.exit 0))) (.seq (.block 1 (.region [⟨0, ⟨(some 11), none, (.pure .id), [(.tmp 3)]⟩, []⟩, ⟨0, ⟨(some 12), none, (.pure .id), [(.tmp 0)]⟩, []⟩, ⟨0, ⟨(some 13), none, (.pure .id), [(.tmp 4)]⟩, []⟩, ⟨0, ⟨(some 14), none, (.pure (.iaddr 2)), [(.tmp 12), (.tmp 13)]⟩, []⟩, ⟨0, ⟨(some 15), none, (.pure (.faddr 1)), [(.tmp 14)]⟩, []⟩, ⟨0, ⟨(some 16), none, (.load (.load 1 false)), [(.tmp 15)]⟩, []⟩, ⟨0, ⟨(some 17), none, (.imp (.append 1 8)), [(.tmp 11), (.tmp 16)]⟩, []⟩, ⟨0, ⟨(some 3), none, (.pure .id), [(.tmp 17)]⟩, []⟩])) (.region [⟨0, ⟨(some 9), none, (.pure .id), [(.tmp 4)]⟩, []⟩, ⟨0, ⟨(some 10), none, (.pure (.bin .add .none)), [(.tmp 9), (.const (.int .i64 1))]⟩, []⟩, ⟨0, ⟨(some 4), none, (.pure .id), [(.tmp 10)]⟩, []⟩])))))) (.seq (.region [⟨0, ⟨(some 18), none, (.pure .id), [(.tmp 3)]⟩, []⟩, ⟨0, ⟨(some 2), none, (.pure .id), [(.tmp 18)]⟩, []⟩]) .ret))))⟩
theorem c29 : compF Try.prog Try.f29 = some g29 := by kernel_rfl
theorem gc29 {args : List DV} {σ : GS} {Post : DV → GS → Prop} (h : @exB Try.prog ⟨g29.body⟩ (genv0 args g29.ntmps) σ ⟨@gretB g29.results ⟨Post⟩⟩) : GCall Try.prog 29 args σ Post := gcall_ofB tryfollows Try.func29 (by kernel_rfl) c29 h
abbrev g57 : GFun := ⟨27, [(.tmp 4), (.tmp 5), (.tmp 6)], (.seq (.region [⟨0, ⟨(some 4), none, (.pure .id), [(.const (.int .i64 0))]⟩, []⟩, ⟨0, ⟨(some 5), none, (.pure .id), [(.const (.bool false))]⟩, []⟩, ⟨0, ⟨(some 6), none, (.pure .id), [(.const (.bool false))]⟩, []⟩]) (.seq (.seq (.region [⟨0, ⟨(some 7), none, (.pure .id), [(.const (.int .i64 0))]⟩, []⟩]) (.block 0 (.loop (.seq (.seq (.region [⟨0, ⟨(some 8), none, (.pure .id), [(.tmp 7)]⟩, []⟩, ⟨0, ⟨(some 9), none, (.pure .id), [(.tmp 0)]⟩, []⟩, ⟨0, ⟨(some 10), none, (.pure .len), [(.tmp 9)]⟩, []⟩, ⟨0, ⟨(some 11), none, (.pure (.bin .lss .none)), [(.tmp 8), (.tmp 10)]⟩, []⟩]) (.cond (.tmp 11) .skip (.exit 0))) (.seq (.block 1 (.seq (.region [⟨0, ⟨(some 14), none, (.pure .id), [(.tmp 0)]⟩, []⟩, ⟨0, ⟨(some 15), none, (.pure .id), [(.tmp 7)]⟩, []⟩, ⟨0, ⟨(some 16), none, (.pure (.iaddr 2)), [(.tmp 14), (.tmp 15)]⟩, []⟩, ⟨0, ⟨(some 17), none, (.pure (.faddr 1)), [(.tmp 16)]⟩, []⟩, ⟨0, ⟨(some 18), none, (.load (.load 1 false)), [(.tmp 17)]⟩, []⟩, ⟨0, ⟨(some 19), none, (.pure .id), [(.tmp 1)]⟩, []⟩, ⟨0, ⟨(some 20), none, (.call 24), [(.tmp 18), (.tmp 19)]⟩, []⟩]) (.cond (.tmp 20) (.seq (.region [⟨0, ⟨(some 21), none, (.pure .id), [(.tmp 7)]⟩, []⟩, ⟨1, ⟨(some 22), none, (.pure .id), [(.tmp 0)]⟩, []⟩, ⟨2, ⟨(some 23), none, (.pure .id), [(.tmp 7)]⟩, []⟩, ⟨3, ⟨(some 24), none, (.pure (.iaddr 2)), [(.tmp 22), (.tmp 23)]⟩, []⟩, ⟨4, ⟨(some 25), none, (.pure (.faddr 0)), [(.tmp 24)]⟩, []⟩, ⟨5, ⟨(some 26), none, (.load (.load 1 false)), [(.tmp 25)]⟩, []⟩, ⟨6, ⟨(some 4), none, (.pure .id), [(.tmp 21)]⟩, []⟩, ⟨7, ⟨(some 5), none, (.pure .id), [(.tmp 26)]⟩, []⟩, ⟨8, ⟨(some 6), none, (.pure .id), [(.const (.bool true))]⟩, []⟩]) .ret) .skip))) (.region [⟨0, ⟨(some 12), none, (.pure .id), [(.tmp 7)]⟩, []⟩, ⟨0, ⟨(some 13), none, (.pure (.bin .add .none)), [(.tmp 12), (.const (.int .i64 1))]⟩, []⟩, ⟨0, ⟨(some 7), none, (.pure .id), [(.tmp 13)]⟩, []⟩])))))) (.seq (.region [⟨0, ⟨(some 4), none, (.pure .id), [(.const (.int .i64 0))]⟩, []⟩, ⟨0, ⟨(some 5), none, (.pure .id), [(.const (.bool false))]⟩, []⟩, ⟨0, ⟨(some 6), none, (.pure .id), [(.const (.bool false))]⟩, []⟩]) .ret)))⟩
theorem c57 : compF Try.prog Try.f57 = some g57 := by kernel_rfl
theorem gc57 {args : List DV} {σ : GS} {Post : DV → GS → Prop} (h : @exB Try.prog ⟨g57.body⟩ (genv0 args g57.ntmps) σ ⟨@gretB g57.results ⟨Post⟩⟩) : GCall Try.prog 57 args σ Post := gcall_ofB tryfollows Try.func57 (by kernel_rfl) c57 h
abbrev g30 : GFun := ⟨70, [(.tmp 8)], (.seq (.region [⟨0, ⟨(some 4), none, (.new .box), [(.tmp 0)]⟩, []⟩, ⟨0, ⟨(some 8), none, (.pure .id), [(.const (.bool false))]⟩, []⟩]) (.seq (.seq (.region [⟨0, ⟨(some 15), none, (.pure .id), [(.tmp 2)]⟩, []⟩, ⟨0, ⟨(some 16), none, (.pure .id), [(.tmp 1)]⟩, []⟩, ⟨0, ⟨(some 17), none, (.pure .len), [(.tmp 16)]⟩, []⟩, ⟨0, ⟨(some 18), none, (.pure (.bin .eql .none)), [(.tmp 15), (.tmp 17)]⟩, []⟩]) (.cond (.tmp 18) (.seq (.region [⟨0, ⟨(some 20), none, (.load (.load 3 true)), [(.tmp 4)]⟩, []⟩, ⟨0, ⟨(some 21), none, (.pure .id), [(.tmp 3)]⟩, []⟩, ⟨0, ⟨(some 22), none, (.call 27), [(.tmp 20), (.tmp 21)]⟩, []⟩, ⟨0, ⟨(some 19), none, (.pure .id), [(.tmp 22)]⟩, []⟩, ⟨0, ⟨(some 23), none, (.pure (.extract 0)), [(.tmp 19)]⟩, []⟩, ⟨0, ⟨(some 24), none, (.pure (.extract 1)), [(.tmp 19)]⟩, []⟩, ⟨0, ⟨(some 9), none, (.pure .id), [(.tmp 23)]⟩, []⟩, ⟨0, ⟨(some 10), none, (.pure .id), [(.tmp 24)]⟩, []⟩]) (.seq (.region [⟨0, ⟨(some 25), none, (.pure .id), [(.tmp 9)]⟩, []⟩, ⟨0, ⟨(some 8), none, (.pure .id), [(.tmp 25)]⟩, []⟩]) .ret)) .skip)) (.seq (.region [⟨0, ⟨(some 27), none, (.pure (.faddr 0)), [(.tmp 4)]⟩, []⟩, ⟨1, ⟨(some 28), none, (.load (.load 1 false)), [(.tmp 27)]⟩, []⟩, ⟨2, ⟨(some 29), none, (.pure .id), [(.tmp 1)]⟩, []⟩, ⟨3, ⟨(some 30), none, (.pure .id), [(.tmp 2)]⟩, []⟩, ⟨4, ⟨(some 31), none, (.pure (.iaddr 1)), [(.tmp 29), (.tmp 30)]⟩, []⟩, ⟨5, ⟨(some 32), none, (.load (.load 1 false)), [(.tmp 31)]⟩, []⟩, ⟨6, ⟨(some 33), none, (.call 57), [(.tmp 28), (.tmp 32)]⟩, []⟩, ⟨7, ⟨(some 26), none, (.pure .id), [(.tmp 33)]⟩, []⟩, ⟨8, ⟨(some 34), none, (.pure (.extract 0)), [(.tmp 26)]⟩, []⟩, ⟨9, ⟨(some 35), none, (.pure (.extract 1)), [(.tmp 26)]⟩, []⟩, ⟨10, ⟨(some 36), none, (.pure (.extract 2)), [(.tmp 26)]⟩, []⟩, ⟨11, ⟨(some 11), none, (.pure .id), [(.tmp 34)]⟩, []⟩, ⟨12, ⟨(some 12), none, (.pure .id), [(.tmp 35)]⟩, []⟩, ⟨13, ⟨(some 13), none, (.pure .id), [(.tmp 36)]⟩, []⟩]) (.seq (.region [⟨0, ⟨(some 37), none, (.load (.load 3 true)), [(.tmp 4)]⟩, []⟩, ⟨1, ⟨(some 38), none, (.pure .id), [(.tmp 1)]⟩, []⟩, ⟨2, ⟨(some 39), none, (.pure .id), [(.tmp 2)]⟩, []⟩, ⟨3, ⟨(some 40), none, (.pure (.bin .add .none)), [(.tmp 39), (.const (.int .i64 1))]⟩, []⟩, ⟨4, ⟨(some 41), none, (.new (.bslice 1 [(.int .i64 0)] 0 [])), []⟩, []⟩, ⟨5, ⟨(some 42), none, (.pure .id), [(.tmp 3)]⟩, []⟩, ⟨7, ⟨(some 44), none, (.pure .id), [(.tmp 1)]⟩, []⟩, ⟨8, ⟨(some 45), none, (.pure .id), [(.tmp 2)]⟩, []⟩, ⟨9, ⟨(some 46), none, (.pure (.iaddr 1)), [(.tmp 44), (.tmp 45)]⟩, []⟩, ⟨10, ⟨(some 47), none, (.load (.load 1 false)), [(.tmp 46)]⟩, []⟩, ⟨11, ⟨(some 48), none, (.new (.bslice 1 [(.int .i64 0)] 1 [(0, 1)])), [(.tmp 47)]⟩, []⟩, ⟨6, ⟨(some 43), none, (.imp (.append 1 8)), [(.tmp 41), (.tmp 42)]⟩, [⟨(some 37), none, (.load (.load 3 true)), [(.tmp 4)]⟩, ⟨(some 47), none, (.load (.load 1 false)), [(.tmp 46)]⟩, ⟨(some 48), none, (.new (.bslice 1 [(.int .i64 0)] 1 [(0, 1)])), [(.tmp 47)]⟩]⟩, ⟨12, ⟨(some 49), none, (.imp (.append 1 8)), [(.tmp 43), (.tmp 48)]⟩, [⟨(some 37), none, (.load (.load 3 true)), [(.tmp 4)]⟩]⟩, ⟨13, ⟨(some 50), none, (.call 30), [(.tmp 37), (.tmp 38), (.tmp 40), (.tmp 49)]⟩, []⟩, ⟨14, ⟨(some 14), none, (.pure .id), [(.tmp 50)]⟩, []⟩]) (.seq (.seq (.region [⟨0, ⟨(some 51), none, (.pure .id), [(.tmp 14)]⟩, []⟩, ⟨0, ⟨(some 52), none, (.pure .id), [(.tmp 12)]⟩, []⟩, ⟨0, ⟨(some 53), none, (.pure (.bin .eql .bool)), [(.tmp 51), (.tmp 52)]⟩, []⟩]) (.cond (.tmp 53) (.seq (.region [⟨0, ⟨(some 54), none, (.pure .id), [(.tmp 14)]⟩, []⟩, ⟨0, ⟨(some 8), none, (.pure .id), [(.tmp 54)]⟩, []⟩]) .ret) .skip)) (.seq (.region [⟨0, ⟨(some 55), none, (.load (.load 3 true)), [(.tmp 4)]⟩, []⟩, ⟨1, ⟨(some 56), none, (.pure .id), [(.tmp 1)]⟩, []⟩, ⟨2, ⟨(some 57), none, (.pure .id), [(.tmp 2)]⟩, []⟩, ⟨3, ⟨(some 58), none, (.pure (.bin .add .none)), [(.tmp 57), (.const (.int .i64 1))]⟩, []⟩, ⟨4, ⟨(some 59), none, (.new (.bslice 1 [(.int .i64 0)] 0 [])), []⟩, []⟩, ⟨5, ⟨(some 60), none, (.pure .id), [(.tmp 3)]⟩, []⟩, ⟨7, ⟨(some 62), none, (.pure .id), [(.tmp 1)]⟩, []⟩, ⟨8, ⟨(some 63), none, (.pure .id), [(.tmp 2)]⟩, []⟩, ⟨9, ⟨(some 64), none, (.pure (.iaddr 1)), [(.tmp 62), (.tmp 63)]⟩, []⟩, ⟨10, ⟨(some 65), none, (.load (.load 1 false)), [(.tmp 64)]⟩, []⟩, ⟨11, ⟨(some 66), none, (.pure (.un .neg)), [(.tmp 65)]⟩, []⟩, ⟨12, ⟨(some 67), none, (.new (.bslice 1 [(.int .i64 0)] 1 [(0, 1)])), [(.tmp 66)]⟩, []⟩, ⟨6, ⟨(some 61), none, (.imp (.append 1 8)), [(.tmp 59), (.tmp 60)]⟩, [⟨(some 55), none, (.load (.load 3 true)), [(.tmp 4)]⟩, ⟨(some 65), none, (.load (.load 1 false)), [(.tmp 64)]⟩, ⟨(some 67), none, (.new (.bslice 1 [(.int .i64 0)] 1 [(0, 1)])), [(.tmp 66)]⟩]⟩, ⟨13, ⟨(some 68), none, (.imp (.append 1 8)), [(.tmp 61), (.tmp 67)]⟩, [⟨(some 55), none, (.load (.load 3 true)), [(.tmp 4)]⟩]⟩, ⟨14, ⟨(some 69), none, (.call 30), [(.tmp 55), (.tmp 56), (.tmp 58), (.tmp 68)]⟩, []⟩, ⟨15, ⟨(some 8), none, (.pure .id), [(.tmp 69)]⟩, []⟩]) .ret))))))⟩
theorem c30 : compF Try.prog Try.f30 = some g30 := by kernel_rfl
theorem gc30 {args : List DV} {σ : GS} {Post : DV → GS → Prop} (h : @exB Try.prog ⟨g30.body⟩ (genv0 args g30.ntmps) σ ⟨@gretB g30.results ⟨Post⟩⟩) : GCall Try.prog 30 args σ Post := gcall_ofB tryfollows Try.func30 (by kernel_rfl) c30 h
abbrev g34 : GFun := ⟨38, [(.tmp 6)], (.seq (.region [⟨0, ⟨(some 3), none, (.new .box), [(.tmp 0)]⟩, []⟩, ⟨0, ⟨(some 6), none, (.pure .id), [(.const .nils)]⟩, []⟩]) (.seq (.region [⟨0, ⟨(some 7), none, (.pure .id), [(.const .nils)]⟩, []⟩]) (.seq (.seq (.region [⟨0, ⟨(some 9), none, (.pure (.faddr 4)), [(.tmp 3)]⟩, []⟩, ⟨0, ⟨(some 10), none, (.load (.load 1 false)), [(.tmp 9)]⟩, []⟩, ⟨0, ⟨(some 11), none, (.pure .id), [(.const (.int .i64 0))]⟩, []⟩]) (.block 0 (.loop (.seq (.region [⟨0, ⟨(some 12), none, (.pure (.bin .lss .none)), [(.tmp 11), (.tmp 10)]⟩, []⟩]) (.seq (.cond (.tmp 12) .skip (.exit 0)) (.seq (.block 1 (.seq (.region [⟨0, ⟨(some 13), none, (.pure .id), [(.tmp 11)]⟩, []⟩, ⟨0, ⟨(some 8), none, (.pure .id), [(.tmp 13)]⟩, []⟩]) (.seq (.region [⟨0, ⟨(some 14), none, (.pure .id), [(.tmp 7)]⟩, []⟩, ⟨0, ⟨(some 15), none, (.pure (.faddr 4)), [(.tmp 3)]⟩, []⟩, ⟨0, ⟨(some 16), none, (.load (.load 1 false)), [(.tmp 15)]⟩, []⟩, ⟨0, ⟨(some 17), none, (.pure (.bin .mul .none)), [(.const (.int .i64 2)), (.tmp 16)]⟩, []⟩, ⟨0, ⟨(some 18), none, (.pure .id), [(.tmp 1)]⟩, []⟩, ⟨0, ⟨(some 19), none, (.pure (.bin .sub .none)), [(.tmp 18), (.const (.int .i64 1))]⟩, []⟩, ⟨0, ⟨(some 20), none, (.pure (.bin .mul .none)), [(.tmp 17), (.tmp 19)]⟩, []⟩, ⟨0, ⟨(some 21), none, (.pure (.bin .add .none)), [(.tmp 20), (.const (.int .i64 1))]⟩, []⟩, ⟨0, ⟨(some 22), none, (.pure .id), [(.tmp 8)]⟩, []⟩, ⟨0, ⟨(some 23), none, (.pure (.bin .add .none)), [(.tmp 21), (.tmp 22)]⟩, []⟩, ⟨0, ⟨(some 24), none, (.new (.bslice 1 [(.int .i64 0)] 1 [(0, 1)])), [(.tmp 23)]⟩, []⟩, ⟨0, ⟨(some 25), none, (.imp (.append 1 8)), [(.tmp 14), (.tmp 24)]⟩, []⟩, ⟨0, ⟨(some 7), none, (.pure .id), [(.tmp 25)]⟩, []⟩]) (.seq (.region [⟨0, ⟨(some 26), none, (.pure .id), [(.tmp 2)]⟩, []⟩, ⟨0, ⟨(some 27), none, (.pure (.un .not)), [(.tmp 26)]⟩, []⟩]) (.cond (.tmp 27) (.region [⟨0, ⟨(some 28), none, (.pure .id), [(.tmp 7)]⟩, []⟩, ⟨1, ⟨(some 29), none, (.pure .id), [(.tmp 8)]⟩, []⟩, ⟨2, ⟨(some 30), none, (.pure (.iaddr 1)), [(.tmp 28), (.tmp 29)]⟩, []⟩, ⟨3, ⟨(some 31), none, (.load (.load 1 false)), [(.tmp 30)]⟩, []⟩, ⟨4, ⟨(some 32), none, (.pure (.faddr 4)), [(.tmp 3)]⟩, []⟩, ⟨5, ⟨(some 33), none, (.load (.load 1 false)), [(.tmp 32)]⟩, []⟩, ⟨6, ⟨(some 34), none, (.pure (.bin .add .none)), [(.tmp 31), (.tmp 33)]⟩, []⟩, ⟨7, ⟨(some 35), none, (.pure (.iaddr 1)), [(.tmp 28), (.tmp 29)]⟩, []⟩, ⟨8, ⟨none, none, (.imp (.store 1)), [(.tmp 35), (.tmp 34)]⟩, []⟩]) .skip))))) (.region [⟨0, ⟨(some 36), none, (.pure (.bin .add .none)), [(.tmp 11), (.const (.int .i64 1))]⟩, []⟩, ⟨0, ⟨(some 11), none, (.pure .id), [(.tmp 36)]⟩, []⟩]))))))) (.seq (.region [⟨0, ⟨(some 37), none, (.pure .id), [(.tmp 7)]⟩, []⟩, ⟨0, ⟨(some 6), none, (.pure .id), [(.tmp 37)]⟩, []⟩]) .ret))))⟩
theorem c34 : compF Try.prog Try.f34 = some g34 := by kernel_rfl
theorem gc34 {args : List DV} {σ : GS} {Post : DV → GS → Prop} (h : @exB Try.prog ⟨g34.body⟩ (genv0 args g34.ntmps) σ ⟨@gretB g34.results ⟨Post⟩⟩) : GCall Try.prog 34 args σ Post := gcall_ofB tryfollows Try.func34 (by kernel_rfl) c34 h
abbrev g32 : GFun := ⟨33, [(.cell 2 5 true), (.tmp 3)], (.seq (.region [⟨0, ⟨(some 1), none, (.new .box), [(.tmp 0)]⟩, []⟩, ⟨0, ⟨(some 2), none, (.new (.alloc [.nils, (.int .i64 0), .nils, (.int .i64 0), (.int .i64 0)])), []⟩, []⟩, ⟨0, ⟨(some 3), none, (.pure .id), [(.const (.int .i64 0))]⟩, []⟩]) (.seq (.seq (.region [⟨0, ⟨(some 7), none, (.load (.load 4 true)), [(.tmp 1)]⟩, []⟩, ⟨0, ⟨(some 8), none, (.call 18), [(.tmp 7)]⟩, []⟩, ⟨0, ⟨(some 9), none, (.pure (.un .not)), [(.tmp 8)]⟩, []⟩]) (.cond (.tmp 9) (.seq (.region [⟨0, ⟨(some 10), none, (.pure (.build [.nils, (.int .i64 0), .nils, (.int .i64 0), (.int .i64 0)] [])), []⟩, []⟩, ⟨0, ⟨none, none, (.imp (.store 5)), [(.tmp 2), (.tmp 10)]⟩, []⟩, ⟨0, ⟨(some 3), none, (.pure .id), [(.const (.int .i64 2))]⟩, []⟩]) .ret) .skip)) (.seq (.region [⟨0, ⟨(some 11), none, (.load (.load 4 true)), [(.tmp 1)]⟩, []⟩, ⟨0, ⟨(some 12), none, (.pure (.build [.nils, (.int .i64 0), .nils, (.int .i64 0), (.int .i64 0)] [(0, 4)])), [(.tmp 11)]⟩, []⟩, ⟨0, ⟨(some 4), none, (.new (.alloc [.nils, (.int .i64 0), .nils, (.int .i64 0), (.int .i64 0)])), []⟩, []⟩, ⟨0, ⟨none, none, (.imp (.store 5)), [(.tmp 4), (.tmp 12)]⟩, []⟩]) (.seq (.seq (.region [⟨0, ⟨(some 13), none, (.pure (.faddr 0)), [(.tmp 1)]⟩, []⟩, ⟨0, ⟨(some 14), none, (.load (.load 1 false)), [(.tmp 13)]⟩, []⟩, ⟨0, ⟨(some 15), none, (.pure .len), [(.tmp 14)]⟩, []⟩, ⟨0, ⟨(some 16), none, (.pure .id), [(.const (.int .i64 0))]⟩, []⟩]) (.block 0 (.loop (.seq (.region [⟨0, ⟨(some 17), none, (.pure (.bin .lss .none)), [(.tmp 16), (.tmp 15)]⟩, []⟩]) (.seq (.cond (.tmp 17) .skip (.exit 0)) (.seq (.block 1 (.seq (.region [⟨0, ⟨(some 18), none, (.pure (.iaddr 2)), [(.tmp 14), (.tmp 16)]⟩, []⟩, ⟨0, ⟨(some 19), none, (.load (.load 2 true)), [(.tmp 18)]⟩, []⟩, ⟨0, ⟨(some 6), none, (.new (.alloc [(.bool false), .nils])), []⟩, []⟩, ⟨0, ⟨none, none, (.imp (.store 2)), [(.tmp 6), (.tmp 19)]⟩, []⟩]) (.block 2 (.loop (.seq (.seq (.region [⟨0, ⟨(some 20), none, (.pure (.faddr 1)), [(.tmp 6)]⟩, []⟩, ⟨1, ⟨(some 21), none, (.load (.load 1 false)), [(.tmp 20)]⟩, []⟩, ⟨2, ⟨(some 22), none, (.pure .len), [(.tmp 21)]⟩, []⟩, ⟨3, ⟨(some 23), none, (.pure (.faddr 4)), [(.tmp 4)]⟩, []⟩, ⟨4, ⟨(some 24), none, (.load (.load 1 false)), [(.tmp 23)]⟩, []⟩, ⟨5, ⟨(some 25), none, (.pure (.bin .shl .none)), [(.const (.int .i64 1)), (.tmp 24)]⟩, []⟩, ⟨6, ⟨(some 26), none, (.pure (.bin .gtr .none)), [(.tmp 22), (.tmp 25)]⟩, []⟩]) (.cond (.tmp 26) .skip (.exit 2))) (.block 3 (.region [⟨0, ⟨(some 27), none, (.pure (.faddr 4)), [(.tmp 4)]⟩, []⟩, ⟨0, ⟨(some 28), none, (.load (.load 1 false)), [(.tmp 27)]⟩, []⟩, ⟨0, ⟨(some 29), none, (.pure (.bin .add .none)), [(.tmp 28), (.const (.int .i64 1))]⟩, []⟩, ⟨0, ⟨(some 30), none, (.pure (.faddr 4)), [(.tmp 4)]⟩, []⟩, ⟨0, ⟨none, none, (.imp (.store 1)), [(.tmp 30), (.tmp 29)]⟩, []⟩]))))))) (.region [⟨0, ⟨(some 31), none, (.pure (.bin .add .none)), [(.tmp 16), (.const (.int .i64 1))]⟩, []⟩, ⟨0, ⟨(some 16), none, (.pure .id), [(.tmp 31)]⟩, []⟩]))))))) (.seq (.region [⟨0, ⟨(some 32), none, (.load (.load 5 true)), [(.tmp 4)]⟩, []⟩, ⟨0, ⟨none, none, (.imp (.store 5)), [(.tmp 2), (.tmp 32)]⟩, []⟩, ⟨0, ⟨(some 3), none, (.pure .id), [(.const (.int .i64 0))]⟩, []⟩]) .ret)))))⟩
theorem c32 : compF Try.prog Try.f32 = some g32 := by kernel_rfl
theorem gc32 {args : List DV} {σ : GS} {Post : DV → GS → Prop} (h : @exB Try.prog ⟨g32.body⟩ (genv0 args g32.ntmps) σ ⟨@gretB g32.results ⟨Post⟩⟩) : GCall Try.prog 32 args σ Post := gcall_ofB tryfollows Try.func32 (by kernel_rfl) c32 h
abbrev g18 : GFun := ⟨58, [(.tmp 2)], (.seq (.region [⟨0, ⟨(some 1), none, (.new .box), [(.tmp 0)]⟩, []⟩, ⟨0, ⟨(some 2), none, (.pure .id), [(.const (.bool false))]⟩, []⟩]) (.seq (.region [⟨0, ⟨(some 6), none, (.pure (.faddr 0)), [(.tmp 1)]⟩, []⟩, ⟨0, ⟨(some 7), none, (.load (.load 1 false)), [(.tmp 6)]⟩, []⟩, ⟨0, ⟨(some 8), none, (.pure .len), [(.tmp 7)]⟩, []⟩, ⟨0, ⟨(some 3), none, (.new (.alloc [(.int .i64 0)])), []⟩, []⟩, ⟨0, ⟨none, none, (.imp (.store 1)), [(.tmp 3), (.tmp 8)]⟩, []⟩]) (.seq (.region [⟨0, ⟨(some 9), none, (.pure (.mkfunc 42 0)), [(.tmp 3)]⟩, []⟩, ⟨0, ⟨(some 4), none, (.new (.alloc [.nilf])), []⟩, []⟩, ⟨0, ⟨none, none, (.imp (.store 1)), [(.tmp 4), (.tmp 9)]⟩, []⟩]) (.seq (.seq (.region [⟨0, ⟨(some 10), none, (.load (.load 1 false)), [(.tmp 3)]⟩, []⟩, ⟨0, ⟨(some 11), none, (.pure (.bin .gtr .none)), [(.tmp 10), (.const (.int .i64 16))]⟩, []⟩, ⟨0, ⟨(some 12), none, (.pure .id), [(.tmp 11)]⟩, []⟩, ⟨0, ⟨(some 13), (some (12, false)), (.load (.load 1 false)), [(.tmp 4)]⟩, []⟩, ⟨0, ⟨(some 14), (some (12, false)), (.pure (.faddr 1)), [(.tmp 1)]⟩, []⟩, ⟨0, ⟨(some 15), (some (12, false)), (.load (.load 1 false)), [(.tmp 14)]⟩, []⟩, ⟨0, ⟨(some 16), (some (12, false)), .callv, [(.tmp 13), (.tmp 15)]⟩, []⟩, ⟨0, ⟨(some 17), none, (.pure .pick), [(.tmp 12), (.const (.bool true)), (.tmp 16)]⟩, []⟩, ⟨0, ⟨(some 18), none, (.pure .id), [(.tmp 17)]⟩, []⟩, ⟨0, ⟨(some 19), (some (18, false)), (.pure (.faddr 3)), [(.tmp 1)]⟩, []⟩, ⟨0, ⟨(some 20), (some (18, false)), (.load (.load 1 false)), [(.tmp 19)]⟩, []⟩, ⟨0, ⟨(some 21), (some (18, false)), (.pure (.bin .lss .none)), [(.tmp 20), (.const (.int .i64 0))]⟩, []⟩, ⟨0, ⟨(some 22), none, (.pure .pick), [(.tmp 18), (.const (.bool true)), (.tmp 21)]⟩, []⟩, ⟨0, ⟨(some 23), none, (.pure .id), [(.tmp 22)]⟩, []⟩, ⟨0, ⟨(some 24), (some (23, false)), (.pure (.faddr 3)), [(.tmp 1)]⟩, []⟩, ⟨0, ⟨(some 25), (some (23, false)), (.load (.load 1 false)), [(.tmp 24)]⟩, []⟩, ⟨0, ⟨(some 26), (some (23, false)), (.pure (.bin .gtr .none)), [(.tmp 25), (.const (.int .i64 8))]⟩, []⟩, ⟨0, ⟨(some 27), none, (.pure .pick), [(.tmp 23), (.const (.bool true)), (.tmp 26)]⟩, []⟩, ⟨0, ⟨(some 28), none, (.pure .id), [(.tmp 27)]⟩, []⟩, ⟨0, ⟨(some 29), (some (28, false)), (.pure (.faddr 2)), [(.tmp 1)]⟩, []⟩, ⟨0, ⟨(some 30), (some (28, false)), (.load (.load 1 false)), [(.tmp 29)]⟩, []⟩, ⟨0, ⟨(some 31), (some (28, false)), (.load (.load 1 false)), [(.tmp 4)]⟩, []⟩, ⟨0, ⟨(some 32), (some (28, false)), (.call 43), [(.tmp 30), (.tmp 31)]⟩, []⟩, ⟨0, ⟨(some 33), none, (.pure .pick), [(.tmp 28), (.const (.bool true)), (.tmp 32)]⟩, []⟩]) (.cond (.tmp 33) (.seq (.region [⟨0, ⟨(some 2), none, (.pure .id), [(.const (.bool false))]⟩, []⟩]) .ret) .skip)) (.seq (.seq (.region [⟨0, ⟨(some 5), none, (.pure .id), [(.const (.int .i64 1))]⟩, []⟩]) (.block 0 (.loop (.seq (.seq (.region [⟨0, ⟨(some 34), none, (.pure .id), [(.tmp 5)]⟩, []⟩, ⟨0, ⟨(some 35), none, (.pure (.faddr 2)), [(.tmp 1)]⟩, []⟩, ⟨0, ⟨(some 36), none, (.load (.load 1 false)), [(.tmp 35)]⟩, []⟩, ⟨0, ⟨(some 37), none, (.pure .len), [(.tmp 36)]⟩, []⟩, ⟨0, ⟨(some 38), none, (.pure (.bin .lss .none)), [(.tmp 34), (.tmp 37)]⟩, []⟩]) (.cond (.tmp 38) .skip (.exit 0))) (.seq (.block 1 (.seq (.region [⟨0, ⟨(some 41), none, (.pure (.faddr 2)), [(.tmp 1)]⟩, []⟩, ⟨1, ⟨(some 42), none, (.load (.load 1 false)), [(.tmp 41)]⟩, []⟩, ⟨2, ⟨(some 43), none, (.pure .id), [(.tmp 5)]⟩, []⟩, ⟨3, ⟨(some 44), none, (.pure (.bin .sub .none)), [(.tmp 43), (.const (.int .i64 1))]⟩, []⟩, ⟨4, ⟨(some 45), none, (.pure (.iaddr 1)), [(.tmp 42), (.tmp 44)]⟩, []⟩, ⟨5, ⟨(some 46), none, (.load (.load 1 false)), [(.tmp 45)]⟩, []⟩, ⟨6, ⟨(some 47), none, (.pure (.faddr 2)), [(.tmp 1)]⟩, []⟩, ⟨7, ⟨(some 48), none, (.load (.load 1 false)), [(.tmp 47)]⟩, []⟩, ⟨8, ⟨(some 49), none, (.pure .id), [(.tmp 5)]⟩, []⟩, ⟨9, ⟨(some 50), none, (.pure (.iaddr 1)), [(.tmp 48), (.tmp 49)]⟩, []⟩, ⟨10, ⟨(some 51), none, (.load (.load 1 false)), [(.tmp 50)]⟩, []⟩, ⟨11, ⟨(some 52), none, (.pure (.bin .geq .none)), [(.tmp 46), (.tmp 51)]⟩, []⟩]) (.cond (.tmp 52) (.seq (.region [⟨0, ⟨(some 2), none, (.pure .id), [(.const (.bool false))]⟩, []⟩]) .ret) .skip))) (.region [⟨0, ⟨(some 39), none, (.pure .id), [(.tmp 5)]⟩, []⟩, ⟨0, ⟨(some 40), none, (.pure (.bin .add .none)), [(.tmp 39), (.const (.int .i64 1))]⟩, []⟩, ⟨0, ⟨(some 5), none, (.pure .id), [(.tmp 40)]⟩, []⟩])))))) (.seq (.region [⟨0, ⟨(some 53), none, (.pure (.faddr 0)), [(.tmp 1)]⟩, []⟩, ⟨0, ⟨(some 54), none, (.load (.load 1 false)), [(.tmp 53)]⟩, []⟩, ⟨0, ⟨(some 55), none, (.pure (.mkfunc 45 0)), [(.tmp 4)]⟩, []⟩, ⟨0, ⟨(some 56), none, (.call 44), [(.tmp 54), (.tmp 55)]⟩, []⟩, ⟨0, ⟨(some 57), none, (.pure (.un .not)), [(.tmp 56)]⟩, []⟩, ⟨0, ⟨(some 2), none, (.pure .id), [(.tmp 57)]⟩, []⟩]) .ret))))))⟩
theorem c18 : compF Try.prog Try.f18 = some g18 := by kernel_rfl
theorem gc18 {args : List DV} {σ : GS} {Post : DV → GS → Prop} (h : @exB Try.prog ⟨g18.body⟩ (genv0 args g18.ntmps) σ ⟨@gretB g18.results ⟨Post⟩⟩) : GCall Try.prog 18 args σ Post := gcall_ofB tryfollows Try.func18 (by kernel_rfl) c18 h
abbrev g42 : GFun := ⟨11, [(.tmp 3)], (.seq (.region [⟨0, ⟨(some 3), none, (.pure .id), [(.const (.bool false))]⟩, []⟩]) (.seq (.region [⟨0, ⟨(some 4), none, (.pure .id), [(.tmp 0)]⟩, []⟩, ⟨0, ⟨(some 5), none, (.pure (.bin .lss .none)), [(.tmp 4), (.const (.int .i64 0))]⟩, []⟩, ⟨0, ⟨(some 6), none, (.pure .id), [(.tmp 5)]⟩, []⟩, ⟨0, ⟨(some 7), (some (6, false)), (.pure .id), [(.tmp 0)]⟩, []⟩, ⟨0, ⟨(some 8), (some (6, false)), (.load (.load 1 false)), [(.tmp 1)]⟩, []⟩, ⟨0, ⟨(some 9), (some (6, false)), (.pure (.bin .geq .none)), [(.tmp 7), (.tmp 8)]⟩, []⟩, ⟨0, ⟨(some 10), none, (.pure .pick), [(.tmp 6), (.const (.bool true)), (.tmp 9)]⟩, []⟩, ⟨0, ⟨(some 3), none, (.pure .id), [(.tmp 10)]⟩, []⟩]) .ret))⟩
theorem c42 : compF Try.prog Try.f42 = some g42 := by kernel_rfl
theorem gc42 {args : List DV} {σ : GS} {Post : DV → GS → Prop} (h : @exB Try.prog ⟨g42.body⟩ (genv0 args g42.ntmps) σ ⟨@gretB g42.results ⟨Post⟩⟩) : GCall Try.prog 42 args σ Post := gcall_ofB tryfollows Try.func42 (by kernel_rfl) c42 h
abbrev g43 : GFun := ⟨9, [(.tmp 4)], (.seq (.region [⟨0, ⟨(some 4), none, (.pure .id), [(.const (.bool false))]⟩, []⟩]) (.seq (.region [⟨0, ⟨(some 5), none, (.pure .id), [(.tmp 0)]⟩, []⟩, ⟨0, ⟨(some 6), none, (.pure .id), [(.tmp 1)]⟩, []⟩, ⟨0, ⟨(some 7), none, (.call 39), [(.tmp 5), (.tmp 6)]⟩, []⟩, ⟨0, ⟨(some 8), none, (.pure (.bin .geq .none)), [(.tmp 7), (.const (.int .i64 0))]⟩, []⟩, ⟨0, ⟨(some 4), none, (.pure .id), [(.tmp 8)]⟩, []⟩]) .ret))⟩
theorem c43 : compF Try.prog Try.f43 = some g43 := by kernel_rfl
theorem gc43 {args : List DV} {σ : GS} {Post : DV → GS → Prop} (h : @exB Try.prog ⟨g43.body⟩ (genv0 args g43.ntmps) σ ⟨@gretB g43.results ⟨Post⟩⟩) : GCall Try.prog 43 args σ Post := gcall_ofB tryfollows Try.func43 (by kernel_rfl) c43 h
abbrev g44 : GFun := ⟨9, [(.tmp 4)], (.seq (.region [⟨0, ⟨(some 4), none, (.pure .id), [(.const (.bool false))]⟩, []⟩]) (.seq (.region [⟨0, ⟨(some 5), none, (.pure .id), [(.tmp 0)]⟩, []⟩, ⟨0, ⟨(some 6), none, (.pure .id), [(.tmp 1)]⟩, []⟩, ⟨0, ⟨(some 7), none, (.call 59), [(.tmp 5), (.tmp 6)]⟩, []⟩, ⟨0, ⟨(some 8), none, (.pure (.bin .geq .none)), [(.tmp 7), (.const (.int .i64 0))]⟩, []⟩, ⟨0, ⟨(some 4), none, (.pure .id), [(.tmp 8)]⟩, []⟩]) .ret))⟩
theorem c44 : compF Try.prog Try.f44 = some g44 := by kernel_rfl
theorem gc44 {args : List DV} {σ : GS} {Post : DV → GS → Prop} (h : @exB Try.prog ⟨g44.body⟩ (genv0 args g44.ntmps) σ ⟨@gretB g44.results ⟨Post⟩⟩) : GCall Try.prog 44 args σ Post := gcall_ofB tryfollows Try.func44 (by kernel_rfl) c44 h
abbrev g45 : GFun := ⟨14, [(.tmp 3)], (.seq (.region [⟨0, ⟨(some 2), none, (.new .box), [(.tmp 0)]⟩, []⟩, ⟨0, ⟨(some 3), none, (.pure .id), [(.const (.bool false))]⟩, []⟩]) (.seq (.region [⟨0, ⟨(some 4), none, (.pure (.faddr 1)), [(.tmp 2)]⟩, []⟩, ⟨0, ⟨(some 5), none, (.load (.load 1 false)), [(.tmp 4)]⟩, []⟩, ⟨0, ⟨(some 6), none, (.pure .len), [(.tmp 5)]⟩, []⟩, ⟨0, ⟨(some 7), none, (.pure (.bin .gtr .none)), [(.tmp 6), (.const (.int .i64 4))]⟩, []⟩, ⟨0, ⟨(some 8), none, (.pure .id), [(.tmp 7)]⟩, []⟩, ⟨0, ⟨(some 9), (some (8, false)), (.pure (.faddr 1)), [(.tmp 2)]⟩, []⟩, ⟨0, ⟨(some 10), (some (8, false)), (.load (.load 1 false)), [(.tmp 9)]⟩, []⟩, ⟨0, ⟨(some 11), (some (8, false)), (.load (.load 1 false)), [(.tmp 1)]⟩, []⟩, ⟨0, ⟨(some 12), (some (8, false)), (.call 43), [(.tmp 10), (.tmp 11)]⟩, []⟩, ⟨0, ⟨(some 13), none, (.pure .pick), [(.tmp 8), (.const (.bool true)), (.tmp 12)]⟩, []⟩, ⟨0, ⟨(some 3), none, (.pure .id), [(.tmp 13)]⟩, []⟩]) .ret))⟩
theorem c45 : compF Try.prog Try.f45 = some g45 := by kernel_rfl
theorem gc45 {args : List DV} {σ : GS} {Post : DV → GS → Prop} (h : @exB Try.prog ⟨g45.body⟩ (genv0 args g45.ntmps) σ ⟨@gretB g45.results ⟨Post⟩⟩) : GCall Try.prog 45 args σ Post := gcall_ofB tryfollows Try.func45 (by kernel_rfl) c45 h
abbrev g39 : GFun := ⟨19, [(.tmp 4)], (.seq (.region [⟨0, ⟨(some 4), none, (.pure .id), [(.const (.int .i64 0))]⟩, []⟩]) (.seq (.seq (.region [⟨0, ⟨(some 6), none, (.pure .id), [(.tmp 0)]⟩, []⟩, ⟨0, ⟨(some 7), none, (.pure .len), [(.tmp 6)]⟩, []⟩, ⟨0, ⟨(some 8), none, (.pure .id), [(.const (.int .i64 0))]⟩, []⟩]) (.block 0 (.loop (.seq (.region [⟨0, ⟨(some 9), none, (.pure (.bin .lss .none)), [(.tmp 8), (.tmp 7)]⟩, []⟩]) (.seq (.cond (.tmp 9) .skip (.exit 0)) (.seq (.block 1 (.seq (.region [⟨0, ⟨(some 10), none, (.pure .id), [(.tmp 8)]⟩, []⟩, ⟨0, ⟨(some 5), none, (.pure .id), [(.tmp 10)]⟩, []⟩]) (.seq (.region [⟨0, ⟨(some 11), none, (.pure .id), [(.tmp 1)]⟩, []⟩, ⟨0, ⟨(some 12), none, (.pure .id), [(.tmp 0)]⟩, []⟩, ⟨0, ⟨(some 13), none, (.pure .id), [(.tmp 5)]⟩, []⟩, ⟨0, ⟨(some 14), none, (.pure (.iaddr 1)), [(.tmp 12), (.tmp 13)]⟩, []⟩, ⟨0, ⟨(some 15), none, (.load (.load 1 false)), [(.tmp 14)]⟩, []⟩, ⟨0, ⟨(some 16), none, .callv, [(.tmp 11), (.tmp 15)]⟩, []⟩]) (.cond (.tmp 16) (.seq (.region [⟨0, ⟨(some 17), none, (.pure .id), [(.tmp 5)]⟩, []⟩, ⟨0, ⟨(some 4), none, (.pure .id), [(.tmp 17)]⟩, []⟩]) .ret) .skip)))) (.region [⟨0, ⟨(some 18), none, (.pure (.bin .add .none)), [(.tmp 8), (.const (.int .i64 1))]⟩, []⟩, ⟨0, ⟨(some 8), none, (.pure .id), [(.tmp 18)]⟩, []⟩]))))))) (.seq (.region [⟨0, ⟨(some 4), none, (.pure .id), [(.const (.int .i64 (-1)))]⟩, []⟩]) .ret)))⟩
theorem c39 : compF Try.prog Try.f39 = some g39 := by kernel_rfl
theorem gc39 {args : List DV} {σ : GS} {Post : DV → GS → Prop} (h : @exB Try.prog ⟨g39.body⟩ (genv0 args g39.ntmps) σ ⟨@gretB g39.results ⟨Post⟩⟩) : GCall Try.prog 39 args σ Post := gcall_ofB tryfollows Try.func39 (by kernel_rfl) c39 h
abbrev g59 : GFun := ⟨19, [(.tmp 4)], (.seq (.region [⟨0, ⟨(some 4), none, (.pure .id), [(.const (.int .i64 0))]⟩, []⟩]) (.seq (.seq (.region [⟨0, ⟨(some 6), none, (.pure .id), [(.tmp 0)]⟩, []⟩, ⟨0, ⟨(some 7), none, (.pure .len), [(.tmp 6)]⟩, []⟩, ⟨0, ⟨(some 8), none, (.pure .id), [(.const (.int .i64 0))]⟩, []⟩]) (.block 0 (.loop (.seq (.region [⟨0, ⟨(some 9), none, (.pure (.bin .lss .none)), [(.tmp 8), (.tmp 7)]⟩, []⟩]) (.seq (.cond (.tmp 9) .skip (.exit 0)) (.seq (.block 1 (.seq (.region [⟨0, ⟨(some 10), none, (.pure .id), [(.tmp 8)]⟩, []⟩, ⟨0, ⟨(some 5), none, (.pure .id), [(.tmp 10)]⟩, []⟩]) (.seq (.region [⟨0, ⟨(some 11), none, (.pure .id), [(.tmp 1)]⟩, []⟩, ⟨0, ⟨(some 12), none, (.pure .id), [(.tmp 0)]⟩, []⟩, ⟨0, ⟨(some 13), none, (.pure .id), [(.tmp 5)]⟩, []⟩, ⟨0, ⟨(some 14), none, (.pure (.iaddr 2)), [(.tmp 12), (.tmp 13)]⟩, []⟩, ⟨0, ⟨(some 15), none, (.load (.load 2 true)), [(.tmp 14)]⟩, []⟩, ⟨0, ⟨(some 16), none, .callv, [(.tmp 11), (.tmp 15)]⟩, []⟩]) (.cond (.tmp 16) (.seq (.region [⟨0, ⟨(some 17), none, (.pure .id), [(.tmp 5)]⟩, []⟩, ⟨0, ⟨(some 4), none, (.pure .id), [(.tmp 17)]⟩, []⟩]) .ret) .skip)))) (.region [⟨0, ⟨(some 18), none, (.pure (.bin .add .none)), [(.tmp 8), (.const (.int .i64 1))]⟩, []⟩, ⟨0, ⟨(some 8), none, (.pure .id), [(.tmp 18)]⟩, []⟩]))))))) (.seq (.region [⟨0, ⟨(some 4), none, (.pure .id), [(.const (.int .i64 (-1)))]⟩, []⟩]) .ret)))⟩
theorem c59 : compF Try.prog Try.f59 = some g59 := by kernel_rfl
theorem gc59 {args : List DV} {σ : GS} {Post : DV → GS → Prop} (h : @exB Try.prog ⟨g59.body⟩ (genv0 args g59.ntmps) σ ⟨@gretB g59.results ⟨Post⟩⟩) : GCall Try.prog 59 args σ Post := gcall_ofB tryfollows Try.func59 (by kernel_rfl) c59 h
abbrev g52 : GFun := ⟨38, [(.tmp 6)], (.seq (.region [⟨0, ⟨(some 6), none, (.pure .id), [(.const (.int .i64 0))]⟩, []⟩]) (.seq (.region [⟨0, ⟨(some 7), none, (.pure .id), [(.tmp 0)]⟩, []⟩, ⟨1, ⟨(some 8), none, (.pure .id), [(.tmp 0)]⟩, []⟩, ⟨2, ⟨(some 9), none, (.pure .nilck), [(.tmp 8)]⟩, []⟩, ⟨3, ⟨(some 10), none, (.pure (.faddr 0)), [(.tmp 9)]⟩, []⟩, ⟨4, ⟨(some 11), none, (.pure (.faddr 1)), [(.tmp 10)]⟩, []⟩, ⟨5, ⟨(some 12), none, (.load (.load 1 false)), [(.tmp 11)]⟩, []⟩, ⟨6, ⟨(some 13), none, (.pure .id), [(.tmp 0)]⟩, []⟩, ⟨7, ⟨(some 14), none, (.pure .nilck), [(.tmp 13)]⟩, []⟩, ⟨8, ⟨(some 15), none, (.pure (.faddr 3)), [(.tmp 14)]⟩, []⟩, ⟨9, ⟨(some 16), none, (.load (.load 1 false)), [(.tmp 15)]⟩, []⟩, ⟨10, ⟨(some 17), none, (.pure .id), [(.tmp 1)]⟩, []⟩, ⟨11, ⟨(some 18), none, (.pure .id), [(.tmp 2)]⟩, []⟩, ⟨12, ⟨(some 19), none, (.call 70), [(.tmp 18)]⟩, [⟨(some 12), none, (.load (.load 1 false)), [(.tmp 11)]⟩, ⟨(some 16), none, (.load (.load 1 false)), [(.tmp 15)]⟩]⟩, ⟨13, ⟨(some 20), none, (.pure (.build [(.int .i64 0), (.int .u8 0), .nils] [(0, 1), (1, 1), (2, 1)])), [(.tmp 16), (.tmp 17), (.tmp 19)]⟩, []⟩, ⟨14, ⟨(some 21), none, (.new (.bslice 3 [(.int .i64 0), (.int .u8 0), .nils] 1 [(0, 3)])), [(.tmp 20)]⟩, []⟩, ⟨15, ⟨(some 22), none, (.imp (.append 3 40)), [(.tmp 12), (.tmp 21)]⟩, []⟩, ⟨16, ⟨(some 23), none, (.pure .nilck), [(.tmp 7)]⟩, []⟩, ⟨17, ⟨(some 24), none, (.pure (.faddr 0)), [(.tmp 23)]⟩, []⟩, ⟨18, ⟨(some 25), none, (.pure (.faddr 1)), [(.tmp 24)]⟩, []⟩, ⟨19, ⟨none, none, (.imp (.store 1)), [(.tmp 25), (.tmp 22)]⟩, []⟩]) (.seq (.region [⟨0, ⟨(some 26), none, (.pure .id), [(.tmp 0)]⟩, []⟩, ⟨0, ⟨(some 27), none, (.pure .nilck), [(.tmp 26)]⟩, []⟩, ⟨0, ⟨(some 28), none, (.pure (.faddr 3)), [(.tmp 27)]⟩, []⟩, ⟨0, ⟨(some 29), none, (.load (.load 1 false)), [(.tmp 28)]⟩, []⟩, ⟨0, ⟨(some 30), none, (.pure (.bin .add .none)), [(.tmp 29), (.const (.int .i64 1))]⟩, []⟩, ⟨0, ⟨(some 31), none, (.pure .nilck), [(.tmp 26)]⟩, []⟩, ⟨0, ⟨(some 32), none, (.pure (.faddr 3)), [(.tmp 31)]⟩, []⟩, ⟨0, ⟨none, none, (.imp (.store 1)), [(.tmp 32), (.tmp 30)]⟩, []⟩]) (.seq (.region [⟨0, ⟨(some 33), none, (.pure .id), [(.tmp 0)]⟩, []⟩, ⟨0, ⟨(some 34), none, (.pure .nilck), [(.tmp 33)]⟩, []⟩, ⟨0, ⟨(some 35), none, (.pure (.faddr 3)), [(.tmp 34)]⟩, []⟩, ⟨0, ⟨(some 36), none, (.load (.load 1 false)), [(.tmp 35)]⟩, []⟩, ⟨0, ⟨(some 37), none, (.pure (.bin .sub .none)), [(.tmp 36), (.const (.int .i64 1))]⟩, []⟩, ⟨0, ⟨(some 6), none, (.pure .id), [(.tmp 37)]⟩, []⟩]) .ret))))⟩
theorem c52 : compF Try.prog Try.f52 = some g52 := by kernel_rfl
theorem gc52 {args : List DV} {σ : GS} {Post : DV → GS → Prop} (h : @exB Try.prog ⟨g52.body⟩ (genv0 args g52.ntmps) σ ⟨@gretB g52.results ⟨Post⟩⟩) : GCall Try.prog 52 args σ Post := gcall_ofB tryfollows Try.func52 (by kernel_rfl) c52 h
abbrev g53 : GFun := ⟨95, [(.tmp 10)], (.seq (.region [⟨0, ⟨(some 6), none, (.new .box), [(.tmp 1)]⟩, []⟩, ⟨0, ⟨(some 10), none, (.pure .id), [(.const .nils)]⟩, []⟩]) (.seq (.seq (.region [⟨0, ⟨(some 16), none, (.pure (.faddr 0)), [(.tmp 6)]⟩, []⟩, ⟨0, ⟨(some 17), none, (.pure (.faddr 0)), [(.tmp 16)]⟩, []⟩, ⟨0, ⟨(some 18), none, (.load (.load 1 false)), [(.tmp 17)]⟩, []⟩, ⟨0, ⟨(some 19), none, (.pure .len), [(.tmp 18)]⟩, []⟩, ⟨0, ⟨(some 20), none, (.pure .id), [(.const (.int .i64 0))]⟩, []⟩]) (.block 0 (.loop (.seq (.region [⟨0, ⟨(some 21), none, (.pure (.bin .lss .none)), [(.tmp 20), (.tmp 19)]⟩, []⟩]) (.seq (.cond (.tmp 21) .skip (.exit 0)) (.seq (.block 1 (.seq (.region [⟨0, ⟨(some 22), none, (.pure .id), [(.tmp 20)]⟩, []⟩, ⟨0, ⟨(some 23), none, (.pure (.iaddr 2)), [(.tmp 18), (.tmp 20)]⟩, []⟩, ⟨0, ⟨(some 24), none, (.load (.load 2 true)), [(.tmp 23)]⟩, []⟩, ⟨0, ⟨(some 12), none, (.new (.alloc [(.bool false), .nils])), []⟩, []⟩, ⟨0, ⟨(some 11), none, (.pure .id), [(.tmp 22)]⟩, []⟩, ⟨0, ⟨none, none, (.imp (.store 2)), [(.tmp 12), (.tmp 24)]⟩, []⟩]) (.seq (.seq (.region [⟨0, ⟨(some 25), none, (.pure (.faddr 1)), [(.tmp 12)]⟩, []⟩, ⟨0, ⟨(some 26), none, (.load (.load 1 false)), [(.tmp 25)]⟩, []⟩, ⟨0, ⟨(some 27), none, (.pure .len), [(.tmp 26)]⟩, []⟩, ⟨0, ⟨(some 28), none, (.pure (.bin .eql .none)), [(.tmp 27), (.const (.int .i64 0))]⟩, []⟩]) (.cond (.tmp 28) (.seq (.seq (.region [⟨0, ⟨(some 29), none, (.pure .id), [(.tmp 11)]⟩, []⟩, ⟨0, ⟨(some 30), none, (.pure .id), [(.tmp 4)]⟩, []⟩, ⟨0, ⟨(some 31), none, (.pure (.bin .eql .none)), [(.tmp 29), (.tmp 30)]⟩, []⟩]) (.cond (.tmp 31) (.region [⟨0, ⟨(some 32), none, (.pure .id), [(.tmp 10)]⟩, []⟩, ⟨0, ⟨(some 33), none, (.pure .id), [(.tmp 2)]⟩, []⟩, ⟨0, ⟨(some 34), none, (.pure .id), [(.tmp 11)]⟩, []⟩, ⟨0, ⟨(some 35), none, (.pure (.iaddr 1)), [(.tmp 33), (.tmp 34)]⟩, []⟩, ⟨0, ⟨(some 36), none, (.load (.load 1 false)), [(.tmp 35)]⟩, []⟩, ⟨0, ⟨(some 37), none, (.new (.bslice 1 [(.int .i64 0)] 1 [(0, 1)])), [(.tmp 36)]⟩, []⟩, ⟨0, ⟨(some 38), none, (.imp (.append 1 8)), [(.tmp 32), (.tmp 37)]⟩, []⟩, ⟨0, ⟨(some 10), none, (.pure .id), [(.tmp 38)]⟩, []⟩]) .skip)) (.exit 1)) .skip)) (.seq (.region [⟨0, ⟨(some 39), none, (.pure (.faddr 4)), [(.tmp 6)]⟩, []⟩, ⟨0, ⟨(some 40), none, (.load (.load 1 false)), [(.tmp 39)]⟩, []⟩, ⟨0, ⟨(some 41), none, (.pure (.bin .shl .none)), [(.const (.int .i64 1)), (.tmp 40)]⟩, []⟩, ⟨0, ⟨(some 42), none, (.pure .id), [(.const (.int .i64 0))]⟩, []⟩]) (.block 2 (.loop (.seq (.region [⟨0, ⟨(some 43), none, (.pure (.bin .lss .none)), [(.tmp 42), (.tmp 41)]⟩, []⟩]) (.seq (.cond (.tmp 43) .skip (.exit 2)) (.seq (.block 3 (.seq (.region [⟨0, ⟨(some 44), none, (.pure .id), [(.tmp 42)]⟩, []⟩, ⟨0, ⟨(some 13), none, (.pure .id), [(.tmp 44)]⟩, []⟩]) (.seq (.seq (.region [⟨0, ⟨(some 45), none, (.pure (.faddr 1)), [(.tmp 12)]⟩, []⟩, ⟨1, ⟨(some 46), none, (.load (.load 1 false)), [(.tmp 45)]⟩, []⟩, ⟨2, ⟨(some 47), none, (.pure .id), [(.tmp 13)]⟩, []⟩, ⟨3, ⟨(some 48), none, (.pure (.faddr 1)), [(.tmp 12)]⟩, []⟩, ⟨4, ⟨(some 49), none, (.load (.load 1 false)), [(.tmp 48)]⟩, []⟩, ⟨5, ⟨(some 50), none, (.pure .len), [(.tmp 49)]⟩, []⟩, ⟨6, ⟨(some 51), none, (.pure (.bin .rem .none)), [(.tmp 47), (.tmp 50)]⟩, []⟩, ⟨7, ⟨(some 52), none, (.pure (.iaddr 1)), [(.tmp 46), (.tmp 51)]⟩, []⟩, ⟨8, ⟨(some 53), none, (.load (.load 1 false)), [(.tmp 52)]⟩, []⟩, ⟨9, ⟨(some 54), none, (.pure .id), [(.tmp 4)]⟩, []⟩, ⟨10, ⟨(some 55), none, (.pure (.bin .neq .none)), [(.tmp 53), (.tmp 54)]⟩, []⟩]) (.cond (.tmp 55) (.exit 3) .skip)) (.seq (.region [⟨0, ⟨(some 56), none, (.load (.load 5 true)), [(.tmp 6)]⟩, []⟩, ⟨0, ⟨(some 57), none, (.pure .id), [(.tmp 3)]⟩, []⟩, ⟨0, ⟨(some 58), none, (.pure (.faddr 0)), [(.tmp 12)]⟩, []⟩, ⟨0, ⟨(some 59), none, (.load (.load 1 false)), [(.tmp 58)]⟩, []⟩, ⟨0, ⟨(some 60), none, (.call 34), [(.tmp 56), (.tmp 57), (.tmp 59)]⟩, []⟩, ⟨0, ⟨(some 14), none, (.pure .id), [(.tmp 60)]⟩, []⟩]) (.seq (.seq (.region [⟨0, ⟨(some 61), none, (.pure .id), [(.tmp 14)]⟩, []⟩, ⟨0, ⟨(some 62), none, (.pure .len), [(.tmp 61)]⟩, []⟩, ⟨0, ⟨(some 63), none, (.pure .id), [(.const (.int .i64 0))]⟩, []⟩]) (.block 4 (.loop (.seq (.region [⟨0, ⟨(some 64), none, (.pure (.bin .lss .none)), [(.tmp 63), (.tmp 62)]⟩, []⟩]) (.seq (.cond (.tmp 64) .skip (.exit 4)) (.seq (.block 5 (.seq (.region [⟨0, ⟨(some 65), none, (.pure .id), [(.tmp 63)]⟩, []⟩, ⟨0, ⟨(some 15), none, (.pure .id), [(.tmp 65)]⟩, []⟩]) (.seq (.region [⟨0, ⟨(some 66), none, (.pure .id), [(.tmp 13)]⟩, []⟩, ⟨0, ⟨(some 67), none, (.pure .id), [(.tmp 15)]⟩, []⟩, ⟨0, ⟨(some 68), none, (.pure (.bin .shr .none)), [(.tmp 66), (.tmp 67)]⟩, []⟩, ⟨0, ⟨(some 69), none, (.pure (.bin .and .none)), [(.tmp 68), (.const (.int .i64 1))]⟩, []⟩, ⟨0, ⟨(some 70), none, (.pure (.bin .eql .none)), [(.tmp 69), (.const (.int .i64 0))]⟩, []⟩]) (.cond (.tmp 70) (.region [⟨0, ⟨(some 71), none, (.pure .id), [(.tmp 14)]⟩, []⟩, ⟨0, ⟨(some 72), none, (.pure .id), [(.tmp 15)]⟩, []⟩, ⟨0, ⟨(some 73), none, (.pure .id), [(.tmp 14)]⟩, []⟩, ⟨0, ⟨(some 74), none, (.pure .id), [(.tmp 15)]⟩, []⟩, ⟨0, ⟨(some 75), none, (.pure (.iaddr 1)), [(.tmp 73), (.tmp 74)]⟩, []⟩, ⟨0, ⟨(some 76), none, (.load (.load 1 false)), [(.tmp 75)]⟩, []⟩, ⟨0, ⟨(some 77), none, (.pure (.un .neg)), [(.tmp 76)]⟩, []⟩, ⟨0, ⟨(some 78), none, (.pure (.iaddr 1)), [(.tmp 71), (.tmp 72)]⟩, []⟩, ⟨0, ⟨none, none, (.imp (.store 1)), [(.tmp 78), (.tmp 77)]⟩, []⟩]) .skip)))) (.region [⟨0, ⟨(some 79), none, (.pure (.bin .add .none)), [(.tmp 63), (.const (.int .i64 1))]⟩, []⟩, ⟨0, ⟨(some 63), none, (.pure .id), [(.tmp 79)]⟩, []⟩]))))))) (.region [⟨0, ⟨(some 80), none, (.pure .id), [(.tmp 10)]⟩, []⟩, ⟨0, ⟨(some 81), none, (.pure .id), [(.tmp 0)]⟩, []⟩, ⟨0, ⟨(some 82), none, (.pure .id), [(.tmp 2)]⟩, []⟩, ⟨0, ⟨(some 83), none, (.pure .id), [(.tmp 11)]⟩, []⟩, ⟨0, ⟨(some 84), none, (.pure (.iaddr 1)), [(.tmp 82), (.tmp 83)]⟩, []⟩, ⟨0, ⟨(some 85), none, (.load (.load 1 false)), [(.tmp 84)]⟩, []⟩, ⟨0, ⟨(some 86), none, (.new (.bslice 1 [(.int .i64 0)] 1 [(0, 1)])), [(.tmp 85)]⟩, []⟩, ⟨0, ⟨(some 87), none, (.pure .id), [(.tmp 14)]⟩, []⟩, ⟨0, ⟨(some 88), none, (.imp (.append 1 8)), [(.tmp 86), (.tmp 87)]⟩, []⟩, ⟨0, ⟨(some 89), none, (.call 52), [(.tmp 81), (.const (.int .u8 1)), (.tmp 88)]⟩, []⟩, ⟨0, ⟨(some 90), none, (.new (.bslice 1 [(.int .i64 0)] 1 [(0, 1)])), [(.tmp 89)]⟩, []⟩, ⟨0, ⟨(some 91), none, (.imp (.append 1 8)), [(.tmp 80), (.tmp 90)]⟩, []⟩, ⟨0, ⟨(some 10), none, (.pure .id), [(.tmp 91)]⟩, []⟩])))))) (.region [⟨0, ⟨(some 92), none, (.pure (.bin .add .none)), [(.tmp 42), (.const (.int .i64 1))]⟩, []⟩, ⟨0, ⟨(some 42), none, (.pure .id), [(.tmp 92)]⟩, []⟩])))))))))) (.region [⟨0, ⟨(some 93), none, (.pure (.bin .add .none)), [(.tmp 20), (.const (.int .i64 1))]⟩, []⟩, ⟨0, ⟨(some 20), none, (.pure .id), [(.tmp 93)]⟩, []⟩]))))))) (.seq (.region [⟨0, ⟨(some 94), none, (.pure .id), [(.tmp 10)]⟩, []⟩, ⟨0, ⟨(some 10), none, (.pure .id), [(.tmp 94)]⟩, []⟩]) .ret)))⟩
theorem c53 : compF Try.prog Try.f53 = some g53 := by kernel_rfl
theorem gc53 {args : List DV} {σ : GS} {Post : DV → GS → Prop} (h : @exB Try.prog ⟨g53.body⟩ (genv0 args g53.ntmps) σ ⟨@gretB g53.results ⟨Post⟩⟩) : GCall Try.prog 53 args σ Post := gcall_ofB tryfollows Try.func53 (by kernel_rfl) c53 h
abbrev g26 : GFun := ⟨137, [(.cell 2 3 true), (.tmp 3)], (.seq (.region [⟨0, ⟨(some 1), none, (.new .box), [(.tmp 0)]⟩, []⟩, ⟨0, ⟨(some 2), none, (.new (.alloc [.nils, .nils, (.int .i64 0)])), []⟩, []⟩, ⟨0, ⟨(some 3), none, (.pure .id), [(.const (.int .i64 0))]⟩, []⟩]) (.seq (.region [⟨0, ⟨(some 18), none, (.load (.load 4 true)), [(.tmp 1)]⟩, []⟩, ⟨0, ⟨(some 19), none, (.call 32), [(.tmp 18)]⟩, []⟩, ⟨0, ⟨(some 17), none, (.pure .id), [(.tmp 19)]⟩, []⟩, ⟨0, ⟨(some 20), none, (.pure (.extract 0)), [(.tmp 17)]⟩, []⟩, ⟨0, ⟨(some 21), none, (.pure (.extract 1)), [(.tmp 17)]⟩, []⟩, ⟨0, ⟨(some 4), none, (.new (.alloc [.nils, (.int .i64 0), .nils, (.int .i64 0), (.int .i64 0)])), []⟩, []⟩, ⟨0, ⟨none, none, (.imp (.store 5)), [(.tmp 4), (.tmp 20)]⟩, []⟩, ⟨0, ⟨(some 5), none, (.pure .id), [(.tmp 21)]⟩, []⟩]) (.seq (.seq (.region [⟨0, ⟨(some 22), none, (.pure .id), [(.tmp 5)]⟩, []⟩, ⟨0, ⟨(some 23), none, (.pure (.bin .neq .none)), [(.tmp 22), (.const (.int .i64 0))]⟩, []⟩]) (.cond (.tmp 23) (.seq (.region [⟨0, ⟨(some 24), none, (.pure (.build [.nils, .nils, (.int .i64 0)] [])), []⟩, []⟩, ⟨0, ⟨(some 25), none, (.pure .id), [(.tmp 5)]⟩, []⟩, ⟨0, ⟨none, none, (.imp (.store 3)), [(.tmp 2), (.tmp 24)]⟩, []⟩, ⟨0, ⟨(some 3), none, (.pure .id), [(.tmp 25)]⟩, []⟩]) .ret) .skip)) (.seq (.region [⟨0, ⟨(some 26), none, (.pure (.faddr 4)), [(.tmp 4)]⟩, []⟩, ⟨0, ⟨(some 27), none, (.load (.load 1 false)), [(.tmp 26)]⟩, []⟩, ⟨0, ⟨(some 28), none, (.pure (.bin .mul .none)), [(.const (.int .i64 2)), (.tmp 27)]⟩, []⟩, ⟨0, ⟨(some 29), none, (.pure (.faddr 3)), [(.tmp 1)]⟩, []⟩, ⟨0, ⟨(some 30), none, (.load (.load 1 false)), [(.tmp 29)]⟩, []⟩, ⟨0, ⟨(some 31), none, (.pure (.bin .mul .none)), [(.tmp 28), (.tmp 30)]⟩, []⟩, ⟨0, ⟨(some 32), none, (.pure (.bin .add .none)), [(.tmp 31), (.const (.int .i64 1))]⟩, []⟩, ⟨0, ⟨(some 33), none, (.pure (.build [.nils, .nils, (.int .i64 0), (.int .i64 0)] [(3, 1)])), [(.tmp 32)]⟩, []⟩, ⟨0, ⟨(some 34), none, (.new .box), [(.tmp 33)]⟩, []⟩, ⟨0, ⟨(some 6), none, (.pure .id), [(.tmp 34)]⟩, []⟩]) (.seq (.seq (.region [⟨0, ⟨(some 35), none, (.pure (.faddr 4)), [(.tmp 4)]⟩, []⟩, ⟨0, ⟨(some 36), none, (.load (.load 1 false)), [(.tmp 35)]⟩, []⟩, ⟨0, ⟨(some 37), none, (.pure (.bin .gtr .none)), [(.tmp 36), (.const (.int .i64 0))]⟩, []⟩]) (.cond (.tmp 37) (.seq (.region [⟨0, ⟨(some 7), none, (.pure .id), [(.const (.int .i64 1))]⟩, []⟩]) (.block 0 (.loop (.seq (.seq (.region [⟨0, ⟨(some 38), none, (.pure .id), [(.tmp 7)]⟩, []⟩, ⟨0, ⟨(some 39), none, (.pure (.faddr 3)), [(.tmp 1)]⟩, []⟩, ⟨0, ⟨(some 40), none, (.load (.load 1 false)), [(.tmp 39)]⟩, []⟩, ⟨0, ⟨(some 41), none, (.pure (.bin .leq .none)), [(.tmp 38), (.tmp 40)]⟩, []⟩]) (.cond (.tmp 41) .skip (.exit 0))) (.seq (.block 1 (.region [⟨0, ⟨(some 44), none, (.pure .id), [(.tmp 6)]⟩, []⟩, ⟨1, ⟨(some 45), none, (.pure .id), [(.tmp 6)]⟩, []⟩, ⟨2, ⟨(some 46), none, (.pure .nilck), [(.tmp 45)]⟩, []⟩, ⟨3, ⟨(some 47), none, (.pure (.faddr 0)), [(.tmp 46)]⟩, []⟩, ⟨4, ⟨(some 48), none, (.pure (.faddr 0)), [(.tmp 47)]⟩, []⟩, ⟨5, ⟨(some 49), none, (.load (.load 1 false)), [(.tmp 48)]⟩, []⟩, ⟨6, ⟨(some 50), none, (.load (.load 5 true)), [(.tmp 4)]⟩, []⟩, ⟨7, ⟨(some 51), none, (.pure .id), [(.tmp 7)]⟩, []⟩, ⟨10, ⟨(some 54), none, (.load (.load 5 true)), [(.tmp 4)]⟩, []⟩, ⟨11, ⟨(some 55), none, (.pure .id), [(.tmp 7)]⟩, []⟩, ⟨8, ⟨(some 52), none, (.call 34), [(.tmp 50), (.tmp 51), (.const (.bool true))]⟩, [⟨(some 49), none, (.load (.load 1 false)), [(.tmp 48)]⟩, ⟨(some 54), none, (.load (.load 5 true)), [(.tmp 4)]⟩]⟩, ⟨9, ⟨(some 53), none, (.pure (.build [(.bool false), .nils] [(0, 1), (1, 1)])), [(.const (.bool true)), (.tmp 52)]⟩, []⟩, ⟨12, ⟨(some 56), none, (.call 34), [(.tmp 54), (.tmp 55), (.const (.bool false))]⟩, [⟨(some 49), none, (.load (.load 1 false)), [(.tmp 48)]⟩]⟩, ⟨13, ⟨(some 57), none, (.pure (.build [(.bool false), .nils] [(1, 1)])), [(.tmp 56)]⟩, []⟩, ⟨14, ⟨(some 58), none, (.new (.bslice 2 [(.bool false), .nils] 2 [(0, 2), (2, 2)])), [(.tmp 53), (.tmp 57)]⟩, []⟩, ⟨15, ⟨(some 59), none, (.imp (.append 2 32)), [(.tmp 49), (.tmp 58)]⟩, []⟩, ⟨16, ⟨(some 60), none, (.pure .nilck), [(.tmp 44)]⟩, []⟩, ⟨17, ⟨(some 61), none, (.pure (.faddr 0)), [(.tmp 60)]⟩, []⟩, ⟨18, ⟨(some 62), none, (.pure (.faddr 0)), [(.tmp 61)]⟩, []⟩, ⟨19, ⟨none, none, (.imp (.store 1)), [(.tmp 62), (.tmp 59)]⟩, []⟩])) (.region [⟨0, ⟨(some 42), none, (.pure .id), [(.tmp 7)]⟩, []⟩, ⟨0, ⟨(some 43), none, (.pure (.bin .add .none)), [(.tmp 42), (.const (.int .i64 1))]⟩, []⟩, ⟨0, ⟨(some 7), none, (.pure .id), [(.tmp 43)]⟩, []⟩])))))) .skip)) (.seq (.region [⟨0, ⟨(some 63), none, (.pure (.faddr 0)), [(.tmp 1)]⟩, []⟩, ⟨0, ⟨(some 64), none, (.load (.load 1 false)), [(.tmp 63)]⟩, []⟩, ⟨0, ⟨(some 65), none, (.pure .len), [(.tmp 64)]⟩, []⟩, ⟨0, ⟨(some 66), none, (.new (.mslice 1 8 [(.int .i64 0)])), [(.tmp 65), (.tmp 65)]⟩, []⟩, ⟨0, ⟨(some 8), none, (.pure .id), [(.tmp 66)]⟩, []⟩]) (.seq (.seq (.region [⟨0, ⟨(some 67), none, (.pure .id), [(.tmp 8)]⟩, []⟩, ⟨0, ⟨(some 68), none, (.pure .len), [(.tmp 67)]⟩, []⟩, ⟨0, ⟨(some 69), none, (.pure .id), [(.const (.int .i64 0))]⟩, []⟩]) (.block 2 (.loop (.seq (.region [⟨0, ⟨(some 70), none, (.pure (.bin .lss .none)), [(.tmp 69), (.tmp 68)]⟩, []⟩]) (.seq (.cond (.tmp 70) .skip (.exit 2)) (.seq (.block 3 (.seq (.region [⟨0, ⟨(some 71), none, (.pure .id), [(.tmp 69)]⟩, []⟩, ⟨0, ⟨(some 9), none, (.pure .id), [(.tmp 71)]⟩, []⟩]) (.seq (.region [⟨0, ⟨(some 10), none, (.pure .id), [(.const (.int .u8 2))]⟩, []⟩]) (.seq (.seq (.region [⟨0, ⟨(some 72), none, (.pure .id), [(.tmp 9)]⟩, []⟩, ⟨0, ⟨(some 73), none, (.pure (.faddr 1)), [(.tmp 1)]⟩, []⟩, ⟨0, ⟨(some 74), none, (.load (.load 1 false)), [(.tmp 73)]⟩, []⟩, ⟨0, ⟨(some 75), none, (.pure (.bin .eql .none)), [(.tmp 72), (.tmp 74)]⟩, []⟩]) (.cond (.tmp 75) (.region [⟨0, ⟨(some 10), none, (.pure .id), [(.const (.int .u8 1))]⟩, []⟩]) .skip)) (.region [⟨0, ⟨(some 76), none, (.pure .id), [(.tmp 8)]⟩, []⟩, ⟨0, ⟨(some 77), none, (.pure .id), [(.tmp 9)]⟩, []⟩, ⟨0, ⟨(some 78), none, (.pure .id), [(.tmp 6)]⟩, []⟩, ⟨0, ⟨(some 79), none, (.pure .id), [(.tmp 10)]⟩, []⟩, ⟨0, ⟨(some 80), none, (.call 52), [(.tmp 78), (.tmp 79), (.const .nils)]⟩, []⟩, ⟨0, ⟨(some 81), none, (.pure (.iaddr 1)), [(.tmp 76), (.tmp 77)]⟩, []⟩, ⟨0, ⟨none, none, (.imp (.store 1)), [(.tmp 81), (.tmp 80)]⟩, []⟩]))))) (.region [⟨0, ⟨(some 82), none, (.pure (.bin .add .none)), [(.tmp 69), (.const (.int .i64 1))]⟩, []⟩, ⟨0, ⟨(some 69), none, (.pure .id), [(.tmp 82)]⟩, []⟩]))))))) (.seq (.region [⟨0, ⟨(some 11), none, (.pure .id), [(.const .nils)]⟩, []⟩]) (.seq (.seq (.region [⟨0, ⟨(some 12), none, (.pure .id), [(.const (.int .i64 0))]⟩, []⟩]) (.block 4 (.loop (.seq (.block 5 (.seq (.seq (.region [⟨0, ⟨(some 85), none, (.pure (.faddr 2)), [(.tmp 1)]⟩, []⟩, ⟨0, ⟨(some 86), none, (.load (.load 1 false)), [(.tmp 85)]⟩, []⟩, ⟨0, ⟨(some 87), none, (.pure .len), [(.tmp 86)]⟩, []⟩, ⟨0, ⟨(some 88), none, (.pure .id), [(.const (.int .i64 0))]⟩, []⟩]) (.block 6 (.loop (.seq (.region [⟨0, ⟨(some 89), none, (.pure (.bin .lss .none)), [(.tmp 88), (.tmp 87)]⟩, []⟩]) (.seq (.cond (.tmp 89) .skip (.exit 6)) (.seq (.block 7 (.seq (.region [⟨0, ⟨(some 90), none, (.pure (.iaddr 1)), [(.tmp 86), (.tmp 88)]⟩, []⟩, ⟨0, ⟨(some 91), none, (.load (.load 1 false)), [(.tmp 90)]⟩, []⟩, ⟨0, ⟨(some 14), none, (.pure .id), [(.tmp 91)]⟩, []⟩]) (.region [⟨0, ⟨(some 92), none, (.pure .id), [(.tmp 11)]⟩, []⟩, ⟨0, ⟨(some 93), none, (.pure .id), [(.tmp 8)]⟩, []⟩, ⟨0, ⟨(some 94), none, (.pure .id), [(.tmp 14)]⟩, []⟩, ⟨0, ⟨(some 95), none, (.pure (.iaddr 1)), [(.tmp 93), (.tmp 94)]⟩, []⟩, ⟨0, ⟨(some 96), none, (.load (.load 1 false)), [(.tmp 95)]⟩, []⟩, ⟨0, ⟨(some 97), none, (.new (.bslice 1 [(.int .i64 0)] 1 [(0, 1)])), [(.tmp 96)]⟩, []⟩, ⟨0, ⟨(some 98), none, (.imp (.append 1 8)), [(.tmp 92), (.tmp 97)]⟩, []⟩, ⟨0, ⟨(some 11), none, (.pure .id), [(.tmp 98)]⟩, []⟩]))) (.region [⟨0, ⟨(some 99), none, (.pure (.bin .add .none)), [(.tmp 88), (.const (.int .i64 1))]⟩, []⟩, ⟨0, ⟨(some 88), none, (.pure .id), [(.tmp 99)]⟩, []⟩]))))))) (.seq (.seq (.region [⟨0, ⟨(some 100), none, (.pure .id), [(.tmp 12)]⟩, []⟩, ⟨0, ⟨(some 101), none, (.pure (.faddr 3)), [(.tmp 1)]⟩, []⟩, ⟨0, ⟨(some 102), none, (.load (.load 1 false)), [(.tmp 101)]⟩, []⟩, ⟨0, ⟨(some 103), none, (.pure (.bin .eql .none)), [(.tmp 100), (.tmp 102)]⟩, []⟩]) (.cond (.tmp 103) (.exit 4) .skip)) (.seq (.region [⟨0, ⟨(some 104), none, (.pure .id), [(.tmp 8)]⟩, []⟩, ⟨0, ⟨(some 105), none, (.pure .len), [(.tmp 104)]⟩, []⟩, ⟨0, ⟨(some 106), none, (.new (.mslice 1 8 [(.int .i64 0)])), [(.tmp 105), (.tmp 105)]⟩, []⟩, ⟨0, ⟨(some 15), none, (.pure .id), [(.tmp 106)]⟩, []⟩]) (.seq (.seq (.region [⟨0, ⟨(some 107), none, (.pure .id), [(.tmp 15)]⟩, []⟩, ⟨0, ⟨(some 108), none, (.pure .len), [(.tmp 107)]⟩, []⟩, ⟨0, ⟨(some 109), none, (.pure .id), [(.const (.int .i64 0))]⟩, []⟩]) (.block 8 (.loop (.seq (.region [⟨0, ⟨(some 110), none, (.pure (.bin .lss .none)), [(.tmp 109), (.tmp 108)]⟩, []⟩]) (.seq (.cond (.tmp 110) .skip (.exit 8)) (.seq (.block 9 (.seq (.region [⟨0, ⟨(some 111), none, (.pure .id), [(.tmp 109)]⟩, []⟩, ⟨0, ⟨(some 16), none, (.pure .id), [(.tmp 111)]⟩, []⟩]) (.region [⟨0, ⟨(some 112), none, (.pure .id), [(.tmp 15)]⟩, []⟩, ⟨0, ⟨(some 113), none, (.pure .id), [(.tmp 16)]⟩, []⟩, ⟨0, ⟨(some 114), none, (.pure .id), [(.tmp 6)]⟩, []⟩, ⟨0, ⟨(some 115), none, (.pure .id), [(.tmp 6)]⟩, []⟩, ⟨0, ⟨(some 116), none, (.load (.load 5 true)), [(.tmp 4)]⟩, []⟩, ⟨0, ⟨(some 117), none, (.pure .id), [(.tmp 8)]⟩, []⟩, ⟨0, ⟨(some 118), none, (.pure .id), [(.tmp 12)]⟩, []⟩, ⟨0, ⟨(some 119), none, (.pure (.bin .add .none)), [(.tmp 118), (.const (.int .i64 1))]⟩, []⟩, ⟨0, ⟨(some 120), none, (.pure .id), [(.tmp 16)]⟩, []⟩, ⟨0, ⟨(some 121), none, (.call 53), [(.tmp 115), (.tmp 116), (.tmp 117), (.tmp 119), (.tmp 120)]⟩, []⟩, ⟨0, ⟨(some 122), none, (.call 52), [(.tmp 114), (.const (.int .u8 2)), (.tmp 121)]⟩, []⟩, ⟨0, ⟨(some 123), none, (.pure (.iaddr 1)), [(.tmp 112), (.tmp 113)]⟩, []⟩, ⟨0, ⟨none, none, (.imp (.store 1)), [(.tmp 123), (.tmp 122)]⟩, []⟩]))) (.region [⟨0, ⟨(some 124), none, (.pure (.bin .add .none)), [(.tmp 109), (.const (.int .i64 1))]⟩, []⟩, ⟨0, ⟨(some 109), none, (.pure .id), [(.tmp 124)]⟩, []⟩]))))))) (.region [⟨0, ⟨(some 125), none, (.pure .id), [(.tmp 15)]⟩, []⟩, ⟨0, ⟨(some 8), none, (.pure .id), [(.tmp 125)]⟩, []⟩])))))) (.region [⟨0, ⟨(some 83), none, (.pure .id), [(.tmp 12)]⟩, []⟩, ⟨0, ⟨(some 84), none, (.pure (.bin .add .none)), [(.tmp 83), (.const (.int .i64 1))]⟩, []⟩, ⟨0, ⟨(some 12), none, (.pure .id), [(.tmp 84)]⟩, []⟩]))))) (.seq (.region [⟨0, ⟨(some 126), none, (.pure .id), [(.tmp 6)]⟩, []⟩, ⟨0, ⟨(some 127), none, (.pure .id), [(.tmp 6)]⟩, []⟩, ⟨0, ⟨(some 128), none, (.pure .id), [(.tmp 11)]⟩, []⟩, ⟨0, ⟨(some 129), none, (.call 52), [(.tmp 127), (.const (.int .u8 2)), (.tmp 128)]⟩, []⟩, ⟨0, ⟨(some 130), none, (.pure .nilck), [(.tmp 126)]⟩, []⟩, ⟨0, ⟨(some 131), none, (.pure (.faddr 0)), [(.tmp 130)]⟩, []⟩, ⟨0, ⟨(some 132), none, (.pure (.faddr 2)), [(.tmp 131)]⟩, []⟩, ⟨0, ⟨none, none, (.imp (.store 1)), [(.tmp 132), (.tmp 129)]⟩, []⟩]) (.seq (.region [⟨0, ⟨(some 133), none, (.pure .id), [(.tmp 6)]⟩, []⟩, ⟨0, ⟨(some 134), none, (.pure .nilck), [(.tmp 133)]⟩, []⟩, ⟨0, ⟨(some 135), none, (.pure (.faddr 0)), [(.tmp 134)]⟩, []⟩, ⟨0, ⟨(some 136), none, (.load (.load 3 true)), [(.tmp 135)]⟩, []⟩, ⟨0, ⟨none, none, (.imp (.store 3)), [(.tmp 2), (.tmp 136)]⟩, []⟩, ⟨0, ⟨(some 3), none, (.pure .id), [(.const (.int .i64 0))]⟩, []⟩]) .ret)))))))))))⟩
theorem c26 : compF Try.prog Try.f26 = some g26 := by kernel_rfl
theorem gc26 {args : List DV} {σ : GS} {Post : DV → GS → Prop} (h : @exB Try.prog ⟨g26.body⟩ (genv0 args g26.ntmps) σ ⟨@gretB g26.results ⟨Post⟩⟩) : GCall Try.prog 26 args σ Post := gcall_ofB tryfollows Try.func26 (by kernel_rfl) c26 h
abbrev g70 : GFun := ⟨8, [(.tmp 2)], (.seq (.region [⟨0, ⟨(some 2), none, (.pure .id), [(.const .nils)]⟩, []⟩]) (.seq (.seq (.region [⟨0, ⟨(some 3), none, (.pure .id), [(.tmp 0)]⟩, []⟩, ⟨0, ⟨(some 4), none, (.pure (.bin .eql .slice)), [(.tmp 3), (.const .nils)]⟩, []⟩]) (.cond (.tmp 4) (.seq (.region [⟨0, ⟨(some 2), none, (.pure .id), [(.const .nils)]⟩, []⟩]) .ret) .skip)) (.seq (.region [⟨0, ⟨(some 5), none, (.new (.bslice 1 [(.int .i64 0)] 0 [])), []⟩, []⟩, ⟨0, ⟨(some 6), none, (.pure .id), [(.tmp 0)]⟩, []⟩, ⟨0, ⟨(some 7), none, (.imp (.append 1 8)), [(.tmp 5), (.tmp 6)]⟩, []⟩, ⟨0, ⟨(some 2), none, (.pure .id), [(.tmp 7)]⟩, []⟩]) .ret)))⟩
theorem c70 : compF Try.prog Try.f70 = some g70 := by kernel_rfl
theorem gc70 {args : List DV} {σ : GS} {Post : DV → GS → Prop} (h : @exB Try.prog ⟨g70.body⟩ (genv0 args g70.ntmps) σ ⟨@gretB g70.results ⟨Post⟩⟩) : GCall Try.prog 70 args σ Post := gcall_ofB tryfollows Try.func70 (by kernel_rfl) c70 h
abbrev g46 : GFun := ⟨29, [(.tmp 6), (.tmp 7)], (.seq (.region [⟨0, ⟨(some 3), none, (.new .box), [(.tmp 0)]⟩, []⟩, ⟨0, ⟨(some 5), none, (.new .box), [(.tmp 2)]⟩, []⟩, ⟨0, ⟨(some 6), none, (.pure .id), [(.const (.bool false))]⟩, []⟩, ⟨0, ⟨(some 7), none, (.pure .id), [(.const (.int .i64 0))]⟩, []⟩]) (.seq (.seq (.region [⟨0, ⟨(some 9), none, (.load (.load 2 true)), [(.tmp 3)]⟩, []⟩, ⟨0, ⟨(some 10), none, (.pure .id), [(.tmp 1)]⟩, []⟩, ⟨0, ⟨(some 11), none, (.new (.bslice 1 [(.int .i64 0)] 1 [(0, 1)])), [(.tmp 10)]⟩, []⟩, ⟨0, ⟨(some 12), none, (.call 60), [(.tmp 9), (.tmp 11)]⟩, []⟩, ⟨0, ⟨(some 13), none, (.pure (.un .not)), [(.tmp 12)]⟩, []⟩, ⟨0, ⟨(some 14), none, (.pure .id), [(.tmp 13)]⟩, []⟩, ⟨0, ⟨(some 15), (some (14, false)), (.load (.load 1 false)), [(.tmp 5)]⟩, []⟩, ⟨0, ⟨(some 16), (some (14, false)), (.call 61), [(.tmp 15)]⟩, []⟩, ⟨0, ⟨(some 17), (some (14, false)), (.pure (.un .not)), [(.tmp 16)]⟩, []⟩, ⟨0, ⟨(some 18), none, (.pure .pick), [(.tmp 14), (.const (.bool true)), (.tmp 17)]⟩, []⟩]) (.cond (.tmp 18) (.seq (.region [⟨0, ⟨(some 6), none, (.pure .id), [(.const (.bool false))]⟩, []⟩, ⟨0, ⟨(some 7), none, (.pure .id), [(.const (.int .i64 2))]⟩, []⟩]) .ret) .skip)) (.seq (.region [⟨0, ⟨(some 19), none, (.load (.load 2 true)), [(.tmp 3)]⟩, []⟩, ⟨0, ⟨(some 20), none, (.call 62), [(.tmp 19)]⟩, []⟩, ⟨0, ⟨(some 21), none, (.new (.mslice 1 1 [(.bool false)])), [(.tmp 20), (.tmp 20)]⟩, []⟩, ⟨0, ⟨(some 8), none, (.pure .id), [(.tmp 21)]⟩, []⟩]) (.seq (.region [⟨0, ⟨(some 22), none, (.load (.load 2 true)), [(.tmp 3)]⟩, []⟩, ⟨0, ⟨(some 23), none, (.pure .id), [(.tmp 8)]⟩, []⟩, ⟨0, ⟨(some 24), none, (.pure (.mkfunc 64 0)), [(.tmp 5)]⟩, []⟩, ⟨0, ⟨(some 25), none, (.call 63), [(.tmp 22), (.tmp 23), (.tmp 24)]⟩, []⟩]) (.seq (.region [⟨0, ⟨(some 26), none, (.pure .id), [(.tmp 8)]⟩, []⟩, ⟨0, ⟨(some 27), none, (.pure .id), [(.tmp 1)]⟩, []⟩, ⟨0, ⟨(some 28), none, (.call 68), [(.tmp 26), (.tmp 27)]⟩, []⟩, ⟨0, ⟨(some 6), none, (.pure .id), [(.tmp 28)]⟩, []⟩, ⟨0, ⟨(some 7), none, (.pure .id), [(.const (.int .i64 0))]⟩, []⟩]) .ret)))))⟩
theorem c46 : compF Try.prog Try.f46 = some g46 := by kernel_rfl
theorem gc46 {args : List DV} {σ : GS} {Post : DV → GS → Prop} (h : @exB Try.prog ⟨g46.body⟩ (genv0 args g46.ntmps) σ ⟨@gretB g46.results ⟨Post⟩⟩) : GCall Try.prog 46 args σ Post := gcall_ofB tryfollows Try.func46 (by kernel_rfl) c46 h
abbrev g47 : GFun := ⟨67, [(.tmp 4)], (.seq (.region [⟨0, ⟨(some 2), none, (.new .box), [(.tmp 0)]⟩, []⟩, ⟨0, ⟨(some 4), none, (.pure .id), [(.const .nils)]⟩, []⟩]) (.seq (.region [⟨0, ⟨(some 12), none, (.pure (.faddr 0)), [(.tmp 2)]⟩, []⟩, ⟨0, ⟨(some 13), none, (.pure (.faddr 1)), [(.tmp 12)]⟩, []⟩, ⟨0, ⟨(some 14), none, (.load (.load 1 false)), [(.tmp 13)]⟩, []⟩, ⟨0, ⟨(some 5), none, (.pure .id), [(.tmp 14)]⟩, []⟩]) (.seq (.region [⟨0, ⟨(some 15), none, (.pure .id), [(.tmp 5)]⟩, []⟩, ⟨0, ⟨(some 16), none, (.new (.bslice 1 [(.int .i64 0)] 1 [(0, 1)])), [(.tmp 15)]⟩, []⟩, ⟨0, ⟨(some 6), none, (.pure .id), [(.tmp 16)]⟩, []⟩]) (.seq (.seq (.region [⟨0, ⟨(some 7), none, (.pure .id), [(.const (.int .i64 1))]⟩, []⟩]) (.block 0 (.loop (.seq (.seq (.region [⟨0, ⟨(some 17), none, (.pure .id), [(.tmp 7)]⟩, []⟩, ⟨0, ⟨(some 18), none, (.pure (.faddr 0)), [(.tmp 2)]⟩, []⟩, ⟨0, ⟨(some 19), none, (.pure (.faddr 3)), [(.tmp 18)]⟩, []⟩, ⟨0, ⟨(some 20), none, (.load (.load 1 false)), [(.tmp 19)]⟩, []⟩, ⟨0, ⟨(some 21), none, (.pure (.bin .leq .none)), [(.tmp 17), (.tmp 20)]⟩, []⟩]) (.cond (.tmp 21) .skip (.exit 0))) (.seq (.block 1 (.seq (.region [⟨0, ⟨(some 24), none, (.pure (.faddr 0)), [(.tmp 2)]⟩, []⟩, ⟨0, ⟨(some 25), none, (.pure (.faddr 0)), [(.tmp 24)]⟩, []⟩, ⟨0, ⟨(some 26), none, (.load (.load 1 false)), [(.tmp 25)]⟩, []⟩, ⟨0, ⟨(some 27), none, (.pure .id), [(.tmp 5)]⟩, []⟩, ⟨0, ⟨(some 28), none, (.pure (.iaddr 2)), [(.tmp 26), (.tmp 27)]⟩, []⟩, ⟨0, ⟨(some 29), none, (.load (.load 2 true)), [(.tmp 28)]⟩, []⟩, ⟨0, ⟨(some 8), none, (.new (.alloc [(.bool false), .nils])), []⟩, []⟩, ⟨0, ⟨none, none, (.imp (.store 2)), [(.tmp 8), (.tmp 29)]⟩, []⟩]) (.seq (.region [⟨0, ⟨(some 9), none, (.pure .id), [(.const (.int .i64 0))]⟩, []⟩]) (.seq (.seq (.region [⟨0, ⟨(some 30), none, (.load (.load 5 true)), [(.tmp 2)]⟩, []⟩, ⟨0, ⟨(some 31), none, (.pure .id), [(.tmp 7)]⟩, []⟩, ⟨0, ⟨(some 32), none, (.pure (.faddr 0)), [(.tmp 8)]⟩, []⟩, ⟨0, ⟨(some 33), none, (.load (.load 1 false)), [(.tmp 32)]⟩, []⟩, ⟨0, ⟨(some 34), none, (.call 34), [(.tmp 30), (.tmp 31), (.tmp 33)]⟩, []⟩, ⟨0, ⟨(some 35), none, (.pure .len), [(.tmp 34)]⟩, []⟩, ⟨0, ⟨(some 36), none, (.pure .id), [(.const (.int .i64 0))]⟩, []⟩]) (.block 2 (.loop (.seq (.region [⟨0, ⟨(some 37), none, (.pure (.bin .lss .none)), [(.tmp 36), (.tmp 35)]⟩, []⟩]) (.seq (.cond (.tmp 37) .skip (.exit 2)) (.seq (.block 3 (.seq (.region [⟨0, ⟨(some 38), none, (.pure .id), [(.tmp 36)]⟩, []⟩, ⟨0, ⟨(some 39), none, (.pure (.iaddr 1)), [(.tmp 34), (.tmp 36)]⟩, []⟩, ⟨0, ⟨(some 40), none, (.load (.load 1 false)), [(.tmp 39)]⟩, []⟩, ⟨0, ⟨(some 10), none, (.pure .id), [(.tmp 38)]⟩, []⟩, ⟨0, ⟨(some 11), none, (.pure .id), [(.tmp 40)]⟩, []⟩]) (.seq (.region [⟨0, ⟨(some 41), none, (.pure .id), [(.tmp 1)]⟩, []⟩, ⟨0, ⟨(some 42), none, (.pure .id), [(.tmp 11)]⟩, []⟩, ⟨0, ⟨(some 43), none, .callv, [(.tmp 41), (.tmp 42)]⟩, []⟩]) (.cond (.tmp 43) (.region [⟨0, ⟨(some 44), none, (.pure .id), [(.tmp 9)]⟩, []⟩, ⟨0, ⟨(some 45), none, (.pure .id), [(.tmp 10)]⟩, []⟩, ⟨0, ⟨(some 46), none, (.pure (.bin .shl .none)), [(.const (.int .i64 1)), (.tmp 45)]⟩, []⟩, ⟨0, ⟨(some 47), none, (.pure (.bin .or .none)), [(.tmp 44), (.tmp 46)]⟩, []⟩, ⟨0, ⟨(some 9), none, (.pure .id), [(.tmp 47)]⟩, []⟩]) .skip)))) (.region [⟨0, ⟨(some 48), none, (.pure (.bin .add .none)), [(.tmp 36), (.const (.int .i64 1))]⟩, []⟩, ⟨0, ⟨(some 36), none, (.pure .id), [(.tmp 48)]⟩, []⟩]))))))) (.seq (.seq (.region [⟨0, ⟨(some 49), none, (.pure (.faddr 1)), [(.tmp 8)]⟩, []⟩, ⟨0, ⟨(some 50), none, (.load (.load 1 false)), [(.tmp 49)]⟩, []⟩, ⟨0, ⟨(some 51), none, (.pure .len), [(.tmp 50)]⟩, []⟩, ⟨0, ⟨(some 52), none, (.pure (.bin .gtr .none)), [(.tmp 51), (.const (.int .i64 0))]⟩, []⟩]) (.cond (.tmp 52) (.region [⟨0, ⟨(some 53), none, (.pure (.faddr 1)), [(.tmp 8)]⟩, []⟩, ⟨1, ⟨(some 54), none, (.load (.load 1 false)), [(.tmp 53)]⟩, []⟩, ⟨2, ⟨(some 55), none, (.pure .id), [(.tmp 9)]⟩, []⟩, ⟨3, ⟨(some 56), none, (.pure (.faddr 1)), [(.tmp 8)]⟩, []⟩, ⟨4, ⟨(some 57), none, (.load (.load 1 false)), [(.tmp 56)]⟩, []⟩, ⟨5, ⟨(some 58), none, (.pure .len), [(.tmp 57)]⟩, []⟩, ⟨6, ⟨(some 59), none, (.pure (.bin .rem .none)), [(.tmp 55), (.tmp 58)]⟩, []⟩, ⟨7, ⟨(some 60), none, (.pure (.iaddr 1)), [(.tmp 54), (.tmp 59)]⟩, []⟩, ⟨8, ⟨(some 61), none, (.load (.load 1 false)), [(.tmp 60)]⟩, []⟩, ⟨9, ⟨(some 5), none, (.pure .id), [(.tmp 61)]⟩, []⟩]) .skip)) (.region [⟨0, ⟨(some 62), none, (.pure .id), [(.tmp 6)]⟩, []⟩, ⟨0, ⟨(some 63), none, (.pure .id), [(.tmp 5)]⟩, []⟩, ⟨0, ⟨(some 64), none, (.new (.bslice 1 [(.int .i64 0)] 1 [(0, 1)])), [(.tmp 63)]⟩, []⟩, ⟨0, ⟨(some 65), none, (.imp (.append 1 8)), [(.tmp 62), (.tmp 64)]⟩, []⟩, ⟨0, ⟨(some 6), none, (.pure .id), [(.tmp 65)]⟩, []⟩])))))) (.region [⟨0, ⟨(some 22), none, (.pure .id), [(.tmp 7)]⟩, []⟩, ⟨0, ⟨(some 23), none, (.pure (.bin .add .none)), [(.tmp 22), (.const (.int .i64 1))]⟩, []⟩, ⟨0, ⟨(some 7), none, (.pure .id), [(.tmp 23)]⟩, []⟩])))))) (.seq (.region [⟨0, ⟨(some 66), none, (.pure .id), [(.tmp 6)]⟩, []⟩, ⟨0, ⟨(some 4), none, (.pure .id), [(.tmp 66)]⟩, []⟩]) .ret)))))⟩
theorem c47 : compF Try.prog Try.f47 = some g47 := by kernel_rfl
theorem gc47 {args : List DV} {σ : GS} {Post : DV → GS → Prop} (h : @exB Try.prog ⟨g47.body⟩ (genv0 args g47.ntmps) σ ⟨@gretB g47.results ⟨Post⟩⟩) : GCall Try.prog 47 args σ Post := gcall_ofB tryfollows Try.func47 (by kernel_rfl) c47 h
abbrev g22 : GFun := ⟨44, [(.tmp 4), (.tmp 5)], (.seq (.region [⟨0, ⟨(some 2), none, (.new .box), [(.tmp 0)]⟩, []⟩, ⟨0, ⟨(some 4), none, (.pure .id), [(.const .nils)]⟩, []⟩, ⟨0, ⟨(some 5), none, (.pure .id), [(.const (.int .i64 0))]⟩, []⟩]) (.seq (.region [⟨0, ⟨(some 14), none, (.load (.load 4 true)), [(.tmp 2)]⟩, []⟩, ⟨0, ⟨(some 15), none, (.call 32), [(.tmp 14)]⟩, []⟩, ⟨0, ⟨(some 13), none, (.pure .id), [(.tmp 15)]⟩, []⟩, ⟨0, ⟨(some 16), none, (.pure (.extract 0)), [(.tmp 13)]⟩, []⟩, ⟨0, ⟨(some 17), none, (.pure (.extract 1)), [(.tmp 13)]⟩, []⟩, ⟨0, ⟨(some 6), none, (.new (.alloc [.nils, (.int .i64 0), .nils, (.int .i64 0), (.int .i64 0)])), []⟩, []⟩, ⟨0, ⟨none, none, (.imp (.store 5)), [(.tmp 6), (.tmp 16)]⟩, []⟩, ⟨0, ⟨(some 7), none, (.pure .id), [(.tmp 17)]⟩, []⟩]) (.seq (.seq (.region [⟨0, ⟨(some 19), none, (.pure (.build [.nils, .nils] [])), []⟩, []⟩, ⟨0, ⟨(some 20), none, (.pure .id), [(.tmp 1)]⟩, []⟩, ⟨0, ⟨(some 21), none, (.call 46), [(.tmp 19), (.const (.int .i64 0)), (.tmp 20)]⟩, []⟩, ⟨0, ⟨(some 18), none, (.pure .id), [(.tmp 21)]⟩, []⟩, ⟨0, ⟨(some 22), none, (.pure (.extract 0)), [(.tmp 18)]⟩, []⟩, ⟨0, ⟨(some 23), none, (.pure (.extract 1)), [(.tmp 18)]⟩, []⟩, ⟨0, ⟨(some 8), none, (.pure .id), [(.tmp 22)]⟩, []⟩, ⟨0, ⟨(some 9), none, (.pure .id), [(.tmp 23)]⟩, []⟩]) (.seq (.region [⟨0, ⟨(some 24), none, (.pure .id), [(.tmp 7)]⟩, []⟩, ⟨0, ⟨(some 25), none, (.pure (.bin .neq .none)), [(.tmp 24), (.const (.int .i64 0))]⟩, []⟩, ⟨0, ⟨(some 26), none, (.pure .id), [(.tmp 25)]⟩, []⟩, ⟨0, ⟨(some 27), (some (26, false)), (.pure .id), [(.tmp 9)]⟩, []⟩, ⟨0, ⟨(some 28), (some (26, false)), (.pure (.bin .neq .none)), [(.tmp 27), (.const (.int .i64 0))]⟩, []⟩, ⟨0, ⟨(some 29), none, (.pure .pick), [(.tmp 26), (.const (.bool true)), (.tmp 28)]⟩, []⟩]) (.cond (.tmp 29) (.seq (.region [⟨0, ⟨(some 4), none, (.pure .id), [(.const .nils)]⟩, []⟩, ⟨0, ⟨(some 5), none, (.pure .id), [(.const (.int .i64 2))]⟩, []⟩]) .ret) .skip))) (.seq (.region [⟨0, ⟨(some 30), none, (.new .mmap), []⟩, []⟩, ⟨0, ⟨(some 10), none, (.pure .id), [(.tmp 30)]⟩, []⟩]) (.seq (.seq (.region [⟨0, ⟨(some 31), none, (.pure .id), [(.tmp 1)]⟩, []⟩, ⟨0, ⟨(some 32), none, (.pure .len), [(.tmp 31)]⟩, []⟩, ⟨0, ⟨(some 33), none, (.pure .id), [(.const (.int .i64 0))]⟩, []⟩]) (.block 0 (.loop (.seq (.region [⟨0, ⟨(some 34), none, (.pure (.bin .lss .none)), [(.tmp 33), (.tmp 32)]⟩, []⟩]) (.seq (.cond (.tmp 34) .skip (.exit 0)) (.seq (.block 1 (.seq (.region [⟨0, ⟨(some 35), none, (.pure (.iaddr 1)), [(.tmp 31), (.tmp 33)]⟩, []⟩, ⟨0, ⟨(some 36), none, (.load (.load 1 false)), [(.tmp 35)]⟩, []⟩, ⟨0, ⟨(some 12), none, (.pure .id), [(.tmp 36)]⟩, []⟩]) (.region [⟨0, ⟨(some 37), none, (.pure .id), [(.tmp 10)]⟩, []⟩, ⟨0, ⟨(some 38), none, (.pure .id), [(.tmp 12)]⟩, []⟩, ⟨0, ⟨none, none, (.imp (.mset (.int .i64))), [(.tmp 37), (.tmp 38), (.const (.bool true))]⟩, []⟩]))) (.region [⟨0, ⟨(some 39), none, (.pure (.bin .add .none)), [(.tmp 33), (.const (.int .i64 1))]⟩, []⟩, ⟨0, ⟨(some 33), none, (.pure .id), [(.tmp 39)]⟩, []⟩]))))))) (.seq (.region [⟨0, ⟨(some 40), none, (.load (.load 5 true)), [(.tmp 6)]⟩, []⟩, ⟨0, ⟨(some 41), none, (.pure .id), [(.tmp 10)]⟩, []⟩, ⟨0, ⟨(some 42), none, (.pure (.mkfunc 48 1)), [(.tmp 41)]⟩, []⟩, ⟨0, ⟨(some 43), none, (.call 47), [(.tmp 40), (.tmp 42)]⟩, []⟩, ⟨0, ⟨(some 4), none, (.pure .id), [(.tmp 43)]⟩, []⟩, ⟨0, ⟨(some 5), none, (.pure .id), [(.const (.int .i64 0))]⟩, []⟩]) .ret))))))⟩
theorem c22 : compF Try.prog Try.f22 = some g22 := by kernel_rfl
theorem gc22 {args : List DV} {σ : GS} {Post : DV → GS → Prop} (h : @exB Try.prog ⟨g22.body⟩ (genv0 args g22.ntmps) σ ⟨@gretB g22.results ⟨Post⟩⟩) : GCall Try.prog 22 args σ Post := gcall_ofB tryfollows Try.func22 (by kernel_rfl) c22 h
abbrev g48 : GFun := ⟨8, [(.tmp 4)], (.seq (.region [⟨0, ⟨(some 4), none, (.pure .id), [(.const (.bool false))]⟩, []⟩]) (.seq (.region [⟨0, ⟨(some 5), none, (.pure .id), [(.tmp 0)]⟩, []⟩, ⟨0, ⟨(some 6), none, (.pure .id), [(.tmp 1)]⟩, []⟩, ⟨0, ⟨(some 7), none, (.load (.lookup (.int .i64) (.bool false) false)), [(.tmp 5), (.tmp 6)]⟩, []⟩, ⟨0, ⟨(some 4), none, (.pure .id), [(.tmp 7)]⟩, []⟩]) .ret))⟩
theorem c48 : compF Try.prog Try.f48 = some g48 := by kernel_rfl
theorem gc48 {args : List DV} {σ : GS} {Post : DV → GS → Prop} (h : @exB Try.prog ⟨g48.body⟩ (genv0 args g48.ntmps) σ ⟨@gretB g48.results ⟨Post⟩⟩) : GCall Try.prog 48 args σ Post := gcall_ofB tryfollows Try.func48 (by kernel_rfl) c48 h
abbrev g14 : GFun := ⟨29, [(.tmp 2), (.tmp 3)], (.seq (.region [⟨0, ⟨(some 1), none, (.new .box), [(.tmp 0)]⟩, []⟩, ⟨0, ⟨(some 2), none, (.pure .id), [(.const (.bool false))]⟩, []⟩, ⟨0, ⟨(some 3), none, (.pure .id), [(.const (.int .i64 0))]⟩, []⟩]) (.seq (.region [⟨0, ⟨(some 8), none, (.load (.load 4 true)), [(.tmp 1)]⟩, []⟩, ⟨0, ⟨(some 9), none, (.call 32), [(.tmp 8)]⟩, []⟩, ⟨0, ⟨(some 7), none, (.pure .id), [(.tmp 9)]⟩, []⟩, ⟨0, ⟨(some 10), none, (.pure (.extract 0)), [(.tmp 7)]⟩, []⟩, ⟨0, ⟨(some 11), none, (.pure (.extract 1)), [(.tmp 7)]⟩, []⟩, ⟨0, ⟨(some 4), none, (.new (.alloc [.nils, (.int .i64 0), .nils, (.int .i64 0), (.int .i64 0)])), []⟩, []⟩, ⟨0, ⟨none, none, (.imp (.store 5)), [(.tmp 4), (.tmp 10)]⟩, []⟩, ⟨0, ⟨(some 5), none, (.pure .id), [(.tmp 11)]⟩, []⟩]) (.seq (.seq (.region [⟨0, ⟨(some 12), none, (.pure .id), [(.tmp 5)]⟩, []⟩, ⟨0, ⟨(some 13), none, (.pure (.bin .neq .none)), [(.tmp 12), (.const (.int .i64 0))]⟩, []⟩]) (.cond (.tmp 13) (.seq (.region [⟨0, ⟨(some 14), none, (.pure .id), [(.tmp 5)]⟩, []⟩, ⟨0, ⟨(some 2), none, (.pure .id), [(.const (.bool false))]⟩, []⟩, ⟨0, ⟨(some 3), none, (.pure .id), [(.tmp 14)]⟩, []⟩]) .ret) .skip)) (.seq (.region [⟨0, ⟨(some 15), none, (.load (.load 5 true)), [(.tmp 4)]⟩, []⟩, ⟨0, ⟨(some 16), none, (.call 36), [(.tmp 15)]⟩, []⟩, ⟨0, ⟨(some 6), none, (.new (.alloc [(.bool false), (.bool false), (.bool false), (.bool false), (.bool false), (.bool false), (.bool false), (.bool false), (.bool false), (.bool false), (.bool false), (.bool false), (.bool false), (.bool false), (.bool false), (.bool false)])), []⟩, []⟩, ⟨0, ⟨none, none, (.imp (.store 16)), [(.tmp 6), (.tmp 16)]⟩, []⟩]) (.seq (.seq (.region [⟨0, ⟨(some 17), none, (.pure (.faddr 3)), [(.tmp 1)]⟩, []⟩, ⟨0, ⟨(some 18), none, (.load (.load 1 false)), [(.tmp 17)]⟩, []⟩, ⟨0, ⟨(some 19), none, (.pure .id), [(.const (.int .i64 0))]⟩, []⟩]) (.block 0 (.loop (.seq (.region [⟨0, ⟨(some 20), none, (.pure (.bin .lss .none)), [(.tmp 19), (.tmp 18)]⟩, []⟩]) (.seq (.cond (.tmp 20) .skip (.exit 0)) (.seq (.block 1 (.region [⟨0, ⟨(some 21), none, (.load (.load 5 true)), [(.tmp 4)]⟩, []⟩, ⟨0, ⟨(some 22), none, (.load (.load 16 true)), [(.tmp 6)]⟩, []⟩, ⟨0, ⟨(some 23), none, (.call 37), [(.tmp 21), (.tmp 22)]⟩, []⟩, ⟨0, ⟨none, none, (.imp (.store 16)), [(.tmp 6), (.tmp 23)]⟩, []⟩])) (.region [⟨0, ⟨(some 24), none, (.pure (.bin .add .none)), [(.tmp 19), (.const (.int .i64 1))]⟩, []⟩, ⟨0, ⟨(some 19), none, (.pure .id), [(.tmp 24)]⟩, []⟩]))))))) (.seq (.region [⟨0, ⟨(some 25), none, (.pure (.faddr 1)), [(.tmp 1)]⟩, []⟩, ⟨0, ⟨(some 26), none, (.load (.load 1 false)), [(.tmp 25)]⟩, []⟩, ⟨0, ⟨(some 27), none, (.pure (.iarr 16 1)), [(.tmp 6), (.tmp 26)]⟩, []⟩, ⟨0, ⟨(some 28), none, (.load (.load 1 false)), [(.tmp 27)]⟩, []⟩, ⟨0, ⟨(some 2), none, (.pure .id), [(.tmp 28)]⟩, []⟩, ⟨0, ⟨(some 3), none, (.pure .id), [(.const (.int .i64 0))]⟩, []⟩]) .ret))))))⟩
theorem c14 : compF Try.prog Try.f14 = some g14 := by kernel_rfl
theorem gc14 {args : List DV} {σ : GS} {Post : DV → GS → Prop} (h : @exB Try.prog ⟨g14.body⟩ (genv0 args g14.ntmps) σ ⟨@gretB g14.results ⟨Post⟩⟩) : GCall Try.prog 14 args σ Post := gcall_ofB tryfollows Try.func14 (by kernel_rfl) c14 h
abbrev g36 : GFun := ⟨17, [(.cell 2 16 true)], (.seq (.region [⟨0, ⟨(some 1), none, (.new .box), [(.tmp 0)]⟩, []⟩, ⟨0, ⟨(some 2), none, (.new (.alloc [(.bool false), (.bool false), (.bool false), (.bool false), (.bool false), (.bool false), (.bool false), (.bool false), (.bool false), (.bool false), (.bool false), (.bool false), (.bool false), (.bool false), (.bool false), (.bool false)])), []⟩, []⟩]) (.seq (.seq (.region [⟨0, ⟨(some 5), none, (.pure (.faddr 0)), [(.tmp 1)]⟩, []⟩, ⟨0, ⟨(some 6), none, (.pure (.faddr 2)), [(.tmp 5)]⟩, []⟩, ⟨0, ⟨(some 7), none, (.load (.load 1 false)), [(.tmp 6)]⟩, []⟩, ⟨0, ⟨(some 8), none, (.pure .len), [(.tmp 7)]⟩, []⟩, ⟨0, ⟨(some 9), none, (.pure .id), [(.const (.int .i64 0))]⟩, []⟩]) (.block 0 (.loop (.seq (.region [⟨0, ⟨(some 10), none, (.pure (.bin .lss .none)), [(.tmp 9), (.tmp 8)]⟩, []⟩]) (.seq (.cond (.tmp 10) .skip (.exit 0)) (.seq (.block 1 (.seq (.region [⟨0, ⟨(some 11), none, (.pure (.iaddr 1)), [(.tmp 7), (.tmp 9)]⟩, []⟩, ⟨0, ⟨(some 12), none, (.load (.load 1 false)), [(.tmp 11)]⟩, []⟩, ⟨0, ⟨(some 4), none, (.pure .id), [(.tmp 12)]⟩, []⟩]) (.region [⟨0, ⟨(some 13), none, (.pure .id), [(.tmp 4)]⟩, []⟩, ⟨0, ⟨(some 14), none, (.pure (.iarr 16 1)), [(.tmp 2), (.tmp 13)]⟩, []⟩, ⟨0, ⟨none, none, (.imp (.store 1)), [(.tmp 14), (.const (.bool true))]⟩, []⟩]))) (.region [⟨0, ⟨(some 15), none, (.pure (.bin .add .none)), [(.tmp 9), (.const (.int .i64 1))]⟩, []⟩, ⟨0, ⟨(some 9), none, (.pure .id), [(.tmp 15)]⟩, []⟩]))))))) (.seq (.region [⟨0, ⟨(some 16), none, (.load (.load 16 true)), [(.tmp 2)]⟩, []⟩, ⟨0, ⟨none, none, (.imp (.store 16)), [(.tmp 2), (.tmp 16)]⟩, []⟩]) .ret)))⟩
theorem c36 : compF Try.prog Try.f36 = some g36 := by kernel_rfl
theorem gc36 {args : List DV} {σ : GS} {Post : DV → GS → Prop} (h : @exB Try.prog ⟨g36.body⟩ (genv0 args g36.ntmps) σ ⟨@gretB g36.results ⟨Post⟩⟩) : GCall Try.prog 36 args σ Post := gcall_ofB tryfollows Try.func36 (by kernel_rfl) c36 h
abbrev g37 : GFun := ⟨38, [(.cell 4 16 true)], (.seq (.region [⟨0, ⟨(some 2), none, (.new .box), [(.tmp 0)]⟩, []⟩, ⟨0, ⟨(some 3), none, (.new .box), [(.tmp 1)]⟩, []⟩, ⟨0, ⟨(some 4), none, (.new (.alloc [(.bool false), (.bool false), (.bool false), (.bool false), (.bool false), (.bool false), (.bool false), (.bool false), (.bool false), (.bool false), (.bool false), (.bool false), (.bool false), (.bool false), (.bool false), (.bool false)])), []⟩, []⟩]) (.seq (.region [⟨0, ⟨(some 9), none, (.load (.load 5 true)), [(.tmp 2)]⟩, []⟩, ⟨0, ⟨(some 10), none, (.call 36), [(.tmp 9)]⟩, []⟩, ⟨0, ⟨(some 5), none, (.new (.alloc [(.bool false), (.bool false), (.bool false), (.bool false), (.bool false), (.bool false), (.bool false), (.bool false), (.bool false), (.bool false), (.bool false), (.bool false), (.bool false), (.bool false), (.bool false), (.bool false)])), []⟩, []⟩, ⟨0, ⟨none, none, (.imp (.store 16)), [(.tmp 5), (.tmp 10)]⟩, []⟩]) (.seq (.seq (.region [⟨0, ⟨(some 11), none, (.pure (.faddr 0)), [(.tmp 2)]⟩, []⟩, ⟨0, ⟨(some 12), none, (.pure (.faddr 0)), [(.tmp 11)]⟩, []⟩, ⟨0, ⟨(some 13), none, (.load (.load 1 false)), [(.tmp 12)]⟩, []⟩, ⟨0, ⟨(some 14), none, (.pure .len), [(.tmp 13)]⟩, []⟩, ⟨0, ⟨(some 15), none, (.pure .id), [(.const (.int .i64 0))]⟩, []⟩]) (.block 0 (.loop (.seq (.region [⟨0, ⟨(some 16), none, (.pure (.bin .lss .none)), [(.tmp 15), (.tmp 14)]⟩, []⟩]) (.seq (.cond (.tmp 16) .skip (.exit 0)) (.seq (.block 1 (.seq (.region [⟨0, ⟨(some 17), none, (.pure .id), [(.tmp 15)]⟩, []⟩, ⟨0, ⟨(some 18), none, (.pure (.iaddr 2)), [(.tmp 13), (.tmp 15)]⟩, []⟩, ⟨0, ⟨(some 19), none, (.load (.load 2 true)), [(.tmp 18)]⟩, []⟩, ⟨0, ⟨(some 7), none, (.new (.alloc [(.bool false), .nils])), []⟩, []⟩, ⟨0, ⟨(some 6), none, (.pure .id), [(.tmp 17)]⟩, []⟩, ⟨0, ⟨none, none, (.imp (.store 2)), [(.tmp 7), (.tmp 19)]⟩, []⟩]) (.seq (.region [⟨0, ⟨(some 20), none, (.pure (.mkfunc 58 0)), [(.tmp 3), (.tmp 7)]⟩, []⟩, ⟨0, ⟨(some 8), none, (.pure .id), [(.tmp 20)]⟩, []⟩]) (.seq (.region [⟨0, ⟨(some 21), none, (.pure (.faddr 1)), [(.tmp 7)]⟩, []⟩, ⟨1, ⟨(some 22), none, (.load (.load 1 false)), [(.tmp 21)]⟩, []⟩, ⟨2, ⟨(some 23), none, (.pure .len), [(.tmp 22)]⟩, []⟩, ⟨3, ⟨(some 24), none, (.pure (.bin .gtr .none)), [(.tmp 23), (.const (.int .i64 0))]⟩, []⟩, ⟨4, ⟨(some 25), none, (.pure .id), [(.tmp 24)]⟩, []⟩, ⟨5, ⟨(some 26), (some (25, true)), (.pure (.faddr 1)), [(.tmp 7)]⟩, []⟩, ⟨6, ⟨(some 27), (some (25, true)), (.load (.load 1 false)), [(.tmp 26)]⟩, []⟩, ⟨7, ⟨(some 28), (some (25, true)), (.pure .id), [(.tmp 8)]⟩, []⟩, ⟨9, ⟨(some 30), (some (25, true)), (.pure (.faddr 0)), [(.tmp 7)]⟩, []⟩, ⟨10, ⟨(some 31), (some (25, true)), (.load (.load 1 false)), [(.tmp 30)]⟩, []⟩, ⟨8, ⟨(some 29), (some (25, true)), (.call 43), [(.tmp 27), (.tmp 28)]⟩, [⟨(some 31), (some (25, true)), (.load (.load 1 false)), [(.tmp 30)]⟩]⟩, ⟨11, ⟨(some 32), (some (25, true)), (.pure (.bin .eql .bool)), [(.tmp 29), (.tmp 31)]⟩, []⟩, ⟨12, ⟨(some 33), none, (.pure .pick), [(.tmp 25), (.tmp 32), (.const (.bool false))]⟩, []⟩]) (.cond (.tmp 33) (.region [⟨0, ⟨(some 34), none, (.pure .id), [(.tmp 6)]⟩, []⟩, ⟨0, ⟨(some 35), none, (.pure (.iarr 16 1)), [(.tmp 5), (.tmp 34)]⟩, []⟩, ⟨0, ⟨none, none, (.imp (.store 1)), [(.tmp 35), (.const (.bool true))]⟩, []⟩]) .skip))))) (.region [⟨0, ⟨(some 36), none, (.pure (.bin .add .none)), [(.tmp 15), (.const (.int .i64 1))]⟩, []⟩, ⟨0, ⟨(some 15), none, (.pure .id), [(.tmp 36)]⟩, []⟩]))))))) (.seq (.region [⟨0, ⟨(some 37), none, (.load (.load 16 true)), [(.tmp 5)]⟩, []⟩, ⟨0, ⟨none, none, (.imp (.store 16)), [(.tmp 4), (.tmp 37)]⟩, []⟩]) .ret))))⟩
theorem c37 : compF Try.prog Try.f37 = some g37 := by kernel_rfl
theorem gc37 {args : List DV} {σ : GS} {Post : DV → GS → Prop} (h : @exB Try.prog ⟨g37.body⟩ (genv0 args g37.ntmps) σ ⟨@gretB g37.results ⟨Post⟩⟩) : GCall Try.prog 37 args σ Post := gcall_ofB tryfollows Try.func37 (by kernel_rfl) c37 h
abbrev g58 : GFun := ⟨11, [(.tmp 4)], (.seq (.region [⟨0, ⟨(some 4), none, (.pure .id), [(.const (.bool false))]⟩, []⟩]) (.seq (.region [⟨0, ⟨(some 5), none, (.pure .id), [(.tmp 0)]⟩, []⟩, ⟨1, ⟨(some 6), none, (.pure (.iarr 16 1)), [(.tmp 1), (.tmp 5)]⟩, []⟩, ⟨2, ⟨(some 7), none, (.load (.load 1 false)), [(.tmp 6)]⟩, []⟩, ⟨3, ⟨(some 8), none, (.pure (.faddr 0)), [(.tmp 2)]⟩, []⟩, ⟨4, ⟨(some 9), none, (.load (.load 1 false)), [(.tmp 8)]⟩, []⟩, ⟨5, ⟨(some 10), none, (.pure (.bin .eql .bool)), [(.tmp 7), (.tmp 9)]⟩, []⟩, ⟨6, ⟨(some 4), none, (.pure .id), [(.tmp 10)]⟩, []⟩]) .ret))⟩
theorem c58 : compF Try.prog Try.f58 = some g58 := by kernel_rfl
theorem gc58 {args : List DV} {σ : GS} {Post : DV → GS → Prop} (h : @exB Try.prog ⟨g58.body⟩ (genv0 args g58.ntmps) σ ⟨@gretB g58.results ⟨Post⟩⟩) : GCall Try.prog 58 args σ Post := gcall_ofB tryfollows Try.func58 (by kernel_rfl) c58 h
abbrev g6 : GFun := ⟨122, [(.tmp 4)], (.seq (.region [⟨0, ⟨(some 2), none, (.new .box), [(.tmp 0)]⟩, []⟩, ⟨0, ⟨(some 4), none, (.pure .id), [(.const (.bool false))]⟩, []⟩]) (.seq (.seq (.region [⟨0, ⟨(some 13), none, (.load (.load 4 true)), [(.tmp 2)]⟩, []⟩, ⟨0, ⟨(some 14), none, (.call 8), [(.tmp 13)]⟩, []⟩, ⟨0, ⟨(some 15), none, (.pure .id), [(.tmp 14)]⟩, []⟩, ⟨0, ⟨(some 16), (some (15, false)), (.pure .id), [(.tmp 1)]⟩, []⟩, ⟨0, ⟨(some 17), (some (15, false)), (.pure .len), [(.tmp 16)]⟩, []⟩, ⟨0, ⟨(some 18), (some (15, false)), (.pure (.bin .gtr .none)), [(.tmp 17), (.const (.int .i64 100))]⟩, []⟩, ⟨0, ⟨(some 19), none, (.pure .pick), [(.tmp 15), (.const (.bool true)), (.tmp 18)]⟩, []⟩, ⟨0, ⟨(some 20), none, (.pure .id), [(.tmp 19)]⟩, []⟩, ⟨0, ⟨(some 21), (some (20, false)), (.load (.load 4 true)), [(.tmp 2)]⟩, []⟩, ⟨0, ⟨(some 22), (some (20, false)), (.call 19), [(.tmp 21)]⟩, []⟩, ⟨0, ⟨(some 23), (some (20, false)), (.pure (.un .not)), [(.tmp 22)]⟩, []⟩, ⟨0, ⟨(some 24), none, (.pure .pick), [(.tmp 20), (.const (.bool true)), (.tmp 23)]⟩, []⟩, ⟨0, ⟨(some 25), none, (.pure .id), [(.tmp 24)]⟩, []⟩, ⟨0, ⟨(some 26), (some (25, false)), (.pure .id), [(.tmp 1)]⟩, []⟩, ⟨0, ⟨(some 27), (some (25, false)), (.call 25), [(.tmp 26)]⟩, []⟩, ⟨0, ⟨(some 28), (some (25, false)), (.pure (.un .not)), [(.tmp 27)]⟩, []⟩, ⟨0, ⟨(some 29), none, (.pure .pick), [(.tmp 25), (.const (.bool true)), (.tmp 28)]⟩, []⟩]) (.cond (.tmp 29) (.seq (.region [⟨0, ⟨(some 30), none, (.call 9), []⟩, []⟩, ⟨0, ⟨(some 4), none, (.pure .id), [(.tmp 30)]⟩, []⟩]) .ret) .skip)) (.seq (.region [⟨0, ⟨(some 32), none, (.load (.load 4 true)), [(.tmp 2)]⟩, []⟩, ⟨0, ⟨(some 33), none, (.call 26), [(.tmp 32)]⟩, []⟩, ⟨0, ⟨(some 31), none, (.pure .id), [(.tmp 33)]⟩, []⟩, ⟨0, ⟨(some 34), none, (.pure (.extract 0)), [(.tmp 31)]⟩, []⟩, ⟨0, ⟨(some 35), none, (.pure (.extract 1)), [(.tmp 31)]⟩, []⟩, ⟨0, ⟨(some 5), none, (.new (.alloc [.nils, .nils, (.int .i64 0)])), []⟩, []⟩, ⟨0, ⟨none, none, (.imp (.store 3)), [(.tmp 5), (.tmp 34)]⟩, []⟩, ⟨0, ⟨(some 6), none, (.pure .id), [(.tmp 35)]⟩, []⟩]) (.seq (.region [⟨0, ⟨(some 37), none, (.load (.load 4 true)), [(.tmp 2)]⟩, []⟩, ⟨0, ⟨(some 38), none, (.pure .id), [(.tmp 1)]⟩, []⟩, ⟨0, ⟨(some 39), none, (.call 22), [(.tmp 37), (.tmp 38)]⟩, []⟩, ⟨0, ⟨(some 36), none, (.pure .id), [(.tmp 39)]⟩, []⟩, ⟨0, ⟨(some 40), none, (.pure (.extract 0)), [(.tmp 36)]⟩, []⟩, ⟨0, ⟨(some 41), none, (.pure (.extract 1)), [(.tmp 36)]⟩, []⟩, ⟨0, ⟨(some 7), none, (.pure .id), [(.tmp 40)]⟩, []⟩, ⟨0, ⟨(some 8), none, (.pure .id), [(.tmp 41)]⟩, []⟩]) (.seq (.seq (.region [⟨0, ⟨(some 42), none, (.pure .id), [(.tmp 6)]⟩, []⟩, ⟨1, ⟨(some 43), none, (.pure (.bin .neq .none)), [(.tmp 42), (.const (.int .i64 0))]⟩, []⟩, ⟨2, ⟨(some 44), none, (.pure .id), [(.tmp 43)]⟩, []⟩, ⟨3, ⟨(some 45), (some (44, false)), (.pure .id), [(.tmp 8)]⟩, []⟩, ⟨4, ⟨(some 46), (some (44, false)), (.pure (.bin .neq .none)), [(.tmp 45), (.const (.int .i64 0))]⟩, []⟩, ⟨5, ⟨(some 47), none, (.pure .pick), [(.tmp 44), (.const (.bool true)), (.tmp 46)]⟩, []⟩, ⟨6, ⟨(some 48), none, (.pure .id), [(.tmp 47)]⟩, []⟩, ⟨7, ⟨(some 49), (some (48, false)), (.pure .id), [(.tmp 7)]⟩, []⟩, ⟨8, ⟨(some 50), (some (48, false)), (.pure .len), [(.tmp 49)]⟩, []⟩, ⟨9, ⟨(some 51), (some (48, false)), (.pure (.faddr 3)), [(.tmp 2)]⟩, []⟩, ⟨10, ⟨(some 52), (some (48, false)), (.load (.load 1 false)), [(.tmp 51)]⟩, []⟩, ⟨11, ⟨(some 53), (some (48, false)), (.pure (.bin .add .none)), [(.tmp 52), (.const (.int .i64 1))]⟩, []⟩, ⟨12, ⟨(some 54), (some (48, false)), (.pure (.bin .neq .none)), [(.tmp 50), (.tmp 53)]⟩, []⟩, ⟨13, ⟨(some 55), none, (.pure .pick), [(.tmp 48), (.const (.bool true)), (.tmp 54)]⟩, []⟩, ⟨14, ⟨(some 56), none, (.pure .id), [(.tmp 55)]⟩, []⟩, ⟨15, ⟨(some 57), (some (56, false)), (.pure .id), [(.tmp 7)]⟩, []⟩, ⟨16, ⟨(some 58), (some (56, false)), (.pure (.iaddr 1)), [(.tmp 57), (.const (.int .i64 0))]⟩, []⟩, ⟨17, ⟨(some 59), (some (56, false)), (.load (.load 1 false)), [(.tmp 58)]⟩, []⟩, ⟨18, ⟨(some 60), (some (56, false)), (.pure (.faddr 1)), [(.tmp 2)]⟩, []⟩, ⟨19, ⟨(some 61), (some (56, false)), (.load (.load 1 false)), [(.tmp 60)]⟩, []⟩, ⟨20, ⟨(some 62), (some (56, false)), (.pure (.bin .neq .none)), [(.tmp 59), (.tmp 61)]⟩, []⟩, ⟨21, ⟨(some 63), none, (.pure .pick), [(.tmp 56), (.const (.bool true)), (.tmp 62)]⟩, []⟩]) (.cond (.tmp 63) (.seq (.region [⟨0, ⟨(some 4), none, (.pure .id), [(.const (.bool false))]⟩, []⟩]) .ret) .skip)) (.seq (.seq (.region [⟨0, ⟨(some 9), none, (.pure .id), [(.const (.int .i64 1))]⟩, []⟩]) (.block 0 (.loop (.seq (.seq (.region [⟨0, ⟨(some 64), none, (.pure .id), [(.tmp 9)]⟩, []⟩, ⟨0, ⟨(some 65), none, (.pure .id), [(.tmp 7)]⟩, []⟩, ⟨0, ⟨(some 66), none, (.pure .len), [(.tmp 65)]⟩, []⟩, ⟨0, ⟨(some 67), none, (.pure (.bin .lss .none)), [(.tmp 64), (.tmp 66)]⟩, []⟩]) (.cond (.tmp 67) .skip (.exit 0))) (.seq (.block 1 (.seq (.region [⟨0, ⟨(some 70), none, (.pure (.faddr 0)), [(.tmp 2)]⟩, []⟩, ⟨1, ⟨(some 71), none, (.load (.load 1 false)), [(.tmp 70)]⟩, []⟩, ⟨2, ⟨(some 72), none, (.pure .id), [(.tmp 7)]⟩, []⟩, ⟨3, ⟨(some 73), none, (.pure .id), [(.tmp 9)]⟩, []⟩, ⟨4, ⟨(some 74), none, (.pure (.bin .sub .none)), [(.tmp 73), (.const (.int .i64 1))]⟩, []⟩, ⟨5, ⟨(some 75), none, (.pure (.iaddr 1)), [(.tmp 72), (.tmp 74)]⟩, []⟩, ⟨6, ⟨(some 76), none, (.load (.load 1 false)), [(.tmp 75)]⟩, []⟩, ⟨7, ⟨(some 77), none, (.pure (.iaddr 2)), [(.tmp 71), (.tmp 76)]⟩, []⟩, ⟨8, ⟨(some 78), none, (.pure (.faddr 1)), [(.tmp 77)]⟩, []⟩, ⟨9, ⟨(some 79), none, (.load (.load 1 false)), [(.tmp 78)]⟩, []⟩, ⟨10, ⟨(some 10), none, (.pure .id), [(.tmp 79)]⟩, []⟩]) (.seq (.region [⟨0, ⟨(some 80), none, (.pure .id), [(.tmp 10)]⟩, []⟩, ⟨1, ⟨(some 81), none, (.pure .id), [(.tmp 7)]⟩, []⟩, ⟨2, ⟨(some 82), none, (.pure .id), [(.tmp 9)]⟩, []⟩, ⟨3, ⟨(some 83), none, (.pure (.iaddr 1)), [(.tmp 81), (.tmp 82)]⟩, []⟩, ⟨4, ⟨(some 84), none, (.load (.load 1 false)), [(.tmp 83)]⟩, []⟩, ⟨5, ⟨(some 85), none, (.call 24), [(.tmp 80), (.tmp 84)]⟩, []⟩, ⟨6, ⟨(some 86), none, (.pure (.un .not)), [(.tmp 85)]⟩, []⟩, ⟨7, ⟨(some 87), none, (.pure .id), [(.tmp 86)]⟩, []⟩, ⟨8, ⟨(some 88), (some (87, true)), (.pure .id), [(.tmp 10)]⟩, []⟩, ⟨9, ⟨(some 89), (some (87, true)), (.pure .len), [(.tmp 88)]⟩, []⟩, ⟨10, ⟨(some 90), (some (87, true)), (.pure (.bin .gtr .none)), [(.tmp 89), (.const (.int .i64 0))]⟩, []⟩, ⟨11, ⟨(some 91), (some (87, true)), (.pure .id), [(.tmp 90)]⟩, []⟩, ⟨12, ⟨(some 92), (some (91, false)), (.pure .id), [(.tmp 7)]⟩, []⟩, ⟨13, ⟨(some 93), (some (91, false)), (.pure .id), [(.tmp 9)]⟩, []⟩, ⟨14, ⟨(some 94), (some (91, false)), (.pure (.iaddr 1)), [(.tmp 92), (.tmp 93)]⟩, []⟩, ⟨15, ⟨(some 95), (some (91, false)), (.load (.load 1 false)), [(.tmp 94)]⟩, []⟩, ⟨16, ⟨(some 96), (some (91, false)), (.pure .id), [(.tmp 7)]⟩, []⟩, ⟨17, ⟨(some 97), (some (91, false)), (.pure .id), [(.tmp 9)]⟩, []⟩, ⟨18, ⟨(some 98), (some (91, false)), (.pure (.bin .sub .none)), [(.tmp 97), (.const (.int .i64 1))]⟩, []⟩, ⟨19, ⟨(some 99), (some (91, false)), (.pure (.iaddr 1)), [(.tmp 96), (.tmp 98)]⟩, []⟩, ⟨20, ⟨(some 100), (some (91, false)), (.load (.load 1 false)), [(.tmp 99)]⟩, []⟩, ⟨21, ⟨(some 101), (some (91, false)), (.pure (.bin .neq .none)), [(.tmp 95), (.tmp 100)]⟩, []⟩, ⟨22, ⟨(some 102), (some (87, true)), (.pure .pick), [(.tmp 91), (.const (.bool true)), (.tmp 101)]⟩, []⟩, ⟨23, ⟨(some 103), none, (.pure .pick), [(.tmp 87), (.tmp 102), (.const (.bool false))]⟩, []⟩]) (.cond (.tmp 103) (.seq (.region [⟨0, ⟨(some 4), none, (.pure .id), [(.const (.bool false))]⟩, []⟩]) .ret) .skip)))) (.region [⟨0, ⟨(some 68), none, (.pure .id), [(.tmp 9)]⟩, []⟩, ⟨0, ⟨(some 69), none, (.pure (.bin .add .none)), [(.tmp 68), (.const (.int .i64 1))]⟩, []⟩, ⟨0, ⟨(some 9), none, (.pure .id), [(.tmp 69)]⟩, []⟩])))))) (.seq (.region [⟨0, ⟨(some 105), none, (.load (.load 3 true)), [(.tmp 5)]⟩, []⟩, ⟨0, ⟨(some 106), none, (.pure .id), [(.tmp 1)]⟩, []⟩, ⟨0, ⟨(some 107), none, (.call 27), [(.tmp 105), (.tmp 106)]⟩, []⟩, ⟨0, ⟨(some 104), none, (.pure .id), [(.tmp 107)]⟩, []⟩, ⟨0, ⟨(some 108), none, (.pure (.extract 0)), [(.tmp 104)]⟩, []⟩, ⟨0, ⟨(some 109), none, (.pure (.extract 1)), [(.tmp 104)]⟩, []⟩, ⟨0, ⟨(some 11), none, (.pure .id), [(.tmp 108)]⟩, []⟩, ⟨0, ⟨(some 12), none, (.pure .id), [(.tmp 109)]⟩, []⟩]) (.seq (.region [⟨0, ⟨(some 110), none, (.pure .id), [(.tmp 12)]⟩, []⟩, ⟨0, ⟨(some 111), none, (.pure (.bin .eql .none)), [(.tmp 110), (.const (.int .i64 0))]⟩, []⟩, ⟨0, ⟨(some 112), none, (.pure .id), [(.tmp 111)]⟩, []⟩, ⟨0, ⟨(some 113), (some (112, true)), (.pure .id), [(.tmp 11)]⟩, []⟩, ⟨0, ⟨(some 114), (some (112, true)), (.load (.load 4 true)), [(.tmp 2)]⟩, []⟩, ⟨0, ⟨(some 115), (some (112, true)), (.pure .id), [(.tmp 7)]⟩, []⟩, ⟨0, ⟨(some 116), (some (112, true)), (.call 28), [(.tmp 114), (.tmp 115)]⟩, []⟩, ⟨0, ⟨(some 117), (some (112, true)), (.pure (.bin .eql .bool)), [(.tmp 113), (.tmp 116)]⟩, []⟩, ⟨0, ⟨(some 118), none, (.pure .pick), [(.tmp 112), (.tmp 117), (.const (.bool false))]⟩, []⟩, ⟨0, ⟨(some 119), none, (.pure .id), [(.tmp 118)]⟩, []⟩, ⟨0, ⟨(some 120), (some (119, true)), (.call 9), []⟩, []⟩, ⟨0, ⟨(some 121), none, (.pure .pick), [(.tmp 119), (.tmp 120), (.const (.bool false))]⟩, []⟩, ⟨0, ⟨(some 4), none, (.pure .id), [(.tmp 121)]⟩, []⟩]) .ret))))))))⟩
theorem c6 : compF Try.prog Try.f6 = some g6 := by kernel_rfl
theorem gc6 {args : List DV} {σ : GS} {Post : DV → GS → Prop} (h : @exB Try.prog ⟨g6.body⟩ (genv0 args g6.ntmps) σ ⟨@gretB g6.results ⟨Post⟩⟩) : GCall Try.prog 6 args σ Post := gcall_ofB tryfollows Try.func6 (by kernel_rfl) c6 h
abbrev g7 : GFun := ⟨49, [(.tmp 2)], (.seq (.region [⟨0, ⟨(some 1), none, (.new .box), [(.tmp 0)]⟩, []⟩, ⟨0, ⟨(some 2), none, (.pure .id), [(.const (.bool false))]⟩, []⟩]) (.seq (.seq (.region [⟨0, ⟨(some 8), none, (.load (.load 4 true)), [(.tmp 1)]⟩, []⟩, ⟨0, ⟨(some 9), none, (.call 8), [(.tmp 8)]⟩, []⟩, ⟨0, ⟨(some 10), none, (.pure .id), [(.tmp 9)]⟩, []⟩, ⟨0, ⟨(some 11), (some (10, false)), (.load (.load 4 true)), [(.tmp 1)]⟩, []⟩, ⟨0, ⟨(some 12), (some (10, false)), (.call 19), [(.tmp 11)]⟩, []⟩, ⟨0, ⟨(some 13), (some (10, false)), (.pure (.un .not)), [(.tmp 12)]⟩, []⟩, ⟨0, ⟨(some 14), none, (.pure .pick), [(.tmp 10), (.const (.bool true)), (.tmp 13)]⟩, []⟩]) (.cond (.tmp 14) (.seq (.region [⟨0, ⟨(some 15), none, (.call 9), []⟩, []⟩, ⟨0, ⟨(some 2), none, (.pure .id), [(.tmp 15)]⟩, []⟩]) .ret) .skip)) (.seq (.region [⟨0, ⟨(some 17), none, (.load (.load 4 true)), [(.tmp 1)]⟩, []⟩, ⟨0, ⟨(some 18), none, (.call 26), [(.tmp 17)]⟩, []⟩, ⟨0, ⟨(some 16), none, (.pure .id), [(.tmp 18)]⟩, []⟩, ⟨0, ⟨(some 19), none, (.pure (.extract 0)), [(.tmp 16)]⟩, []⟩, ⟨0, ⟨(some 20), none, (.pure (.extract 1)), [(.tmp 16)]⟩, []⟩, ⟨0, ⟨(some 3), none, (.new (.alloc [.nils, .nils, (.int .i64 0)])), []⟩, []⟩, ⟨0, ⟨none, none, (.imp (.store 3)), [(.tmp 3), (.tmp 19)]⟩, []⟩, ⟨0, ⟨(some 4), none, (.pure .id), [(.tmp 20)]⟩, []⟩]) (.seq (.region [⟨0, ⟨(some 22), none, (.load (.load 4 true)), [(.tmp 1)]⟩, []⟩, ⟨0, ⟨(some 23), none, (.call 14), [(.tmp 22)]⟩, []⟩, ⟨0, ⟨(some 21), none, (.pure .id), [(.tmp 23)]⟩, []⟩, ⟨0, ⟨(some 24), none, (.pure (.extract 0)), [(.tmp 21)]⟩, []⟩, ⟨0, ⟨(some 25), none, (.pure (.extract 1)), [(.tmp 21)]⟩, []⟩, ⟨0, ⟨(some 5), none, (.pure .id), [(.tmp 24)]⟩, []⟩, ⟨0, ⟨(some 6), none, (.pure .id), [(.tmp 25)]⟩, []⟩]) (.seq (.region [⟨0, ⟨(some 26), none, (.pure (.faddr 0)), [(.tmp 3)]⟩, []⟩, ⟨0, ⟨(some 27), none, (.load (.load 1 false)), [(.tmp 26)]⟩, []⟩, ⟨0, ⟨(some 28), none, (.call 29), [(.tmp 27)]⟩, []⟩, ⟨0, ⟨(some 7), none, (.pure .id), [(.tmp 28)]⟩, []⟩]) (.seq (.seq (.region [⟨0, ⟨(some 29), none, (.pure .id), [(.tmp 7)]⟩, []⟩, ⟨0, ⟨(some 30), none, (.pure .len), [(.tmp 29)]⟩, []⟩, ⟨0, ⟨(some 31), none, (.pure (.bin .gtr .none)), [(.tmp 30), (.const (.int .i64 6))]⟩, []⟩]) (.cond (.tmp 31) (.seq (.region [⟨0, ⟨(some 32), none, (.call 9), []⟩, []⟩, ⟨0, ⟨(some 2), none, (.pure .id), [(.tmp 32)]⟩, []⟩]) .ret) .skip)) (.seq (.region [⟨0, ⟨(some 33), none, (.pure .id), [(.tmp 4)]⟩, []⟩, ⟨0, ⟨(some 34), none, (.pure (.bin .eql .none)), [(.tmp 33), (.const (.int .i64 0))]⟩, []⟩, ⟨0, ⟨(some 35), none, (.pure .id), [(.tmp 34)]⟩, []⟩, ⟨0, ⟨(some 36), (some (35, true)), (.pure .id), [(.tmp 6)]⟩, []⟩, ⟨0, ⟨(some 37), (some (35, true)), (.pure (.bin .eql .none)), [(.tmp 36), (.const (.int .i64 0))]⟩, []⟩, ⟨0, ⟨(some 38), none, (.pure .pick), [(.tmp 35), (.tmp 37), (.const (.bool false))]⟩, []⟩, ⟨0, ⟨(some 39), none, (.pure .id), [(.tmp 38)]⟩, []⟩, ⟨0, ⟨(some 40), (some (39, true)), (.load (.load 3 true)), [(.tmp 3)]⟩, []⟩, ⟨0, ⟨(some 41), (some (39, true)), (.pure .id), [(.tmp 7)]⟩, []⟩, ⟨0, ⟨(some 42), (some (39, true)), (.call 30), [(.tmp 40), (.tmp 41), (.const (.int .i64 0)), (.const .nils)]⟩, []⟩, ⟨0, ⟨(some 43), (some (39, true)), (.pure .id), [(.tmp 5)]⟩, []⟩, ⟨0, ⟨(some 44), (some (39, true)), (.pure (.bin .eql .bool)), [(.tmp 42), (.tmp 43)]⟩, []⟩, ⟨0, ⟨(some 45), none, (.pure .pick), [(.tmp 39), (.tmp 44), (.const (.bool false))]⟩, []⟩, ⟨0, ⟨(some 46), none, (.pure .id), [(.tmp 45)]⟩, []⟩, ⟨0, ⟨(some 47), (some (46, true)), (.call 9), []⟩, []⟩, ⟨0, ⟨(some 48), none, (.pure .pick), [(.tmp 46), (.tmp 47), (.const (.bool false))]⟩, []⟩, ⟨0, ⟨(some 2), none, (.pure .id), [(.tmp 48)]⟩, []⟩]) .ret)))))))⟩
theorem c7 : compF Try.prog Try.f7 = some g7 := by kernel_rfl
theorem gc7 {args : List DV} {σ : GS} {Post : DV → GS → Prop} (h : @exB Try.prog ⟨g7.body⟩ (genv0 args g7.ntmps) σ ⟨@gretB g7.results ⟨Post⟩⟩) : GCall Try.prog 7 args σ Post := gcall_ofB tryfollows Try.func7 (by kernel_rfl) c7 h
abbrev g60 : GFun := ⟨18, [(.tmp 4)], (.seq (.region [⟨0, ⟨(some 2), none, (.new .box), [(.tmp 0)]⟩, []⟩, ⟨0, ⟨(some 4), none, (.pure .id), [(.const (.bool false))]⟩, []⟩]) (.seq (.region [⟨0, ⟨(some 6), none, (.load (.load 2 true)), [(.tmp 2)]⟩, []⟩, ⟨0, ⟨(some 7), none, (.call 62), [(.tmp 6)]⟩, []⟩, ⟨0, ⟨(some 8), none, (.pure (.bin .mul .none)), [(.const (.int .i64 2)), (.tmp 7)]⟩, []⟩, ⟨0, ⟨(some 9), none, (.pure (.bin .sub .none)), [(.tmp 8), (.const (.int .i64 1))]⟩, []⟩, ⟨0, ⟨(some 5), none, (.new (.alloc [(.int .i64 0)])), []⟩, []⟩, ⟨0, ⟨none, none, (.imp (.store 1)), [(.tmp 5), (.tmp 9)]⟩, []⟩]) (.seq (.region [⟨0, ⟨(some 10), none, (.load (.load 2 true)), [(.tmp 2)]⟩, []⟩, ⟨0, ⟨(some 11), none, (.call 77), [(.tmp 10)]⟩, []⟩, ⟨0, ⟨(some 12), none, (.pure .id), [(.tmp 11)]⟩, []⟩, ⟨0, ⟨(some 13), (some (12, true)), (.pure .id), [(.tmp 1)]⟩, []⟩, ⟨0, ⟨(some 14), (some (12, true)), (.pure (.mkfunc 78 0)), [(.tmp 5)]⟩, []⟩, ⟨0, ⟨(some 15), (some (12, true)), (.call 43), [(.tmp 13), (.tmp 14)]⟩, []⟩, ⟨0, ⟨(some 16), (some (12, true)), (.pure (.un .not)), [(.tmp 15)]⟩, []⟩, ⟨0, ⟨(some 17), none, (.pure .pick), [(.tmp 12), (.tmp 16), (.const (.bool false))]⟩, []⟩, ⟨0, ⟨(some 4), none, (.pure .id), [(.tmp 17)]⟩, []⟩]) .ret)))⟩
theorem c60 : compF Try.prog Try.f60 = some g60 := by kernel_rfl
theorem gc60 {args : List DV} {σ : GS} {Post : DV → GS → Prop} (h : @exB Try.prog ⟨g60.body⟩ (genv0 args g60.ntmps) σ ⟨@gretB g60.results ⟨Post⟩⟩) : GCall Try.prog 60 args σ Post := gcall_ofB tryfollows Try.func60 (by kernel_rfl) c60 h
abbrev g61 : GFun := ⟨27, [(.tmp 2)], (.seq (.region [⟨0, ⟨(some 2), none, (.pure .id), [(.const (.bool false))]⟩, []⟩]) (.seq (.region [⟨0, ⟨(some 3), none, (.pure .id), [(.const (.int .i64 0))]⟩, []⟩]) (.seq (.seq (.region [⟨0, ⟨(some 7), none, (.pure .id), [(.tmp 0)]⟩, []⟩, ⟨0, ⟨(some 8), none, (.pure .len), [(.tmp 7)]⟩, []⟩, ⟨0, ⟨(some 9), none, (.pure .id), [(.const (.int .i64 0))]⟩, []⟩]) (.block 0 (.loop (.seq (.region [⟨0, ⟨(some 10), none, (.pure (.bin .lss .none)), [(.tmp 9), (.tmp 8)]⟩, []⟩]) (.seq (.cond (.tmp 10) .skip (.exit 0)) (.seq (.block 1 (.seq (.region [⟨0, ⟨(some 11), none, (.pure (.iaddr 1)), [(.tmp 7), (.tmp 9)]⟩, []⟩, ⟨0, ⟨(some 12), none, (.load (.load 1 false)), [(.tmp 11)]⟩, []⟩, ⟨0, ⟨(some 5), none, (.pure .id), [(.tmp 12)]⟩, []⟩]) (.seq (.region [⟨0, ⟨(some 13), none, (.pure .id), [(.tmp 5)]⟩, []⟩, ⟨0, ⟨(some 14), none, (.pure .id), [(.tmp 5)]⟩, []⟩, ⟨0, ⟨(some 15), none, (.pure (.un .neg)), [(.tmp 14)]⟩, []⟩, ⟨0, ⟨(some 16), none, (.pure .mx), [(.tmp 13), (.tmp 15)]⟩, []⟩, ⟨0, ⟨(some 6), none, (.pure .id), [(.tmp 16)]⟩, []⟩]) (.seq (.seq (.region [⟨0, ⟨(some 17), none, (.pure .id), [(.tmp 6)]⟩, []⟩, ⟨0, ⟨(some 18), none, (.call 79), [(.tmp 17)]⟩, []⟩, ⟨0, ⟨(some 19), none, (.pure (.un .not)), [(.tmp 18)]⟩, []⟩, ⟨0, ⟨(some 20), none, (.pure .id), [(.tmp 19)]⟩, []⟩, ⟨0, ⟨(some 21), (some (20, false)), (.pure .id), [(.tmp 6)]⟩, []⟩, ⟨0, ⟨(some 22), (some (20, false)), (.pure .id), [(.tmp 3)]⟩, []⟩, ⟨0, ⟨(some 23), (some (20, false)), (.pure (.bin .leq .none)), [(.tmp 21), (.tmp 22)]⟩, []⟩, ⟨0, ⟨(some 24), none, (.pure .pick), [(.tmp 20), (.const (.bool true)), (.tmp 23)]⟩, []⟩]) (.cond (.tmp 24) (.seq (.region [⟨0, ⟨(some 2), none, (.pure .id), [(.const (.bool false))]⟩, []⟩]) .ret) .skip)) (.region [⟨0, ⟨(some 25), none, (.pure .id), [(.tmp 6)]⟩, []⟩, ⟨0, ⟨(some 3), none, (.pure .id), [(.tmp 25)]⟩, []⟩]))))) (.region [⟨0, ⟨(some 26), none, (.pure (.bin .add .none)), [(.tmp 9), (.const (.int .i64 1))]⟩, []⟩, ⟨0, ⟨(some 9), none, (.pure .id), [(.tmp 26)]⟩, []⟩]))))))) (.seq (.region [⟨0, ⟨(some 2), none, (.pure .id), [(.const (.bool true))]⟩, []⟩]) .ret))))⟩
theorem c61 : compF Try.prog Try.f61 = some g61 := by kernel_rfl
theorem gc61 {args : List DV} {σ : GS} {Post : DV → GS → Prop} (h : @exB Try.prog ⟨g61.body⟩ (genv0 args g61.ntmps) σ ⟨@gretB g61.results ⟨Post⟩⟩) : GCall Try.prog 61 args σ Post := gcall_ofB tryfollows Try.func61 (by kernel_rfl) c61 h
abbrev g62 : GFun := ⟨11, [(.tmp 2)], (.seq (.region [⟨0, ⟨(some 1), none, (.new .box), [(.tmp 0)]⟩, []⟩, ⟨0, ⟨(some 2), none, (.pure .id), [(.const (.int .i64 0))]⟩, []⟩]) (.seq (.region [⟨0, ⟨(some 3), none, (.pure (.faddr 0)), [(.tmp 1)]⟩, []⟩, ⟨0, ⟨(some 4), none, (.load (.load 1 false)), [(.tmp 3)]⟩, []⟩, ⟨0, ⟨(some 5), none, (.pure .len), [(.tmp 4)]⟩, []⟩, ⟨0, ⟨(some 6), none, (.pure (.bin .add .none)), [(.const (.int .i64 1)), (.tmp 5)]⟩, []⟩, ⟨0, ⟨(some 7), none, (.pure (.faddr 1)), [(.tmp 1)]⟩, []⟩, ⟨0, ⟨(some 8), none, (.load (.load 1 false)), [(.tmp 7)]⟩, []⟩, ⟨0, ⟨(some 9), none, (.pure .len), [(.tmp 8)]⟩, []⟩, ⟨0, ⟨(some 10), none, (.pure (.bin .add .none)), [(.tmp 6), (.tmp 9)]⟩, []⟩, ⟨0, ⟨(some 2), none, (.pure .id), [(.tmp 10)]⟩, []⟩]) .ret))⟩
theorem c62 : compF Try.prog Try.f62 = some g62 := by kernel_rfl
theorem gc62 {args : List DV} {σ : GS} {Post : DV → GS → Prop} (h : @exB Try.prog ⟨g62.body⟩ (genv0 args g62.ntmps) σ ⟨@gretB g62.results ⟨Post⟩⟩) : GCall Try.prog 62 args σ Post := gcall_ofB tryfollows Try.func62 (by kernel_rfl) c62 h
abbrev g63 : GFun := ⟨55, [], (.seq (.region [⟨0, ⟨(some 3), none, (.new .box), [(.tmp 0)]⟩, []⟩]) (.seq (.seq (.region [⟨0, ⟨(some 11), none, (.pure (.faddr 0)), [(.tmp 3)]⟩, []⟩, ⟨0, ⟨(some 12), none, (.load (.load 1 false)), [(.tmp 11)]⟩, []⟩, ⟨0, ⟨(some 13), none, (.pure .len), [(.tmp 12)]⟩, []⟩, ⟨0, ⟨(some 14), none, (.pure .id), [(.const (.int .i64 0))]⟩, []⟩]) (.block 0 (.loop (.seq (.region [⟨0, ⟨(some 15), none, (.pure (.bin .lss .none)), [(.tmp 14), (.tmp 13)]⟩, []⟩]) (.seq (.cond (.tmp 15) .skip (.exit 0)) (.seq (.block 1 (.seq (.region [⟨0, ⟨(some 16), none, (.pure .id), [(.tmp 14)]⟩, []⟩, ⟨0, ⟨(some 17), none, (.pure (.iaddr 1)), [(.tmp 12), (.tmp 14)]⟩, []⟩, ⟨0, ⟨(some 18), none, (.load (.load 1 false)), [(.tmp 17)]⟩, []⟩, ⟨0, ⟨(some 6), none, (.pure .id), [(.tmp 16)]⟩, []⟩, ⟨0, ⟨(some 7), none, (.pure .id), [(.tmp 18)]⟩, []⟩]) (.region [⟨0, ⟨(some 19), none, (.pure .id), [(.tmp 1)]⟩, []⟩, ⟨0, ⟨(some 20), none, (.pure .id), [(.tmp 6)]⟩, []⟩, ⟨0, ⟨(some 21), none, (.pure (.bin .add .none)), [(.tmp 20), (.const (.int .i64 1))]⟩, []⟩, ⟨0, ⟨(some 22), none, (.pure .id), [(.tmp 2)]⟩, []⟩, ⟨0, ⟨(some 23), none, (.pure .id), [(.tmp 7)]⟩, []⟩, ⟨0, ⟨(some 24), none, .callv, [(.tmp 22), (.tmp 23)]⟩, []⟩, ⟨0, ⟨(some 25), none, (.pure (.iaddr 1)), [(.tmp 19), (.tmp 21)]⟩, []⟩, ⟨0, ⟨none, none, (.imp (.store 1)), [(.tmp 25), (.tmp 24)]⟩, []⟩]))) (.region [⟨0, ⟨(some 26), none, (.pure (.bin .add .none)), [(.tmp 14), (.const (.int .i64 1))]⟩, []⟩, ⟨0, ⟨(some 14), none, (.pure .id), [(.tmp 26)]⟩, []⟩]))))))) (.seq (.region [⟨0, ⟨(some 27), none, (.pure (.faddr 0)), [(.tmp 3)]⟩, []⟩, ⟨0, ⟨(some 28), none, (.load (.load 1 false)), [(.tmp 27)]⟩, []⟩, ⟨0, ⟨(some 29), none, (.pure .len), [(.tmp 28)]⟩, []⟩, ⟨0, ⟨(some 30), none, (.pure (.bin .add .none)), [(.const (.int .i64 1)), (.tmp 29)]⟩, []⟩, ⟨0, ⟨(some 8), none, (.pure .id), [(.tmp 30)]⟩, []⟩]) (.seq (.region [⟨0, ⟨(some 31), none, (.pure (.faddr 1)), [(.tmp 3)]⟩, []⟩, ⟨0, ⟨(some 32), none, (.load (.load 1 false)), [(.tmp 31)]⟩, []⟩, ⟨0, ⟨(some 33), none, (.pure .len), [(.tmp 32)]⟩, []⟩, ⟨0, ⟨(some 34), none, (.pure .id), [(.const (.int .i64 0))]⟩, []⟩]) (.block 2 (.loop (.seq (.region [⟨0, ⟨(some 35), none, (.pure (.bin .lss .none)), [(.tmp 34), (.tmp 33)]⟩, []⟩]) (.seq (.cond (.tmp 35) .skip (.exit 2)) (.seq (.block 3 (.seq (.region [⟨0, ⟨(some 36), none, (.pure .id), [(.tmp 34)]⟩, []⟩, ⟨0, ⟨(some 37), none, (.pure (.iaddr 2)), [(.tmp 32), (.tmp 34)]⟩, []⟩, ⟨0, ⟨(some 38), none, (.load (.load 2 true)), [(.tmp 37)]⟩, []⟩, ⟨0, ⟨(some 10), none, (.new (.alloc [(.int .i64 0), (.int .i64 0)])), []⟩, []⟩, ⟨0, ⟨(some 9), none, (.pure .id), [(.tmp 36)]⟩, []⟩, ⟨0, ⟨none, none, (.imp (.store 2)), [(.tmp 10), (.tmp 38)]⟩, []⟩]) (.region [⟨0, ⟨(some 39), none, (.pure .id), [(.tmp 1)]⟩, []⟩, ⟨0, ⟨(some 40), none, (.pure .id), [(.tmp 8)]⟩, []⟩, ⟨0, ⟨(some 41), none, (.pure .id), [(.tmp 9)]⟩, []⟩, ⟨0, ⟨(some 42), none, (.pure (.bin .add .none)), [(.tmp 40), (.tmp 41)]⟩, []⟩, ⟨0, ⟨(some 43), none, (.pure .id), [(.tmp 1)]⟩, []⟩, ⟨0, ⟨(some 44), none, (.pure (.iarr 2 1)), [(.tmp 10), (.const (.int .i64 0))]⟩, []⟩, ⟨0, ⟨(some 45), none, (.load (.load 1 false)), [(.tmp 44)]⟩, []⟩, ⟨0, ⟨(some 46), none, (.call 68), [(.tmp 43), (.tmp 45)]⟩, []⟩, ⟨0, ⟨(some 47), none, (.pure .id), [(.tmp 46)]⟩, []⟩, ⟨0, ⟨(some 48), (some (47, true)), (.pure .id), [(.tmp 1)]⟩, []⟩, ⟨0, ⟨(some 49), (some (47, true)), (.pure (.iarr 2 1)), [(.tmp 10), (.const (.int .i64 1))]⟩, []⟩, ⟨0, ⟨(some 50), (some (47, true)), (.load (.load 1 false)), [(.tmp 49)]⟩, []⟩, ⟨0, ⟨(some 51), (some (47, true)), (.call 68), [(.tmp 48), (.tmp 50)]⟩, []⟩, ⟨0, ⟨(some 52), none, (.pure .pick), [(.tmp 47), (.tmp 51), (.const (.bool false))]⟩, []⟩, ⟨0, ⟨(some 53), none, (.pure (.iaddr 1)), [(.tmp 39), (.tmp 42)]⟩, []⟩, ⟨0, ⟨none, none, (.imp (.store 1)), [(.tmp 53), (.tmp 52)]⟩, []⟩]))) (.region [⟨0, ⟨(some 54), none, (.pure (.bin .add .none)), [(.tmp 34), (.const (.int .i64 1))]⟩, []⟩, ⟨0, ⟨(some 34), none, (.pure .id), [(.tmp 54)]⟩, []⟩]))))))))))⟩
theorem c63 : compF Try.prog Try.f63 = some g63 := by kernel_rfl
theorem gc63 {args : List DV} {σ : GS} {Post : DV → GS → Prop} (h : @exB Try.prog ⟨g63.body⟩ (genv0 args g63.ntmps) σ ⟨@gretB g63.results ⟨Post⟩⟩) : GCall Try.prog 63 args σ Post := gcall_ofB tryfollows Try.func63 (by kernel_rfl) c63 h
abbrev g64 : GFun := ⟨18, [(.tmp 3)], (.seq (.region [⟨0, ⟨(some 3), none, (.pure .id), [(.const (.bool false))]⟩, []⟩]) (.seq (.region [⟨0, ⟨(some 7), none, (.load (.load 1 false)), [(.tmp 1)]⟩, []⟩, ⟨0, ⟨(some 8), none, (.pure .id), [(.tmp 0)]⟩, []⟩, ⟨0, ⟨(some 9), none, (.call 65), [(.tmp 7), (.tmp 8), (.const (.func 66 [] []))]⟩, []⟩, ⟨0, ⟨(some 6), none, (.pure .id), [(.tmp 9)]⟩, []⟩, ⟨0, ⟨(some 10), none, (.pure (.extract 0)), [(.tmp 6)]⟩, []⟩, ⟨0, ⟨(some 11), none, (.pure (.extract 1)), [(.tmp 6)]⟩, []⟩, ⟨0, ⟨(some 4), none, (.pure .id), [(.tmp 10)]⟩, []⟩, ⟨0, ⟨(some 5), none, (.pure .id), [(.tmp 11)]⟩, []⟩]) (.seq (.region [⟨0, ⟨(some 12), none, (.pure .id), [(.tmp 5)]⟩, []⟩, ⟨0, ⟨(some 13), none, (.pure .id), [(.tmp 12)]⟩, []⟩, ⟨0, ⟨(some 14), (some (13, true)), (.load (.load 1 false)), [(.tmp 1)]⟩, []⟩, ⟨0, ⟨(some 15), (some (13, true)), (.pure .id), [(.tmp 0)]⟩, []⟩, ⟨0, ⟨(some 16), (some (13, true)), (.call 67), [(.tmp 14), (.tmp 15)]⟩, []⟩, ⟨0, ⟨(some 17), none, (.pure .pick), [(.tmp 13), (.tmp 16), (.const (.bool false))]⟩, []⟩, ⟨0, ⟨(some 3), none, (.pure .id), [(.tmp 17)]⟩, []⟩]) .ret)))⟩
theorem c64 : compF Try.prog Try.f64 = some g64 := by kernel_rfl
theorem gc64 {args : List DV} {σ : GS} {Post : DV → GS → Prop} (h : @exB Try.prog ⟨g64.body⟩ (genv0 args g64.ntmps) σ ⟨@gretB g64.results ⟨Post⟩⟩) : GCall Try.prog 64 args σ Post := gcall_ofB tryfollows Try.func64 (by kernel_rfl) c64 h
abbrev g77 : GFun := ⟨46, [(.tmp 2)], (.seq (.region [⟨0, ⟨(some 1), none, (.new .box), [(.tmp 0)]⟩, []⟩, ⟨0, ⟨(some 2), none, (.pure .id), [(.const (.bool false))]⟩, []⟩]) (.seq (.seq (.region [⟨0, ⟨(some 6), none, (.pure (.faddr 0)), [(.tmp 1)]⟩, []⟩, ⟨0, ⟨(some 7), none, (.load (.load 1 false)), [(.tmp 6)]⟩, []⟩, ⟨0, ⟨(some 8), none, (.call 81), [(.tmp 7)]⟩, []⟩, ⟨0, ⟨(some 9), none, (.pure (.un .not)), [(.tmp 8)]⟩, []⟩, ⟨0, ⟨(some 10), none, (.pure .id), [(.tmp 9)]⟩, []⟩, ⟨0, ⟨(some 11), (some (10, false)), (.load (.load 2 true)), [(.tmp 1)]⟩, []⟩, ⟨0, ⟨(some 12), (some (10, false)), (.call 62), [(.tmp 11)]⟩, []⟩, ⟨0, ⟨(some 13), (some (10, false)), (.pure (.bin .gtr .none)), [(.tmp 12), (.const (.int .i64 200000))]⟩, []⟩, ⟨0, ⟨(some 14), none, (.pure .pick), [(.tmp 10), (.const (.bool true)), (.tmp 13)]⟩, []⟩]) (.cond (.tmp 14) (.seq (.region [⟨0, ⟨(some 2), none, (.pure .id), [(.const (.bool false))]⟩, []⟩]) .ret) .skip)) (.seq (.seq (.region [⟨0, ⟨(some 15), none, (.pure (.faddr 1)), [(.tmp 1)]⟩, []⟩, ⟨0, ⟨(some 16), none, (.load (.load 1 false)), [(.tmp 15)]⟩, []⟩, ⟨0, ⟨(some 17), none, (.pure .len), [(.tmp 16)]⟩, []⟩, ⟨0, ⟨(some 18), none, (.pure .id), [(.const (.int .i64 0))]⟩, []⟩]) (.block 0 (.loop (.seq (.region [⟨0, ⟨(some 19), none, (.pure (.bin .lss .none)), [(.tmp 18), (.tmp 17)]⟩, []⟩]) (.seq (.cond (.tmp 19) .skip (.exit 0)) (.seq (.block 1 (.seq (.region [⟨0, ⟨(some 20), none, (.pure .id), [(.tmp 18)]⟩, []⟩, ⟨0, ⟨(some 21), none, (.pure (.iaddr 2)), [(.tmp 16), (.tmp 18)]⟩, []⟩, ⟨0, ⟨(some 22), none, (.load (.load 2 true)), [(.tmp 21)]⟩, []⟩, ⟨0, ⟨(some 4), none, (.new (.alloc [(.int .i64 0), (.int .i64 0)])), []⟩, []⟩, ⟨0, ⟨(some 3), none, (.pure .id), [(.tmp 20)]⟩, []⟩, ⟨0, ⟨none, none, (.imp (.store 2)), [(.tmp 4), (.tmp 22)]⟩, []⟩]) (.seq (.region [⟨0, ⟨(some 23), none, (.pure (.faddr 0)), [(.tmp 1)]⟩, []⟩, ⟨0, ⟨(some 24), none, (.load (.load 1 false)), [(.tmp 23)]⟩, []⟩, ⟨0, ⟨(some 25), none, (.pure .len), [(.tmp 24)]⟩, []⟩, ⟨0, ⟨(some 26), none, (.pure (.bin .add .none)), [(.const (.int .i64 1)), (.tmp 25)]⟩, []⟩, ⟨0, ⟨(some 27), none, (.pure .id), [(.tmp 3)]⟩, []⟩, ⟨0, ⟨(some 28), none, (.pure (.bin .add .none)), [(.tmp 26), (.tmp 27)]⟩, []⟩, ⟨0, ⟨(some 29), none, (.pure (.bin .mul .none)), [(.const (.int .i64 2)), (.tmp 28)]⟩, []⟩, ⟨0, ⟨(some 5), none, (.pure .id), [(.tmp 29)]⟩, []⟩]) (.seq (.region [⟨0, ⟨(some 30), none, (.pure (.iarr 2 1)), [(.tmp 4), (.const (.int .i64 0))]⟩, []⟩, ⟨0, ⟨(some 31), none, (.load (.load 1 false)), [(.tmp 30)]⟩, []⟩, ⟨0, ⟨(some 32), none, (.pure (.iarr 2 1)), [(.tmp 4), (.const (.int .i64 1))]⟩, []⟩, ⟨0, ⟨(some 33), none, (.load (.load 1 false)), [(.tmp 32)]⟩, []⟩, ⟨0, ⟨(some 34), none, (.pure .mn), [(.tmp 31), (.tmp 33)]⟩, []⟩, ⟨0, ⟨(some 35), none, (.pure (.bin .lss .none)), [(.tmp 34), (.const (.int .i64 0))]⟩, []⟩, ⟨0, ⟨(some 36), none, (.pure .id), [(.tmp 35)]⟩, []⟩, ⟨0, ⟨(some 37), (some (36, false)), (.pure (.iarr 2 1)), [(.tmp 4), (.const (.int .i64 0))]⟩, []⟩, ⟨0, ⟨(some 38), (some (36, false)), (.load (.load 1 false)), [(.tmp 37)]⟩, []⟩, ⟨0, ⟨(some 39), (some (36, false)), (.pure (.iarr 2 1)), [(.tmp 4), (.const (.int .i64 1))]⟩, []⟩, ⟨0, ⟨(some 40), (some (36, false)), (.load (.load 1 false)), [(.tmp 39)]⟩, []⟩, ⟨0, ⟨(some 41), (some (36, false)), (.pure .mx), [(.tmp 38), (.tmp 40)]⟩, []⟩, ⟨0, ⟨(some 42), (some (36, false)), (.pure .id), [(.tmp 5)]⟩, []⟩, ⟨0, ⟨(some 43), (some (36, false)), (.pure (.bin .geq .none)), [(.tmp 41), (.tmp 42)]⟩, []⟩, ⟨0, ⟨(some 44), none, (.pure .pick), [(.tmp 36), (.const (.bool true)), (.tmp 43)]⟩, []⟩]) (.cond (.tmp 44) (.seq (.region [⟨0, ⟨(some 2), none, (.pure .id), [(.const (.bool false))]⟩, []⟩]) .ret) .skip))))) (.region [⟨0, ⟨(some 45), none, (.pure (.bin .add .none)), [(.tmp 18), (.const (.int .i64 1))]⟩, []⟩, ⟨0, ⟨(some 18), none, (.pure .id), [(.tmp 45)]⟩, []⟩]))))))) (.seq (.region [⟨0, ⟨(some 2), none, (.pure .id), [(.const (.bool true))]⟩, []⟩]) .ret))))⟩
theorem c77 : compF Try.prog Try.f77 = some g77 := by kernel_rfl
theorem gc77 {args : List DV} {σ : GS} {Post : DV → GS → Prop} (h : @exB Try.prog ⟨g77.body⟩ (genv0 args g77.ntmps) σ ⟨@gretB g77.results ⟨Post⟩⟩) : GCall Try.prog 77 args σ Post := gcall_ofB tryfollows Try.func77 (by kernel_rfl) c77 h
abbrev g79 : GFun := ⟨9, [(.tmp 2)], (.seq (.region [⟨0, ⟨(some 2), none, (.pure .id), [(.const (.bool false))]⟩, []⟩]) (.seq (.region [⟨0, ⟨(some 3), none, (.pure .id), [(.tmp 0)]⟩, []⟩, ⟨0, ⟨(some 4), none, (.pure (.bin .geq .none)), [(.tmp 3), (.const (.int .i64 1))]⟩, []⟩, ⟨0, ⟨(some 5), none, (.pure .id), [(.tmp 4)]⟩, []⟩, ⟨0, ⟨(some 6), (some (5, true)), (.pure .id), [(.tmp 0)]⟩, []⟩, ⟨0, ⟨(some 7), (some (5, true)), (.pure (.bin .leq .none)), [(.tmp 6), (.const (.int .i64 65536))]⟩, []⟩, ⟨0, ⟨(some 8), none, (.pure .pick), [(.tmp 5), (.tmp 7), (.const (.bool false))]⟩, []⟩, ⟨0, ⟨(some 2), none, (.pure .id), [(.tmp 8)]⟩, []⟩]) .ret))⟩
theorem c79 : compF Try.prog Try.f79 = some g79 := by kernel_rfl
theorem gc79 {args : List DV} {σ : GS} {Post : DV → GS → Prop} (h : @exB Try.prog ⟨g79.body⟩ (genv0 args g79.ntmps) σ ⟨@gretB g79.results ⟨Post⟩⟩) : GCall Try.prog 79 args σ Post := gcall_ofB tryfollows Try.func79 (by kernel_rfl) c79 h
end Go.Gh
namespace Go.Gh
open Go.RowKit Go.Proofs
set_option linter.unusedVariables false
set_option linter.unusedSimpArgs false
structure Plc where
  mine : Bool
  to : List Int
def RPlc (σ : GS) (c : List DV) (x : Plc) : Prop := ∃ s, c = [.bool x.mine, s] ∧ SInt σ s x.to
theorem RPlc.mono : RMono RPlc := fun _ _ _ _ hf ⟨s, h1, h2⟩ => ⟨s, h1, h2.fr hf⟩
theorem plc_get {σ : GS} {s : DV} {xs : List Plc} (h : Sl 2 RPlc σ s xs) {i : Nat} {x : Plc} (hi : xs[i]? = some x) {k : IntKind} :
    ∃ id off v, gpure (.iaddr 2) [s, .int k (i : Int)] = some (.ptr id off) ∧ gload (.load 1 false) [.ptr id off] σ = some (.bool x.mine) ∧ gload (.load 1 false) [.ptr id (off + 1)] σ = some v ∧ SInt σ v x.to ∧ gload (.load 2 true) [.ptr id off] σ = some (.agg [.bool x.mine, v]) := by
  obtain ⟨id, off, c, h1, ⟨v, rfl, hv⟩, h4, h5⟩ := h.get2 hi (k := k)
  exact ⟨id, off, v, h1, by simpa using h4 0 (by omega), by simpa using h4 1 (by omega), hv, h5⟩
structure Puz where
  places : List Plc
  start : Int
  goals : List Int
  moves : Int
structure PuzV (σ : GS) (pl go : DV) (z : Puz) : Prop where
  places : Sl 2 RPlc σ pl z.places
  goals : SInt σ go z.goals
theorem PuzV.fr {σ σ' : GS} {p g : DV} {n : Puz} (h : PuzV σ p g n) (hf : Fr σ.length σ σ') : PuzV σ' p g n := ⟨h.places.fr RPlc.mono hf, h.goals.fr hf⟩
structure PuzSm (z : Puz) : Prop where
  places : z.places.length < 2 ^ 60
  tos : ∀ x ∈ z.places, x.to.length < 2 ^ 60
  goals : z.goals.length < 2 ^ 60
structure Fine (z : Puz) : Prop where
  n1 : 1 ≤ z.places.length
  n16 : z.places.length ≤ 16
  st0 : 0 ≤ z.start
  st1 : z.start < z.places.length
  mv0 : 0 ≤ z.moves
  mv1 : z.moves ≤ 8
  to4 : ∀ x ∈ z.places, x.to.length ≤ 4
  tos : ∀ x ∈ z.places, ∀ t ∈ x.to, 0 ≤ t ∧ t < z.places.length
  goals : ∀ g ∈ z.goals, 0 ≤ g ∧ g < z.places.length
  asc : ∀ i a b, z.goals[i]? = some a → z.goals[i + 1]? = some b → a < b
theorem puz_box (σ : GS) (a b c d : DV) : (σ ++ [GObj.row false [a, b, c, d]])[σ.length]? = some (.row false [a, b, c, d]) := by simp
theorem large_ok {z : Puz} {pl go : DV} {σ : GS} {Post : DV → GS → Prop} (hz : PuzV σ pl go z) (hs : PuzSm z)
    (h : ∀ b σ', Fr σ.length σ σ' → Post (.bool b) σ') : GCall Try.prog 8 [.agg [pl, .int .i64 z.start, go, .int .i64 z.moves]] σ Post := by
  refine gc8 ?_
  have hf0 : Fr σ.length σ (σ ++ [GObj.row false [pl, .int .i64 z.start, go, .int .i64 z.moves]]) := Fr.rfl'.app _
  have hb0 := puz_box σ pl (.int .i64 z.start) go (.int .i64 z.moves)
  simp [g8, genv0, List.replicate]
  generalize hσ1 : σ ++ [GObj.row false [pl, .int .i64 z.start, go, .int .i64 z.moves]] = σ1 at *
  have hz1 := hz.fr hf0
  refine gfor z.places.length (fun i e σ' => σ' = σ1 ∧ i ≤ 20 ∧ e = mkEnv 33 [(1, .ptr σ.length 0), (3, .int .i64 i)]) _ ?_ ⟨rfl, by omega, rfl⟩ ?_
  · simp [mkEnv, List.replicate]
  rintro i _ _ hi ⟨rfl, hi20, rfl⟩
  simp [mkEnv, List.replicate, ld_at hb0, hz1.places.len]
  have hend : ∀ e : Env, True := fun _ => trivial
  by_cases hlt : i < z.places.length
  · by_cases h20 : i < 20
    · obtain ⟨x, hx⟩ := get_lt hlt
      obtain ⟨id, off, v, p1, p2, p3, p4, p5⟩ := plc_get hz1.places (k := .i64) hx
      have h20' : (i : Int) < 20 := by omega
      simp [hlt, h20', ld_at hb0, p1, p3, p4.len]
      by_cases hx20 : 20 < x.to.length
      · have : (20 : Int) < (x.to.length : Int) := by omega
        simp [this]
        exact h _ _ hf0
      · have : ¬ (20 : Int) < (x.to.length : Int) := by omega
        simp [this, wrap_suc (show i < _ by omega)]
        exact forK_go _ hlt (by simp [mkEnv, List.replicate]) ⟨rfl, by omega, rfl⟩
    · have h20' : ¬ (i : Int) < 20 := by omega
      simp [hlt, h20', ld_at hb0, hz1.places.len]
      by_cases hp : (20 : Int) < (z.places.length : Int)
      · simp [hp]; exact h _ _ hf0
      · omega
  · have : i = z.places.length := by omega
    subst this
    simp [ld_at hb0, hz1.places.len]
    by_cases hp : (20 : Int) < (z.places.length : Int)
    · simp [hp]; exact h _ _ hf0
    · simp [hp, ld_at hb0, hz1.goals.len]; exact h _ _ hf0
theorem reaches_ok {z : Puz} {l : List Int} {pl go s : DV} {σ : GS} {Post : DV → GS → Prop} (hz : PuzV σ pl go z) (hl : SInt σ s l) (hg : z.goals.length < 2 ^ 60) (hll : l.length < 2 ^ 60)
    (h : ∀ σ', Fr σ.length σ σ' → Post (.bool (l.any z.goals.contains)) σ') : GCall Try.prog 28 [.agg [pl, .int .i64 z.start, go, .int .i64 z.moves], s] σ Post := by
  refine gc28 ?_
  have hf0 : Fr σ.length σ (σ ++ [GObj.row false [pl, .int .i64 z.start, go, .int .i64 z.moves]]) := Fr.rfl'.app _
  have hb0 := puz_box σ pl (.int .i64 z.start) go (.int .i64 z.moves)
  simp [g28, genv0, List.replicate]
  generalize hσ1 : σ ++ [GObj.row false [pl, .int .i64 z.start, go, .int .i64 z.moves]] = σ1 at *
  have hz1 := hz.fr hf0
  have hl1 := hl.fr hf0
  refine gfor l.length (fun i e σ' => σ' = σ1 ∧ (∀ j x, j < i → l[j]? = some x → z.goals.contains x = false) ∧ e = mkEnv 19 [(1, s), (2, .ptr σ.length 0), (5, .int .i64 i)]) _ ?_ ⟨rfl, fun j x hj => absurd hj (Nat.not_lt_zero _), rfl⟩ ?_
  · simp [mkEnv, List.replicate]
  rintro i _ _ hi ⟨rfl, hno, rfl⟩
  simp [mkEnv, List.replicate, hl1.len]
  by_cases hlt : i < l.length
  · obtain ⟨y, hy⟩ := get_lt hlt
    obtain ⟨id, off, p1, p2⟩ := hl1.get (k := .i64) hy
    simp [hlt, ld_at hb0, p1, p2]
    refine has_ok hz1.goals hg ?_
    cases hc : z.goals.contains y with
    | true =>
      simp
      have : l.any z.goals.contains = true := List.any_eq_true.2 ⟨y, List.mem_of_getElem? hy, hc⟩
      rw [← this]; exact h _ hf0
    | false =>
      simp [wrap_suc (show i < _ by omega)]
      refine forK_go _ hlt (by simp [mkEnv, List.replicate]) ⟨rfl, fun j x hj hjx => ?_, rfl⟩
      rcases Nat.lt_succ_iff_lt_or_eq.1 hj with h' | rfl
      · exact hno j x h' hjx
      · rw [hy] at hjx; cases hjx; exact hc
  · have : i = l.length := by omega
    subst this
    simp
    have : l.any z.goals.contains = false := any_aux fun j x hj hjx => hno j x hj hjx
    rw [← this]; exact h _ hf0
end Go.Gh
namespace Go.Gh
open Go.RowKit Go.Proofs
set_option linter.unusedVariables false
set_option linter.unusedSimpArgs false
set_option maxRecDepth 20000
set_option maxHeartbeats 4000000
theorem flat_ok {p : List Blk} {s : DV} {σ : GS} {Post : DV → GS → Prop} (hs : Sl 2 RBlk σ s p) (hmx : p.length < 2 ^ 60) (hm2 : (flatVars p).length < 2 ^ 40)
    (h : ∀ v σ', Fr σ.length σ σ' → σ.length ≤ σ'.length → OInt σ.length σ' v (flatVars p) → Post v σ') : GCall Try.prog 29 [s] σ Post := by
  refine gc29 ?_
  simp [g29, genv0, List.replicate]
  refine gfor p.length (fun i e σ' => ∃ v, Fr σ.length σ σ' ∧ OInt σ.length σ' v (flatVars (p.take i)) ∧ e = mkEnv 19 [(0, s), (3, v), (4, .int .i64 i)]) _ ?_ ⟨.nils, Fr.rfl', by simpa [flatVars] using OInt.nil, rfl⟩ ?_
  · simp [mkEnv, List.replicate]
  rintro i _ σ' hi ⟨v, hf, hv, rfl⟩
  have hs' := hs.fr RBlk.mono hf
  simp [mkEnv, List.replicate, hs'.len]
  by_cases hlt : i < p.length
  · obtain ⟨b, hb⟩ := get_lt hlt
    obtain ⟨id, off, u, p1, p2, p3, p4, p5⟩ := blk_get hs' (k := .i64) hb
    have hle := flatVars_le (p := p) (i + 1)
    rw [flatVars_take hb, List.length_append] at hle
    obtain ⟨v', σ2, q1, q2, q3, q4, q5⟩ := hv.append p4 hf.len (by omega)
    simp [hlt, p1, p3, q1, wrap_suc (show i < _ by omega)]
    exact forK_go _ hlt (by simp [mkEnv, List.replicate]) ⟨v', hf.trans q3, by rw [flatVars_take hb]; exact q2, rfl⟩
  · have : i = p.length := by omega
    subst this
    simp
    exact h _ _ hf hf.len (by simpa using hv)
theorem find_ok {p : List Blk} {x : Int} {s : DV} {σ : GS} {Post : DV → GS → Prop} (hs : Sl 2 RBlk σ s p) (hmx : p.length < 2 ^ 60) (hm2 : ∀ b ∈ p, b.vars.length < 2 ^ 60) (hx : x ∈ flatVars p)
    (h : ∀ (i : Nat) (b : Blk), p[i]? = some b → x ∈ b.vars → (∀ (j : Nat) (c : Blk), j < i → p[j]? = some c → x ∉ c.vars) → Post (.tuple [.int .i64 (i : Int), .bool b.ex, .bool true]) σ) : GCall Try.prog 57 [s, .int .i64 x] σ Post := by
  refine gc57 ?_
  simp [g57, genv0, List.replicate]
  refine gfor p.length (fun i e σ' => σ' = σ ∧ (∀ j c, j < i → p[j]? = some c → x ∉ c.vars) ∧ e = mkEnv 27 [(0, s), (1, .int .i64 x), (7, .int .i64 i)]) _ ?_ ⟨rfl, fun j x hj => absurd hj (Nat.not_lt_zero _), rfl⟩ ?_
  · simp [mkEnv, List.replicate]
  rintro i _ _ hi ⟨rfl, hno, rfl⟩
  simp [mkEnv, List.replicate, hs.len]
  by_cases hlt : i < p.length
  · obtain ⟨b, hb⟩ := get_lt hlt
    obtain ⟨id, off, u, p1, p2, p3, p4, p5⟩ := blk_get hs (k := .i64) hb
    simp [hlt, p1, p3]
    refine has_ok p4 (hm2 b (List.mem_of_getElem? hb)) ?_
    cases hc : b.vars.contains x with
    | true =>
      simp [p1, p2]
      try simp [gresL, gres1, gresV]
      exact h i b hb (List.contains_iff_mem.1 hc) hno
    | false =>
      simp [wrap_suc (show i < _ by omega)]
      refine forK_go _ hlt (by simp [mkEnv, List.replicate]) ⟨rfl, fun j c hj hjc => ?_, rfl⟩
      rcases Nat.lt_succ_iff_lt_or_eq.1 hj with h' | rfl
      · exact hno j c h' hjc
      · rw [hb] at hjc; cases hjc
        intro hm; rw [List.contains_iff_mem.2 hm] at hc; cases hc
  · exfalso
    have : i = p.length := by omega
    subst this
    obtain ⟨c, hc1, hc2⟩ := List.mem_flatMap.1 hx
    obtain ⟨j, hj⟩ := List.mem_iff_getElem?.1 hc1
    exact hno j c (get_dom hj) hj hc2
theorem refMay_ok {z : Puz} {pl go : DV} {σ : GS} {Post : DV → GS → Prop} (hz : PuzV σ pl go z) (hs : PuzSm z)
    (h : ∀ b σ', Fr σ.length σ σ' → (b = true → Fine z) → Post (.bool b) σ') : GCall Try.prog 19 [.agg [pl, .int .i64 z.start, go, .int .i64 z.moves]] σ Post := by
  refine gc19 ?_
  have hf0 : Fr σ.length σ (σ ++ [GObj.row false [pl, .int .i64 z.start, go, .int .i64 z.moves]]) := Fr.rfl'.app _
  have hb0 := puz_box σ pl (.int .i64 z.start) go (.int .i64 z.moves)
  simp [g19, genv0, List.replicate]
  generalize hσ1 : σ ++ [GObj.row false [pl, .int .i64 z.start, go, .int .i64 z.moves]] = σ1 at *
  have hz1 := hz.fr hf0
  have hno : Post (.bool false) σ1 := h false σ1 hf0 (fun e => by cases e)
  simp [hz1.places.len]
  by_cases c1 : (z.places.length : Int) < 1
  · simp [c1]; exact hno
  by_cases c2 : (16 : Int) < (z.places.length : Int)
  · simp [c1, c2]; exact hno
  by_cases c3 : z.start < 0
  · simp [c1, c2, c3, ld_at hb0]; exact hno
  by_cases c4 : (z.places.length : Int) ≤ z.start
  · simp [c1, c2, c3, c4, ld_at hb0]; exact hno
  by_cases c5 : z.moves < 0
  · simp [c1, c2, c3, c4, c5, ld_at hb0]; exact hno
  by_cases c6 : 8 < z.moves
  · simp [c1, c2, c3, c4, c5, c6, ld_at hb0]; exact hno
  simp [c1, c2, c3, c4, c5, c6, ld_at hb0]
  refine gfor z.places.length (fun i e σ' => σ' = σ1 ∧ (∀ j x, j < i → z.places[j]? = some x → x.to.length ≤ 4 ∧ ∀ t ∈ x.to, 0 ≤ t ∧ t < z.places.length) ∧ e = mkEnv 113 [(1, .ptr σ.length 0), (3, .int .i64 z.places.length), (4, .int .i64 i)]) _ ?_ ⟨rfl, fun j x hj => absurd hj (Nat.not_lt_zero _), rfl⟩ ?_
  · simp [mkEnv, List.replicate]
  rintro i _ σ1 hi ⟨rfl, hpl, rfl⟩
  simp [mkEnv, List.replicate]
  by_cases hlt : i < z.places.length
  · obtain ⟨x, hx⟩ := get_lt hlt
    obtain ⟨id, off, v, p1, p2, p3, p4, p5⟩ := plc_get hz1.places (k := .i64) hx
    simp [hlt, ld_at hb0, p1, p3]
    refine gfor x.to.length (fun k e σ' => σ' = σ1 ∧ (∀ j t, j < k → x.to[j]? = some t → x.to.length ≤ 4 ∧ 0 ≤ t ∧ t < z.places.length) ∧ e = mkEnv 113 [(1, .ptr σ.length 0), (3, .int .i64 z.places.length), (4, .int .i64 i), (5, v), (6, .int .i64 k)]) _ ?_ ⟨rfl, fun j x hj => absurd hj (Nat.not_lt_zero _), rfl⟩ ?_
    · simp [mkEnv, List.replicate]
    rintro k _ σ1 hk ⟨rfl, hto, rfl⟩
    simp [mkEnv, List.replicate, p4.len]
    by_cases hkt : k < x.to.length
    · obtain ⟨t, ht⟩ := get_lt hkt
      obtain ⟨id2, off2, r1, r2⟩ := p4.get (k := .i64) ht
      have hk' : (k : Int) < (x.to.length : Int) := by omega
      by_cases d1 : (4 : Int) < (x.to.length : Int)
      · simp [hkt, p4.len, d1]; exact hno
      by_cases d2 : t < 0
      · simp [hkt, p4.len, d1, r1, r2, d2]; exact hno
      by_cases d3 : (z.places.length : Int) ≤ t
      · simp [hkt, p4.len, d1, r1, r2, d2, d3]; exact hno
      simp [hkt, p4.len, d1, r1, r2, d2, d3, wrap_suc (show k < _ by omega)]
      refine forK_go _ hkt (by simp [mkEnv, List.replicate]) ⟨rfl, fun j t' hj hjt => ?_, rfl⟩
      rcases Nat.lt_succ_iff_lt_or_eq.1 hj with h' | rfl
      · exact hto j t' h' hjt
      · rw [ht] at hjt; cases hjt; omega
    · have : k = x.to.length := by omega
      subst this
      simp [wrap_suc (show i < _ by omega)]
      refine forK_go _ hlt (by simp [mkEnv, List.replicate]) ⟨rfl, fun j x' hj hjx => ?_, rfl⟩
      rcases Nat.lt_succ_iff_lt_or_eq.1 hj with h' | rfl
      · exact hpl j x' h' hjx
      · rw [hx] at hjx; cases hjx
        refine ⟨?_, fun t ht => ?_⟩
        · rcases Nat.eq_zero_or_pos x.to.length with h0 | h0
          · omega
          · obtain ⟨t, ht⟩ := get_lt h0
            exact (hto 0 t h0 ht).1
        · obtain ⟨j', hj'⟩ := List.mem_iff_getElem?.1 ht
          exact (hto j' t (get_dom hj') hj').2
  · have : i = z.places.length := by omega
    subst this
    simp
    have hg60 := hs.goals
    refine gfor z.goals.length (fun k e σ' => σ' = σ1 ∧ (∀ j t, j < k → z.goals[j]? = some t → 0 ≤ t ∧ t < z.places.length) ∧ (∀ j a b, j + 1 < k → z.goals[j]? = some a → z.goals[j + 1]? = some b → a < b) ∧ e = mkEnv 113 [(1, .ptr σ.length 0), (3, .int .i64 z.places.length), (7, .int .i64 k)]) _ ?_ ⟨rfl, fun j x hj => absurd hj (Nat.not_lt_zero _), fun j a b hj => absurd hj (Nat.not_lt_zero _), rfl⟩ ?_
    · simp [mkEnv, List.replicate]
    rintro k _ σ1 hk ⟨rfl, hgo, has, rfl⟩
    simp [mkEnv, List.replicate, ld_at hb0, hz1.goals.len]
    by_cases hkt : k < z.goals.length
    · obtain ⟨t, ht⟩ := get_lt hkt
      obtain ⟨id2, off2, r1, r2⟩ := hz1.goals.get (k := .i64) ht
      by_cases d2 : t < 0
      · simp [hkt, ld_at hb0, r1, r2, d2]; exact hno
      by_cases d3 : (z.places.length : Int) ≤ t
      · simp [hkt, ld_at hb0, r1, r2, d2, d3]; exact hno
      cases k with
      | zero =>
        simp at r1
        simp [hkt, ld_at hb0, r1, r2, d2, d3]
        refine forK_go _ hkt (by simp [mkEnv, List.replicate]) ⟨rfl, fun j t' hj hjt => ?_, fun j a b hj => by omega, rfl⟩
        obtain rfl : j = 0 := by omega
        rw [ht] at hjt; cases hjt; omega
      | succ k =>
        obtain ⟨u, hu⟩ := get_lt (xs := z.goals) (i := k) (by omega)
        obtain ⟨id3, off3, s1, s2⟩ := hz1.goals.get (k := .i64) hu
        have hpos : (0 : Int) < (k : Int) + 1 := by omega
        simp at r1
        by_cases d4 : t ≤ u
        · simp [hkt, ld_at hb0, r1, r2, d2, d3, hpos, wrap_nat (show k < _ by omega), s1, s2, d4]; exact hno
        have hw2 : IntKind.i64.wrap ((k : Int) + 1 + 1) = ((k + 1 + 1 : Nat) : Int) := by rw [wrap_small] <;> omega
        simp [hkt, ld_at hb0, r1, r2, d2, d3, hpos, wrap_nat (show k < _ by omega), s1, s2, d4, hw2]
        refine forK_go _ hkt (by simp [mkEnv, List.replicate]) ⟨rfl, fun j t' hj hjt => ?_, fun j a b hj ha hb => ?_, rfl⟩
        · rcases Nat.lt_succ_iff_lt_or_eq.1 hj with h' | rfl
          · exact hgo j t' h' hjt
          · rw [ht] at hjt; cases hjt; omega
        · rcases Nat.lt_succ_iff_lt_or_eq.1 hj with h' | h'
          · exact has j a b h' ha hb
          · obtain rfl : j = k := by omega
            rw [hu] at ha; rw [ht] at hb; cases ha; cases hb; omega
    · have : k = z.goals.length := by omega
      subst this
      simp
      refine h true _ hf0 fun _ => ⟨by omega, by omega, by omega, by omega, by omega, by omega, ?_, ?_, ?_, ?_⟩
      · intro x hx
        obtain ⟨j, hj⟩ := List.mem_iff_getElem?.1 hx
        exact (hpl j x (get_dom hj) hj).1
      · intro x hx
        obtain ⟨j, hj⟩ := List.mem_iff_getElem?.1 hx
        exact (hpl j x (get_dom hj) hj).2
      · intro x hx
        obtain ⟨j, hj⟩ := List.mem_iff_getElem?.1 hx
        exact hgo j x (get_dom hj) hj
      · intro j a b ha hb
        exact has j a b (get_dom hb) ha hb
end Go.Gh
namespace Go.Gh
open Go.RowKit Go.Proofs
set_option linter.unusedVariables false
set_option linter.unusedSimpArgs false
set_option maxRecDepth 20000
set_option maxHeartbeats 4000000
theorem cells_flat {v : DV} (h : v.flat = true) : v.cells = some [v] := by cases v <;> first | rfl | cases h
theorem st_row {σ : GS} {id : Nat} {z v : DV} (h : σ[id]? = some (.row false [z])) (hv : v.flat = true) : gimp (.store 1) [.ptr id 0, v] σ = some (.tuple [], σ.set id (.row false [v])) := by
  simp only [gimp, h, cells_flat hv]
  rw [if_pos ⟨rfl, by simp, by simp [hv]⟩]
  simp [over]
theorem st0 {σ τ : GS} {z v : DV} (hv : v.flat = true) : gimp (.store 1) [.ptr σ.length 0, v] (σ ++ .row false [z] :: τ) = some (.tuple [], σ ++ .row false [v] :: τ) := by
  rw [st_row (z := z) (by simp) hv]; simp
theorem st1 {σ τ : GS} {z v : DV} {a : GObj} (hv : v.flat = true) : gimp (.store 1) [.ptr (σ.length + 1) 0, v] (σ ++ a :: .row false [z] :: τ) = some (.tuple [], σ ++ a :: .row false [v] :: τ) := by
  rw [st_row (z := z) (by simp) hv]; simp
theorem st2 {σ τ : GS} {z v : DV} {a b : GObj} (hv : v.flat = true) : gimp (.store 1) [.ptr (σ.length + 2) 0, v] (σ ++ a :: b :: .row false [z] :: τ) = some (.tuple [], σ ++ a :: b :: .row false [v] :: τ) := by
  rw [st_row (z := z) (by simp) hv]; simp
@[simp] theorem st0_int {σ τ : GS} {z : DV} (k : IntKind) (n : Int) : gimp (.store 1) [.ptr σ.length 0, .int k n] (σ ++ .row false [z] :: τ) = some (.tuple [], σ ++ .row false [.int k n] :: τ) := st0 rfl
@[simp] theorem st0_func {σ τ : GS} {z : DV} (f : FuncId) (x y : List DV) : gimp (.store 1) [.ptr σ.length 0, .func f x y] (σ ++ .row false [z] :: τ) = some (.tuple [], σ ++ .row false [.func f x y] :: τ) := st0 rfl
@[simp] theorem st0_bool {σ τ : GS} {z : DV} (t : Bool) : gimp (.store 1) [.ptr σ.length 0, .bool t] (σ ++ .row false [z] :: τ) = some (.tuple [], σ ++ .row false [.bool t] :: τ) := st0 rfl
@[simp] theorem st1_int {σ τ : GS} {z : DV} {a : GObj} (k : IntKind) (n : Int) : gimp (.store 1) [.ptr (σ.length + 1) 0, .int k n] (σ ++ a :: .row false [z] :: τ) = some (.tuple [], σ ++ a :: .row false [.int k n] :: τ) := st1 rfl
@[simp] theorem st1_func {σ τ : GS} {z : DV} {a : GObj} (f : FuncId) (x y : List DV) : gimp (.store 1) [.ptr (σ.length + 1) 0, .func f x y] (σ ++ a :: .row false [z] :: τ) = some (.tuple [], σ ++ a :: .row false [.func f x y] :: τ) := st1 rfl
@[simp] theorem st1_bool {σ τ : GS} {z : DV} {a : GObj} (t : Bool) : gimp (.store 1) [.ptr (σ.length + 1) 0, .bool t] (σ ++ a :: .row false [z] :: τ) = some (.tuple [], σ ++ a :: .row false [.bool t] :: τ) := st1 rfl
@[simp] theorem st2_int {σ τ : GS} {z : DV} {a b : GObj} (k : IntKind) (n : Int) : gimp (.store 1) [.ptr (σ.length + 2) 0, .int k n] (σ ++ a :: b :: .row false [z] :: τ) = some (.tuple [], σ ++ a :: b :: .row false [.int k n] :: τ) := st2 rfl
@[simp] theorem st2_func {σ τ : GS} {z : DV} {a b : GObj} (f : FuncId) (x y : List DV) : gimp (.store 1) [.ptr (σ.length + 2) 0, .func f x y] (σ ++ a :: b :: .row false [z] :: τ) = some (.tuple [], σ ++ a :: b :: .row false [.func f x y] :: τ) := st2 rfl
@[simp] theorem st2_bool {σ τ : GS} {z : DV} {a b : GObj} (t : Bool) : gimp (.store 1) [.ptr (σ.length + 2) 0, .bool t] (σ ++ a :: b :: .row false [z] :: τ) = some (.tuple [], σ ++ a :: b :: .row false [.bool t] :: τ) := st2 rfl
@[simp] theorem ld_box2 {σ τ : GS} {ro : Bool} {cs : List DV} {k : Nat} {a b : GObj} : gload (.load 1 false) [.ptr (σ.length + 2) k] (σ ++ a :: b :: .row ro cs :: τ) = cs[k]? := by simp [gload]
/-- IndexFunc with a predicate that changes nothing. -/
theorem idx_ok {f : FuncId} {caps : List DV} {xs : List Int} {P : Int → Bool} {s : DV} {σ : GS} {Post : DV → GS → Prop} (hs : SInt σ s xs) (hmx : xs.length < 2 ^ 60)
    (hp : ∀ x ∈ xs, ∀ Post : DV → GS → Prop, Post (.bool (P x)) σ → GCall Try.prog f (.int .i64 x :: caps) σ Post)
    (h : ∀ k : Int, (decide (0 ≤ k) = xs.any P) → Post (.int .i64 k) σ) : GCall Try.prog 39 [s, .func f [] caps] σ Post := by
  refine gc39 ?_
  simp [g39, genv0, List.replicate, hs.len]
  refine gfor xs.length (fun i e σ' => σ' = σ ∧ (∀ j x, j < i → xs[j]? = some x → P x = false) ∧ e = mkEnv 19 [(0, s), (1, .func f [] caps), (7, .int .i64 xs.length), (8, .int .i64 i)]) _ ?_ ⟨rfl, fun j x hj => absurd hj (Nat.not_lt_zero _), rfl⟩ ?_
  · simp [mkEnv, List.replicate]
  rintro i _ _ hi ⟨rfl, hno, rfl⟩
  simp [mkEnv, List.replicate]
  by_cases hlt : i < xs.length
  · obtain ⟨y, hy⟩ := get_lt hlt
    obtain ⟨id, off, p1, p2⟩ := hs.get (k := .i64) hy
    simp [hlt, p1, p2]
    refine hp y (List.mem_of_getElem? hy) _ ?_
    cases hc : P y with
    | true =>
      simp
      refine h _ ?_
      have : xs.any P = true := List.any_eq_true.2 ⟨y, List.mem_of_getElem? hy, hc⟩
      rw [this]; simp
    | false =>
      simp [wrap_suc (show i < _ by omega)]
      refine forK_go _ hlt (by simp [mkEnv, List.replicate]) ⟨rfl, fun j x hj hjx => ?_, rfl⟩
      rcases Nat.lt_succ_iff_lt_or_eq.1 hj with h' | rfl
      · exact hno j x h' hjx
      · rw [hy] at hjx; cases hjx; exact hc
  · have : i = xs.length := by omega
    subst this
    simp
    refine h _ ?_
    have : xs.any P = false := any_aux fun j x hj hjx => hno j x hj hjx
    rw [this]; simp
theorem has_func_ok {f : FuncId} {caps : List DV} {xs : List Int} {P : Int → Bool} {s : DV} {σ : GS} {Post : DV → GS → Prop} (hs : SInt σ s xs) (hmx : xs.length < 2 ^ 60)
    (hp : ∀ x ∈ xs, ∀ Post : DV → GS → Prop, Post (.bool (P x)) σ → GCall Try.prog f (.int .i64 x :: caps) σ Post)
    (h : Post (.bool (xs.any P)) σ) : GCall Try.prog 43 [s, .func f [] caps] σ Post := by
  refine gc43 ?_
  simp [g43, genv0, List.replicate]
  refine idx_ok hs hmx hp fun k hk => ?_
  simp [hk]
  exact h
theorem out_ok {x : Int} {n : Int} {id : Nat} {ro : Bool} {σ : GS} {Post : DV → GS → Prop} (hn : σ[id]? = some (.row ro [.int .i64 n])) (h : Post (.bool (decide (x < 0) || decide (n ≤ x))) σ) : GCall Try.prog 42 [.int .i64 x, .ptr id 0] σ Post := by
  refine gc42 ?_
  by_cases h1 : x < 0
  · simp [g42, genv0, List.replicate, h1]; simpa [h1] using h
  · simp [g42, genv0, List.replicate, h1, ld_at hn]; simpa [h1] using h
theorem plcidx_ok {f : FuncId} {caps : List DV} {xs : List Plc} {s : DV} {σ : GS} {Post : DV → GS → Prop} (hs : Sl 2 RPlc σ s xs) (hmx : xs.length < 2 ^ 60)
    (hp : ∀ x ∈ xs, ∀ σ' v, Fr σ.length σ σ' → SInt σ' v x.to → ∀ Post : DV → GS → Prop, (∀ σ'', Fr σ'.length σ' σ'' → Post (.bool false) σ'') → GCall Try.prog f (.agg [.bool x.mine, v] :: caps) σ' Post)
    (h : ∀ σ', Fr σ.length σ σ' → Post (.int .i64 (-1)) σ') : GCall Try.prog 59 [s, .func f [] caps] σ Post := by
  refine gc59 ?_
  simp [g59, genv0, List.replicate, hs.len]
  refine gfor xs.length (fun i e σ' => Fr σ.length σ σ' ∧ e = mkEnv 19 [(0, s), (1, .func f [] caps), (7, .int .i64 xs.length), (8, .int .i64 i)]) _ ?_ ⟨Fr.rfl', rfl⟩ ?_
  · simp [mkEnv, List.replicate]
  rintro i _ σ' hi ⟨hf, rfl⟩
  simp [mkEnv, List.replicate]
  by_cases hlt : i < xs.length
  · obtain ⟨y, hy⟩ := get_lt hlt
    obtain ⟨id, off, v, p1, p2, p3, p4, p5⟩ := plc_get (hs.fr RPlc.mono hf) (k := .i64) hy
    simp [hlt, p1, p5]
    refine hp y (List.mem_of_getElem? hy) _ v hf p4 _ fun σ'' hf2 => ?_
    simp [wrap_suc (show i < _ by omega)]
    exact forK_go _ hlt (by simp [mkEnv, List.replicate]) ⟨hf.trans (hf2.mono hf.len), rfl⟩
  · have : i = xs.length := by omega
    subst this
    simp
    exact h _ hf
theorem plchas_ok {f : FuncId} {caps : List DV} {xs : List Plc} {s : DV} {σ : GS} {Post : DV → GS → Prop} (hs : Sl 2 RPlc σ s xs) (hmx : xs.length < 2 ^ 60)
    (hp : ∀ x ∈ xs, ∀ σ' v, Fr σ.length σ σ' → SInt σ' v x.to → ∀ Post : DV → GS → Prop, (∀ σ'', Fr σ'.length σ' σ'' → Post (.bool false) σ'') → GCall Try.prog f (.agg [.bool x.mine, v] :: caps) σ' Post)
    (h : ∀ σ', Fr σ.length σ σ' → Post (.bool false) σ') : GCall Try.prog 44 [s, .func f [] caps] σ Post := by
  refine gc44 ?_
  simp [g44, genv0, List.replicate]
  refine plcidx_ok hs hmx hp fun σ' hf => ?_
  simp
  exact h _ hf
theorem out2_ok {x : Plc} {v : DV} {id1 id2 : Nat} {k : Int} {ro1 ro2 : Bool} {σ : GS} {Post : DV → GS → Prop} (hv : SInt σ v x.to) (h1 : σ[id1]? = some (.row ro1 [.func 42 [] [.ptr id2 0]])) (h2 : σ[id2]? = some (.row ro2 [.int .i64 k]))
    (hx4 : x.to.length ≤ 4) (hto : ∀ t ∈ x.to, 0 ≤ t ∧ t < k) (h : ∀ σ', Fr σ.length σ σ' → Post (.bool false) σ') : GCall Try.prog 45 [.agg [.bool x.mine, v], .ptr id1 0] σ Post := by
  refine gc45 ?_
  have hf : Fr σ.length σ (σ ++ [.row false [.bool x.mine, v]]) := Fr.rfl'.app _
  have hlen : ¬ (4 : Int) < (x.to.length : Int) := by omega
  simp [g45, genv0, List.replicate, (hv.fr hf).len, hlen, ld_at (hf.at_ h1)]
  refine has_func_ok (P := fun y => decide (y < 0) || decide (k ≤ y)) (hv.fr hf) (by omega) (fun y hy Post' hP => out_ok (hf.at_ h2) hP) ?_
  have : x.to.any (fun y => decide (y < 0) || decide (k ≤ y)) = false := any_aux fun j y hj hy => by
    have := hto y (List.mem_of_getElem? hy)
    simp; omega
  simp [this]
  exact h _ hf
theorem pmay_ok {z : Puz} {pl go : DV} {σ : GS} {Post : DV → GS → Prop} (hz : PuzV σ pl go z) (hf : Fine z) (hgl : z.goals.length < 2 ^ 60)
    (h : ∀ σ', Fr σ.length σ σ' → Post (.bool true) σ') : GCall Try.prog 18 [.agg [pl, .int .i64 z.start, go, .int .i64 z.moves]] σ Post := by
  refine gc18 ?_
  have hf0 : Fr σ.length σ (σ ++ [GObj.row false [pl, .int .i64 z.start, go, .int .i64 z.moves]]) := Fr.rfl'.app _
  have hz1 := (hz.fr hf0).places.len
  simp [g18, genv0, List.replicate, hz1]
  have hfr : Fr σ.length σ (σ ++ [GObj.row false [pl, .int .i64 z.start, go, .int .i64 z.moves], .row false [.int .i64 z.places.length], .row false [.func 42 [] [.ptr (σ.length + 1) 0]]]) := Fr.rfl'.app _
  have e0 : (σ ++ [GObj.row false [pl, .int .i64 z.start, go, .int .i64 z.moves], .row false [.int .i64 z.places.length], .row false [.func 42 [] [.ptr (σ.length + 1) 0]]])[σ.length]? = some (.row false [pl, .int .i64 z.start, go, .int .i64 z.moves]) := by simp
  have e1 : (σ ++ [GObj.row false [pl, .int .i64 z.start, go, .int .i64 z.moves], .row false [.int .i64 z.places.length], .row false [.func 42 [] [.ptr (σ.length + 1) 0]]])[σ.length + 1]? = some (.row false [.int .i64 z.places.length]) := by simp
  have e2 : (σ ++ [GObj.row false [pl, .int .i64 z.start, go, .int .i64 z.moves], .row false [.int .i64 z.places.length], .row false [.func 42 [] [.ptr (σ.length + 1) 0]]])[σ.length + 2]? = some (.row false [.func 42 [] [.ptr (σ.length + 1) 0]]) := by simp
  generalize hσ1 : σ ++ [GObj.row false [pl, .int .i64 z.start, go, .int .i64 z.moves], .row false [.int .i64 z.places.length], .row false [.func 42 [] [.ptr (σ.length + 1) 0]]] = σ1 at *
  have hn16 : ¬ (16 : Int) < (z.places.length : Int) := by have := hf.n16; omega
  have hzz := hz.fr hfr
  simp [ld_at e0, ld_at e1, ld_at e2, hn16]
  refine out_ok e1 ?_
  have h1 : ¬ z.start < 0 := by have := hf.st0; omega
  have h2 : ¬ (z.places.length : Int) ≤ z.start := by have := hf.st1; omega
  have h3 : ¬ z.moves < 0 := by have := hf.mv0; omega
  have h4 : ¬ 8 < z.moves := by have := hf.mv1; omega
  simp [ld_at e0, ld_at e1, ld_at e2, h1, h2, h3, h4]
  refine has_func_ok (P := fun y => decide (y < 0) || decide ((z.places.length : Int) ≤ y)) hzz.goals hgl (fun y hy Post' hP => out_ok e1 hP) ?_
  have : z.goals.any (fun y => decide (y < 0) || decide ((z.places.length : Int) ≤ y)) = false := any_aux fun j y hj hy => by
    have := hf.goals y (List.mem_of_getElem? hy)
    simp; omega
  simp [this]
  refine gfor z.goals.length (fun i e σ' => σ' = σ1 ∧ e = mkEnv 58 [(1, .ptr σ.length 0), (4, .ptr (σ.length + 2) 0), (5, .int .i64 ((i : Int) + 1))]) _ ?_ ⟨rfl, rfl⟩ ?_
  · simp [mkEnv, List.replicate]
  rintro i _ σ1 hi ⟨rfl, rfl⟩
  simp [mkEnv, List.replicate, ld_at e0, hzz.goals.len]
  by_cases hlt : i + 1 < z.goals.length
  · obtain ⟨a, ha⟩ := get_lt (xs := z.goals) (i := i) (by omega)
    obtain ⟨b, hb⟩ := get_lt hlt
    obtain ⟨id, off, p1, p2⟩ := hzz.goals.get (k := .i64) ha
    obtain ⟨id', off', p3, p4⟩ := hzz.goals.get (k := .i64) hb
    have hlt' : (i : Int) + 1 < (z.goals.length : Int) := by omega
    have hasc := hf.asc i a b ha hb
    have hn : ¬ b ≤ a := by omega
    have hw2 : IntKind.i64.wrap ((i : Int) + 1 + 1) = (i : Int) + 1 + 1 := by rw [wrap_small] <;> omega
    simp at p3
    simp [hlt', ld_at e0, wrap_nat (show i < _ by omega), p1, p2, p3, p4, hn, hw2]
    refine forK_go _ (by omega) ?_ ⟨rfl, rfl⟩
    simp [mkEnv, List.replicate]
  · have hlt' : ¬ (i : Int) + 1 < (z.goals.length : Int) := by omega
    simp [hlt', ld_at e0]
    refine plchas_ok hzz.places (by have := hf.n16; omega) (fun x hx σ' v hf' hv Post' hP => ?_) fun σ' hf' => ?_
    · exact out2_ok hv (hf'.at_ e2) (hf'.at_ e1) (hf.to4 x hx) (hf.tos x hx) hP
    · simp
      exact h _ (hfr.trans (hf'.mono (by rw [← hσ1]; simp)))
end Go.Gh
namespace Go.Gh
open Go.RowKit Go.Proofs
set_option linter.unusedVariables false
set_option linter.unusedSimpArgs false
set_option maxRecDepth 20000
set_option maxHeartbeats 4000000
/-- The variables of a choice. -/
def choiceV (w : Nat) (t : Int) (mine : Bool) : List Int := (List.range w).map fun (i : Nat) => 2 * (w : Int) * (t - 1) + 1 + (i : Int) + if mine then 0 else (w : Int)
theorem choice_take {w : Nat} {t : Int} {mine : Bool} {i : Nat} (h : i < w) : (choiceV w t mine).take (i + 1) = (choiceV w t mine).take i ++ [2 * w * (t - 1) + 1 + i + if mine then 0 else (w : Int)] := by
  have hl : i < (choiceV w t mine).length := by simpa [choiceV] using h
  rw [List.take_succ_eq_append_getElem hl]
  simp [choiceV]
theorem OInt.set {n : Nat} {σ : GS} {s : DV} {xs : List Int} (h : OInt n σ s xs) {i : Nat} (hi : i < xs.length) (y : Int) (hn : n ≤ σ.length) :
    ∃ id σ', gpure (.iaddr 1) [s, .int .i64 (i : Int)] = some (.ptr id i) ∧ gimp (.store 1) [.ptr id i, .int .i64 y] σ = some (.tuple [], σ') ∧ OInt n σ' s (xs.set i y) ∧ Fr n σ σ' ∧ σ'.length = σ.length ∧ (∀ j, ¬ s.has j → σ'[j]? = σ[j]?) := by
  rcases h with ⟨rfl, rfl⟩ | ⟨id, cap, rest, h1, rfl, h2, h3⟩
  · simp at hi
  · have hid := get_dom h2
    refine ⟨id, σ.set id (.row false (ints (xs.set i y) ++ rest)), by simpa using iaddr_own (id := id) (sz := 1) (k := .i64) (cap := cap) hi, ?_, ?_, (Fr.refl hn).set h1 _, by simp, fun j hj => ?_⟩
    · simp only [gimp, h2, DV.cells]
      rw [if_pos ⟨rfl, by simp; omega, rfl⟩, over_one (by simp; omega)]
      congr 3
      rw [List.set_append_left _ _ (by simpa using hi)]
      simp [ints, List.map_set]
    · exact .inr ⟨id, cap, rest, h1, by simp, by simp [hid], by simpa using h3⟩
    · have hne : j ≠ id := fun e => hj ⟨_, _, _, _, by rw [e]⟩
      exact List.getElem?_set_ne (fun e => hne e.symm)
theorem choice_ok {w : Nat} {a b c d : DV} {t : Int} {mine : Bool} {σ : GS} {Post : DV → GS → Prop} (hw : w ≤ 20) (ht : 0 ≤ t ∧ t ≤ 100)
    (h : ∀ v σ', Fr σ.length σ σ' → σ.length ≤ σ'.length → OInt σ.length σ' v (choiceV w t mine) → Post v σ') : GCall Try.prog 34 [.agg [a, b, c, d, .int .i64 (w : Int)], .int .i64 t, .bool mine] σ Post := by
  refine gc34 ?_
  have e0 : (σ ++ [GObj.row false [a, b, c, d, .int .i64 (w : Int)]])[σ.length]? = some (.row false [a, b, c, d, .int .i64 (w : Int)]) := by simp
  have hf0 : Fr σ.length σ (σ ++ [GObj.row false [a, b, c, d, .int .i64 (w : Int)]]) := Fr.rfl'.app _
  have hl0 : (σ ++ [GObj.row false [a, b, c, d, .int .i64 (w : Int)]]).length = σ.length + 1 := by simp
  simp [g34, genv0, List.replicate]
  generalize hσ1 : σ ++ [GObj.row false [a, b, c, d, .int .i64 (w : Int)]] = σ1 at *
  refine gfor w (fun i e σ' => ∃ v, Fr (σ.length + 1) σ1 σ' ∧ OInt (σ.length + 1) σ' v ((choiceV w t mine).take i) ∧ e = mkEnv 38 [(1, .int .i64 t), (2, .bool mine), (3, .ptr σ.length 0), (7, v), (10, .int .i64 (w : Int)), (11, .int .i64 i)]) _ ?_ ⟨.nils, Fr.refl (by omega), by simpa using OInt.nil, rfl⟩ ?_
  · simp [mkEnv, List.replicate]
  rintro i _ σ2 hi ⟨v, hf, hv, rfl⟩
  have e2 : σ2[σ.length]? = some (.row false [a, b, c, d, .int .i64 (w : Int)]) := by rw [hf.get _ (by omega)]; exact e0
  have hl2 := hf.len
  simp [mkEnv, List.replicate]
  by_cases hlt : i < w
  · have w1 : IntKind.i64.wrap (2 * (w : Int)) = 2 * w := by rw [wrap_small] <;> omega
    have w2 : IntKind.i64.wrap (t - 1) = t - 1 := by rw [wrap_small] <;> omega
    have hb : -40 ≤ 2 * (w : Int) * (t - 1) ∧ 2 * (w : Int) * (t - 1) ≤ 4000 := by
      have hw' : (w : Int) ≤ 20 := by omega
      have hw0 : (0 : Int) ≤ w := by omega
      constructor
      · have := Int.mul_le_mul_of_nonneg_left (show (-1 : Int) ≤ t - 1 by omega) (show (0 : Int) ≤ 2 * w by omega)
        omega
      · have := Int.mul_le_mul (show 2 * (w : Int) ≤ 40 by omega) (show t - 1 ≤ 100 by omega)
        rcases Int.lt_or_le t 1 with h1 | h1
        · have : 2 * (w : Int) * (t - 1) ≤ 0 := Int.mul_nonpos_of_nonneg_of_nonpos (by omega) (by omega)
          omega
        · have := this (by omega) (by omega)
          omega
    have w3 : IntKind.i64.wrap (2 * (w : Int) * (t - 1)) = 2 * (w : Int) * (t - 1) := by rw [wrap_small] <;> omega
    have w4 : IntKind.i64.wrap (2 * (w : Int) * (t - 1) + 1) = 2 * (w : Int) * (t - 1) + 1 := by rw [wrap_small] <;> omega
    have w5 : IntKind.i64.wrap (2 * (w : Int) * (t - 1) + 1 + i) = 2 * (w : Int) * (t - 1) + 1 + i := by rw [wrap_small] <;> omega
    obtain ⟨v', σ3, q1, q2, q3, q4, q5⟩ := hv.push (2 * (w : Int) * (t - 1) + 1 + i) (by omega) (by simp; omega)
    have hlen : ((choiceV w t mine).take i).length = i := by simp [choiceV]; omega
    have e3 : σ3[σ.length]? = some (.row false [a, b, c, d, .int .i64 (w : Int)]) := by rw [q3.get _ (by omega)]; exact e2
    cases mine with
    | true =>
      simp [hlt, ld_at e2, w1, w2, w3, w4, w5, q1, wrap_suc (show i < _ by omega)]
      refine forK_go _ hlt (by simp [mkEnv, List.replicate]) ⟨v', hf.trans q3, ?_, rfl⟩
      rw [choice_take hlt]; simpa using q2
    | false =>
      have hgt : ((choiceV w t false).take i ++ [2 * (w : Int) * (t - 1) + 1 + i])[i]? = some (2 * (w : Int) * (t - 1) + 1 + i) := by
        rw [List.getElem?_append_right (by omega)]; simp [hlen]
      obtain ⟨id, off, r1, r2⟩ := q2.sl.get (k := .i64) hgt
      obtain ⟨id', σ4, s1, s2, s3, s4, s5, s6⟩ := q2.set (i := i) (by simp [hlen]) (2 * (w : Int) * (t - 1) + 1 + i + w) (by omega)
      have w6 : IntKind.i64.wrap (2 * (w : Int) * (t - 1) + 1 + i + w) = 2 * (w : Int) * (t - 1) + 1 + i + w := by rw [wrap_small] <;> omega
      rw [r1] at s1
      cases s1
      simp [hlt, ld_at e2, w1, w2, w3, w4, w5, q1, r1, r2, ld_at e3, w6, s2, wrap_suc (show i < _ by omega)]
      refine forK_go _ hlt (by simp [mkEnv, List.replicate]) ⟨v', hf.trans (q3.trans s4), ?_, rfl⟩
      rw [choice_take hlt]
      have : ((choiceV w t false).take i ++ [2 * (w : Int) * (t - 1) + 1 + i]).set i (2 * (w : Int) * (t - 1) + 1 + i + w) = (choiceV w t false).take i ++ [2 * (w : Int) * (t - 1) + 1 + i + if false = true then 0 else (w : Int)] := by
        rw [List.set_append_right _ _ (by omega)]; simp [hlen]
      rw [← this]; exact s3
  · have : i = w := by omega
    subst this
    simp
    refine h _ _ (hf0.trans (hf.mono (by omega))) (by omega) ?_
    have hlen : (choiceV i t mine).length = i := by simp [choiceV]
    have := hv
    rw [List.take_of_length_le (by omega)] at this
    rcases this with h' | ⟨id, cap, rest, h1, h2⟩
    · exact .inl h'
    · exact .inr ⟨id, cap, rest, by omega, h2⟩
end Go.Gh
namespace Go.Gh
open Go.RowKit Go.Proofs
set_option linter.unusedVariables false
set_option linter.unusedSimpArgs false
set_option maxRecDepth 20000
set_option maxHeartbeats 4000000
theorem gload_fr {σ σ' : GS} (hf : Fr σ.length σ σ') {n id off : Nat} {b : Bool} {v : DV} (h : gload (.load n b) [.ptr id off] σ = some v) : gload (.load n b) [.ptr id off] σ' = some v := by
  simp only [gload] at h ⊢
  cases hi : σ[id]? with
  | none => rw [hi] at h; cases h
  | some o => rw [hi] at h; rw [hf.at_ hi]; exact h
theorem Sl.flat {α : Type} {sz : Nat} {R : GS → List DV → α → Prop} {σ : GS} {s : DV} {xs : List α} (h : Sl sz R σ s xs) : s.flat = true := by
  rcases h with ⟨rfl | rfl, _⟩ | ⟨id, off, cap, ro, cs, rfl, _⟩ <;> rfl
theorem st_agg_at {σ : GS} {id : Nat} {cs zs : List DV} {n : Nat} (h : σ[id]? = some (.row false zs)) (h1 : cs.length = n) (h2 : zs.length = n) (h3 : cs.all DV.flat = true) : gimp (.store n) [.ptr id 0, .agg cs] σ = some (.tuple [], σ.set id (.row false cs)) := by
  simp only [gimp, h, DV.cells]
  rw [if_pos ⟨h1, by omega, h3⟩]
  congr 3
  unfold over
  simp [List.drop_eq_nil_of_le (show zs.length ≤ 0 + cs.length by omega)]
  omega
theorem st_cell {σ : GS} {id k : Nat} {v : DV} {zs : List DV} (h : σ[id]? = some (.row false zs)) (hk : k < zs.length) (h3 : v.flat = true) : gimp (.store 1) [.ptr id k, v] σ = some (.tuple [], σ.set id (.row false (zs.set k v))) := by
  simp only [gimp, h, cells_flat h3]
  rw [if_pos ⟨rfl, by omega, by simp [h3]⟩, over_one hk]
def up (w len : Nat) : Nat := if len ≤ 2 ^ w then w else if len ≤ 2 ^ (w + 1) then w + 1 else w + 2
def widthZ (z : Puz) : Nat := z.places.foldl (fun w x => up w x.to.length) 0
theorem up_le {w len : Nat} (hw : w ≤ 2) (hl : len ≤ 4) : up w len ≤ 2 ∧ w ≤ up w len ∧ len ≤ 2 ^ up w len := by
  obtain rfl | rfl | rfl : w = 0 ∨ w = 1 ∨ w = 2 := by omega
  all_goals (unfold up; repeat' split) <;> simp_all <;> omega
theorem up_run {w len k : Nat} (hw : w ≤ 2) (hl : len ≤ 4) (h1 : ∀ j, j < k → 2 ^ (w + j) < len) : (len ≤ 2 ^ (w + k) → w + k = up w len) ∧ (2 ^ (w + k) < len → k < 2 ∧ w + k < 2) := by
  have hk : k ≤ 2 := by
    rcases Nat.lt_or_ge 2 k with h | h
    · have := h1 2 h
      have : 2 ^ 2 ≤ 2 ^ (w + 2) := Nat.pow_le_pow_right (by omega) (by omega)
      omega
    · exact h
  have h0 : 1 ≤ k → 2 ^ w < len := fun h => by simpa using h1 0 (by omega)
  have h01 : 2 ≤ k → 2 ^ (w + 1) < len := fun h => h1 1 (by omega)
  obtain rfl | rfl | rfl : w = 0 ∨ w = 1 ∨ w = 2 := by omega
  all_goals
    obtain rfl | rfl | rfl : k = 0 ∨ k = 1 ∨ k = 2 := by omega
  all_goals
    simp at h0 h01
    constructor
    · intro h; unfold up; simp at h ⊢; repeat' split
      all_goals omega
    · intro h; (try simp at h ⊢) <;> omega
theorem widthZ_le {z : Puz} (h : ∀ x ∈ z.places, x.to.length ≤ 4) : ∀ (l : List Plc) (w : Nat), (∀ x ∈ l, x.to.length ≤ 4) → w ≤ 2 → l.foldl (fun w x => up w x.to.length) w ≤ 2 ∧ w ≤ l.foldl (fun w x => up w x.to.length) w ∧ ∀ x ∈ l, x.to.length ≤ 2 ^ (l.foldl (fun w x => up w x.to.length) w) := by
  intro l
  induction l with
  | nil => intro w _ hw; simp [hw]
  | cons x l ih =>
    intro w hl hw
    obtain ⟨g1, g2, g3⟩ := up_le hw (hl x (by simp))
    obtain ⟨h1, h2, h3⟩ := ih (up w x.to.length) (fun y hy => hl y (by simp [hy])) g1
    refine ⟨h1, Nat.le_trans g2 h2, fun y hy => ?_⟩
    rcases List.mem_cons.1 hy with rfl | hy
    · exact Nat.le_trans g3 (Nat.pow_le_pow_right (by omega) h2)
    · exact h3 y hy
theorem width_fine {z : Puz} (h : Fine z) : widthZ z ≤ 2 ∧ ∀ x ∈ z.places, x.to.length ≤ 2 ^ widthZ z :=
  let ⟨h1, _, h3⟩ := widthZ_le h.to4 z.places 0 h.to4 (by omega)
  ⟨h1, h3⟩
theorem shl_one {w : Nat} (h : w ≤ 20) (t : ET) : gbin .shl t (.int .i64 1) (.int .i64 (w : Int)) = some (.int .i64 ((2 ^ w : Nat) : Int)) := by
  rw [gb_shl, if_neg (by omega)]
  have : min (w : Int).toNat IntKind.i64.bits = w := by simp [IntKind.bits]; omega
  rw [this, wrap_small]
  · simp
  · have : (0 : Int) ≤ 2 ^ w := Int.pow_nonneg (by omega)
    omega
  · have : (2 : Nat) ^ w ≤ 2 ^ 20 := Nat.pow_le_pow_right (by omega) h
    have h2 : ((2 : Int) ^ w) = ((2 ^ w : Nat) : Int) := by simp
    rw [h2]; omega
theorem open_ok {z : Puz} {pl go : DV} {σ : GS} {Post : DV → GS → Prop} (hz : PuzV σ pl go z) (hfi : Fine z) (hgl : z.goals.length < 2 ^ 60)
    (h : ∀ σ', Fr σ.length σ σ' → Post (.tuple [.agg [pl, .int .i64 z.start, go, .int .i64 z.moves, .int .i64 (widthZ z : Int)], .int .i64 0]) σ') : GCall Try.prog 32 [.agg [pl, .int .i64 z.start, go, .int .i64 z.moves]] σ Post := by
  refine gc32 ?_
  have hf0 : Fr σ.length σ (σ ++ [GObj.row false [pl, .int .i64 z.start, go, .int .i64 z.moves], .row false [.nils, .int .i64 0, .nils, .int .i64 0, .int .i64 0]]) := Fr.rfl'.app _
  have e0 : (σ ++ [GObj.row false [pl, .int .i64 z.start, go, .int .i64 z.moves], .row false [.nils, .int .i64 0, .nils, .int .i64 0, .int .i64 0]])[σ.length]? = some (.row false [pl, .int .i64 z.start, go, .int .i64 z.moves]) := by simp
  have e1 : (σ ++ [GObj.row false [pl, .int .i64 z.start, go, .int .i64 z.moves], .row false [.nils, .int .i64 0, .nils, .int .i64 0, .int .i64 0]])[σ.length + 1]? = some (.row false [.nils, .int .i64 0, .nils, .int .i64 0, .int .i64 0]) := by simp
  have hl0 : (σ ++ [GObj.row false [pl, .int .i64 z.start, go, .int .i64 z.moves], .row false [.nils, .int .i64 0, .nils, .int .i64 0, .int .i64 0]]).length = σ.length + 2 := by simp
  simp [g32, genv0, List.replicate]
  generalize hσ1 : σ ++ [GObj.row false [pl, .int .i64 z.start, go, .int .i64 z.moves], .row false [.nils, .int .i64 0, .nils, .int .i64 0, .int .i64 0]] = σ1 at *
  try simp [ld_agg e0]
  refine pmay_ok (hz.fr hf0) hfi hgl fun σ2 hf2 => ?_
  have e02 := hf2.at_ e0
  have e12 := hf2.at_ e1
  have hl2 := hf2.len
  have hbuild : gpure (.build [.nils, .int .i64 0, .nils, .int .i64 0, .int .i64 0] [(0, 4)]) [.agg [pl, .int .i64 z.start, go, .int .i64 z.moves]] = some (.agg [pl, .int .i64 z.start, go, .int .i64 z.moves, .int .i64 0]) := rfl
  have hpf := hz.places.flat
  have hgf := hz.goals.flat
  have hst := st_agg (σ := σ2) (τ := []) (cs := [pl, .int .i64 z.start, go, .int .i64 z.moves, .int .i64 0]) (zs := [.nils, .int .i64 0, .nils, .int .i64 0, .int .i64 0]) (n := 5) rfl rfl (by simp [hpf, hgf])
  have hf02 : Fr σ.length σ σ2 := hf0.trans (hf2.mono (by omega))
  simp [-gp_build, ld_agg e02, hbuild, hst, ld_at (getE_append (τ := [GObj.row false [pl, .int .i64 z.start, go, .int .i64 z.moves, .int .i64 0]]) e02), hz.places.len]
  have hn16 := hfi.n16
  refine gfor z.places.length (fun i e σ' => ∃ w : Nat, (z.places.take i).foldl (fun w x => up w x.to.length) 0 = w ∧ w ≤ 2 ∧ Fr σ2.length σ2 σ' ∧ σ2.length < σ'.length ∧ σ'[σ2.length]? = some (.row false [pl, .int .i64 z.start, go, .int .i64 z.moves, .int .i64 (w : Int)]) ∧
    e = mkEnv 33 [(2, .ptr (σ.length + 1) 0), (4, .ptr σ2.length 0), (14, pl), (15, .int .i64 z.places.length), (16, .int .i64 i)]) _ ?_ ⟨0, rfl, by omega, Fr.rfl'.app _, by simp, by simp, rfl⟩ ?_
  · simp [mkEnv, List.replicate]
  rintro i _ σ3 hi ⟨w, hw, hw2, hf3, hl3, hrow, rfl⟩
  have hf03 := hf02.trans (hf3.mono (by omega))
  simp [mkEnv, List.replicate]
  by_cases hlt : i < z.places.length
  · obtain ⟨x, hx⟩ := get_lt hlt
    obtain ⟨id, off, v, p1, p2, p3, p4, p5⟩ := plc_get hz.places (k := .i64) hx
    have hx4 := hfi.to4 x (List.mem_of_getElem? hx)
    have hvf := p4.flat
    have hst2 := st_agg (σ := σ3) (τ := []) (cs := [.bool x.mine, v]) (zs := [.bool false, .nils]) (n := 2) rfl rfl (by simp [hvf])
    simp [hlt, p1, gload_fr hf03 p5, hst2]
    refine gfor 2 (fun k e σ' => (∀ j, j < k → 2 ^ (w + j) < x.to.length) ∧ Fr σ2.length σ2 σ' ∧ σ3.length < σ'.length ∧ σ'[σ2.length]? = some (.row false [pl, .int .i64 z.start, go, .int .i64 z.moves, .int .i64 ((w + k : Nat) : Int)]) ∧ σ'[σ3.length]? = some (.row false [.bool x.mine, v]) ∧
      e = mkEnv 33 [(2, .ptr (σ.length + 1) 0), (4, .ptr σ2.length 0), (6, .ptr σ3.length 0), (14, pl), (15, .int .i64 z.places.length), (16, .int .i64 i)]) _ ?_ ⟨fun j hj => absurd hj (Nat.not_lt_zero _), hf3.app _, by simp, getE_append hrow, by simp, rfl⟩ ?_
    · simp [mkEnv, List.replicate]
    rintro k _ σ4 hk ⟨hlow, hf4, hl4, hrow4, hx4r, rfl⟩
    have hf04 := hf02.trans (hf4.mono (by omega))
    obtain ⟨u1, u2⟩ := up_run (k := k) hw2 hx4 hlow
    have hsh : ∀ t, gbin .shl t (.int .i64 1) (.int .i64 ((w : Int) + (k : Int))) = some (.int .i64 ((2 ^ (w + k) : Nat) : Int)) := by
      intro t
      have := shl_one (w := w + k) (show w + k ≤ 20 by omega) t
      rw [Int.natCast_add] at this
      exact this
    have hpw : ((2 ^ (w + k) : Nat) : Int) = (2 : Int) ^ (w + k) := by simp
    simp [-gb_shl, mkEnv, List.replicate, ld_at hx4r, ld_at hrow4, (p4.fr hf04).len, hsh]
    by_cases hgt : 2 ^ (w + k) < x.to.length
    · obtain ⟨v1, v2⟩ := u2 hgt
      have hgi : (2 : Int) ^ (w + k) < (x.to.length : Int) := by rw [← hpw]; omega
      have hw1 : IntKind.i64.wrap ((w : Int) + (k : Int) + 1) = ((w + (k + 1) : Nat) : Int) := by rw [wrap_small] <;> omega
      have hsc := st_cell (k := 4) (v := .int .i64 ((w : Int) + (k : Int) + 1)) hrow4 (by simp) rfl
      simp [-gb_shl, hgi, ld_at hrow4, hw1]
      have hsc' := st_cell (k := 4) (v := .int .i64 ((w : Int) + ((k : Int) + 1))) hrow4 (by simp) rfl
      simp [hsc']
      refine forK_go _ v1 (by simp [mkEnv, List.replicate]) ⟨fun j hj => ?_, hf4.set (Nat.le_refl _) _, by simpa using hl4, ?_, ?_, rfl⟩
      · rcases Nat.lt_succ_iff_lt_or_eq.1 hj with h' | rfl
        · exact hlow j h'
        · exact hgt
      · rw [List.getElem?_set_self (by omega)]; simp
      · rw [List.getElem?_set_ne (by omega)]; exact hx4r
    · have hgi : ¬ (2 : Int) ^ (w + k) < (x.to.length : Int) := by rw [← hpw]; omega
      have hup := u1 (by omega)
      have hst' := fold_take (f := fun w (x : Plc) => up w x.to.length) hx 0
      rw [hw, ← hup] at hst'
      simp [-gb_shl, hgi, wrap_suc (show i < _ by omega)]
      have := up_le hw2 hx4
      exact forK_go _ hlt (by simp [mkEnv, List.replicate]) ⟨w + k, hst', by omega, hf4, by omega, hrow4, rfl⟩
  · have : i = z.places.length := by omega
    subst this
    have e13 := hf3.at_ e12
    rw [List.take_length] at hw
    have hww : widthZ z = w := hw
    have hst3 := st_agg_at (cs := [pl, .int .i64 z.start, go, .int .i64 z.moves, .int .i64 (w : Int)]) (n := 5) e13 rfl rfl (by simp [hpf, hgf])
    have hl13 : σ.length + 1 < σ3.length := by omega
    simp [ld_agg hrow, hst3]
    simp [gresL, gres1, gload, hl13, gresV]
    rw [hww] at h
    exact h _ (hf03.set (by omega) _)
end Go.Gh
