/-
  Proved: AigMakes: New, Edit and the methods of a maker are those of the reference.
  Part 6 of 7. Conditions: none. A verified frame that runs compiled texts over a ghost heap, the contracts of the functions that the statement reaches, and the plain law.
-/
import Derived.Test.YtmlkkjkjigpjjaaGreatXK5
import Derived.Test.YtmlkkjkjigpjjaaGreatProg
import Derived.KernelRfl
namespace Go.Gh
open Go.Proofs
abbrev F_skolemlaw06_AigMakes : Nat := 5
abbrev F_aig_New : Nat := 29
abbrev F_skolemref06_New : Nat := 30
abbrev F_aig_Edit : Nat := 31
abbrev F_skolemref06_Edit : Nat := 32
abbrev F_skolemlaw06_step : Nat := 33
abbrev F_aig_Maker_Graph : Nat := 34
abbrev F_aig_Maker_And : Nat := 55
abbrev F_aig_Maker_Or : Nat := 56
abbrev F_aig_Maker_Xor : Nat := 57
abbrev F_aig_Maker_In : Nat := 83
abbrev F_skolemref06_Maker_In : Nat := 84
abbrev F_skolemref06_Maker_And : Nat := 85
abbrev F_skolemref06_Maker_Or : Nat := 86
abbrev F_skolemref06_Maker_Xor : Nat := 87
abbrev F_aig_Maker_Ite : Nat := 88
abbrev F_skolemref06_Maker_Ite : Nat := 89
abbrev F_aig_Maker_All : Nat := 90
abbrev F_skolemref06_Maker_All : Nat := 91
abbrev F_aig_Maker_Any : Nat := 92
abbrev F_skolemref06_Maker_Any : Nat := 93
abbrev F_aig_Maker_Copy : Nat := 94
abbrev F_skolemref06_Maker_Copy : Nat := 95
abbrev F_aig_Maker_Graft : Nat := 96
abbrev F_skolemref06_Maker_Graft : Nat := 97
abbrev F_aig_Maker_none : Nat := 98
abbrev F_aig_Maker_every : Nat := 127
abbrev F_aig_Maker_some : Nat := 128
abbrev F_aig_Maker_xor : Nat := 129
abbrev F_aig_Maker_ite : Nat := 130
abbrev F_aig_Maker_make : Nat := 138
abbrev F_aig_Maker_And_1 : Nat := 139
abbrev F_aig_Maker_Or_1 : Nat := 141
abbrev F_aig_Maker_or : Nat := 142
abbrev F_aig_Maker_Xor_1 : Nat := 143
abbrev F_skolemref06_Maker_all : Nat := 149
abbrev F_skolemref06_Maker_done : Nat := 150
abbrev F_skolemref06_Maker_Disj : Nat := 151
abbrev F_skolemref06_Maker_Excl : Nat := 152
abbrev F_aig_Maker_Ite_1 : Nat := 153
abbrev F_skolemref06_Maker_Choice : Nat := 154
abbrev F_aig_Maker_All_1 : Nat := 155
abbrev F_skolemref06_Maker_Conjs : Nat := 156
abbrev F_aig_Maker_Any_1 : Nat := 157
abbrev F_skolemref06_Nots : Nat := 158
abbrev F_aig_Maker_Graft_1 : Nat := 159
abbrev F_aig_Maker_Graft_1_1 : Nat := 160
abbrev F_aig_Maker_make_1 : Nat := 174
noncomputable abbrev G_aig_New : GFun := ⟨9, [(.tmp 2), (.tmp 3)], (.seq (.region [⟨0, ⟨(some 2), none, (.pure .id), [(.const .nilp)]⟩, []⟩, ⟨0, ⟨(some 3), none, (.pure .id), [(.const (.int .i64 0))]⟩, []⟩]) (.seq (.region [⟨0, ⟨(some 4), none, (.pure .id), [(.tmp 0)]⟩, []⟩, ⟨0, ⟨(some 5), none, (.pure (.build [.nils, .nils] [(0, 1)])), [(.tmp 4)]⟩, []⟩, ⟨0, ⟨(some 6), none, (.call F_aig_Edit), [(.tmp 5)]⟩, []⟩, ⟨0, ⟨(some 7), none, (.pure (.extract 0)), [(.tmp 6)]⟩, []⟩, ⟨0, ⟨(some 8), none, (.pure (.extract 1)), [(.tmp 6)]⟩, []⟩, ⟨0, ⟨(some 2), none, (.pure .id), [(.tmp 7)]⟩, []⟩, ⟨0, ⟨(some 3), none, (.pure .id), [(.tmp 8)]⟩, []⟩]) .ret))⟩
theorem c_aig_New : compF Tryz.prog Tryz.f29 = some G_aig_New := by kernel_rfl
theorem gc_aig_New {args : List DV} {σ : GS} {Post : DV → GS → Prop} (h : @exB Tryz.prog ⟨G_aig_New.body⟩ (genv0 args G_aig_New.ntmps) σ ⟨@gretB G_aig_New.results ⟨Post⟩⟩) : GCall Tryz.prog F_aig_New args σ Post := gcall_ofB seatfollows Tryz.func29 (by kernel_rfl) c_aig_New h
noncomputable abbrev G_skolemref06_New : GFun := ⟨11, [(.tmp 2), (.tmp 3)], (.seq (.region [⟨0, ⟨(some 2), none, (.pure .id), [(.const .nilp)]⟩, []⟩, ⟨0, ⟨(some 3), none, (.pure .id), [(.const (.int .i64 0))]⟩, []⟩]) (.seq (.seq (.region [⟨0, ⟨(some 4), none, (.pure .id), [(.tmp 0)]⟩, []⟩, ⟨0, ⟨(some 5), none, (.call F_skolemref06_Inputs), [(.tmp 4)]⟩, []⟩, ⟨0, ⟨(some 6), none, (.pure (.un .not)), [(.tmp 5)]⟩, []⟩]) (.cond (.tmp 6) (.seq (.region [⟨0, ⟨(some 2), none, (.pure .id), [(.const .nilp)]⟩, []⟩, ⟨0, ⟨(some 3), none, (.pure .id), [(.const (.int .i64 2))]⟩, []⟩]) .ret) .skip)) (.seq (.region [⟨0, ⟨(some 7), none, (.pure .id), [(.tmp 0)]⟩, []⟩, ⟨0, ⟨(some 8), none, (.pure (.build [.nils, .nils] [(0, 1)])), [(.tmp 7)]⟩, []⟩, ⟨0, ⟨(some 9), none, (.pure (.build [.nils, .nils, (.bool false)] [(0, 2)])), [(.tmp 8)]⟩, []⟩, ⟨0, ⟨(some 10), none, (.new .box), [(.tmp 9)]⟩, []⟩, ⟨0, ⟨(some 2), none, (.pure .id), [(.tmp 10)]⟩, []⟩, ⟨0, ⟨(some 3), none, (.pure .id), [(.const (.int .i64 0))]⟩, []⟩]) .ret)))⟩
theorem c_skolemref06_New : compF Tryz.prog Tryz.f30 = some G_skolemref06_New := by kernel_rfl
theorem gc_skolemref06_New {args : List DV} {σ : GS} {Post : DV → GS → Prop} (h : @exB Tryz.prog ⟨G_skolemref06_New.body⟩ (genv0 args G_skolemref06_New.ntmps) σ ⟨@gretB G_skolemref06_New.results ⟨Post⟩⟩) : GCall Tryz.prog F_skolemref06_New args σ Post := gcall_ofB seatfollows Tryz.func30 (by kernel_rfl) c_skolemref06_New h
noncomputable abbrev G_aig_Edit : GFun := ⟨9, [(.tmp 2), (.tmp 3)], (.seq (.region [⟨0, ⟨(some 1), none, (.new .box), [(.tmp 0)]⟩, []⟩, ⟨0, ⟨(some 2), none, (.pure .id), [(.const .nilp)]⟩, []⟩, ⟨0, ⟨(some 3), none, (.pure .id), [(.const (.int .i64 0))]⟩, []⟩]) (.seq (.seq (.region [⟨0, ⟨(some 4), none, (.load (.load 2 true)), [(.tmp 1)]⟩, []⟩, ⟨0, ⟨(some 5), none, (.call F_aig_May), [(.tmp 4)]⟩, []⟩, ⟨0, ⟨(some 6), none, (.pure (.un .not)), [(.tmp 5)]⟩, []⟩]) (.cond (.tmp 6) (.seq (.region [⟨0, ⟨(some 2), none, (.pure .id), [(.const .nilp)]⟩, []⟩, ⟨0, ⟨(some 3), none, (.pure .id), [(.const (.int .i64 2))]⟩, []⟩]) .ret) .skip)) (.seq (.region [⟨0, ⟨(some 7), none, (.load (.load 2 true)), [(.tmp 1)]⟩, []⟩, ⟨0, ⟨(some 8), none, (.call F_aig_maker), [(.tmp 7)]⟩, []⟩, ⟨0, ⟨(some 2), none, (.pure .id), [(.tmp 8)]⟩, []⟩, ⟨0, ⟨(some 3), none, (.pure .id), [(.const (.int .i64 0))]⟩, []⟩]) .ret)))⟩
theorem c_aig_Edit : compF Tryz.prog Tryz.f31 = some G_aig_Edit := by kernel_rfl
theorem gc_aig_Edit {args : List DV} {σ : GS} {Post : DV → GS → Prop} (h : @exB Tryz.prog ⟨G_aig_Edit.body⟩ (genv0 args G_aig_Edit.ntmps) σ ⟨@gretB G_aig_Edit.results ⟨Post⟩⟩) : GCall Tryz.prog F_aig_Edit args σ Post := gcall_ofB seatfollows Tryz.func31 (by kernel_rfl) c_aig_Edit h
noncomputable abbrev G_skolemref06_Edit : GFun := ⟨26, [(.tmp 2), (.tmp 3)], (.seq (.region [⟨0, ⟨(some 1), none, (.new .box), [(.tmp 0)]⟩, []⟩, ⟨0, ⟨(some 2), none, (.pure .id), [(.const .nilp)]⟩, []⟩, ⟨0, ⟨(some 3), none, (.pure .id), [(.const (.int .i64 0))]⟩, []⟩]) (.seq (.seq (.region [⟨0, ⟨(some 5), none, (.load (.load 2 true)), [(.tmp 1)]⟩, []⟩, ⟨0, ⟨(some 6), none, (.call F_skolemref06_May), [(.tmp 5)]⟩, []⟩, ⟨0, ⟨(some 7), none, (.pure (.un .not)), [(.tmp 6)]⟩, []⟩]) (.cond (.tmp 7) (.seq (.region [⟨0, ⟨(some 2), none, (.pure .id), [(.const .nilp)]⟩, []⟩, ⟨0, ⟨(some 3), none, (.pure .id), [(.const (.int .i64 2))]⟩, []⟩]) .ret) .skip)) (.seq (.region [⟨0, ⟨(some 8), none, (.pure (.faddr 0)), [(.tmp 1)]⟩, []⟩, ⟨0, ⟨(some 9), none, (.load (.load 1 false)), [(.tmp 8)]⟩, []⟩, ⟨0, ⟨(some 10), none, (.pure (.build [.nils, .nils] [(0, 1)])), [(.tmp 9)]⟩, []⟩, ⟨0, ⟨(some 11), none, (.pure (.build [.nils, .nils, (.bool false)] [(0, 2)])), [(.tmp 10)]⟩, []⟩, ⟨0, ⟨(some 12), none, (.new .box), [(.tmp 11)]⟩, []⟩, ⟨0, ⟨(some 4), none, (.pure .id), [(.tmp 12)]⟩, []⟩]) (.seq (.region [⟨0, ⟨(some 13), none, (.pure .id), [(.tmp 4)]⟩, []⟩, ⟨1, ⟨(some 14), none, (.pure .id), [(.tmp 4)]⟩, []⟩, ⟨2, ⟨(some 15), none, (.pure .nilck), [(.tmp 14)]⟩, []⟩, ⟨3, ⟨(some 16), none, (.pure (.faddr 0)), [(.tmp 15)]⟩, []⟩, ⟨4, ⟨(some 17), none, (.pure (.faddr 1)), [(.tmp 16)]⟩, []⟩, ⟨5, ⟨(some 18), none, (.load (.load 1 false)), [(.tmp 17)]⟩, []⟩, ⟨6, ⟨(some 19), none, (.pure (.faddr 1)), [(.tmp 1)]⟩, []⟩, ⟨7, ⟨(some 20), none, (.load (.load 1 false)), [(.tmp 19)]⟩, []⟩, ⟨8, ⟨(some 21), none, (.imp (.append 2 16)), [(.tmp 18), (.tmp 20)]⟩, []⟩, ⟨9, ⟨(some 22), none, (.pure .nilck), [(.tmp 13)]⟩, []⟩, ⟨10, ⟨(some 23), none, (.pure (.faddr 0)), [(.tmp 22)]⟩, []⟩, ⟨11, ⟨(some 24), none, (.pure (.faddr 1)), [(.tmp 23)]⟩, []⟩, ⟨12, ⟨none, none, (.imp (.store 1)), [(.tmp 24), (.tmp 21)]⟩, []⟩]) (.seq (.region [⟨0, ⟨(some 25), none, (.pure .id), [(.tmp 4)]⟩, []⟩, ⟨0, ⟨(some 2), none, (.pure .id), [(.tmp 25)]⟩, []⟩, ⟨0, ⟨(some 3), none, (.pure .id), [(.const (.int .i64 0))]⟩, []⟩]) .ret)))))⟩
theorem c_skolemref06_Edit : compF Tryz.prog Tryz.f32 = some G_skolemref06_Edit := by kernel_rfl
theorem gc_skolemref06_Edit {args : List DV} {σ : GS} {Post : DV → GS → Prop} (h : @exB Tryz.prog ⟨G_skolemref06_Edit.body⟩ (genv0 args G_skolemref06_Edit.ntmps) σ ⟨@gretB G_skolemref06_Edit.results ⟨Post⟩⟩) : GCall Tryz.prog F_skolemref06_Edit args σ Post := gcall_ofB seatfollows Tryz.func32 (by kernel_rfl) c_skolemref06_Edit h
noncomputable abbrev G_aig_Maker_Graph : GFun := ⟨19, [(.cell 2 2 true)], (.seq (.region [⟨0, ⟨(some 2), none, (.new (.alloc [.nils, .nils])), []⟩, []⟩]) (.seq (.seq (.region [⟨0, ⟨(some 3), none, (.pure .id), [(.tmp 0)]⟩, []⟩, ⟨0, ⟨(some 4), none, (.call F_aig_Maker_none), [(.tmp 3)]⟩, []⟩]) (.cond (.tmp 4) (.seq (.region [⟨0, ⟨(some 5), none, (.pure (.build [.nils, .nils] [])), []⟩, []⟩, ⟨0, ⟨none, none, (.imp (.store 2)), [(.tmp 2), (.tmp 5)]⟩, []⟩]) .ret) .skip)) (.seq (.region [⟨0, ⟨(some 6), none, (.pure .id), [(.tmp 0)]⟩, []⟩, ⟨1, ⟨(some 7), none, (.pure .nilck), [(.tmp 6)]⟩, []⟩, ⟨2, ⟨(some 8), none, (.pure (.faddr 1)), [(.tmp 7)]⟩, []⟩, ⟨3, ⟨(some 9), none, (.pure (.faddr 0)), [(.tmp 8)]⟩, []⟩, ⟨4, ⟨(some 10), none, (.load (.load 1 false)), [(.tmp 9)]⟩, []⟩, ⟨6, ⟨(some 12), none, (.pure .id), [(.tmp 0)]⟩, []⟩, ⟨7, ⟨(some 13), none, (.pure .nilck), [(.tmp 12)]⟩, []⟩, ⟨8, ⟨(some 14), none, (.pure (.faddr 1)), [(.tmp 13)]⟩, []⟩, ⟨9, ⟨(some 15), none, (.pure (.faddr 1)), [(.tmp 14)]⟩, []⟩, ⟨10, ⟨(some 16), none, (.load (.load 1 false)), [(.tmp 15)]⟩, []⟩, ⟨5, ⟨(some 11), none, (.call F_slices_Clone_int_int), [(.tmp 10)]⟩, [⟨(some 16), none, (.load (.load 1 false)), [(.tmp 15)]⟩]⟩, ⟨11, ⟨(some 17), none, (.call F_slices_Clone__2_int__2_int), [(.tmp 16)]⟩, []⟩, ⟨12, ⟨(some 18), none, (.pure (.build [.nils, .nils] [(0, 1), (1, 1)])), [(.tmp 11), (.tmp 17)]⟩, []⟩, ⟨13, ⟨none, none, (.imp (.store 2)), [(.tmp 2), (.tmp 18)]⟩, []⟩]) .ret)))⟩
theorem c_aig_Maker_Graph : compF Tryz.prog Tryz.f34 = some G_aig_Maker_Graph := by kernel_rfl
theorem gc_aig_Maker_Graph {args : List DV} {σ : GS} {Post : DV → GS → Prop} (h : @exB Tryz.prog ⟨G_aig_Maker_Graph.body⟩ (genv0 args G_aig_Maker_Graph.ntmps) σ ⟨@gretB G_aig_Maker_Graph.results ⟨Post⟩⟩) : GCall Tryz.prog F_aig_Maker_Graph args σ Post := gcall_ofB seatfollows Tryz.func34 (by kernel_rfl) c_aig_Maker_Graph h
noncomputable abbrev G_aig_Maker_And : GFun := ⟨16, [(.tmp 6), (.tmp 7)], (.seq (.region [⟨0, ⟨(some 3), none, (.new .box), [(.tmp 0)]⟩, []⟩, ⟨0, ⟨(some 4), none, (.new .box), [(.tmp 1)]⟩, []⟩, ⟨0, ⟨(some 5), none, (.new .box), [(.tmp 2)]⟩, []⟩, ⟨0, ⟨(some 6), none, (.pure .id), [(.const (.int .i64 0))]⟩, []⟩, ⟨0, ⟨(some 7), none, (.pure .id), [(.const (.int .i64 0))]⟩, []⟩]) (.seq (.region [⟨0, ⟨(some 8), none, (.load (.load 1 false)), [(.tmp 3)]⟩, []⟩, ⟨0, ⟨(some 9), none, (.pure (.mkfunc F_aig_Maker_And_1 0)), [(.tmp 3), (.tmp 4), (.tmp 5)]⟩, []⟩, ⟨0, ⟨(some 10), none, (.load (.load 1 false)), [(.tmp 4)]⟩, []⟩, ⟨0, ⟨(some 11), none, (.load (.load 1 false)), [(.tmp 5)]⟩, []⟩, ⟨0, ⟨(some 12), none, (.new (.bslice 1 [(.int .i64 0)] 2 [(0, 1), (1, 1)])), [(.tmp 10), (.tmp 11)]⟩, []⟩, ⟨0, ⟨(some 13), none, (.call F_aig_Maker_make), [(.tmp 8), (.tmp 9), (.tmp 12)]⟩, []⟩, ⟨0, ⟨(some 14), none, (.pure (.extract 0)), [(.tmp 13)]⟩, []⟩, ⟨0, ⟨(some 15), none, (.pure (.extract 1)), [(.tmp 13)]⟩, []⟩, ⟨0, ⟨(some 6), none, (.pure .id), [(.tmp 14)]⟩, []⟩, ⟨0, ⟨(some 7), none, (.pure .id), [(.tmp 15)]⟩, []⟩]) .ret))⟩
theorem c_aig_Maker_And : compF Tryz.prog Tryz.f55 = some G_aig_Maker_And := by kernel_rfl
theorem gc_aig_Maker_And {args : List DV} {σ : GS} {Post : DV → GS → Prop} (h : @exB Tryz.prog ⟨G_aig_Maker_And.body⟩ (genv0 args G_aig_Maker_And.ntmps) σ ⟨@gretB G_aig_Maker_And.results ⟨Post⟩⟩) : GCall Tryz.prog F_aig_Maker_And args σ Post := gcall_ofB seatfollows Tryz.func55 (by kernel_rfl) c_aig_Maker_And h
noncomputable abbrev G_aig_Maker_Or : GFun := ⟨16, [(.tmp 6), (.tmp 7)], (.seq (.region [⟨0, ⟨(some 3), none, (.new .box), [(.tmp 0)]⟩, []⟩, ⟨0, ⟨(some 4), none, (.new .box), [(.tmp 1)]⟩, []⟩, ⟨0, ⟨(some 5), none, (.new .box), [(.tmp 2)]⟩, []⟩, ⟨0, ⟨(some 6), none, (.pure .id), [(.const (.int .i64 0))]⟩, []⟩, ⟨0, ⟨(some 7), none, (.pure .id), [(.const (.int .i64 0))]⟩, []⟩]) (.seq (.region [⟨0, ⟨(some 8), none, (.load (.load 1 false)), [(.tmp 3)]⟩, []⟩, ⟨0, ⟨(some 9), none, (.pure (.mkfunc F_aig_Maker_Or_1 0)), [(.tmp 3), (.tmp 4), (.tmp 5)]⟩, []⟩, ⟨0, ⟨(some 10), none, (.load (.load 1 false)), [(.tmp 4)]⟩, []⟩, ⟨0, ⟨(some 11), none, (.load (.load 1 false)), [(.tmp 5)]⟩, []⟩, ⟨0, ⟨(some 12), none, (.new (.bslice 1 [(.int .i64 0)] 2 [(0, 1), (1, 1)])), [(.tmp 10), (.tmp 11)]⟩, []⟩, ⟨0, ⟨(some 13), none, (.call F_aig_Maker_make), [(.tmp 8), (.tmp 9), (.tmp 12)]⟩, []⟩, ⟨0, ⟨(some 14), none, (.pure (.extract 0)), [(.tmp 13)]⟩, []⟩, ⟨0, ⟨(some 15), none, (.pure (.extract 1)), [(.tmp 13)]⟩, []⟩, ⟨0, ⟨(some 6), none, (.pure .id), [(.tmp 14)]⟩, []⟩, ⟨0, ⟨(some 7), none, (.pure .id), [(.tmp 15)]⟩, []⟩]) .ret))⟩
theorem c_aig_Maker_Or : compF Tryz.prog Tryz.f56 = some G_aig_Maker_Or := by kernel_rfl
theorem gc_aig_Maker_Or {args : List DV} {σ : GS} {Post : DV → GS → Prop} (h : @exB Tryz.prog ⟨G_aig_Maker_Or.body⟩ (genv0 args G_aig_Maker_Or.ntmps) σ ⟨@gretB G_aig_Maker_Or.results ⟨Post⟩⟩) : GCall Tryz.prog F_aig_Maker_Or args σ Post := gcall_ofB seatfollows Tryz.func56 (by kernel_rfl) c_aig_Maker_Or h
noncomputable abbrev G_aig_Maker_Xor : GFun := ⟨16, [(.tmp 6), (.tmp 7)], (.seq (.region [⟨0, ⟨(some 3), none, (.new .box), [(.tmp 0)]⟩, []⟩, ⟨0, ⟨(some 4), none, (.new .box), [(.tmp 1)]⟩, []⟩, ⟨0, ⟨(some 5), none, (.new .box), [(.tmp 2)]⟩, []⟩, ⟨0, ⟨(some 6), none, (.pure .id), [(.const (.int .i64 0))]⟩, []⟩, ⟨0, ⟨(some 7), none, (.pure .id), [(.const (.int .i64 0))]⟩, []⟩]) (.seq (.region [⟨0, ⟨(some 8), none, (.load (.load 1 false)), [(.tmp 3)]⟩, []⟩, ⟨0, ⟨(some 9), none, (.pure (.mkfunc F_aig_Maker_Xor_1 0)), [(.tmp 3), (.tmp 4), (.tmp 5)]⟩, []⟩, ⟨0, ⟨(some 10), none, (.load (.load 1 false)), [(.tmp 4)]⟩, []⟩, ⟨0, ⟨(some 11), none, (.load (.load 1 false)), [(.tmp 5)]⟩, []⟩, ⟨0, ⟨(some 12), none, (.new (.bslice 1 [(.int .i64 0)] 2 [(0, 1), (1, 1)])), [(.tmp 10), (.tmp 11)]⟩, []⟩, ⟨0, ⟨(some 13), none, (.call F_aig_Maker_make), [(.tmp 8), (.tmp 9), (.tmp 12)]⟩, []⟩, ⟨0, ⟨(some 14), none, (.pure (.extract 0)), [(.tmp 13)]⟩, []⟩, ⟨0, ⟨(some 15), none, (.pure (.extract 1)), [(.tmp 13)]⟩, []⟩, ⟨0, ⟨(some 6), none, (.pure .id), [(.tmp 14)]⟩, []⟩, ⟨0, ⟨(some 7), none, (.pure .id), [(.tmp 15)]⟩, []⟩]) .ret))⟩
theorem c_aig_Maker_Xor : compF Tryz.prog Tryz.f57 = some G_aig_Maker_Xor := by kernel_rfl
theorem gc_aig_Maker_Xor {args : List DV} {σ : GS} {Post : DV → GS → Prop} (h : @exB Tryz.prog ⟨G_aig_Maker_Xor.body⟩ (genv0 args G_aig_Maker_Xor.ntmps) σ ⟨@gretB G_aig_Maker_Xor.results ⟨Post⟩⟩) : GCall Tryz.prog F_aig_Maker_Xor args σ Post := gcall_ofB seatfollows Tryz.func57 (by kernel_rfl) c_aig_Maker_Xor h
noncomputable abbrev G_aig_Maker_In : GFun := ⟨22, [(.tmp 4), (.tmp 5)], (.seq (.region [⟨0, ⟨(some 4), none, (.pure .id), [(.const (.int .i64 0))]⟩, []⟩, ⟨0, ⟨(some 5), none, (.pure .id), [(.const (.int .i64 0))]⟩, []⟩]) (.seq (.seq (.region [⟨0, ⟨(some 8), none, (.pure .id), [(.tmp 0)]⟩, []⟩, ⟨0, ⟨(some 9), none, (.call F_aig_Maker_none), [(.tmp 8)]⟩, []⟩]) (.cond (.tmp 9) (.seq (.region [⟨0, ⟨(some 4), none, (.pure .id), [(.const (.int .i64 0))]⟩, []⟩, ⟨0, ⟨(some 5), none, (.pure .id), [(.const (.int .i64 1))]⟩, []⟩]) .ret) .skip)) (.seq (.region [⟨0, ⟨(some 11), none, (.pure .id), [(.tmp 0)]⟩, []⟩, ⟨0, ⟨(some 12), none, (.pure .nilck), [(.tmp 11)]⟩, []⟩, ⟨0, ⟨(some 13), none, (.pure (.faddr 4)), [(.tmp 12)]⟩, []⟩, ⟨0, ⟨(some 14), none, (.load (.load 1 false)), [(.tmp 13)]⟩, []⟩, ⟨0, ⟨(some 15), none, (.pure .id), [(.tmp 1)]⟩, []⟩, ⟨0, ⟨(some 16), none, (.load (.lookup (.int .i64) (.int .i64 0) true)), [(.tmp 14), (.tmp 15)]⟩, []⟩, ⟨0, ⟨(some 10), none, (.pure .id), [(.tmp 16)]⟩, []⟩, ⟨0, ⟨(some 17), none, (.pure (.extract 0)), [(.tmp 10)]⟩, []⟩, ⟨0, ⟨(some 18), none, (.pure (.extract 1)), [(.tmp 10)]⟩, []⟩, ⟨0, ⟨(some 6), none, (.pure .id), [(.tmp 17)]⟩, []⟩, ⟨0, ⟨(some 7), none, (.pure .id), [(.tmp 18)]⟩, []⟩]) (.seq (.seq (.region [⟨0, ⟨(some 19), none, (.pure .id), [(.tmp 7)]⟩, []⟩, ⟨0, ⟨(some 20), none, (.pure (.un .not)), [(.tmp 19)]⟩, []⟩]) (.cond (.tmp 20) (.seq (.region [⟨0, ⟨(some 4), none, (.pure .id), [(.const (.int .i64 0))]⟩, []⟩, ⟨0, ⟨(some 5), none, (.pure .id), [(.const (.int .i64 6))]⟩, []⟩]) .ret) .skip)) (.seq (.region [⟨0, ⟨(some 21), none, (.pure .id), [(.tmp 6)]⟩, []⟩, ⟨0, ⟨(some 4), none, (.pure .id), [(.tmp 21)]⟩, []⟩, ⟨0, ⟨(some 5), none, (.pure .id), [(.const (.int .i64 0))]⟩, []⟩]) .ret)))))⟩
theorem c_aig_Maker_In : compF Tryz.prog Tryz.f83 = some G_aig_Maker_In := by kernel_rfl
theorem gc_aig_Maker_In {args : List DV} {σ : GS} {Post : DV → GS → Prop} (h : @exB Tryz.prog ⟨G_aig_Maker_In.body⟩ (genv0 args G_aig_Maker_In.ntmps) σ ⟨@gretB G_aig_Maker_In.results ⟨Post⟩⟩) : GCall Tryz.prog F_aig_Maker_In args σ Post := gcall_ofB seatfollows Tryz.func83 (by kernel_rfl) c_aig_Maker_In h
noncomputable abbrev G_skolemref06_Maker_In : GFun := ⟨16, [(.tmp 4), (.tmp 5)], (.seq (.region [⟨0, ⟨(some 4), none, (.pure .id), [(.const (.int .i64 0))]⟩, []⟩, ⟨0, ⟨(some 5), none, (.pure .id), [(.const (.int .i64 0))]⟩, []⟩]) (.seq (.region [⟨0, ⟨(some 7), none, (.pure .id), [(.tmp 0)]⟩, []⟩, ⟨0, ⟨(some 8), none, (.pure .nilck), [(.tmp 7)]⟩, []⟩, ⟨0, ⟨(some 9), none, (.pure (.faddr 0)), [(.tmp 8)]⟩, []⟩, ⟨0, ⟨(some 10), none, (.load (.load 2 true)), [(.tmp 9)]⟩, []⟩, ⟨0, ⟨(some 11), none, (.pure .id), [(.tmp 1)]⟩, []⟩, ⟨0, ⟨(some 12), none, (.call F_skolemref06_Edge), [(.tmp 10), (.tmp 11)]⟩, []⟩, ⟨0, ⟨(some 6), none, (.pure .id), [(.tmp 12)]⟩, []⟩]) (.seq (.seq (.region [⟨0, ⟨(some 13), none, (.pure .id), [(.tmp 6)]⟩, []⟩, ⟨0, ⟨(some 14), none, (.pure (.bin .lss .none)), [(.tmp 13), (.const (.int .i64 0))]⟩, []⟩]) (.cond (.tmp 14) (.seq (.region [⟨0, ⟨(some 4), none, (.pure .id), [(.const (.int .i64 0))]⟩, []⟩, ⟨0, ⟨(some 5), none, (.pure .id), [(.const (.int .i64 6))]⟩, []⟩]) .ret) .skip)) (.seq (.region [⟨0, ⟨(some 15), none, (.pure .id), [(.tmp 6)]⟩, []⟩, ⟨0, ⟨(some 4), none, (.pure .id), [(.tmp 15)]⟩, []⟩, ⟨0, ⟨(some 5), none, (.pure .id), [(.const (.int .i64 0))]⟩, []⟩]) .ret))))⟩
theorem c_skolemref06_Maker_In : compF Tryz.prog Tryz.f84 = some G_skolemref06_Maker_In := by kernel_rfl
theorem gc_skolemref06_Maker_In {args : List DV} {σ : GS} {Post : DV → GS → Prop} (h : @exB Tryz.prog ⟨G_skolemref06_Maker_In.body⟩ (genv0 args G_skolemref06_Maker_In.ntmps) σ ⟨@gretB G_skolemref06_Maker_In.results ⟨Post⟩⟩) : GCall Tryz.prog F_skolemref06_Maker_In args σ Post := gcall_ofB seatfollows Tryz.func84 (by kernel_rfl) c_skolemref06_Maker_In h
noncomputable abbrev G_skolemref06_Maker_And : GFun := ⟨30, [(.tmp 6), (.tmp 7)], (.seq (.region [⟨0, ⟨(some 6), none, (.pure .id), [(.const (.int .i64 0))]⟩, []⟩, ⟨0, ⟨(some 7), none, (.pure .id), [(.const (.int .i64 0))]⟩, []⟩]) (.seq (.seq (.region [⟨0, ⟨(some 9), none, (.pure .id), [(.tmp 0)]⟩, []⟩, ⟨0, ⟨(some 10), none, (.pure .id), [(.tmp 1)]⟩, []⟩, ⟨0, ⟨(some 11), none, (.pure .id), [(.tmp 2)]⟩, []⟩, ⟨0, ⟨(some 12), none, (.new (.bslice 1 [(.int .i64 0)] 2 [(0, 1), (1, 1)])), [(.tmp 10), (.tmp 11)]⟩, []⟩, ⟨0, ⟨(some 13), none, (.call F_skolemref06_Maker_all), [(.tmp 9), (.tmp 12)]⟩, []⟩, ⟨0, ⟨(some 14), none, (.pure (.un .not)), [(.tmp 13)]⟩, []⟩]) (.cond (.tmp 14) (.seq (.region [⟨0, ⟨(some 6), none, (.pure .id), [(.const (.int .i64 0))]⟩, []⟩, ⟨0, ⟨(some 7), none, (.pure .id), [(.const (.int .i64 2))]⟩, []⟩]) .ret) .skip)) (.seq (.region [⟨0, ⟨(some 15), none, (.pure .id), [(.tmp 0)]⟩, []⟩, ⟨0, ⟨(some 16), none, (.pure .nilck), [(.tmp 15)]⟩, []⟩, ⟨0, ⟨(some 17), none, (.pure (.faddr 0)), [(.tmp 16)]⟩, []⟩, ⟨0, ⟨(some 18), none, (.pure (.faddr 1)), [(.tmp 17)]⟩, []⟩, ⟨0, ⟨(some 19), none, (.load (.load 1 false)), [(.tmp 18)]⟩, []⟩, ⟨0, ⟨(some 20), none, (.pure .len), [(.tmp 19)]⟩, []⟩, ⟨0, ⟨(some 8), none, (.pure .id), [(.tmp 20)]⟩, []⟩]) (.seq (.region [⟨0, ⟨(some 21), none, (.pure .id), [(.tmp 0)]⟩, []⟩, ⟨0, ⟨(some 22), none, (.pure .id), [(.tmp 8)]⟩, []⟩, ⟨0, ⟨(some 23), none, (.pure .id), [(.tmp 0)]⟩, []⟩, ⟨0, ⟨(some 24), none, (.pure .id), [(.tmp 1)]⟩, []⟩, ⟨0, ⟨(some 25), none, (.pure .id), [(.tmp 2)]⟩, []⟩, ⟨0, ⟨(some 26), none, (.call F_skolemref06_Maker_Conj), [(.tmp 23), (.tmp 24), (.tmp 25)]⟩, []⟩, ⟨0, ⟨(some 27), none, (.call F_skolemref06_Maker_done), [(.tmp 21), (.tmp 22), (.tmp 26)]⟩, []⟩, ⟨0, ⟨(some 28), none, (.pure (.extract 0)), [(.tmp 27)]⟩, []⟩, ⟨0, ⟨(some 29), none, (.pure (.extract 1)), [(.tmp 27)]⟩, []⟩, ⟨0, ⟨(some 6), none, (.pure .id), [(.tmp 28)]⟩, []⟩, ⟨0, ⟨(some 7), none, (.pure .id), [(.tmp 29)]⟩, []⟩]) .ret))))⟩
theorem c_skolemref06_Maker_And : compF Tryz.prog Tryz.f85 = some G_skolemref06_Maker_And := by kernel_rfl
theorem gc_skolemref06_Maker_And {args : List DV} {σ : GS} {Post : DV → GS → Prop} (h : @exB Tryz.prog ⟨G_skolemref06_Maker_And.body⟩ (genv0 args G_skolemref06_Maker_And.ntmps) σ ⟨@gretB G_skolemref06_Maker_And.results ⟨Post⟩⟩) : GCall Tryz.prog F_skolemref06_Maker_And args σ Post := gcall_ofB seatfollows Tryz.func85 (by kernel_rfl) c_skolemref06_Maker_And h
noncomputable abbrev G_skolemref06_Maker_Or : GFun := ⟨30, [(.tmp 6), (.tmp 7)], (.seq (.region [⟨0, ⟨(some 6), none, (.pure .id), [(.const (.int .i64 0))]⟩, []⟩, ⟨0, ⟨(some 7), none, (.pure .id), [(.const (.int .i64 0))]⟩, []⟩]) (.seq (.seq (.region [⟨0, ⟨(some 9), none, (.pure .id), [(.tmp 0)]⟩, []⟩, ⟨0, ⟨(some 10), none, (.pure .id), [(.tmp 1)]⟩, []⟩, ⟨0, ⟨(some 11), none, (.pure .id), [(.tmp 2)]⟩, []⟩, ⟨0, ⟨(some 12), none, (.new (.bslice 1 [(.int .i64 0)] 2 [(0, 1), (1, 1)])), [(.tmp 10), (.tmp 11)]⟩, []⟩, ⟨0, ⟨(some 13), none, (.call F_skolemref06_Maker_all), [(.tmp 9), (.tmp 12)]⟩, []⟩, ⟨0, ⟨(some 14), none, (.pure (.un .not)), [(.tmp 13)]⟩, []⟩]) (.cond (.tmp 14) (.seq (.region [⟨0, ⟨(some 6), none, (.pure .id), [(.const (.int .i64 0))]⟩, []⟩, ⟨0, ⟨(some 7), none, (.pure .id), [(.const (.int .i64 2))]⟩, []⟩]) .ret) .skip)) (.seq (.region [⟨0, ⟨(some 15), none, (.pure .id), [(.tmp 0)]⟩, []⟩, ⟨0, ⟨(some 16), none, (.pure .nilck), [(.tmp 15)]⟩, []⟩, ⟨0, ⟨(some 17), none, (.pure (.faddr 0)), [(.tmp 16)]⟩, []⟩, ⟨0, ⟨(some 18), none, (.pure (.faddr 1)), [(.tmp 17)]⟩, []⟩, ⟨0, ⟨(some 19), none, (.load (.load 1 false)), [(.tmp 18)]⟩, []⟩, ⟨0, ⟨(some 20), none, (.pure .len), [(.tmp 19)]⟩, []⟩, ⟨0, ⟨(some 8), none, (.pure .id), [(.tmp 20)]⟩, []⟩]) (.seq (.region [⟨0, ⟨(some 21), none, (.pure .id), [(.tmp 0)]⟩, []⟩, ⟨0, ⟨(some 22), none, (.pure .id), [(.tmp 8)]⟩, []⟩, ⟨0, ⟨(some 23), none, (.pure .id), [(.tmp 0)]⟩, []⟩, ⟨0, ⟨(some 24), none, (.pure .id), [(.tmp 1)]⟩, []⟩, ⟨0, ⟨(some 25), none, (.pure .id), [(.tmp 2)]⟩, []⟩, ⟨0, ⟨(some 26), none, (.call F_skolemref06_Maker_Disj), [(.tmp 23), (.tmp 24), (.tmp 25)]⟩, []⟩, ⟨0, ⟨(some 27), none, (.call F_skolemref06_Maker_done), [(.tmp 21), (.tmp 22), (.tmp 26)]⟩, []⟩, ⟨0, ⟨(some 28), none, (.pure (.extract 0)), [(.tmp 27)]⟩, []⟩, ⟨0, ⟨(some 29), none, (.pure (.extract 1)), [(.tmp 27)]⟩, []⟩, ⟨0, ⟨(some 6), none, (.pure .id), [(.tmp 28)]⟩, []⟩, ⟨0, ⟨(some 7), none, (.pure .id), [(.tmp 29)]⟩, []⟩]) .ret))))⟩
theorem c_skolemref06_Maker_Or : compF Tryz.prog Tryz.f86 = some G_skolemref06_Maker_Or := by kernel_rfl
theorem gc_skolemref06_Maker_Or {args : List DV} {σ : GS} {Post : DV → GS → Prop} (h : @exB Tryz.prog ⟨G_skolemref06_Maker_Or.body⟩ (genv0 args G_skolemref06_Maker_Or.ntmps) σ ⟨@gretB G_skolemref06_Maker_Or.results ⟨Post⟩⟩) : GCall Tryz.prog F_skolemref06_Maker_Or args σ Post := gcall_ofB seatfollows Tryz.func86 (by kernel_rfl) c_skolemref06_Maker_Or h
noncomputable abbrev G_skolemref06_Maker_Xor : GFun := ⟨30, [(.tmp 6), (.tmp 7)], (.seq (.region [⟨0, ⟨(some 6), none, (.pure .id), [(.const (.int .i64 0))]⟩, []⟩, ⟨0, ⟨(some 7), none, (.pure .id), [(.const (.int .i64 0))]⟩, []⟩]) (.seq (.seq (.region [⟨0, ⟨(some 9), none, (.pure .id), [(.tmp 0)]⟩, []⟩, ⟨0, ⟨(some 10), none, (.pure .id), [(.tmp 1)]⟩, []⟩, ⟨0, ⟨(some 11), none, (.pure .id), [(.tmp 2)]⟩, []⟩, ⟨0, ⟨(some 12), none, (.new (.bslice 1 [(.int .i64 0)] 2 [(0, 1), (1, 1)])), [(.tmp 10), (.tmp 11)]⟩, []⟩, ⟨0, ⟨(some 13), none, (.call F_skolemref06_Maker_all), [(.tmp 9), (.tmp 12)]⟩, []⟩, ⟨0, ⟨(some 14), none, (.pure (.un .not)), [(.tmp 13)]⟩, []⟩]) (.cond (.tmp 14) (.seq (.region [⟨0, ⟨(some 6), none, (.pure .id), [(.const (.int .i64 0))]⟩, []⟩, ⟨0, ⟨(some 7), none, (.pure .id), [(.const (.int .i64 2))]⟩, []⟩]) .ret) .skip)) (.seq (.region [⟨0, ⟨(some 15), none, (.pure .id), [(.tmp 0)]⟩, []⟩, ⟨0, ⟨(some 16), none, (.pure .nilck), [(.tmp 15)]⟩, []⟩, ⟨0, ⟨(some 17), none, (.pure (.faddr 0)), [(.tmp 16)]⟩, []⟩, ⟨0, ⟨(some 18), none, (.pure (.faddr 1)), [(.tmp 17)]⟩, []⟩, ⟨0, ⟨(some 19), none, (.load (.load 1 false)), [(.tmp 18)]⟩, []⟩, ⟨0, ⟨(some 20), none, (.pure .len), [(.tmp 19)]⟩, []⟩, ⟨0, ⟨(some 8), none, (.pure .id), [(.tmp 20)]⟩, []⟩]) (.seq (.region [⟨0, ⟨(some 21), none, (.pure .id), [(.tmp 0)]⟩, []⟩, ⟨0, ⟨(some 22), none, (.pure .id), [(.tmp 8)]⟩, []⟩, ⟨0, ⟨(some 23), none, (.pure .id), [(.tmp 0)]⟩, []⟩, ⟨0, ⟨(some 24), none, (.pure .id), [(.tmp 1)]⟩, []⟩, ⟨0, ⟨(some 25), none, (.pure .id), [(.tmp 2)]⟩, []⟩, ⟨0, ⟨(some 26), none, (.call F_skolemref06_Maker_Excl), [(.tmp 23), (.tmp 24), (.tmp 25)]⟩, []⟩, ⟨0, ⟨(some 27), none, (.call F_skolemref06_Maker_done), [(.tmp 21), (.tmp 22), (.tmp 26)]⟩, []⟩, ⟨0, ⟨(some 28), none, (.pure (.extract 0)), [(.tmp 27)]⟩, []⟩, ⟨0, ⟨(some 29), none, (.pure (.extract 1)), [(.tmp 27)]⟩, []⟩, ⟨0, ⟨(some 6), none, (.pure .id), [(.tmp 28)]⟩, []⟩, ⟨0, ⟨(some 7), none, (.pure .id), [(.tmp 29)]⟩, []⟩]) .ret))))⟩
theorem c_skolemref06_Maker_Xor : compF Tryz.prog Tryz.f87 = some G_skolemref06_Maker_Xor := by kernel_rfl
theorem gc_skolemref06_Maker_Xor {args : List DV} {σ : GS} {Post : DV → GS → Prop} (h : @exB Tryz.prog ⟨G_skolemref06_Maker_Xor.body⟩ (genv0 args G_skolemref06_Maker_Xor.ntmps) σ ⟨@gretB G_skolemref06_Maker_Xor.results ⟨Post⟩⟩) : GCall Tryz.prog F_skolemref06_Maker_Xor args σ Post := gcall_ofB seatfollows Tryz.func87 (by kernel_rfl) c_skolemref06_Maker_Xor h
noncomputable abbrev G_aig_Maker_Ite : GFun := ⟨19, [(.tmp 8), (.tmp 9)], (.seq (.region [⟨0, ⟨(some 4), none, (.new .box), [(.tmp 0)]⟩, []⟩, ⟨0, ⟨(some 5), none, (.new .box), [(.tmp 1)]⟩, []⟩, ⟨0, ⟨(some 6), none, (.new .box), [(.tmp 2)]⟩, []⟩, ⟨0, ⟨(some 7), none, (.new .box), [(.tmp 3)]⟩, []⟩, ⟨0, ⟨(some 8), none, (.pure .id), [(.const (.int .i64 0))]⟩, []⟩, ⟨0, ⟨(some 9), none, (.pure .id), [(.const (.int .i64 0))]⟩, []⟩]) (.seq (.region [⟨0, ⟨(some 10), none, (.load (.load 1 false)), [(.tmp 4)]⟩, []⟩, ⟨0, ⟨(some 11), none, (.pure (.mkfunc F_aig_Maker_Ite_1 0)), [(.tmp 4), (.tmp 5), (.tmp 6), (.tmp 7)]⟩, []⟩, ⟨0, ⟨(some 12), none, (.load (.load 1 false)), [(.tmp 5)]⟩, []⟩, ⟨0, ⟨(some 13), none, (.load (.load 1 false)), [(.tmp 6)]⟩, []⟩, ⟨0, ⟨(some 14), none, (.load (.load 1 false)), [(.tmp 7)]⟩, []⟩, ⟨0, ⟨(some 15), none, (.new (.bslice 1 [(.int .i64 0)] 3 [(0, 1), (1, 1), (2, 1)])), [(.tmp 12), (.tmp 13), (.tmp 14)]⟩, []⟩, ⟨0, ⟨(some 16), none, (.call F_aig_Maker_make), [(.tmp 10), (.tmp 11), (.tmp 15)]⟩, []⟩, ⟨0, ⟨(some 17), none, (.pure (.extract 0)), [(.tmp 16)]⟩, []⟩, ⟨0, ⟨(some 18), none, (.pure (.extract 1)), [(.tmp 16)]⟩, []⟩, ⟨0, ⟨(some 8), none, (.pure .id), [(.tmp 17)]⟩, []⟩, ⟨0, ⟨(some 9), none, (.pure .id), [(.tmp 18)]⟩, []⟩]) .ret))⟩
theorem c_aig_Maker_Ite : compF Tryz.prog Tryz.f88 = some G_aig_Maker_Ite := by kernel_rfl
theorem gc_aig_Maker_Ite {args : List DV} {σ : GS} {Post : DV → GS → Prop} (h : @exB Tryz.prog ⟨G_aig_Maker_Ite.body⟩ (genv0 args G_aig_Maker_Ite.ntmps) σ ⟨@gretB G_aig_Maker_Ite.results ⟨Post⟩⟩) : GCall Tryz.prog F_aig_Maker_Ite args σ Post := gcall_ofB seatfollows Tryz.func88 (by kernel_rfl) c_aig_Maker_Ite h
noncomputable abbrev G_skolemref06_Maker_Ite : GFun := ⟨34, [(.tmp 8), (.tmp 9)], (.seq (.region [⟨0, ⟨(some 8), none, (.pure .id), [(.const (.int .i64 0))]⟩, []⟩, ⟨0, ⟨(some 9), none, (.pure .id), [(.const (.int .i64 0))]⟩, []⟩]) (.seq (.seq (.region [⟨0, ⟨(some 11), none, (.pure .id), [(.tmp 0)]⟩, []⟩, ⟨0, ⟨(some 12), none, (.pure .id), [(.tmp 1)]⟩, []⟩, ⟨0, ⟨(some 13), none, (.pure .id), [(.tmp 2)]⟩, []⟩, ⟨0, ⟨(some 14), none, (.pure .id), [(.tmp 3)]⟩, []⟩, ⟨0, ⟨(some 15), none, (.new (.bslice 1 [(.int .i64 0)] 3 [(0, 1), (1, 1), (2, 1)])), [(.tmp 12), (.tmp 13), (.tmp 14)]⟩, []⟩, ⟨0, ⟨(some 16), none, (.call F_skolemref06_Maker_all), [(.tmp 11), (.tmp 15)]⟩, []⟩, ⟨0, ⟨(some 17), none, (.pure (.un .not)), [(.tmp 16)]⟩, []⟩]) (.cond (.tmp 17) (.seq (.region [⟨0, ⟨(some 8), none, (.pure .id), [(.const (.int .i64 0))]⟩, []⟩, ⟨0, ⟨(some 9), none, (.pure .id), [(.const (.int .i64 2))]⟩, []⟩]) .ret) .skip)) (.seq (.region [⟨0, ⟨(some 18), none, (.pure .id), [(.tmp 0)]⟩, []⟩, ⟨0, ⟨(some 19), none, (.pure .nilck), [(.tmp 18)]⟩, []⟩, ⟨0, ⟨(some 20), none, (.pure (.faddr 0)), [(.tmp 19)]⟩, []⟩, ⟨0, ⟨(some 21), none, (.pure (.faddr 1)), [(.tmp 20)]⟩, []⟩, ⟨0, ⟨(some 22), none, (.load (.load 1 false)), [(.tmp 21)]⟩, []⟩, ⟨0, ⟨(some 23), none, (.pure .len), [(.tmp 22)]⟩, []⟩, ⟨0, ⟨(some 10), none, (.pure .id), [(.tmp 23)]⟩, []⟩]) (.seq (.region [⟨0, ⟨(some 24), none, (.pure .id), [(.tmp 0)]⟩, []⟩, ⟨0, ⟨(some 25), none, (.pure .id), [(.tmp 10)]⟩, []⟩, ⟨0, ⟨(some 26), none, (.pure .id), [(.tmp 0)]⟩, []⟩, ⟨0, ⟨(some 27), none, (.pure .id), [(.tmp 1)]⟩, []⟩, ⟨0, ⟨(some 28), none, (.pure .id), [(.tmp 2)]⟩, []⟩, ⟨0, ⟨(some 29), none, (.pure .id), [(.tmp 3)]⟩, []⟩, ⟨0, ⟨(some 30), none, (.call F_skolemref06_Maker_Choice), [(.tmp 26), (.tmp 27), (.tmp 28), (.tmp 29)]⟩, []⟩, ⟨0, ⟨(some 31), none, (.call F_skolemref06_Maker_done), [(.tmp 24), (.tmp 25), (.tmp 30)]⟩, []⟩, ⟨0, ⟨(some 32), none, (.pure (.extract 0)), [(.tmp 31)]⟩, []⟩, ⟨0, ⟨(some 33), none, (.pure (.extract 1)), [(.tmp 31)]⟩, []⟩, ⟨0, ⟨(some 8), none, (.pure .id), [(.tmp 32)]⟩, []⟩, ⟨0, ⟨(some 9), none, (.pure .id), [(.tmp 33)]⟩, []⟩]) .ret))))⟩
theorem c_skolemref06_Maker_Ite : compF Tryz.prog Tryz.f89 = some G_skolemref06_Maker_Ite := by kernel_rfl
theorem gc_skolemref06_Maker_Ite {args : List DV} {σ : GS} {Post : DV → GS → Prop} (h : @exB Tryz.prog ⟨G_skolemref06_Maker_Ite.body⟩ (genv0 args G_skolemref06_Maker_Ite.ntmps) σ ⟨@gretB G_skolemref06_Maker_Ite.results ⟨Post⟩⟩) : GCall Tryz.prog F_skolemref06_Maker_Ite args σ Post := gcall_ofB seatfollows Tryz.func89 (by kernel_rfl) c_skolemref06_Maker_Ite h
noncomputable abbrev G_aig_Maker_All : GFun := ⟨12, [(.tmp 4), (.tmp 5)], (.seq (.region [⟨0, ⟨(some 2), none, (.new .box), [(.tmp 0)]⟩, []⟩, ⟨0, ⟨(some 3), none, (.new .box), [(.tmp 1)]⟩, []⟩, ⟨0, ⟨(some 4), none, (.pure .id), [(.const (.int .i64 0))]⟩, []⟩, ⟨0, ⟨(some 5), none, (.pure .id), [(.const (.int .i64 0))]⟩, []⟩]) (.seq (.region [⟨0, ⟨(some 6), none, (.load (.load 1 false)), [(.tmp 2)]⟩, []⟩, ⟨0, ⟨(some 7), none, (.pure (.mkfunc F_aig_Maker_All_1 0)), [(.tmp 2), (.tmp 3)]⟩, []⟩, ⟨0, ⟨(some 8), none, (.load (.load 1 false)), [(.tmp 3)]⟩, []⟩, ⟨0, ⟨(some 9), none, (.call F_aig_Maker_make), [(.tmp 6), (.tmp 7), (.tmp 8)]⟩, []⟩, ⟨0, ⟨(some 10), none, (.pure (.extract 0)), [(.tmp 9)]⟩, []⟩, ⟨0, ⟨(some 11), none, (.pure (.extract 1)), [(.tmp 9)]⟩, []⟩, ⟨0, ⟨(some 4), none, (.pure .id), [(.tmp 10)]⟩, []⟩, ⟨0, ⟨(some 5), none, (.pure .id), [(.tmp 11)]⟩, []⟩]) .ret))⟩
theorem c_aig_Maker_All : compF Tryz.prog Tryz.f90 = some G_aig_Maker_All := by kernel_rfl
theorem gc_aig_Maker_All {args : List DV} {σ : GS} {Post : DV → GS → Prop} (h : @exB Tryz.prog ⟨G_aig_Maker_All.body⟩ (genv0 args G_aig_Maker_All.ntmps) σ ⟨@gretB G_aig_Maker_All.results ⟨Post⟩⟩) : GCall Tryz.prog F_aig_Maker_All args σ Post := gcall_ofB seatfollows Tryz.func90 (by kernel_rfl) c_aig_Maker_All h
noncomputable abbrev G_skolemref06_Maker_All : GFun := ⟨25, [(.tmp 4), (.tmp 5)], (.seq (.region [⟨0, ⟨(some 4), none, (.pure .id), [(.const (.int .i64 0))]⟩, []⟩, ⟨0, ⟨(some 5), none, (.pure .id), [(.const (.int .i64 0))]⟩, []⟩]) (.seq (.seq (.region [⟨0, ⟨(some 7), none, (.pure .id), [(.tmp 0)]⟩, []⟩, ⟨0, ⟨(some 8), none, (.pure .id), [(.tmp 1)]⟩, []⟩, ⟨0, ⟨(some 9), none, (.call F_skolemref06_Maker_all), [(.tmp 7), (.tmp 8)]⟩, []⟩, ⟨0, ⟨(some 10), none, (.pure (.un .not)), [(.tmp 9)]⟩, []⟩]) (.cond (.tmp 10) (.seq (.region [⟨0, ⟨(some 4), none, (.pure .id), [(.const (.int .i64 0))]⟩, []⟩, ⟨0, ⟨(some 5), none, (.pure .id), [(.const (.int .i64 2))]⟩, []⟩]) .ret) .skip)) (.seq (.region [⟨0, ⟨(some 11), none, (.pure .id), [(.tmp 0)]⟩, []⟩, ⟨0, ⟨(some 12), none, (.pure .nilck), [(.tmp 11)]⟩, []⟩, ⟨0, ⟨(some 13), none, (.pure (.faddr 0)), [(.tmp 12)]⟩, []⟩, ⟨0, ⟨(some 14), none, (.pure (.faddr 1)), [(.tmp 13)]⟩, []⟩, ⟨0, ⟨(some 15), none, (.load (.load 1 false)), [(.tmp 14)]⟩, []⟩, ⟨0, ⟨(some 16), none, (.pure .len), [(.tmp 15)]⟩, []⟩, ⟨0, ⟨(some 6), none, (.pure .id), [(.tmp 16)]⟩, []⟩]) (.seq (.region [⟨0, ⟨(some 17), none, (.pure .id), [(.tmp 0)]⟩, []⟩, ⟨0, ⟨(some 18), none, (.pure .id), [(.tmp 6)]⟩, []⟩, ⟨0, ⟨(some 19), none, (.pure .id), [(.tmp 0)]⟩, []⟩, ⟨0, ⟨(some 20), none, (.pure .id), [(.tmp 1)]⟩, []⟩, ⟨0, ⟨(some 21), none, (.call F_skolemref06_Maker_Conjs), [(.tmp 19), (.tmp 20)]⟩, []⟩, ⟨0, ⟨(some 22), none, (.call F_skolemref06_Maker_done), [(.tmp 17), (.tmp 18), (.tmp 21)]⟩, []⟩, ⟨0, ⟨(some 23), none, (.pure (.extract 0)), [(.tmp 22)]⟩, []⟩, ⟨0, ⟨(some 24), none, (.pure (.extract 1)), [(.tmp 22)]⟩, []⟩, ⟨0, ⟨(some 4), none, (.pure .id), [(.tmp 23)]⟩, []⟩, ⟨0, ⟨(some 5), none, (.pure .id), [(.tmp 24)]⟩, []⟩]) .ret))))⟩
theorem c_skolemref06_Maker_All : compF Tryz.prog Tryz.f91 = some G_skolemref06_Maker_All := by kernel_rfl
theorem gc_skolemref06_Maker_All {args : List DV} {σ : GS} {Post : DV → GS → Prop} (h : @exB Tryz.prog ⟨G_skolemref06_Maker_All.body⟩ (genv0 args G_skolemref06_Maker_All.ntmps) σ ⟨@gretB G_skolemref06_Maker_All.results ⟨Post⟩⟩) : GCall Tryz.prog F_skolemref06_Maker_All args σ Post := gcall_ofB seatfollows Tryz.func91 (by kernel_rfl) c_skolemref06_Maker_All h
noncomputable abbrev G_aig_Maker_Any : GFun := ⟨12, [(.tmp 4), (.tmp 5)], (.seq (.region [⟨0, ⟨(some 2), none, (.new .box), [(.tmp 0)]⟩, []⟩, ⟨0, ⟨(some 3), none, (.new .box), [(.tmp 1)]⟩, []⟩, ⟨0, ⟨(some 4), none, (.pure .id), [(.const (.int .i64 0))]⟩, []⟩, ⟨0, ⟨(some 5), none, (.pure .id), [(.const (.int .i64 0))]⟩, []⟩]) (.seq (.region [⟨0, ⟨(some 6), none, (.load (.load 1 false)), [(.tmp 2)]⟩, []⟩, ⟨0, ⟨(some 7), none, (.pure (.mkfunc F_aig_Maker_Any_1 0)), [(.tmp 2), (.tmp 3)]⟩, []⟩, ⟨0, ⟨(some 8), none, (.load (.load 1 false)), [(.tmp 3)]⟩, []⟩, ⟨0, ⟨(some 9), none, (.call F_aig_Maker_make), [(.tmp 6), (.tmp 7), (.tmp 8)]⟩, []⟩, ⟨0, ⟨(some 10), none, (.pure (.extract 0)), [(.tmp 9)]⟩, []⟩, ⟨0, ⟨(some 11), none, (.pure (.extract 1)), [(.tmp 9)]⟩, []⟩, ⟨0, ⟨(some 4), none, (.pure .id), [(.tmp 10)]⟩, []⟩, ⟨0, ⟨(some 5), none, (.pure .id), [(.tmp 11)]⟩, []⟩]) .ret))⟩
theorem c_aig_Maker_Any : compF Tryz.prog Tryz.f92 = some G_aig_Maker_Any := by kernel_rfl
theorem gc_aig_Maker_Any {args : List DV} {σ : GS} {Post : DV → GS → Prop} (h : @exB Tryz.prog ⟨G_aig_Maker_Any.body⟩ (genv0 args G_aig_Maker_Any.ntmps) σ ⟨@gretB G_aig_Maker_Any.results ⟨Post⟩⟩) : GCall Tryz.prog F_aig_Maker_Any args σ Post := gcall_ofB seatfollows Tryz.func92 (by kernel_rfl) c_aig_Maker_Any h
noncomputable abbrev G_skolemref06_Maker_Any : GFun := ⟨27, [(.tmp 4), (.tmp 5)], (.seq (.region [⟨0, ⟨(some 4), none, (.pure .id), [(.const (.int .i64 0))]⟩, []⟩, ⟨0, ⟨(some 5), none, (.pure .id), [(.const (.int .i64 0))]⟩, []⟩]) (.seq (.seq (.region [⟨0, ⟨(some 7), none, (.pure .id), [(.tmp 0)]⟩, []⟩, ⟨0, ⟨(some 8), none, (.pure .id), [(.tmp 1)]⟩, []⟩, ⟨0, ⟨(some 9), none, (.call F_skolemref06_Maker_all), [(.tmp 7), (.tmp 8)]⟩, []⟩, ⟨0, ⟨(some 10), none, (.pure (.un .not)), [(.tmp 9)]⟩, []⟩]) (.cond (.tmp 10) (.seq (.region [⟨0, ⟨(some 4), none, (.pure .id), [(.const (.int .i64 0))]⟩, []⟩, ⟨0, ⟨(some 5), none, (.pure .id), [(.const (.int .i64 2))]⟩, []⟩]) .ret) .skip)) (.seq (.region [⟨0, ⟨(some 11), none, (.pure .id), [(.tmp 0)]⟩, []⟩, ⟨0, ⟨(some 12), none, (.pure .nilck), [(.tmp 11)]⟩, []⟩, ⟨0, ⟨(some 13), none, (.pure (.faddr 0)), [(.tmp 12)]⟩, []⟩, ⟨0, ⟨(some 14), none, (.pure (.faddr 1)), [(.tmp 13)]⟩, []⟩, ⟨0, ⟨(some 15), none, (.load (.load 1 false)), [(.tmp 14)]⟩, []⟩, ⟨0, ⟨(some 16), none, (.pure .len), [(.tmp 15)]⟩, []⟩, ⟨0, ⟨(some 6), none, (.pure .id), [(.tmp 16)]⟩, []⟩]) (.seq (.region [⟨0, ⟨(some 17), none, (.pure .id), [(.tmp 0)]⟩, []⟩, ⟨0, ⟨(some 18), none, (.pure .id), [(.tmp 6)]⟩, []⟩, ⟨0, ⟨(some 19), none, (.pure .id), [(.tmp 0)]⟩, []⟩, ⟨0, ⟨(some 20), none, (.pure .id), [(.tmp 1)]⟩, []⟩, ⟨0, ⟨(some 21), none, (.call F_skolemref06_Nots), [(.tmp 20)]⟩, []⟩, ⟨0, ⟨(some 22), none, (.call F_skolemref06_Maker_Conjs), [(.tmp 19), (.tmp 21)]⟩, []⟩, ⟨0, ⟨(some 23), none, (.call F_skolemref06_Not), [(.tmp 22)]⟩, []⟩, ⟨0, ⟨(some 24), none, (.call F_skolemref06_Maker_done), [(.tmp 17), (.tmp 18), (.tmp 23)]⟩, []⟩, ⟨0, ⟨(some 25), none, (.pure (.extract 0)), [(.tmp 24)]⟩, []⟩, ⟨0, ⟨(some 26), none, (.pure (.extract 1)), [(.tmp 24)]⟩, []⟩, ⟨0, ⟨(some 4), none, (.pure .id), [(.tmp 25)]⟩, []⟩, ⟨0, ⟨(some 5), none, (.pure .id), [(.tmp 26)]⟩, []⟩]) .ret))))⟩
theorem c_skolemref06_Maker_Any : compF Tryz.prog Tryz.f93 = some G_skolemref06_Maker_Any := by kernel_rfl
theorem gc_skolemref06_Maker_Any {args : List DV} {σ : GS} {Post : DV → GS → Prop} (h : @exB Tryz.prog ⟨G_skolemref06_Maker_Any.body⟩ (genv0 args G_skolemref06_Maker_Any.ntmps) σ ⟨@gretB G_skolemref06_Maker_Any.results ⟨Post⟩⟩) : GCall Tryz.prog F_skolemref06_Maker_Any args σ Post := gcall_ofB seatfollows Tryz.func93 (by kernel_rfl) c_skolemref06_Maker_Any h
noncomputable abbrev G_aig_Maker_Copy : GFun := ⟨14, [(.tmp 6), (.tmp 7)], (.seq (.region [⟨0, ⟨(some 4), none, (.new .box), [(.tmp 1)]⟩, []⟩, ⟨0, ⟨(some 6), none, (.pure .id), [(.const .nils)]⟩, []⟩, ⟨0, ⟨(some 7), none, (.pure .id), [(.const (.int .i64 0))]⟩, []⟩]) (.seq (.region [⟨0, ⟨(some 8), none, (.pure .id), [(.tmp 0)]⟩, []⟩, ⟨0, ⟨(some 9), none, (.load (.load 2 true)), [(.tmp 4)]⟩, []⟩, ⟨0, ⟨(some 10), none, (.pure .id), [(.tmp 2)]⟩, []⟩, ⟨0, ⟨(some 11), none, (.call F_aig_Maker_Graft), [(.tmp 8), (.tmp 9), (.tmp 10), (.const .nils)]⟩, []⟩, ⟨0, ⟨(some 12), none, (.pure (.extract 0)), [(.tmp 11)]⟩, []⟩, ⟨0, ⟨(some 13), none, (.pure (.extract 1)), [(.tmp 11)]⟩, []⟩, ⟨0, ⟨(some 6), none, (.pure .id), [(.tmp 12)]⟩, []⟩, ⟨0, ⟨(some 7), none, (.pure .id), [(.tmp 13)]⟩, []⟩]) .ret))⟩
theorem c_aig_Maker_Copy : compF Tryz.prog Tryz.f94 = some G_aig_Maker_Copy := by kernel_rfl
theorem gc_aig_Maker_Copy {args : List DV} {σ : GS} {Post : DV → GS → Prop} (h : @exB Tryz.prog ⟨G_aig_Maker_Copy.body⟩ (genv0 args G_aig_Maker_Copy.ntmps) σ ⟨@gretB G_aig_Maker_Copy.results ⟨Post⟩⟩) : GCall Tryz.prog F_aig_Maker_Copy args σ Post := gcall_ofB seatfollows Tryz.func94 (by kernel_rfl) c_aig_Maker_Copy h
noncomputable abbrev G_skolemref06_Maker_Copy : GFun := ⟨14, [(.tmp 6), (.tmp 7)], (.seq (.region [⟨0, ⟨(some 4), none, (.new .box), [(.tmp 1)]⟩, []⟩, ⟨0, ⟨(some 6), none, (.pure .id), [(.const .nils)]⟩, []⟩, ⟨0, ⟨(some 7), none, (.pure .id), [(.const (.int .i64 0))]⟩, []⟩]) (.seq (.region [⟨0, ⟨(some 8), none, (.pure .id), [(.tmp 0)]⟩, []⟩, ⟨0, ⟨(some 9), none, (.load (.load 2 true)), [(.tmp 4)]⟩, []⟩, ⟨0, ⟨(some 10), none, (.pure .id), [(.tmp 2)]⟩, []⟩, ⟨0, ⟨(some 11), none, (.call F_skolemref06_Maker_Graft), [(.tmp 8), (.tmp 9), (.tmp 10), (.const .nils)]⟩, []⟩, ⟨0, ⟨(some 12), none, (.pure (.extract 0)), [(.tmp 11)]⟩, []⟩, ⟨0, ⟨(some 13), none, (.pure (.extract 1)), [(.tmp 11)]⟩, []⟩, ⟨0, ⟨(some 6), none, (.pure .id), [(.tmp 12)]⟩, []⟩, ⟨0, ⟨(some 7), none, (.pure .id), [(.tmp 13)]⟩, []⟩]) .ret))⟩
theorem c_skolemref06_Maker_Copy : compF Tryz.prog Tryz.f95 = some G_skolemref06_Maker_Copy := by kernel_rfl
theorem gc_skolemref06_Maker_Copy {args : List DV} {σ : GS} {Post : DV → GS → Prop} (h : @exB Tryz.prog ⟨G_skolemref06_Maker_Copy.body⟩ (genv0 args G_skolemref06_Maker_Copy.ntmps) σ ⟨@gretB G_skolemref06_Maker_Copy.results ⟨Post⟩⟩) : GCall Tryz.prog F_skolemref06_Maker_Copy args σ Post := gcall_ofB seatfollows Tryz.func95 (by kernel_rfl) c_skolemref06_Maker_Copy h
noncomputable abbrev G_aig_Maker_Graft : GFun := ⟨124, [(.cell 8 1 false), (.tmp 9)], (.seq (.region [⟨0, ⟨(some 4), none, (.new .box), [(.tmp 0)]⟩, []⟩, ⟨0, ⟨(some 5), none, (.new .box), [(.tmp 1)]⟩, []⟩, ⟨0, ⟨(some 6), none, (.new .box), [(.tmp 2)]⟩, []⟩, ⟨0, ⟨(some 8), none, (.new (.alloc [.nils])), []⟩, []⟩, ⟨0, ⟨(some 9), none, (.pure .id), [(.const (.int .i64 0))]⟩, []⟩]) (.seq (.seq (.region [⟨0, ⟨(some 22), none, (.load (.load 1 false)), [(.tmp 4)]⟩, []⟩, ⟨0, ⟨(some 23), none, (.call F_aig_Maker_none), [(.tmp 22)]⟩, []⟩]) (.cond (.tmp 23) (.seq (.region [⟨0, ⟨none, none, (.imp (.store 1)), [(.tmp 8), (.const .nils)]⟩, []⟩, ⟨0, ⟨(some 9), none, (.pure .id), [(.const (.int .i64 1))]⟩, []⟩]) .ret) .skip)) (.seq (.region [⟨0, ⟨(some 24), none, (.new .mmap), []⟩, []⟩, ⟨0, ⟨(some 10), none, (.new (.alloc [.nilmap])), []⟩, []⟩, ⟨0, ⟨none, none, (.imp (.store 1)), [(.tmp 10), (.tmp 24)]⟩, []⟩]) (.seq (.region [⟨0, ⟨(some 25), none, (.load (.load 1 false)), [(.tmp 4)]⟩, []⟩, ⟨0, ⟨(some 26), none, (.pure .nilck), [(.tmp 25)]⟩, []⟩, ⟨0, ⟨(some 27), none, (.pure (.faddr 1)), [(.tmp 26)]⟩, []⟩, ⟨0, ⟨(some 28), none, (.load (.load 2 true)), [(.tmp 27)]⟩, []⟩, ⟨0, ⟨(some 29), none, (.call F_aig_nodes), [(.tmp 28)]⟩, []⟩, ⟨0, ⟨(some 30), none, (.pure (.bin .mul .none)), [(.const (.int .i64 2)), (.tmp 29)]⟩, []⟩, ⟨0, ⟨(some 31), none, (.pure (.bin .sub .none)), [(.tmp 30), (.const (.int .i64 1))]⟩, []⟩, ⟨0, ⟨(some 11), none, (.pure .id), [(.tmp 31)]⟩, []⟩]) (.seq (.seq (.region [⟨0, ⟨(some 32), none, (.pure .id), [(.tmp 3)]⟩, []⟩, ⟨0, ⟨(some 33), none, (.pure .len), [(.tmp 32)]⟩, []⟩, ⟨0, ⟨(some 34), none, (.pure .id), [(.const (.int .i64 0))]⟩, []⟩]) (.block 0 (.loop (.seq (.region [⟨0, ⟨(some 35), none, (.pure (.bin .lss .none)), [(.tmp 34), (.tmp 33)]⟩, []⟩]) (.seq (.cond (.tmp 35) .skip (.exit 0)) (.seq (.block 1 (.seq (.region [⟨0, ⟨(some 36), none, (.pure (.iaddr 2)), [(.tmp 32), (.tmp 34)]⟩, []⟩, ⟨0, ⟨(some 37), none, (.load (.load 2 true)), [(.tmp 36)]⟩, []⟩, ⟨0, ⟨(some 13), none, (.new (.alloc [(.int .i64 0), (.int .i64 0)])), []⟩, []⟩, ⟨0, ⟨none, none, (.imp (.store 2)), [(.tmp 13), (.tmp 37)]⟩, []⟩]) (.seq (.seq (.region [⟨0, ⟨(some 39), none, (.load (.load 1 false)), [(.tmp 10)]⟩, []⟩, ⟨0, ⟨(some 40), none, (.pure (.faddr 0)), [(.tmp 13)]⟩, []⟩, ⟨0, ⟨(some 41), none, (.load (.load 1 false)), [(.tmp 40)]⟩, []⟩, ⟨0, ⟨(some 42), none, (.load (.lookup (.int .i64) (.int .i64 0) true)), [(.tmp 39), (.tmp 41)]⟩, []⟩, ⟨0, ⟨(some 38), none, (.pure .id), [(.tmp 42)]⟩, []⟩, ⟨0, ⟨(some 43), none, (.pure (.extract 0)), [(.tmp 38)]⟩, []⟩, ⟨0, ⟨(some 44), none, (.pure (.extract 1)), [(.tmp 38)]⟩, []⟩, ⟨0, ⟨(some 14), none, (.pure .id), [(.tmp 43)]⟩, []⟩, ⟨0, ⟨(some 15), none, (.pure .id), [(.tmp 44)]⟩, []⟩]) (.seq (.region [⟨0, ⟨(some 45), none, (.pure .id), [(.tmp 15)]⟩, []⟩, ⟨0, ⟨(some 46), none, (.pure .id), [(.tmp 45)]⟩, []⟩, ⟨0, ⟨(some 47), (some (46, false)), (.pure (.faddr 1)), [(.tmp 13)]⟩, []⟩, ⟨0, ⟨(some 48), (some (46, false)), (.load (.load 1 false)), [(.tmp 47)]⟩, []⟩, ⟨0, ⟨(some 49), (some (46, false)), (.pure (.bin .lss .none)), [(.tmp 48), (.const (.int .i64 0))]⟩, []⟩, ⟨0, ⟨(some 50), none, (.pure .pick), [(.tmp 46), (.const (.bool true)), (.tmp 49)]⟩, []⟩, ⟨0, ⟨(some 51), none, (.pure .id), [(.tmp 50)]⟩, []⟩, ⟨0, ⟨(some 52), (some (51, false)), (.pure (.faddr 1)), [(.tmp 13)]⟩, []⟩, ⟨0, ⟨(some 53), (some (51, false)), (.load (.load 1 false)), [(.tmp 52)]⟩, []⟩, ⟨0, ⟨(some 54), (some (51, false)), (.pure .id), [(.tmp 11)]⟩, []⟩, ⟨0, ⟨(some 55), (some (51, false)), (.pure (.bin .gtr .none)), [(.tmp 53), (.tmp 54)]⟩, []⟩, ⟨0, ⟨(some 56), none, (.pure .pick), [(.tmp 51), (.const (.bool true)), (.tmp 55)]⟩, []⟩]) (.cond (.tmp 56) (.seq (.region [⟨0, ⟨none, none, (.imp (.store 1)), [(.tmp 8), (.const .nils)]⟩, []⟩, ⟨0, ⟨(some 9), none, (.pure .id), [(.const (.int .i64 2))]⟩, []⟩]) .ret) .skip))) (.region [⟨0, ⟨(some 57), none, (.load (.load 1 false)), [(.tmp 10)]⟩, []⟩, ⟨0, ⟨(some 58), none, (.pure (.faddr 0)), [(.tmp 13)]⟩, []⟩, ⟨0, ⟨(some 59), none, (.load (.load 1 false)), [(.tmp 58)]⟩, []⟩, ⟨0, ⟨(some 60), none, (.pure (.faddr 1)), [(.tmp 13)]⟩, []⟩, ⟨0, ⟨(some 61), none, (.load (.load 1 false)), [(.tmp 60)]⟩, []⟩, ⟨0, ⟨none, none, (.imp (.mset (.int .i64))), [(.tmp 57), (.tmp 59), (.tmp 61)]⟩, []⟩])))) (.region [⟨0, ⟨(some 62), none, (.pure (.bin .add .none)), [(.tmp 34), (.const (.int .i64 1))]⟩, []⟩, ⟨0, ⟨(some 34), none, (.pure .id), [(.tmp 62)]⟩, []⟩]))))))) (.seq (.seq (.region [⟨0, ⟨(some 63), none, (.load (.load 2 true)), [(.tmp 5)]⟩, []⟩, ⟨0, ⟨(some 64), none, (.load (.load 1 false)), [(.tmp 6)]⟩, []⟩, ⟨0, ⟨(some 65), none, (.call F_aig_all), [(.tmp 63), (.tmp 64)]⟩, []⟩, ⟨0, ⟨(some 66), none, (.pure (.un .not)), [(.tmp 65)]⟩, []⟩]) (.cond (.tmp 66) (.seq (.region [⟨0, ⟨none, none, (.imp (.store 1)), [(.tmp 8), (.const .nils)]⟩, []⟩, ⟨0, ⟨(some 9), none, (.pure .id), [(.const (.int .i64 2))]⟩, []⟩]) .ret) .skip)) (.seq (.seq (.region [⟨0, ⟨(some 67), none, (.load (.load 2 true)), [(.tmp 5)]⟩, []⟩, ⟨1, ⟨(some 68), none, (.load (.load 1 false)), [(.tmp 6)]⟩, []⟩, ⟨3, ⟨(some 70), none, (.pure (.faddr 0)), [(.tmp 5)]⟩, []⟩, ⟨4, ⟨(some 71), none, (.load (.load 1 false)), [(.tmp 70)]⟩, []⟩, ⟨5, ⟨(some 72), none, (.pure .len), [(.tmp 71)]⟩, []⟩, ⟨6, ⟨(some 73), none, (.pure (.bin .add .none)), [(.const (.int .i64 1)), (.tmp 72)]⟩, []⟩, ⟨9, ⟨(some 76), none, (.pure .id), [(.const (.int .i64 0))]⟩, []⟩, ⟨2, ⟨(some 69), none, (.call F_aig_reached), [(.tmp 67), (.tmp 68)]⟩, [⟨(some 71), none, (.load (.load 1 false)), [(.tmp 70)]⟩]⟩, ⟨7, ⟨(some 74), none, (.pure (.slice 1 true true false)), [(.tmp 69), (.const (.int .i64 1)), (.tmp 73)]⟩, []⟩, ⟨8, ⟨(some 75), none, (.pure .len), [(.tmp 74)]⟩, []⟩]) (.block 2 (.loop (.seq (.region [⟨0, ⟨(some 77), none, (.pure (.bin .lss .none)), [(.tmp 76), (.tmp 75)]⟩, []⟩]) (.seq (.cond (.tmp 77) .skip (.exit 2)) (.seq (.block 3 (.seq (.region [⟨0, ⟨(some 78), none, (.pure .id), [(.tmp 76)]⟩, []⟩, ⟨0, ⟨(some 79), none, (.pure (.iaddr 1)), [(.tmp 74), (.tmp 76)]⟩, []⟩, ⟨0, ⟨(some 80), none, (.load (.load 1 false)), [(.tmp 79)]⟩, []⟩, ⟨0, ⟨(some 16), none, (.pure .id), [(.tmp 78)]⟩, []⟩, ⟨0, ⟨(some 17), none, (.pure .id), [(.tmp 80)]⟩, []⟩]) (.seq (.region [⟨0, ⟨(some 82), none, (.load (.load 1 false)), [(.tmp 10)]⟩, []⟩, ⟨1, ⟨(some 83), none, (.pure (.faddr 0)), [(.tmp 5)]⟩, []⟩, ⟨2, ⟨(some 84), none, (.load (.load 1 false)), [(.tmp 83)]⟩, []⟩, ⟨3, ⟨(some 85), none, (.pure .id), [(.tmp 16)]⟩, []⟩, ⟨4, ⟨(some 86), none, (.pure (.iaddr 1)), [(.tmp 84), (.tmp 85)]⟩, []⟩, ⟨5, ⟨(some 87), none, (.load (.load 1 false)), [(.tmp 86)]⟩, []⟩, ⟨6, ⟨(some 88), none, (.load (.lookup (.int .i64) (.int .i64 0) true)), [(.tmp 82), (.tmp 87)]⟩, []⟩, ⟨7, ⟨(some 81), none, (.pure .id), [(.tmp 88)]⟩, []⟩, ⟨8, ⟨(some 89), none, (.pure (.extract 0)), [(.tmp 81)]⟩, []⟩, ⟨9, ⟨(some 90), none, (.pure (.extract 1)), [(.tmp 81)]⟩, []⟩, ⟨10, ⟨(some 18), none, (.pure .id), [(.tmp 89)]⟩, []⟩, ⟨11, ⟨(some 19), none, (.pure .id), [(.tmp 90)]⟩, []⟩]) (.seq (.region [⟨0, ⟨(some 92), none, (.load (.load 1 false)), [(.tmp 4)]⟩, []⟩, ⟨1, ⟨(some 93), none, (.pure .nilck), [(.tmp 92)]⟩, []⟩, ⟨2, ⟨(some 94), none, (.pure (.faddr 4)), [(.tmp 93)]⟩, []⟩, ⟨3, ⟨(some 95), none, (.load (.load 1 false)), [(.tmp 94)]⟩, []⟩, ⟨4, ⟨(some 96), none, (.pure (.faddr 0)), [(.tmp 5)]⟩, []⟩, ⟨5, ⟨(some 97), none, (.load (.load 1 false)), [(.tmp 96)]⟩, []⟩, ⟨6, ⟨(some 98), none, (.pure .id), [(.tmp 16)]⟩, []⟩, ⟨7, ⟨(some 99), none, (.pure (.iaddr 1)), [(.tmp 97), (.tmp 98)]⟩, []⟩, ⟨8, ⟨(some 100), none, (.load (.load 1 false)), [(.tmp 99)]⟩, []⟩, ⟨9, ⟨(some 101), none, (.load (.lookup (.int .i64) (.int .i64 0) true)), [(.tmp 95), (.tmp 100)]⟩, []⟩, ⟨10, ⟨(some 91), none, (.pure .id), [(.tmp 101)]⟩, []⟩, ⟨11, ⟨(some 102), none, (.pure (.extract 0)), [(.tmp 91)]⟩, []⟩, ⟨12, ⟨(some 103), none, (.pure (.extract 1)), [(.tmp 91)]⟩, []⟩, ⟨13, ⟨(some 20), none, (.pure .id), [(.tmp 102)]⟩, []⟩, ⟨14, ⟨(some 21), none, (.pure .id), [(.tmp 103)]⟩, []⟩]) (.seq (.region [⟨0, ⟨(some 104), none, (.pure .id), [(.tmp 17)]⟩, []⟩, ⟨0, ⟨(some 105), none, (.pure .id), [(.tmp 104)]⟩, []⟩, ⟨0, ⟨(some 106), (some (105, true)), (.pure .id), [(.tmp 21)]⟩, []⟩, ⟨0, ⟨(some 107), (some (105, true)), (.pure (.un .not)), [(.tmp 106)]⟩, []⟩, ⟨0, ⟨(some 108), none, (.pure .pick), [(.tmp 105), (.tmp 107), (.const (.bool false))]⟩, []⟩, ⟨0, ⟨(some 109), none, (.pure .id), [(.tmp 108)]⟩, []⟩, ⟨0, ⟨(some 110), (some (109, true)), (.pure .id), [(.tmp 19)]⟩, []⟩, ⟨0, ⟨(some 111), (some (109, true)), (.pure (.un .not)), [(.tmp 110)]⟩, []⟩, ⟨0, ⟨(some 112), none, (.pure .pick), [(.tmp 109), (.tmp 111), (.const (.bool false))]⟩, []⟩]) (.cond (.tmp 112) (.seq (.region [⟨0, ⟨none, none, (.imp (.store 1)), [(.tmp 8), (.const .nils)]⟩, []⟩, ⟨0, ⟨(some 9), none, (.pure .id), [(.const (.int .i64 6))]⟩, []⟩]) .ret) .skip)))))) (.region [⟨0, ⟨(some 113), none, (.pure (.bin .add .none)), [(.tmp 76), (.const (.int .i64 1))]⟩, []⟩, ⟨0, ⟨(some 76), none, (.pure .id), [(.tmp 113)]⟩, []⟩]))))))) (.seq (.region [⟨0, ⟨(some 115), none, (.load (.load 1 false)), [(.tmp 4)]⟩, []⟩, ⟨0, ⟨(some 116), none, (.pure (.mkfunc F_aig_Maker_Graft_1 0)), [(.tmp 6), (.tmp 4), (.tmp 5), (.tmp 10), (.tmp 8)]⟩, []⟩, ⟨0, ⟨(some 117), none, (.call F_aig_Maker_make), [(.tmp 115), (.tmp 116), (.const .nils)]⟩, []⟩, ⟨0, ⟨(some 114), none, (.pure .id), [(.tmp 117)]⟩, []⟩, ⟨0, ⟨(some 118), none, (.pure (.extract 0)), [(.tmp 114)]⟩, []⟩, ⟨0, ⟨(some 119), none, (.pure (.extract 1)), [(.tmp 114)]⟩, []⟩, ⟨0, ⟨(some 9), none, (.pure .id), [(.tmp 119)]⟩, []⟩]) (.seq (.seq (.region [⟨0, ⟨(some 120), none, (.pure .id), [(.tmp 9)]⟩, []⟩, ⟨0, ⟨(some 121), none, (.pure (.bin .neq .none)), [(.tmp 120), (.const (.int .i64 0))]⟩, []⟩]) (.cond (.tmp 121) (.seq (.region [⟨0, ⟨(some 122), none, (.pure .id), [(.tmp 9)]⟩, []⟩, ⟨0, ⟨none, none, (.imp (.store 1)), [(.tmp 8), (.const .nils)]⟩, []⟩, ⟨0, ⟨(some 9), none, (.pure .id), [(.tmp 122)]⟩, []⟩]) .ret) .skip)) (.seq (.region [⟨0, ⟨(some 123), none, (.load (.load 1 false)), [(.tmp 8)]⟩, []⟩, ⟨0, ⟨none, none, (.imp (.store 1)), [(.tmp 8), (.tmp 123)]⟩, []⟩, ⟨0, ⟨(some 9), none, (.pure .id), [(.const (.int .i64 0))]⟩, []⟩]) .ret))))))))))⟩
theorem c_aig_Maker_Graft : compF Tryz.prog Tryz.f96 = some G_aig_Maker_Graft := by kernel_rfl
theorem gc_aig_Maker_Graft {args : List DV} {σ : GS} {Post : DV → GS → Prop} (h : @exB Tryz.prog ⟨G_aig_Maker_Graft.body⟩ (genv0 args G_aig_Maker_Graft.ntmps) σ ⟨@gretB G_aig_Maker_Graft.results ⟨Post⟩⟩) : GCall Tryz.prog F_aig_Maker_Graft args σ Post := gcall_ofB seatfollows Tryz.func96 (by kernel_rfl) c_aig_Maker_Graft h
noncomputable abbrev G_skolemref06_Maker_Graft : GFun := ⟨137, [(.tmp 8), (.tmp 9)], (.seq (.region [⟨0, ⟨(some 5), none, (.new .box), [(.tmp 1)]⟩, []⟩, ⟨0, ⟨(some 8), none, (.pure .id), [(.const .nils)]⟩, []⟩, ⟨0, ⟨(some 9), none, (.pure .id), [(.const (.int .i64 0))]⟩, []⟩]) (.seq (.seq (.region [⟨0, ⟨(some 21), none, (.load (.load 2 true)), [(.tmp 5)]⟩, []⟩, ⟨0, ⟨(some 22), none, (.pure .id), [(.tmp 2)]⟩, []⟩, ⟨0, ⟨(some 23), none, (.call F_skolemref06_HasAll), [(.tmp 21), (.tmp 22)]⟩, []⟩, ⟨0, ⟨(some 24), none, (.pure (.un .not)), [(.tmp 23)]⟩, []⟩]) (.cond (.tmp 24) (.seq (.region [⟨0, ⟨(some 8), none, (.pure .id), [(.const .nils)]⟩, []⟩, ⟨0, ⟨(some 9), none, (.pure .id), [(.const (.int .i64 2))]⟩, []⟩]) .ret) .skip)) (.seq (.seq (.region [⟨0, ⟨(some 10), none, (.pure .id), [(.const (.int .i64 0))]⟩, []⟩]) (.block 0 (.loop (.seq (.seq (.region [⟨0, ⟨(some 25), none, (.pure .id), [(.tmp 10)]⟩, []⟩, ⟨0, ⟨(some 26), none, (.pure .id), [(.tmp 3)]⟩, []⟩, ⟨0, ⟨(some 27), none, (.pure .len), [(.tmp 26)]⟩, []⟩, ⟨0, ⟨(some 28), none, (.pure (.bin .lss .none)), [(.tmp 25), (.tmp 27)]⟩, []⟩]) (.cond (.tmp 28) .skip (.exit 0))) (.seq (.block 1 (.seq (.seq (.region [⟨0, ⟨(some 11), none, (.pure .id), [(.const (.int .i64 0))]⟩, []⟩]) (.block 2 (.loop (.seq (.seq (.region [⟨0, ⟨(some 31), none, (.pure .id), [(.tmp 11)]⟩, []⟩, ⟨0, ⟨(some 32), none, (.pure .id), [(.tmp 10)]⟩, []⟩, ⟨0, ⟨(some 33), none, (.pure (.bin .lss .none)), [(.tmp 31), (.tmp 32)]⟩, []⟩]) (.cond (.tmp 33) .skip (.exit 2))) (.seq (.block 3 (.seq (.region [⟨0, ⟨(some 36), none, (.pure .id), [(.tmp 3)]⟩, []⟩, ⟨1, ⟨(some 37), none, (.pure .id), [(.tmp 11)]⟩, []⟩, ⟨2, ⟨(some 38), none, (.pure (.iaddr 2)), [(.tmp 36), (.tmp 37)]⟩, []⟩, ⟨3, ⟨(some 39), none, (.pure (.faddr 0)), [(.tmp 38)]⟩, []⟩, ⟨4, ⟨(some 40), none, (.load (.load 1 false)), [(.tmp 39)]⟩, []⟩, ⟨5, ⟨(some 41), none, (.pure .id), [(.tmp 3)]⟩, []⟩, ⟨6, ⟨(some 42), none, (.pure .id), [(.tmp 10)]⟩, []⟩, ⟨7, ⟨(some 43), none, (.pure (.iaddr 2)), [(.tmp 41), (.tmp 42)]⟩, []⟩, ⟨8, ⟨(some 44), none, (.pure (.faddr 0)), [(.tmp 43)]⟩, []⟩, ⟨9, ⟨(some 45), none, (.load (.load 1 false)), [(.tmp 44)]⟩, []⟩, ⟨10, ⟨(some 46), none, (.pure (.bin .eql .none)), [(.tmp 40), (.tmp 45)]⟩, []⟩]) (.cond (.tmp 46) (.seq (.region [⟨0, ⟨(some 8), none, (.pure .id), [(.const .nils)]⟩, []⟩, ⟨0, ⟨(some 9), none, (.pure .id), [(.const (.int .i64 2))]⟩, []⟩]) .ret) .skip))) (.region [⟨0, ⟨(some 34), none, (.pure .id), [(.tmp 11)]⟩, []⟩, ⟨0, ⟨(some 35), none, (.pure (.bin .add .none)), [(.tmp 34), (.const (.int .i64 1))]⟩, []⟩, ⟨0, ⟨(some 11), none, (.pure .id), [(.tmp 35)]⟩, []⟩])))))) (.seq (.region [⟨0, ⟨(some 47), none, (.pure .id), [(.tmp 0)]⟩, []⟩, ⟨1, ⟨(some 48), none, (.pure .nilck), [(.tmp 47)]⟩, []⟩, ⟨2, ⟨(some 49), none, (.pure (.faddr 0)), [(.tmp 48)]⟩, []⟩, ⟨3, ⟨(some 50), none, (.load (.load 2 true)), [(.tmp 49)]⟩, []⟩, ⟨4, ⟨(some 51), none, (.pure .id), [(.tmp 3)]⟩, []⟩, ⟨5, ⟨(some 52), none, (.pure .id), [(.tmp 10)]⟩, []⟩, ⟨6, ⟨(some 53), none, (.pure (.iaddr 2)), [(.tmp 51), (.tmp 52)]⟩, []⟩, ⟨7, ⟨(some 54), none, (.pure (.faddr 1)), [(.tmp 53)]⟩, []⟩, ⟨8, ⟨(some 55), none, (.load (.load 1 false)), [(.tmp 54)]⟩, []⟩, ⟨9, ⟨(some 56), none, (.call F_skolemref06_has), [(.tmp 50), (.tmp 55)]⟩, []⟩, ⟨10, ⟨(some 57), none, (.pure (.un .not)), [(.tmp 56)]⟩, []⟩]) (.cond (.tmp 57) (.seq (.region [⟨0, ⟨(some 8), none, (.pure .id), [(.const .nils)]⟩, []⟩, ⟨0, ⟨(some 9), none, (.pure .id), [(.const (.int .i64 2))]⟩, []⟩]) .ret) .skip)))) (.region [⟨0, ⟨(some 29), none, (.pure .id), [(.tmp 10)]⟩, []⟩, ⟨0, ⟨(some 30), none, (.pure (.bin .add .none)), [(.tmp 29), (.const (.int .i64 1))]⟩, []⟩, ⟨0, ⟨(some 10), none, (.pure .id), [(.tmp 30)]⟩, []⟩])))))) (.seq (.region [⟨0, ⟨(some 58), none, (.load (.load 2 true)), [(.tmp 5)]⟩, []⟩, ⟨0, ⟨(some 59), none, (.pure .id), [(.tmp 2)]⟩, []⟩, ⟨0, ⟨(some 60), none, (.call F_skolemref06_Reached), [(.tmp 58), (.tmp 59)]⟩, []⟩, ⟨0, ⟨(some 12), none, (.pure .id), [(.tmp 60)]⟩, []⟩]) (.seq (.region [⟨0, ⟨(some 13), none, (.pure .id), [(.const .nils)]⟩, []⟩]) (.seq (.seq (.region [⟨0, ⟨(some 14), none, (.pure .id), [(.const (.int .i64 0))]⟩, []⟩]) (.block 4 (.loop (.seq (.seq (.region [⟨0, ⟨(some 61), none, (.pure .id), [(.tmp 14)]⟩, []⟩, ⟨0, ⟨(some 62), none, (.pure (.faddr 0)), [(.tmp 5)]⟩, []⟩, ⟨0, ⟨(some 63), none, (.load (.load 1 false)), [(.tmp 62)]⟩, []⟩, ⟨0, ⟨(some 64), none, (.pure .len), [(.tmp 63)]⟩, []⟩, ⟨0, ⟨(some 65), none, (.pure (.bin .lss .none)), [(.tmp 61), (.tmp 64)]⟩, []⟩]) (.cond (.tmp 65) .skip (.exit 4))) (.seq (.block 5 (.seq (.region [⟨0, ⟨(some 68), none, (.pure .id), [(.tmp 0)]⟩, []⟩, ⟨1, ⟨(some 69), none, (.pure .nilck), [(.tmp 68)]⟩, []⟩, ⟨2, ⟨(some 70), none, (.pure (.faddr 0)), [(.tmp 69)]⟩, []⟩, ⟨3, ⟨(some 71), none, (.load (.load 2 true)), [(.tmp 70)]⟩, []⟩, ⟨4, ⟨(some 72), none, (.pure (.faddr 0)), [(.tmp 5)]⟩, []⟩, ⟨5, ⟨(some 73), none, (.load (.load 1 false)), [(.tmp 72)]⟩, []⟩, ⟨6, ⟨(some 74), none, (.pure .id), [(.tmp 14)]⟩, []⟩, ⟨7, ⟨(some 75), none, (.pure (.iaddr 1)), [(.tmp 73), (.tmp 74)]⟩, []⟩, ⟨8, ⟨(some 76), none, (.load (.load 1 false)), [(.tmp 75)]⟩, []⟩, ⟨9, ⟨(some 77), none, (.call F_skolemref06_Edge), [(.tmp 71), (.tmp 76)]⟩, []⟩, ⟨10, ⟨(some 15), none, (.pure .id), [(.tmp 77)]⟩, []⟩]) (.seq (.seq (.region [⟨0, ⟨(some 16), none, (.pure .id), [(.const (.int .i64 0))]⟩, []⟩]) (.block 6 (.loop (.seq (.seq (.region [⟨0, ⟨(some 78), none, (.pure .id), [(.tmp 16)]⟩, []⟩, ⟨0, ⟨(some 79), none, (.pure .id), [(.tmp 3)]⟩, []⟩, ⟨0, ⟨(some 80), none, (.pure .len), [(.tmp 79)]⟩, []⟩, ⟨0, ⟨(some 81), none, (.pure (.bin .lss .none)), [(.tmp 78), (.tmp 80)]⟩, []⟩]) (.cond (.tmp 81) .skip (.exit 6))) (.seq (.block 7 (.seq (.region [⟨0, ⟨(some 84), none, (.pure .id), [(.tmp 3)]⟩, []⟩, ⟨1, ⟨(some 85), none, (.pure .id), [(.tmp 16)]⟩, []⟩, ⟨2, ⟨(some 86), none, (.pure (.iaddr 2)), [(.tmp 84), (.tmp 85)]⟩, []⟩, ⟨3, ⟨(some 87), none, (.pure (.faddr 0)), [(.tmp 86)]⟩, []⟩, ⟨4, ⟨(some 88), none, (.load (.load 1 false)), [(.tmp 87)]⟩, []⟩, ⟨5, ⟨(some 89), none, (.pure (.faddr 0)), [(.tmp 5)]⟩, []⟩, ⟨6, ⟨(some 90), none, (.load (.load 1 false)), [(.tmp 89)]⟩, []⟩, ⟨7, ⟨(some 91), none, (.pure .id), [(.tmp 14)]⟩, []⟩, ⟨8, ⟨(some 92), none, (.pure (.iaddr 1)), [(.tmp 90), (.tmp 91)]⟩, []⟩, ⟨9, ⟨(some 93), none, (.load (.load 1 false)), [(.tmp 92)]⟩, []⟩, ⟨10, ⟨(some 94), none, (.pure (.bin .eql .none)), [(.tmp 88), (.tmp 93)]⟩, []⟩]) (.cond (.tmp 94) (.region [⟨0, ⟨(some 95), none, (.pure .id), [(.tmp 3)]⟩, []⟩, ⟨0, ⟨(some 96), none, (.pure .id), [(.tmp 16)]⟩, []⟩, ⟨0, ⟨(some 97), none, (.pure (.iaddr 2)), [(.tmp 95), (.tmp 96)]⟩, []⟩, ⟨0, ⟨(some 98), none, (.pure (.faddr 1)), [(.tmp 97)]⟩, []⟩, ⟨0, ⟨(some 99), none, (.load (.load 1 false)), [(.tmp 98)]⟩, []⟩, ⟨0, ⟨(some 15), none, (.pure .id), [(.tmp 99)]⟩, []⟩]) .skip))) (.region [⟨0, ⟨(some 82), none, (.pure .id), [(.tmp 16)]⟩, []⟩, ⟨0, ⟨(some 83), none, (.pure (.bin .add .none)), [(.tmp 82), (.const (.int .i64 1))]⟩, []⟩, ⟨0, ⟨(some 16), none, (.pure .id), [(.tmp 83)]⟩, []⟩])))))) (.seq (.seq (.region [⟨0, ⟨(some 100), none, (.pure .id), [(.tmp 12)]⟩, []⟩, ⟨0, ⟨(some 101), none, (.pure .id), [(.tmp 14)]⟩, []⟩, ⟨0, ⟨(some 102), none, (.pure (.bin .add .none)), [(.tmp 101), (.const (.int .i64 1))]⟩, []⟩, ⟨0, ⟨(some 103), none, (.pure (.iaddr 1)), [(.tmp 100), (.tmp 102)]⟩, []⟩, ⟨0, ⟨(some 104), none, (.load (.load 1 false)), [(.tmp 103)]⟩, []⟩, ⟨0, ⟨(some 105), none, (.pure .id), [(.tmp 104)]⟩, []⟩, ⟨0, ⟨(some 106), (some (105, true)), (.pure .id), [(.tmp 15)]⟩, []⟩, ⟨0, ⟨(some 107), (some (105, true)), (.pure (.bin .lss .none)), [(.tmp 106), (.const (.int .i64 0))]⟩, []⟩, ⟨0, ⟨(some 108), none, (.pure .pick), [(.tmp 105), (.tmp 107), (.const (.bool false))]⟩, []⟩]) (.cond (.tmp 108) (.seq (.region [⟨0, ⟨(some 8), none, (.pure .id), [(.const .nils)]⟩, []⟩, ⟨0, ⟨(some 9), none, (.pure .id), [(.const (.int .i64 6))]⟩, []⟩]) .ret) .skip)) (.region [⟨0, ⟨(some 109), none, (.pure .id), [(.tmp 13)]⟩, []⟩, ⟨0, ⟨(some 110), none, (.pure .id), [(.tmp 15)]⟩, []⟩, ⟨0, ⟨(some 111), none, (.pure .mx), [(.tmp 110), (.const (.int .i64 0))]⟩, []⟩, ⟨0, ⟨(some 112), none, (.new (.bslice 1 [(.int .i64 0)] 1 [(0, 1)])), [(.tmp 111)]⟩, []⟩, ⟨0, ⟨(some 113), none, (.imp (.append 1 8)), [(.tmp 109), (.tmp 112)]⟩, []⟩, ⟨0, ⟨(some 13), none, (.pure .id), [(.tmp 113)]⟩, []⟩]))))) (.region [⟨0, ⟨(some 66), none, (.pure .id), [(.tmp 14)]⟩, []⟩, ⟨0, ⟨(some 67), none, (.pure (.bin .add .none)), [(.tmp 66), (.const (.int .i64 1))]⟩, []⟩, ⟨0, ⟨(some 14), none, (.pure .id), [(.tmp 67)]⟩, []⟩])))))) (.seq (.region [⟨0, ⟨(some 114), none, (.pure .id), [(.tmp 0)]⟩, []⟩, ⟨0, ⟨(some 115), none, (.pure .nilck), [(.tmp 114)]⟩, []⟩, ⟨0, ⟨(some 116), none, (.pure (.faddr 0)), [(.tmp 115)]⟩, []⟩, ⟨0, ⟨(some 117), none, (.pure (.faddr 1)), [(.tmp 116)]⟩, []⟩, ⟨0, ⟨(some 118), none, (.load (.load 1 false)), [(.tmp 117)]⟩, []⟩, ⟨0, ⟨(some 119), none, (.pure .len), [(.tmp 118)]⟩, []⟩, ⟨0, ⟨(some 17), none, (.pure .id), [(.tmp 119)]⟩, []⟩]) (.seq (.region [⟨0, ⟨(some 120), none, (.pure .id), [(.tmp 0)]⟩, []⟩, ⟨0, ⟨(some 121), none, (.load (.load 2 true)), [(.tmp 5)]⟩, []⟩, ⟨0, ⟨(some 122), none, (.pure .id), [(.tmp 2)]⟩, []⟩, ⟨0, ⟨(some 123), none, (.pure .id), [(.tmp 13)]⟩, []⟩, ⟨0, ⟨(some 124), none, (.call F_skolemref06_Maker_copied), [(.tmp 120), (.tmp 121), (.tmp 122), (.tmp 123)]⟩, []⟩, ⟨0, ⟨(some 18), none, (.pure .id), [(.tmp 124)]⟩, []⟩]) (.seq (.region [⟨0, ⟨(some 126), none, (.pure .id), [(.tmp 0)]⟩, []⟩, ⟨0, ⟨(some 127), none, (.pure .id), [(.tmp 17)]⟩, []⟩, ⟨0, ⟨(some 128), none, (.call F_skolemref06_Maker_done), [(.tmp 126), (.tmp 127), (.const (.int .i64 0))]⟩, []⟩, ⟨0, ⟨(some 125), none, (.pure .id), [(.tmp 128)]⟩, []⟩, ⟨0, ⟨(some 129), none, (.pure (.extract 0)), [(.tmp 125)]⟩, []⟩, ⟨0, ⟨(some 130), none, (.pure (.extract 1)), [(.tmp 125)]⟩, []⟩, ⟨0, ⟨(some 19), none, (.pure .id), [(.tmp 129)]⟩, []⟩, ⟨0, ⟨(some 20), none, (.pure .id), [(.tmp 130)]⟩, []⟩]) (.seq (.seq (.region [⟨0, ⟨(some 131), none, (.pure .id), [(.tmp 20)]⟩, []⟩, ⟨0, ⟨(some 132), none, (.pure (.bin .neq .none)), [(.tmp 131), (.const (.int .i64 0))]⟩, []⟩]) (.cond (.tmp 132) (.seq (.region [⟨0, ⟨(some 133), none, (.pure .id), [(.tmp 20)]⟩, []⟩, ⟨0, ⟨(some 8), none, (.pure .id), [(.const .nils)]⟩, []⟩, ⟨0, ⟨(some 9), none, (.pure .id), [(.tmp 133)]⟩, []⟩]) .ret) .skip)) (.seq (.region [⟨0, ⟨(some 134), none, (.pure .id), [(.tmp 18)]⟩, []⟩, ⟨0, ⟨(some 135), none, (.pure .id), [(.tmp 2)]⟩, []⟩, ⟨0, ⟨(some 136), none, (.call F_skolemref06_images), [(.tmp 134), (.tmp 135)]⟩, []⟩, ⟨0, ⟨(some 8), none, (.pure .id), [(.tmp 136)]⟩, []⟩, ⟨0, ⟨(some 9), none, (.pure .id), [(.const (.int .i64 0))]⟩, []⟩]) .ret)))))))))))⟩
theorem c_skolemref06_Maker_Graft : compF Tryz.prog Tryz.f97 = some G_skolemref06_Maker_Graft := by kernel_rfl
theorem gc_skolemref06_Maker_Graft {args : List DV} {σ : GS} {Post : DV → GS → Prop} (h : @exB Tryz.prog ⟨G_skolemref06_Maker_Graft.body⟩ (genv0 args G_skolemref06_Maker_Graft.ntmps) σ ⟨@gretB G_skolemref06_Maker_Graft.results ⟨Post⟩⟩) : GCall Tryz.prog F_skolemref06_Maker_Graft args σ Post := gcall_ofB seatfollows Tryz.func97 (by kernel_rfl) c_skolemref06_Maker_Graft h
noncomputable abbrev G_aig_Maker_none : GFun := ⟨12, [(.tmp 2)], (.seq (.region [⟨0, ⟨(some 2), none, (.pure .id), [(.const (.bool false))]⟩, []⟩]) (.seq (.region [⟨0, ⟨(some 3), none, (.pure .id), [(.tmp 0)]⟩, []⟩, ⟨0, ⟨(some 4), none, (.pure (.bin .eql .ptr)), [(.tmp 3), (.const .nilp)]⟩, []⟩, ⟨0, ⟨(some 5), none, (.pure .id), [(.tmp 4)]⟩, []⟩, ⟨0, ⟨(some 6), (some (5, false)), (.pure .id), [(.tmp 0)]⟩, []⟩, ⟨0, ⟨(some 7), (some (5, false)), (.pure .nilck), [(.tmp 6)]⟩, []⟩, ⟨0, ⟨(some 8), (some (5, false)), (.pure (.faddr 0)), [(.tmp 7)]⟩, []⟩, ⟨0, ⟨(some 9), (some (5, false)), (.load (.load 1 false)), [(.tmp 8)]⟩, []⟩, ⟨0, ⟨(some 10), (some (5, false)), (.pure (.un .not)), [(.tmp 9)]⟩, []⟩, ⟨0, ⟨(some 11), none, (.pure .pick), [(.tmp 5), (.const (.bool true)), (.tmp 10)]⟩, []⟩, ⟨0, ⟨(some 2), none, (.pure .id), [(.tmp 11)]⟩, []⟩]) .ret))⟩
theorem c_aig_Maker_none : compF Tryz.prog Tryz.f98 = some G_aig_Maker_none := by kernel_rfl
theorem gc_aig_Maker_none {args : List DV} {σ : GS} {Post : DV → GS → Prop} (h : @exB Tryz.prog ⟨G_aig_Maker_none.body⟩ (genv0 args G_aig_Maker_none.ntmps) σ ⟨@gretB G_aig_Maker_none.results ⟨Post⟩⟩) : GCall Tryz.prog F_aig_Maker_none args σ Post := gcall_ofB seatfollows Tryz.func98 (by kernel_rfl) c_aig_Maker_none h
noncomputable abbrev G_aig_Maker_every : GFun := ⟨20, [(.tmp 4)], (.seq (.region [⟨0, ⟨(some 4), none, (.pure .id), [(.const (.int .i64 0))]⟩, []⟩]) (.seq (.region [⟨0, ⟨(some 5), none, (.pure .id), [(.const (.int .i64 1))]⟩, []⟩]) (.seq (.seq (.region [⟨0, ⟨(some 8), none, (.pure .id), [(.tmp 1)]⟩, []⟩, ⟨0, ⟨(some 9), none, (.pure .len), [(.tmp 8)]⟩, []⟩, ⟨0, ⟨(some 10), none, (.pure .id), [(.const (.int .i64 0))]⟩, []⟩]) (.block 0 (.loop (.seq (.region [⟨0, ⟨(some 11), none, (.pure (.bin .lss .none)), [(.tmp 10), (.tmp 9)]⟩, []⟩]) (.seq (.cond (.tmp 11) .skip (.exit 0)) (.seq (.block 1 (.seq (.region [⟨0, ⟨(some 12), none, (.pure (.iaddr 1)), [(.tmp 8), (.tmp 10)]⟩, []⟩, ⟨0, ⟨(some 13), none, (.load (.load 1 false)), [(.tmp 12)]⟩, []⟩, ⟨0, ⟨(some 7), none, (.pure .id), [(.tmp 13)]⟩, []⟩]) (.region [⟨0, ⟨(some 14), none, (.pure .id), [(.tmp 0)]⟩, []⟩, ⟨0, ⟨(some 15), none, (.pure .id), [(.tmp 5)]⟩, []⟩, ⟨0, ⟨(some 16), none, (.pure .id), [(.tmp 7)]⟩, []⟩, ⟨0, ⟨(some 17), none, (.call F_aig_Maker_and), [(.tmp 14), (.tmp 15), (.tmp 16)]⟩, []⟩, ⟨0, ⟨(some 5), none, (.pure .id), [(.tmp 17)]⟩, []⟩]))) (.region [⟨0, ⟨(some 18), none, (.pure (.bin .add .none)), [(.tmp 10), (.const (.int .i64 1))]⟩, []⟩, ⟨0, ⟨(some 10), none, (.pure .id), [(.tmp 18)]⟩, []⟩]))))))) (.seq (.region [⟨0, ⟨(some 19), none, (.pure .id), [(.tmp 5)]⟩, []⟩, ⟨0, ⟨(some 4), none, (.pure .id), [(.tmp 19)]⟩, []⟩]) .ret))))⟩
theorem c_aig_Maker_every : compF Tryz.prog Tryz.f127 = some G_aig_Maker_every := by kernel_rfl
theorem gc_aig_Maker_every {args : List DV} {σ : GS} {Post : DV → GS → Prop} (h : @exB Tryz.prog ⟨G_aig_Maker_every.body⟩ (genv0 args G_aig_Maker_every.ntmps) σ ⟨@gretB G_aig_Maker_every.results ⟨Post⟩⟩) : GCall Tryz.prog F_aig_Maker_every args σ Post := gcall_ofB seatfollows Tryz.func127 (by kernel_rfl) c_aig_Maker_every h
noncomputable abbrev G_aig_Maker_some : GFun := ⟨22, [(.tmp 4)], (.seq (.region [⟨0, ⟨(some 4), none, (.pure .id), [(.const (.int .i64 0))]⟩, []⟩]) (.seq (.region [⟨0, ⟨(some 5), none, (.pure .id), [(.const (.int .i64 1))]⟩, []⟩]) (.seq (.seq (.region [⟨0, ⟨(some 8), none, (.pure .id), [(.tmp 1)]⟩, []⟩, ⟨0, ⟨(some 9), none, (.pure .len), [(.tmp 8)]⟩, []⟩, ⟨0, ⟨(some 10), none, (.pure .id), [(.const (.int .i64 0))]⟩, []⟩]) (.block 0 (.loop (.seq (.region [⟨0, ⟨(some 11), none, (.pure (.bin .lss .none)), [(.tmp 10), (.tmp 9)]⟩, []⟩]) (.seq (.cond (.tmp 11) .skip (.exit 0)) (.seq (.block 1 (.seq (.region [⟨0, ⟨(some 12), none, (.pure (.iaddr 1)), [(.tmp 8), (.tmp 10)]⟩, []⟩, ⟨0, ⟨(some 13), none, (.load (.load 1 false)), [(.tmp 12)]⟩, []⟩, ⟨0, ⟨(some 7), none, (.pure .id), [(.tmp 13)]⟩, []⟩]) (.region [⟨0, ⟨(some 14), none, (.pure .id), [(.tmp 0)]⟩, []⟩, ⟨0, ⟨(some 15), none, (.pure .id), [(.tmp 5)]⟩, []⟩, ⟨0, ⟨(some 16), none, (.pure .id), [(.tmp 7)]⟩, []⟩, ⟨0, ⟨(some 17), none, (.pure (.bin .xor .none)), [(.tmp 16), (.const (.int .i64 1))]⟩, []⟩, ⟨0, ⟨(some 18), none, (.call F_aig_Maker_and), [(.tmp 14), (.tmp 15), (.tmp 17)]⟩, []⟩, ⟨0, ⟨(some 5), none, (.pure .id), [(.tmp 18)]⟩, []⟩]))) (.region [⟨0, ⟨(some 19), none, (.pure (.bin .add .none)), [(.tmp 10), (.const (.int .i64 1))]⟩, []⟩, ⟨0, ⟨(some 10), none, (.pure .id), [(.tmp 19)]⟩, []⟩]))))))) (.seq (.region [⟨0, ⟨(some 20), none, (.pure .id), [(.tmp 5)]⟩, []⟩, ⟨0, ⟨(some 21), none, (.pure (.bin .xor .none)), [(.tmp 20), (.const (.int .i64 1))]⟩, []⟩, ⟨0, ⟨(some 4), none, (.pure .id), [(.tmp 21)]⟩, []⟩]) .ret))))⟩
theorem c_aig_Maker_some : compF Tryz.prog Tryz.f128 = some G_aig_Maker_some := by kernel_rfl
theorem gc_aig_Maker_some {args : List DV} {σ : GS} {Post : DV → GS → Prop} (h : @exB Tryz.prog ⟨G_aig_Maker_some.body⟩ (genv0 args G_aig_Maker_some.ntmps) σ ⟨@gretB G_aig_Maker_some.results ⟨Post⟩⟩) : GCall Tryz.prog F_aig_Maker_some args σ Post := gcall_ofB seatfollows Tryz.func128 (by kernel_rfl) c_aig_Maker_some h
noncomputable abbrev G_aig_Maker_xor : GFun := ⟨21, [(.tmp 6)], (.seq (.region [⟨0, ⟨(some 6), none, (.pure .id), [(.const (.int .i64 0))]⟩, []⟩]) (.seq (.region [⟨0, ⟨(some 8), none, (.pure .id), [(.tmp 0)]⟩, []⟩, ⟨0, ⟨(some 9), none, (.pure .id), [(.tmp 1)]⟩, []⟩, ⟨0, ⟨(some 10), none, (.pure .id), [(.tmp 2)]⟩, []⟩, ⟨0, ⟨(some 11), none, (.pure (.bin .xor .none)), [(.tmp 10), (.const (.int .i64 1))]⟩, []⟩, ⟨0, ⟨(some 12), none, (.call F_aig_Maker_and), [(.tmp 8), (.tmp 9), (.tmp 11)]⟩, []⟩, ⟨0, ⟨(some 7), none, (.pure .id), [(.tmp 12)]⟩, []⟩]) (.seq (.region [⟨0, ⟨(some 13), none, (.pure .id), [(.tmp 0)]⟩, []⟩, ⟨0, ⟨(some 14), none, (.pure .id), [(.tmp 7)]⟩, []⟩, ⟨0, ⟨(some 15), none, (.pure .id), [(.tmp 0)]⟩, []⟩, ⟨0, ⟨(some 16), none, (.pure .id), [(.tmp 1)]⟩, []⟩, ⟨0, ⟨(some 17), none, (.pure (.bin .xor .none)), [(.tmp 16), (.const (.int .i64 1))]⟩, []⟩, ⟨0, ⟨(some 18), none, (.pure .id), [(.tmp 2)]⟩, []⟩, ⟨0, ⟨(some 19), none, (.call F_aig_Maker_and), [(.tmp 15), (.tmp 17), (.tmp 18)]⟩, []⟩, ⟨0, ⟨(some 20), none, (.call F_aig_Maker_or), [(.tmp 13), (.tmp 14), (.tmp 19)]⟩, []⟩, ⟨0, ⟨(some 6), none, (.pure .id), [(.tmp 20)]⟩, []⟩]) .ret)))⟩
theorem c_aig_Maker_xor : compF Tryz.prog Tryz.f129 = some G_aig_Maker_xor := by kernel_rfl
theorem gc_aig_Maker_xor {args : List DV} {σ : GS} {Post : DV → GS → Prop} (h : @exB Tryz.prog ⟨G_aig_Maker_xor.body⟩ (genv0 args G_aig_Maker_xor.ntmps) σ ⟨@gretB G_aig_Maker_xor.results ⟨Post⟩⟩) : GCall Tryz.prog F_aig_Maker_xor args σ Post := gcall_ofB seatfollows Tryz.func129 (by kernel_rfl) c_aig_Maker_xor h
noncomputable abbrev G_aig_Maker_ite : GFun := ⟨22, [(.tmp 8)], (.seq (.region [⟨0, ⟨(some 8), none, (.pure .id), [(.const (.int .i64 0))]⟩, []⟩]) (.seq (.region [⟨0, ⟨(some 10), none, (.pure .id), [(.tmp 0)]⟩, []⟩, ⟨0, ⟨(some 11), none, (.pure .id), [(.tmp 1)]⟩, []⟩, ⟨0, ⟨(some 12), none, (.pure .id), [(.tmp 2)]⟩, []⟩, ⟨0, ⟨(some 13), none, (.call F_aig_Maker_and), [(.tmp 10), (.tmp 11), (.tmp 12)]⟩, []⟩, ⟨0, ⟨(some 9), none, (.pure .id), [(.tmp 13)]⟩, []⟩]) (.seq (.region [⟨0, ⟨(some 14), none, (.pure .id), [(.tmp 0)]⟩, []⟩, ⟨0, ⟨(some 15), none, (.pure .id), [(.tmp 9)]⟩, []⟩, ⟨0, ⟨(some 16), none, (.pure .id), [(.tmp 0)]⟩, []⟩, ⟨0, ⟨(some 17), none, (.pure .id), [(.tmp 1)]⟩, []⟩, ⟨0, ⟨(some 18), none, (.pure (.bin .xor .none)), [(.tmp 17), (.const (.int .i64 1))]⟩, []⟩, ⟨0, ⟨(some 19), none, (.pure .id), [(.tmp 3)]⟩, []⟩, ⟨0, ⟨(some 20), none, (.call F_aig_Maker_and), [(.tmp 16), (.tmp 18), (.tmp 19)]⟩, []⟩, ⟨0, ⟨(some 21), none, (.call F_aig_Maker_or), [(.tmp 14), (.tmp 15), (.tmp 20)]⟩, []⟩, ⟨0, ⟨(some 8), none, (.pure .id), [(.tmp 21)]⟩, []⟩]) .ret)))⟩
theorem c_aig_Maker_ite : compF Tryz.prog Tryz.f130 = some G_aig_Maker_ite := by kernel_rfl
theorem gc_aig_Maker_ite {args : List DV} {σ : GS} {Post : DV → GS → Prop} (h : @exB Tryz.prog ⟨G_aig_Maker_ite.body⟩ (genv0 args G_aig_Maker_ite.ntmps) σ ⟨@gretB G_aig_Maker_ite.results ⟨Post⟩⟩) : GCall Tryz.prog F_aig_Maker_ite args σ Post := gcall_ofB seatfollows Tryz.func130 (by kernel_rfl) c_aig_Maker_ite h
noncomputable abbrev G_aig_Maker_or : GFun := ⟨14, [(.tmp 6)], (.seq (.region [⟨0, ⟨(some 6), none, (.pure .id), [(.const (.int .i64 0))]⟩, []⟩]) (.seq (.region [⟨0, ⟨(some 7), none, (.pure .id), [(.tmp 0)]⟩, []⟩, ⟨0, ⟨(some 8), none, (.pure .id), [(.tmp 1)]⟩, []⟩, ⟨0, ⟨(some 9), none, (.pure (.bin .xor .none)), [(.tmp 8), (.const (.int .i64 1))]⟩, []⟩, ⟨0, ⟨(some 10), none, (.pure .id), [(.tmp 2)]⟩, []⟩, ⟨0, ⟨(some 11), none, (.pure (.bin .xor .none)), [(.tmp 10), (.const (.int .i64 1))]⟩, []⟩, ⟨0, ⟨(some 12), none, (.call F_aig_Maker_and), [(.tmp 7), (.tmp 9), (.tmp 11)]⟩, []⟩, ⟨0, ⟨(some 13), none, (.pure (.bin .xor .none)), [(.tmp 12), (.const (.int .i64 1))]⟩, []⟩, ⟨0, ⟨(some 6), none, (.pure .id), [(.tmp 13)]⟩, []⟩]) .ret))⟩
theorem c_aig_Maker_or : compF Tryz.prog Tryz.f142 = some G_aig_Maker_or := by kernel_rfl
theorem gc_aig_Maker_or {args : List DV} {σ : GS} {Post : DV → GS → Prop} (h : @exB Tryz.prog ⟨G_aig_Maker_or.body⟩ (genv0 args G_aig_Maker_or.ntmps) σ ⟨@gretB G_aig_Maker_or.results ⟨Post⟩⟩) : GCall Tryz.prog F_aig_Maker_or args σ Post := gcall_ofB seatfollows Tryz.func142 (by kernel_rfl) c_aig_Maker_or h
noncomputable abbrev G_aig_Maker_make : GFun := ⟨71, [(.tmp 6), (.tmp 7)], (.seq (.region [⟨0, ⟨(some 6), none, (.pure .id), [(.const (.int .i64 0))]⟩, []⟩, ⟨0, ⟨(some 7), none, (.pure .id), [(.const (.int .i64 0))]⟩, []⟩]) (.seq (.seq (.region [⟨0, ⟨(some 13), none, (.pure .id), [(.tmp 0)]⟩, []⟩, ⟨0, ⟨(some 14), none, (.call F_aig_Maker_none), [(.tmp 13)]⟩, []⟩]) (.cond (.tmp 14) (.seq (.region [⟨0, ⟨(some 6), none, (.pure .id), [(.const (.int .i64 0))]⟩, []⟩, ⟨0, ⟨(some 7), none, (.pure .id), [(.const (.int .i64 1))]⟩, []⟩]) .ret) .skip)) (.seq (.region [⟨0, ⟨(some 15), none, (.pure .id), [(.tmp 0)]⟩, []⟩, ⟨0, ⟨(some 16), none, (.pure .nilck), [(.tmp 15)]⟩, []⟩, ⟨0, ⟨(some 17), none, (.pure (.faddr 1)), [(.tmp 16)]⟩, []⟩, ⟨0, ⟨(some 18), none, (.load (.load 2 true)), [(.tmp 17)]⟩, []⟩, ⟨0, ⟨(some 19), none, (.call F_aig_nodes), [(.tmp 18)]⟩, []⟩, ⟨0, ⟨(some 20), none, (.pure (.bin .mul .none)), [(.const (.int .i64 2)), (.tmp 19)]⟩, []⟩, ⟨0, ⟨(some 21), none, (.pure (.bin .sub .none)), [(.tmp 20), (.const (.int .i64 1))]⟩, []⟩, ⟨0, ⟨(some 8), none, (.new (.alloc [(.int .i64 0)])), []⟩, []⟩, ⟨0, ⟨none, none, (.imp (.store 1)), [(.tmp 8), (.tmp 21)]⟩, []⟩]) (.seq (.seq (.region [⟨0, ⟨(some 22), none, (.pure .id), [(.tmp 2)]⟩, []⟩, ⟨0, ⟨(some 23), none, (.pure (.mkfunc F_aig_Maker_make_1 0)), [(.tmp 8)]⟩, []⟩, ⟨0, ⟨(some 24), none, (.call F_slices_ContainsFunc_int_int), [(.tmp 22), (.tmp 23)]⟩, []⟩]) (.cond (.tmp 24) (.seq (.region [⟨0, ⟨(some 6), none, (.pure .id), [(.const (.int .i64 0))]⟩, []⟩, ⟨0, ⟨(some 7), none, (.pure .id), [(.const (.int .i64 2))]⟩, []⟩]) .ret) .skip)) (.seq (.region [⟨0, ⟨(some 25), none, (.pure .id), [(.tmp 0)]⟩, []⟩, ⟨0, ⟨(some 26), none, (.pure .nilck), [(.tmp 25)]⟩, []⟩, ⟨0, ⟨(some 27), none, (.pure (.faddr 1)), [(.tmp 26)]⟩, []⟩, ⟨0, ⟨(some 28), none, (.pure (.faddr 1)), [(.tmp 27)]⟩, []⟩, ⟨0, ⟨(some 29), none, (.load (.load 1 false)), [(.tmp 28)]⟩, []⟩, ⟨0, ⟨(some 30), none, (.pure .len), [(.tmp 29)]⟩, []⟩, ⟨0, ⟨(some 9), none, (.pure .id), [(.tmp 30)]⟩, []⟩]) (.seq (.region [⟨0, ⟨(some 31), none, (.pure .id), [(.tmp 1)]⟩, []⟩, ⟨0, ⟨(some 32), none, .callv, [(.tmp 31)]⟩, []⟩, ⟨0, ⟨(some 10), none, (.pure .id), [(.tmp 32)]⟩, []⟩]) (.seq (.seq (.region [⟨0, ⟨(some 33), none, (.pure .id), [(.tmp 0)]⟩, []⟩, ⟨0, ⟨(some 34), none, (.pure .nilck), [(.tmp 33)]⟩, []⟩, ⟨0, ⟨(some 35), none, (.pure (.faddr 5)), [(.tmp 34)]⟩, []⟩, ⟨0, ⟨(some 36), none, (.load (.load 1 false)), [(.tmp 35)]⟩, []⟩, ⟨0, ⟨(some 37), none, (.pure (.un .not)), [(.tmp 36)]⟩, []⟩]) (.cond (.tmp 37) (.seq (.region [⟨0, ⟨(some 38), none, (.pure .id), [(.tmp 10)]⟩, []⟩, ⟨0, ⟨(some 6), none, (.pure .id), [(.tmp 38)]⟩, []⟩, ⟨0, ⟨(some 7), none, (.pure .id), [(.const (.int .i64 0))]⟩, []⟩]) .ret) .skip)) (.seq (.seq (.region [⟨0, ⟨(some 39), none, (.pure .id), [(.tmp 0)]⟩, []⟩, ⟨0, ⟨(some 40), none, (.pure .nilck), [(.tmp 39)]⟩, []⟩, ⟨0, ⟨(some 41), none, (.pure (.faddr 1)), [(.tmp 40)]⟩, []⟩, ⟨0, ⟨(some 42), none, (.pure (.faddr 1)), [(.tmp 41)]⟩, []⟩, ⟨0, ⟨(some 43), none, (.load (.load 1 false)), [(.tmp 42)]⟩, []⟩, ⟨0, ⟨(some 44), none, (.pure .id), [(.tmp 9)]⟩, []⟩, ⟨0, ⟨(some 45), none, (.pure (.slice 2 true false false)), [(.tmp 43), (.tmp 44)]⟩, []⟩, ⟨0, ⟨(some 46), none, (.pure .len), [(.tmp 45)]⟩, []⟩, ⟨0, ⟨(some 47), none, (.pure .id), [(.const (.int .i64 0))]⟩, []⟩]) (.block 0 (.loop (.seq (.region [⟨0, ⟨(some 48), none, (.pure (.bin .lss .none)), [(.tmp 47), (.tmp 46)]⟩, []⟩]) (.seq (.cond (.tmp 48) .skip (.exit 0)) (.seq (.block 1 (.seq (.region [⟨0, ⟨(some 49), none, (.pure (.iaddr 2)), [(.tmp 45), (.tmp 47)]⟩, []⟩, ⟨0, ⟨(some 50), none, (.load (.load 2 true)), [(.tmp 49)]⟩, []⟩, ⟨0, ⟨(some 12), none, (.new (.alloc [(.int .i64 0), (.int .i64 0)])), []⟩, []⟩, ⟨0, ⟨none, none, (.imp (.store 2)), [(.tmp 12), (.tmp 50)]⟩, []⟩]) (.region [⟨0, ⟨(some 51), none, (.pure .id), [(.tmp 0)]⟩, []⟩, ⟨1, ⟨(some 52), none, (.pure .nilck), [(.tmp 51)]⟩, []⟩, ⟨2, ⟨(some 53), none, (.pure (.faddr 3)), [(.tmp 52)]⟩, []⟩, ⟨3, ⟨(some 54), none, (.load (.load 1 false)), [(.tmp 53)]⟩, []⟩, ⟨4, ⟨(some 55), none, (.load (.load 2 true)), [(.tmp 12)]⟩, []⟩, ⟨5, ⟨none, none, (.imp (.mdel (.arr2 .i64))), [(.tmp 54), (.tmp 55)]⟩, []⟩]))) (.region [⟨0, ⟨(some 56), none, (.pure (.bin .add .none)), [(.tmp 47), (.const (.int .i64 1))]⟩, []⟩, ⟨0, ⟨(some 47), none, (.pure .id), [(.tmp 56)]⟩, []⟩]))))))) (.seq (.region [⟨0, ⟨(some 57), none, (.pure .id), [(.tmp 0)]⟩, []⟩, ⟨0, ⟨(some 58), none, (.pure .id), [(.tmp 0)]⟩, []⟩, ⟨0, ⟨(some 59), none, (.pure .id), [(.tmp 0)]⟩, []⟩, ⟨0, ⟨(some 60), none, (.pure .nilck), [(.tmp 59)]⟩, []⟩, ⟨0, ⟨(some 61), none, (.pure (.faddr 1)), [(.tmp 60)]⟩, []⟩, ⟨0, ⟨(some 62), none, (.pure (.faddr 1)), [(.tmp 61)]⟩, []⟩, ⟨0, ⟨(some 63), none, (.load (.load 1 false)), [(.tmp 62)]⟩, []⟩, ⟨0, ⟨(some 64), none, (.pure .id), [(.tmp 9)]⟩, []⟩, ⟨0, ⟨(some 65), none, (.pure (.slice 2 false true false)), [(.tmp 63), (.tmp 64)]⟩, []⟩, ⟨0, ⟨(some 66), none, (.pure .nilck), [(.tmp 57)]⟩, []⟩, ⟨0, ⟨(some 67), none, (.pure (.faddr 1)), [(.tmp 66)]⟩, []⟩, ⟨0, ⟨(some 68), none, (.pure (.faddr 1)), [(.tmp 67)]⟩, []⟩, ⟨0, ⟨none, none, (.imp (.store 1)), [(.tmp 68), (.tmp 65)]⟩, []⟩, ⟨0, ⟨(some 69), none, (.pure .nilck), [(.tmp 58)]⟩, []⟩, ⟨0, ⟨(some 70), none, (.pure (.faddr 5)), [(.tmp 69)]⟩, []⟩, ⟨0, ⟨none, none, (.imp (.store 1)), [(.tmp 70), (.const (.bool false))]⟩, []⟩]) (.seq (.region [⟨0, ⟨(some 6), none, (.pure .id), [(.const (.int .i64 0))]⟩, []⟩, ⟨0, ⟨(some 7), none, (.pure .id), [(.const (.int .i64 3))]⟩, []⟩]) .ret))))))))))⟩
theorem c_aig_Maker_make : compF Tryz.prog Tryz.f138 = some G_aig_Maker_make := by kernel_rfl
theorem gc_aig_Maker_make {args : List DV} {σ : GS} {Post : DV → GS → Prop} (h : @exB Tryz.prog ⟨G_aig_Maker_make.body⟩ (genv0 args G_aig_Maker_make.ntmps) σ ⟨@gretB G_aig_Maker_make.results ⟨Post⟩⟩) : GCall Tryz.prog F_aig_Maker_make args σ Post := gcall_ofB seatfollows Tryz.func138 (by kernel_rfl) c_aig_Maker_make h
noncomputable abbrev G_aig_Maker_make_1 : GFun := ⟨11, [(.tmp 3)], (.seq (.region [⟨0, ⟨(some 3), none, (.pure .id), [(.const (.bool false))]⟩, []⟩]) (.seq (.region [⟨0, ⟨(some 4), none, (.pure .id), [(.tmp 0)]⟩, []⟩, ⟨0, ⟨(some 5), none, (.pure (.bin .lss .none)), [(.tmp 4), (.const (.int .i64 0))]⟩, []⟩, ⟨0, ⟨(some 6), none, (.pure .id), [(.tmp 5)]⟩, []⟩, ⟨0, ⟨(some 7), (some (6, false)), (.pure .id), [(.tmp 0)]⟩, []⟩, ⟨0, ⟨(some 8), (some (6, false)), (.load (.load 1 false)), [(.tmp 1)]⟩, []⟩, ⟨0, ⟨(some 9), (some (6, false)), (.pure (.bin .gtr .none)), [(.tmp 7), (.tmp 8)]⟩, []⟩, ⟨0, ⟨(some 10), none, (.pure .pick), [(.tmp 6), (.const (.bool true)), (.tmp 9)]⟩, []⟩, ⟨0, ⟨(some 3), none, (.pure .id), [(.tmp 10)]⟩, []⟩]) .ret))⟩
theorem c_aig_Maker_make_1 : compF Tryz.prog Tryz.f174 = some G_aig_Maker_make_1 := by kernel_rfl
theorem gc_aig_Maker_make_1 {args : List DV} {σ : GS} {Post : DV → GS → Prop} (h : @exB Tryz.prog ⟨G_aig_Maker_make_1.body⟩ (genv0 args G_aig_Maker_make_1.ntmps) σ ⟨@gretB G_aig_Maker_make_1.results ⟨Post⟩⟩) : GCall Tryz.prog F_aig_Maker_make_1 args σ Post := gcall_ofB seatfollows Tryz.func174 (by kernel_rfl) c_aig_Maker_make_1 h
noncomputable abbrev G_aig_Maker_And_1 : GFun := ⟨8, [(.tmp 3)], (.seq (.region [⟨0, ⟨(some 3), none, (.pure .id), [(.const (.int .i64 0))]⟩, []⟩]) (.seq (.region [⟨0, ⟨(some 4), none, (.load (.load 1 false)), [(.tmp 0)]⟩, []⟩, ⟨0, ⟨(some 5), none, (.load (.load 1 false)), [(.tmp 1)]⟩, []⟩, ⟨0, ⟨(some 6), none, (.load (.load 1 false)), [(.tmp 2)]⟩, []⟩, ⟨0, ⟨(some 7), none, (.call F_aig_Maker_and), [(.tmp 4), (.tmp 5), (.tmp 6)]⟩, []⟩, ⟨0, ⟨(some 3), none, (.pure .id), [(.tmp 7)]⟩, []⟩]) .ret))⟩
theorem c_aig_Maker_And_1 : compF Tryz.prog Tryz.f139 = some G_aig_Maker_And_1 := by kernel_rfl
theorem gc_aig_Maker_And_1 {args : List DV} {σ : GS} {Post : DV → GS → Prop} (h : @exB Tryz.prog ⟨G_aig_Maker_And_1.body⟩ (genv0 args G_aig_Maker_And_1.ntmps) σ ⟨@gretB G_aig_Maker_And_1.results ⟨Post⟩⟩) : GCall Tryz.prog F_aig_Maker_And_1 args σ Post := gcall_ofB seatfollows Tryz.func139 (by kernel_rfl) c_aig_Maker_And_1 h
noncomputable abbrev G_aig_Maker_Or_1 : GFun := ⟨8, [(.tmp 3)], (.seq (.region [⟨0, ⟨(some 3), none, (.pure .id), [(.const (.int .i64 0))]⟩, []⟩]) (.seq (.region [⟨0, ⟨(some 4), none, (.load (.load 1 false)), [(.tmp 0)]⟩, []⟩, ⟨0, ⟨(some 5), none, (.load (.load 1 false)), [(.tmp 1)]⟩, []⟩, ⟨0, ⟨(some 6), none, (.load (.load 1 false)), [(.tmp 2)]⟩, []⟩, ⟨0, ⟨(some 7), none, (.call F_aig_Maker_or), [(.tmp 4), (.tmp 5), (.tmp 6)]⟩, []⟩, ⟨0, ⟨(some 3), none, (.pure .id), [(.tmp 7)]⟩, []⟩]) .ret))⟩
theorem c_aig_Maker_Or_1 : compF Tryz.prog Tryz.f141 = some G_aig_Maker_Or_1 := by kernel_rfl
theorem gc_aig_Maker_Or_1 {args : List DV} {σ : GS} {Post : DV → GS → Prop} (h : @exB Tryz.prog ⟨G_aig_Maker_Or_1.body⟩ (genv0 args G_aig_Maker_Or_1.ntmps) σ ⟨@gretB G_aig_Maker_Or_1.results ⟨Post⟩⟩) : GCall Tryz.prog F_aig_Maker_Or_1 args σ Post := gcall_ofB seatfollows Tryz.func141 (by kernel_rfl) c_aig_Maker_Or_1 h
noncomputable abbrev G_aig_Maker_Xor_1 : GFun := ⟨8, [(.tmp 3)], (.seq (.region [⟨0, ⟨(some 3), none, (.pure .id), [(.const (.int .i64 0))]⟩, []⟩]) (.seq (.region [⟨0, ⟨(some 4), none, (.load (.load 1 false)), [(.tmp 0)]⟩, []⟩, ⟨0, ⟨(some 5), none, (.load (.load 1 false)), [(.tmp 1)]⟩, []⟩, ⟨0, ⟨(some 6), none, (.load (.load 1 false)), [(.tmp 2)]⟩, []⟩, ⟨0, ⟨(some 7), none, (.call F_aig_Maker_xor), [(.tmp 4), (.tmp 5), (.tmp 6)]⟩, []⟩, ⟨0, ⟨(some 3), none, (.pure .id), [(.tmp 7)]⟩, []⟩]) .ret))⟩
theorem c_aig_Maker_Xor_1 : compF Tryz.prog Tryz.f143 = some G_aig_Maker_Xor_1 := by kernel_rfl
theorem gc_aig_Maker_Xor_1 {args : List DV} {σ : GS} {Post : DV → GS → Prop} (h : @exB Tryz.prog ⟨G_aig_Maker_Xor_1.body⟩ (genv0 args G_aig_Maker_Xor_1.ntmps) σ ⟨@gretB G_aig_Maker_Xor_1.results ⟨Post⟩⟩) : GCall Tryz.prog F_aig_Maker_Xor_1 args σ Post := gcall_ofB seatfollows Tryz.func143 (by kernel_rfl) c_aig_Maker_Xor_1 h
noncomputable abbrev G_aig_Maker_Ite_1 : GFun := ⟨10, [(.tmp 4)], (.seq (.region [⟨0, ⟨(some 4), none, (.pure .id), [(.const (.int .i64 0))]⟩, []⟩]) (.seq (.region [⟨0, ⟨(some 5), none, (.load (.load 1 false)), [(.tmp 0)]⟩, []⟩, ⟨0, ⟨(some 6), none, (.load (.load 1 false)), [(.tmp 1)]⟩, []⟩, ⟨0, ⟨(some 7), none, (.load (.load 1 false)), [(.tmp 2)]⟩, []⟩, ⟨0, ⟨(some 8), none, (.load (.load 1 false)), [(.tmp 3)]⟩, []⟩, ⟨0, ⟨(some 9), none, (.call F_aig_Maker_ite), [(.tmp 5), (.tmp 6), (.tmp 7), (.tmp 8)]⟩, []⟩, ⟨0, ⟨(some 4), none, (.pure .id), [(.tmp 9)]⟩, []⟩]) .ret))⟩
theorem c_aig_Maker_Ite_1 : compF Tryz.prog Tryz.f153 = some G_aig_Maker_Ite_1 := by kernel_rfl
theorem gc_aig_Maker_Ite_1 {args : List DV} {σ : GS} {Post : DV → GS → Prop} (h : @exB Tryz.prog ⟨G_aig_Maker_Ite_1.body⟩ (genv0 args G_aig_Maker_Ite_1.ntmps) σ ⟨@gretB G_aig_Maker_Ite_1.results ⟨Post⟩⟩) : GCall Tryz.prog F_aig_Maker_Ite_1 args σ Post := gcall_ofB seatfollows Tryz.func153 (by kernel_rfl) c_aig_Maker_Ite_1 h
noncomputable abbrev G_aig_Maker_All_1 : GFun := ⟨6, [(.tmp 2)], (.seq (.region [⟨0, ⟨(some 2), none, (.pure .id), [(.const (.int .i64 0))]⟩, []⟩]) (.seq (.region [⟨0, ⟨(some 3), none, (.load (.load 1 false)), [(.tmp 0)]⟩, []⟩, ⟨0, ⟨(some 4), none, (.load (.load 1 false)), [(.tmp 1)]⟩, []⟩, ⟨0, ⟨(some 5), none, (.call F_aig_Maker_every), [(.tmp 3), (.tmp 4)]⟩, []⟩, ⟨0, ⟨(some 2), none, (.pure .id), [(.tmp 5)]⟩, []⟩]) .ret))⟩
theorem c_aig_Maker_All_1 : compF Tryz.prog Tryz.f155 = some G_aig_Maker_All_1 := by kernel_rfl
theorem gc_aig_Maker_All_1 {args : List DV} {σ : GS} {Post : DV → GS → Prop} (h : @exB Tryz.prog ⟨G_aig_Maker_All_1.body⟩ (genv0 args G_aig_Maker_All_1.ntmps) σ ⟨@gretB G_aig_Maker_All_1.results ⟨Post⟩⟩) : GCall Tryz.prog F_aig_Maker_All_1 args σ Post := gcall_ofB seatfollows Tryz.func155 (by kernel_rfl) c_aig_Maker_All_1 h
noncomputable abbrev G_aig_Maker_Any_1 : GFun := ⟨6, [(.tmp 2)], (.seq (.region [⟨0, ⟨(some 2), none, (.pure .id), [(.const (.int .i64 0))]⟩, []⟩]) (.seq (.region [⟨0, ⟨(some 3), none, (.load (.load 1 false)), [(.tmp 0)]⟩, []⟩, ⟨0, ⟨(some 4), none, (.load (.load 1 false)), [(.tmp 1)]⟩, []⟩, ⟨0, ⟨(some 5), none, (.call F_aig_Maker_some), [(.tmp 3), (.tmp 4)]⟩, []⟩, ⟨0, ⟨(some 2), none, (.pure .id), [(.tmp 5)]⟩, []⟩]) .ret))⟩
theorem c_aig_Maker_Any_1 : compF Tryz.prog Tryz.f157 = some G_aig_Maker_Any_1 := by kernel_rfl
theorem gc_aig_Maker_Any_1 {args : List DV} {σ : GS} {Post : DV → GS → Prop} (h : @exB Tryz.prog ⟨G_aig_Maker_Any_1.body⟩ (genv0 args G_aig_Maker_Any_1.ntmps) σ ⟨@gretB G_aig_Maker_Any_1.results ⟨Post⟩⟩) : GCall Tryz.prog F_aig_Maker_Any_1 args σ Post := gcall_ofB seatfollows Tryz.func157 (by kernel_rfl) c_aig_Maker_Any_1 h
noncomputable abbrev G_aig_Maker_Graft_1 : GFun := ⟨13, [(.tmp 5)], (.seq (.region [⟨0, ⟨(some 5), none, (.pure .id), [(.const (.int .i64 0))]⟩, []⟩]) (.seq (.region [⟨0, ⟨(some 6), none, (.load (.load 1 false)), [(.tmp 0)]⟩, []⟩, ⟨1, ⟨(some 7), none, (.load (.load 1 false)), [(.tmp 1)]⟩, []⟩, ⟨2, ⟨(some 8), none, (.load (.load 2 true)), [(.tmp 2)]⟩, []⟩, ⟨3, ⟨(some 9), none, (.load (.load 1 false)), [(.tmp 0)]⟩, []⟩, ⟨4, ⟨(some 10), none, (.pure (.mkfunc F_aig_Maker_Graft_1_1 0)), [(.tmp 3), (.tmp 1)]⟩, []⟩, ⟨5, ⟨(some 11), none, (.call F_aig_Maker_copied), [(.tmp 7), (.tmp 8), (.tmp 9), (.tmp 10)]⟩, [⟨(some 6), none, (.load (.load 1 false)), [(.tmp 0)]⟩]⟩, ⟨6, ⟨(some 12), none, (.call F_aig_each), [(.tmp 6), (.tmp 11)]⟩, []⟩, ⟨7, ⟨none, none, (.imp (.store 1)), [(.tmp 4), (.tmp 12)]⟩, []⟩]) (.seq (.region [⟨0, ⟨(some 5), none, (.pure .id), [(.const (.int .i64 0))]⟩, []⟩]) .ret)))⟩
theorem c_aig_Maker_Graft_1 : compF Tryz.prog Tryz.f159 = some G_aig_Maker_Graft_1 := by kernel_rfl
theorem gc_aig_Maker_Graft_1 {args : List DV} {σ : GS} {Post : DV → GS → Prop} (h : @exB Tryz.prog ⟨G_aig_Maker_Graft_1.body⟩ (genv0 args G_aig_Maker_Graft_1.ntmps) σ ⟨@gretB G_aig_Maker_Graft_1.results ⟨Post⟩⟩) : GCall Tryz.prog F_aig_Maker_Graft_1 args σ Post := gcall_ofB seatfollows Tryz.func159 (by kernel_rfl) c_aig_Maker_Graft_1 h
noncomputable abbrev G_aig_Maker_Graft_1_1 : GFun := ⟨18, [(.tmp 4)], (.seq (.region [⟨0, ⟨(some 4), none, (.pure .id), [(.const (.int .i64 0))]⟩, []⟩]) (.seq (.seq (.region [⟨0, ⟨(some 8), none, (.load (.load 1 false)), [(.tmp 1)]⟩, []⟩, ⟨0, ⟨(some 9), none, (.pure .id), [(.tmp 0)]⟩, []⟩, ⟨0, ⟨(some 10), none, (.load (.lookup (.int .i64) (.int .i64 0) true)), [(.tmp 8), (.tmp 9)]⟩, []⟩, ⟨0, ⟨(some 7), none, (.pure .id), [(.tmp 10)]⟩, []⟩, ⟨0, ⟨(some 11), none, (.pure (.extract 0)), [(.tmp 7)]⟩, []⟩, ⟨0, ⟨(some 12), none, (.pure (.extract 1)), [(.tmp 7)]⟩, []⟩, ⟨0, ⟨(some 5), none, (.pure .id), [(.tmp 11)]⟩, []⟩, ⟨0, ⟨(some 6), none, (.pure .id), [(.tmp 12)]⟩, []⟩]) (.seq (.region [⟨0, ⟨(some 13), none, (.pure .id), [(.tmp 6)]⟩, []⟩]) (.cond (.tmp 13) (.seq (.region [⟨0, ⟨(some 14), none, (.pure .id), [(.tmp 5)]⟩, []⟩, ⟨0, ⟨(some 4), none, (.pure .id), [(.tmp 14)]⟩, []⟩]) .ret) .skip))) (.seq (.region [⟨0, ⟨(some 15), none, (.load (.load 1 false)), [(.tmp 2)]⟩, []⟩, ⟨0, ⟨(some 16), none, (.pure .id), [(.tmp 0)]⟩, []⟩, ⟨0, ⟨(some 17), none, (.call F_aig_Maker_own), [(.tmp 15), (.tmp 16)]⟩, []⟩, ⟨0, ⟨(some 4), none, (.pure .id), [(.tmp 17)]⟩, []⟩]) .ret)))⟩
theorem c_aig_Maker_Graft_1_1 : compF Tryz.prog Tryz.f160 = some G_aig_Maker_Graft_1_1 := by kernel_rfl
theorem gc_aig_Maker_Graft_1_1 {args : List DV} {σ : GS} {Post : DV → GS → Prop} (h : @exB Tryz.prog ⟨G_aig_Maker_Graft_1_1.body⟩ (genv0 args G_aig_Maker_Graft_1_1.ntmps) σ ⟨@gretB G_aig_Maker_Graft_1_1.results ⟨Post⟩⟩) : GCall Tryz.prog F_aig_Maker_Graft_1_1 args σ Post := gcall_ofB seatfollows Tryz.func160 (by kernel_rfl) c_aig_Maker_Graft_1_1 h
noncomputable abbrev G_skolemref06_Maker_all : GFun := ⟨22, [(.tmp 4)], (.seq (.region [⟨0, ⟨(some 4), none, (.pure .id), [(.const (.bool false))]⟩, []⟩]) (.seq (.seq (.region [⟨0, ⟨(some 5), none, (.pure .id), [(.const (.int .i64 0))]⟩, []⟩]) (.block 0 (.loop (.seq (.seq (.region [⟨0, ⟨(some 6), none, (.pure .id), [(.tmp 5)]⟩, []⟩, ⟨0, ⟨(some 7), none, (.pure .id), [(.tmp 1)]⟩, []⟩, ⟨0, ⟨(some 8), none, (.pure .len), [(.tmp 7)]⟩, []⟩, ⟨0, ⟨(some 9), none, (.pure (.bin .lss .none)), [(.tmp 6), (.tmp 8)]⟩, []⟩]) (.cond (.tmp 9) .skip (.exit 0))) (.seq (.block 1 (.seq (.region [⟨0, ⟨(some 12), none, (.pure .id), [(.tmp 0)]⟩, []⟩, ⟨1, ⟨(some 13), none, (.pure .nilck), [(.tmp 12)]⟩, []⟩, ⟨2, ⟨(some 14), none, (.pure (.faddr 0)), [(.tmp 13)]⟩, []⟩, ⟨3, ⟨(some 15), none, (.load (.load 2 true)), [(.tmp 14)]⟩, []⟩, ⟨4, ⟨(some 16), none, (.pure .id), [(.tmp 1)]⟩, []⟩, ⟨5, ⟨(some 17), none, (.pure .id), [(.tmp 5)]⟩, []⟩, ⟨6, ⟨(some 18), none, (.pure (.iaddr 1)), [(.tmp 16), (.tmp 17)]⟩, []⟩, ⟨7, ⟨(some 19), none, (.load (.load 1 false)), [(.tmp 18)]⟩, []⟩, ⟨8, ⟨(some 20), none, (.call F_skolemref06_has), [(.tmp 15), (.tmp 19)]⟩, []⟩, ⟨9, ⟨(some 21), none, (.pure (.un .not)), [(.tmp 20)]⟩, []⟩]) (.cond (.tmp 21) (.seq (.region [⟨0, ⟨(some 4), none, (.pure .id), [(.const (.bool false))]⟩, []⟩]) .ret) .skip))) (.region [⟨0, ⟨(some 10), none, (.pure .id), [(.tmp 5)]⟩, []⟩, ⟨0, ⟨(some 11), none, (.pure (.bin .add .none)), [(.tmp 10), (.const (.int .i64 1))]⟩, []⟩, ⟨0, ⟨(some 5), none, (.pure .id), [(.tmp 11)]⟩, []⟩])))))) (.seq (.region [⟨0, ⟨(some 4), none, (.pure .id), [(.const (.bool true))]⟩, []⟩]) .ret)))⟩
theorem c_skolemref06_Maker_all : compF Tryz.prog Tryz.f149 = some G_skolemref06_Maker_all := by kernel_rfl
theorem gc_skolemref06_Maker_all {args : List DV} {σ : GS} {Post : DV → GS → Prop} (h : @exB Tryz.prog ⟨G_skolemref06_Maker_all.body⟩ (genv0 args G_skolemref06_Maker_all.ntmps) σ ⟨@gretB G_skolemref06_Maker_all.results ⟨Post⟩⟩) : GCall Tryz.prog F_skolemref06_Maker_all args σ Post := gcall_ofB seatfollows Tryz.func149 (by kernel_rfl) c_skolemref06_Maker_all h
noncomputable abbrev G_skolemref06_Maker_done : GFun := ⟨27, [(.tmp 6), (.tmp 7)], (.seq (.region [⟨0, ⟨(some 6), none, (.pure .id), [(.const (.int .i64 0))]⟩, []⟩, ⟨0, ⟨(some 7), none, (.pure .id), [(.const (.int .i64 0))]⟩, []⟩]) (.seq (.seq (.region [⟨0, ⟨(some 8), none, (.pure .id), [(.tmp 0)]⟩, []⟩, ⟨0, ⟨(some 9), none, (.pure .nilck), [(.tmp 8)]⟩, []⟩, ⟨0, ⟨(some 10), none, (.pure (.faddr 2)), [(.tmp 9)]⟩, []⟩, ⟨0, ⟨(some 11), none, (.load (.load 1 false)), [(.tmp 10)]⟩, []⟩]) (.cond (.tmp 11) (.seq (.region [⟨0, ⟨(some 12), none, (.pure .id), [(.tmp 0)]⟩, []⟩, ⟨0, ⟨(some 13), none, (.pure .nilck), [(.tmp 12)]⟩, []⟩, ⟨0, ⟨(some 14), none, (.pure (.faddr 2)), [(.tmp 13)]⟩, []⟩, ⟨0, ⟨none, none, (.imp (.store 1)), [(.tmp 14), (.const (.bool false))]⟩, []⟩]) (.seq (.region [⟨0, ⟨(some 15), none, (.pure .id), [(.tmp 0)]⟩, []⟩, ⟨0, ⟨(some 16), none, (.pure .id), [(.tmp 0)]⟩, []⟩, ⟨0, ⟨(some 17), none, (.pure .nilck), [(.tmp 16)]⟩, []⟩, ⟨0, ⟨(some 18), none, (.pure (.faddr 0)), [(.tmp 17)]⟩, []⟩, ⟨0, ⟨(some 19), none, (.pure (.faddr 1)), [(.tmp 18)]⟩, []⟩, ⟨0, ⟨(some 20), none, (.load (.load 1 false)), [(.tmp 19)]⟩, []⟩, ⟨0, ⟨(some 21), none, (.pure .id), [(.tmp 1)]⟩, []⟩, ⟨0, ⟨(some 22), none, (.pure (.slice 2 false true false)), [(.tmp 20), (.tmp 21)]⟩, []⟩, ⟨0, ⟨(some 23), none, (.pure .nilck), [(.tmp 15)]⟩, []⟩, ⟨0, ⟨(some 24), none, (.pure (.faddr 0)), [(.tmp 23)]⟩, []⟩, ⟨0, ⟨(some 25), none, (.pure (.faddr 1)), [(.tmp 24)]⟩, []⟩, ⟨0, ⟨none, none, (.imp (.store 1)), [(.tmp 25), (.tmp 22)]⟩, []⟩]) (.seq (.region [⟨0, ⟨(some 6), none, (.pure .id), [(.const (.int .i64 0))]⟩, []⟩, ⟨0, ⟨(some 7), none, (.pure .id), [(.const (.int .i64 3))]⟩, []⟩]) .ret))) .skip)) (.seq (.region [⟨0, ⟨(some 26), none, (.pure .id), [(.tmp 2)]⟩, []⟩, ⟨0, ⟨(some 6), none, (.pure .id), [(.tmp 26)]⟩, []⟩, ⟨0, ⟨(some 7), none, (.pure .id), [(.const (.int .i64 0))]⟩, []⟩]) .ret)))⟩
theorem c_skolemref06_Maker_done : compF Tryz.prog Tryz.f150 = some G_skolemref06_Maker_done := by kernel_rfl
theorem gc_skolemref06_Maker_done {args : List DV} {σ : GS} {Post : DV → GS → Prop} (h : @exB Tryz.prog ⟨G_skolemref06_Maker_done.body⟩ (genv0 args G_skolemref06_Maker_done.ntmps) σ ⟨@gretB G_skolemref06_Maker_done.results ⟨Post⟩⟩) : GCall Tryz.prog F_skolemref06_Maker_done args σ Post := gcall_ofB seatfollows Tryz.func150 (by kernel_rfl) c_skolemref06_Maker_done h
noncomputable abbrev G_skolemref06_Maker_Disj : GFun := ⟨14, [(.tmp 6)], (.seq (.region [⟨0, ⟨(some 6), none, (.pure .id), [(.const (.int .i64 0))]⟩, []⟩]) (.seq (.region [⟨0, ⟨(some 7), none, (.pure .id), [(.tmp 0)]⟩, []⟩, ⟨0, ⟨(some 8), none, (.pure .id), [(.tmp 1)]⟩, []⟩, ⟨0, ⟨(some 9), none, (.call F_skolemref06_Not), [(.tmp 8)]⟩, []⟩, ⟨0, ⟨(some 10), none, (.pure .id), [(.tmp 2)]⟩, []⟩, ⟨0, ⟨(some 11), none, (.call F_skolemref06_Not), [(.tmp 10)]⟩, []⟩, ⟨0, ⟨(some 12), none, (.call F_skolemref06_Maker_Conj), [(.tmp 7), (.tmp 9), (.tmp 11)]⟩, []⟩, ⟨0, ⟨(some 13), none, (.call F_skolemref06_Not), [(.tmp 12)]⟩, []⟩, ⟨0, ⟨(some 6), none, (.pure .id), [(.tmp 13)]⟩, []⟩]) .ret))⟩
theorem c_skolemref06_Maker_Disj : compF Tryz.prog Tryz.f151 = some G_skolemref06_Maker_Disj := by kernel_rfl
theorem gc_skolemref06_Maker_Disj {args : List DV} {σ : GS} {Post : DV → GS → Prop} (h : @exB Tryz.prog ⟨G_skolemref06_Maker_Disj.body⟩ (genv0 args G_skolemref06_Maker_Disj.ntmps) σ ⟨@gretB G_skolemref06_Maker_Disj.results ⟨Post⟩⟩) : GCall Tryz.prog F_skolemref06_Maker_Disj args σ Post := gcall_ofB seatfollows Tryz.func151 (by kernel_rfl) c_skolemref06_Maker_Disj h
noncomputable abbrev G_skolemref06_Maker_Excl : GFun := ⟨23, [(.tmp 6)], (.seq (.region [⟨0, ⟨(some 6), none, (.pure .id), [(.const (.int .i64 0))]⟩, []⟩]) (.seq (.region [⟨0, ⟨(some 9), none, (.pure .id), [(.tmp 0)]⟩, []⟩, ⟨0, ⟨(some 10), none, (.pure .id), [(.tmp 1)]⟩, []⟩, ⟨0, ⟨(some 11), none, (.pure .id), [(.tmp 2)]⟩, []⟩, ⟨0, ⟨(some 12), none, (.call F_skolemref06_Not), [(.tmp 11)]⟩, []⟩, ⟨0, ⟨(some 13), none, (.call F_skolemref06_Maker_Conj), [(.tmp 9), (.tmp 10), (.tmp 12)]⟩, []⟩, ⟨0, ⟨(some 7), none, (.pure .id), [(.tmp 13)]⟩, []⟩]) (.seq (.region [⟨0, ⟨(some 14), none, (.pure .id), [(.tmp 0)]⟩, []⟩, ⟨0, ⟨(some 15), none, (.pure .id), [(.tmp 1)]⟩, []⟩, ⟨0, ⟨(some 16), none, (.call F_skolemref06_Not), [(.tmp 15)]⟩, []⟩, ⟨0, ⟨(some 17), none, (.pure .id), [(.tmp 2)]⟩, []⟩, ⟨0, ⟨(some 18), none, (.call F_skolemref06_Maker_Conj), [(.tmp 14), (.tmp 16), (.tmp 17)]⟩, []⟩, ⟨0, ⟨(some 8), none, (.pure .id), [(.tmp 18)]⟩, []⟩]) (.seq (.region [⟨0, ⟨(some 19), none, (.pure .id), [(.tmp 0)]⟩, []⟩, ⟨0, ⟨(some 20), none, (.pure .id), [(.tmp 7)]⟩, []⟩, ⟨0, ⟨(some 21), none, (.pure .id), [(.tmp 8)]⟩, []⟩, ⟨0, ⟨(some 22), none, (.call F_skolemref06_Maker_Disj), [(.tmp 19), (.tmp 20), (.tmp 21)]⟩, []⟩, ⟨0, ⟨(some 6), none, (.pure .id), [(.tmp 22)]⟩, []⟩]) .ret))))⟩
theorem c_skolemref06_Maker_Excl : compF Tryz.prog Tryz.f152 = some G_skolemref06_Maker_Excl := by kernel_rfl
theorem gc_skolemref06_Maker_Excl {args : List DV} {σ : GS} {Post : DV → GS → Prop} (h : @exB Tryz.prog ⟨G_skolemref06_Maker_Excl.body⟩ (genv0 args G_skolemref06_Maker_Excl.ntmps) σ ⟨@gretB G_skolemref06_Maker_Excl.results ⟨Post⟩⟩) : GCall Tryz.prog F_skolemref06_Maker_Excl args σ Post := gcall_ofB seatfollows Tryz.func152 (by kernel_rfl) c_skolemref06_Maker_Excl h
noncomputable abbrev G_skolemref06_Maker_Choice : GFun := ⟨24, [(.tmp 8)], (.seq (.region [⟨0, ⟨(some 8), none, (.pure .id), [(.const (.int .i64 0))]⟩, []⟩]) (.seq (.region [⟨0, ⟨(some 11), none, (.pure .id), [(.tmp 0)]⟩, []⟩, ⟨0, ⟨(some 12), none, (.pure .id), [(.tmp 1)]⟩, []⟩, ⟨0, ⟨(some 13), none, (.pure .id), [(.tmp 2)]⟩, []⟩, ⟨0, ⟨(some 14), none, (.call F_skolemref06_Maker_Conj), [(.tmp 11), (.tmp 12), (.tmp 13)]⟩, []⟩, ⟨0, ⟨(some 9), none, (.pure .id), [(.tmp 14)]⟩, []⟩]) (.seq (.region [⟨0, ⟨(some 15), none, (.pure .id), [(.tmp 0)]⟩, []⟩, ⟨0, ⟨(some 16), none, (.pure .id), [(.tmp 1)]⟩, []⟩, ⟨0, ⟨(some 17), none, (.call F_skolemref06_Not), [(.tmp 16)]⟩, []⟩, ⟨0, ⟨(some 18), none, (.pure .id), [(.tmp 3)]⟩, []⟩, ⟨0, ⟨(some 19), none, (.call F_skolemref06_Maker_Conj), [(.tmp 15), (.tmp 17), (.tmp 18)]⟩, []⟩, ⟨0, ⟨(some 10), none, (.pure .id), [(.tmp 19)]⟩, []⟩]) (.seq (.region [⟨0, ⟨(some 20), none, (.pure .id), [(.tmp 0)]⟩, []⟩, ⟨0, ⟨(some 21), none, (.pure .id), [(.tmp 9)]⟩, []⟩, ⟨0, ⟨(some 22), none, (.pure .id), [(.tmp 10)]⟩, []⟩, ⟨0, ⟨(some 23), none, (.call F_skolemref06_Maker_Disj), [(.tmp 20), (.tmp 21), (.tmp 22)]⟩, []⟩, ⟨0, ⟨(some 8), none, (.pure .id), [(.tmp 23)]⟩, []⟩]) .ret))))⟩
theorem c_skolemref06_Maker_Choice : compF Tryz.prog Tryz.f154 = some G_skolemref06_Maker_Choice := by kernel_rfl
theorem gc_skolemref06_Maker_Choice {args : List DV} {σ : GS} {Post : DV → GS → Prop} (h : @exB Tryz.prog ⟨G_skolemref06_Maker_Choice.body⟩ (genv0 args G_skolemref06_Maker_Choice.ntmps) σ ⟨@gretB G_skolemref06_Maker_Choice.results ⟨Post⟩⟩) : GCall Tryz.prog F_skolemref06_Maker_Choice args σ Post := gcall_ofB seatfollows Tryz.func154 (by kernel_rfl) c_skolemref06_Maker_Choice h
noncomputable abbrev G_skolemref06_Maker_Conjs : GFun := ⟨21, [(.tmp 4)], (.seq (.region [⟨0, ⟨(some 4), none, (.pure .id), [(.const (.int .i64 0))]⟩, []⟩]) (.seq (.region [⟨0, ⟨(some 5), none, (.pure .id), [(.const (.int .i64 1))]⟩, []⟩]) (.seq (.seq (.region [⟨0, ⟨(some 6), none, (.pure .id), [(.const (.int .i64 0))]⟩, []⟩]) (.block 0 (.loop (.seq (.seq (.region [⟨0, ⟨(some 7), none, (.pure .id), [(.tmp 6)]⟩, []⟩, ⟨0, ⟨(some 8), none, (.pure .id), [(.tmp 1)]⟩, []⟩, ⟨0, ⟨(some 9), none, (.pure .len), [(.tmp 8)]⟩, []⟩, ⟨0, ⟨(some 10), none, (.pure (.bin .lss .none)), [(.tmp 7), (.tmp 9)]⟩, []⟩]) (.cond (.tmp 10) .skip (.exit 0))) (.seq (.block 1 (.region [⟨0, ⟨(some 13), none, (.pure .id), [(.tmp 0)]⟩, []⟩, ⟨0, ⟨(some 14), none, (.pure .id), [(.tmp 5)]⟩, []⟩, ⟨0, ⟨(some 15), none, (.pure .id), [(.tmp 1)]⟩, []⟩, ⟨0, ⟨(some 16), none, (.pure .id), [(.tmp 6)]⟩, []⟩, ⟨0, ⟨(some 17), none, (.pure (.iaddr 1)), [(.tmp 15), (.tmp 16)]⟩, []⟩, ⟨0, ⟨(some 18), none, (.load (.load 1 false)), [(.tmp 17)]⟩, []⟩, ⟨0, ⟨(some 19), none, (.call F_skolemref06_Maker_Conj), [(.tmp 13), (.tmp 14), (.tmp 18)]⟩, []⟩, ⟨0, ⟨(some 5), none, (.pure .id), [(.tmp 19)]⟩, []⟩])) (.region [⟨0, ⟨(some 11), none, (.pure .id), [(.tmp 6)]⟩, []⟩, ⟨0, ⟨(some 12), none, (.pure (.bin .add .none)), [(.tmp 11), (.const (.int .i64 1))]⟩, []⟩, ⟨0, ⟨(some 6), none, (.pure .id), [(.tmp 12)]⟩, []⟩])))))) (.seq (.region [⟨0, ⟨(some 20), none, (.pure .id), [(.tmp 5)]⟩, []⟩, ⟨0, ⟨(some 4), none, (.pure .id), [(.tmp 20)]⟩, []⟩]) .ret))))⟩
theorem c_skolemref06_Maker_Conjs : compF Tryz.prog Tryz.f156 = some G_skolemref06_Maker_Conjs := by kernel_rfl
theorem gc_skolemref06_Maker_Conjs {args : List DV} {σ : GS} {Post : DV → GS → Prop} (h : @exB Tryz.prog ⟨G_skolemref06_Maker_Conjs.body⟩ (genv0 args G_skolemref06_Maker_Conjs.ntmps) σ ⟨@gretB G_skolemref06_Maker_Conjs.results ⟨Post⟩⟩) : GCall Tryz.prog F_skolemref06_Maker_Conjs args σ Post := gcall_ofB seatfollows Tryz.func156 (by kernel_rfl) c_skolemref06_Maker_Conjs h
noncomputable abbrev G_skolemref06_Nots : GFun := ⟨20, [(.tmp 2)], (.seq (.region [⟨0, ⟨(some 2), none, (.pure .id), [(.const .nils)]⟩, []⟩]) (.seq (.region [⟨0, ⟨(some 3), none, (.pure .id), [(.const .nils)]⟩, []⟩]) (.seq (.seq (.region [⟨0, ⟨(some 4), none, (.pure .id), [(.const (.int .i64 0))]⟩, []⟩]) (.block 0 (.loop (.seq (.seq (.region [⟨0, ⟨(some 5), none, (.pure .id), [(.tmp 4)]⟩, []⟩, ⟨0, ⟨(some 6), none, (.pure .id), [(.tmp 0)]⟩, []⟩, ⟨0, ⟨(some 7), none, (.pure .len), [(.tmp 6)]⟩, []⟩, ⟨0, ⟨(some 8), none, (.pure (.bin .lss .none)), [(.tmp 5), (.tmp 7)]⟩, []⟩]) (.cond (.tmp 8) .skip (.exit 0))) (.seq (.block 1 (.region [⟨0, ⟨(some 11), none, (.pure .id), [(.tmp 3)]⟩, []⟩, ⟨0, ⟨(some 12), none, (.pure .id), [(.tmp 0)]⟩, []⟩, ⟨0, ⟨(some 13), none, (.pure .id), [(.tmp 4)]⟩, []⟩, ⟨0, ⟨(some 14), none, (.pure (.iaddr 1)), [(.tmp 12), (.tmp 13)]⟩, []⟩, ⟨0, ⟨(some 15), none, (.load (.load 1 false)), [(.tmp 14)]⟩, []⟩, ⟨0, ⟨(some 16), none, (.call F_skolemref06_Not), [(.tmp 15)]⟩, []⟩, ⟨0, ⟨(some 17), none, (.new (.bslice 1 [(.int .i64 0)] 1 [(0, 1)])), [(.tmp 16)]⟩, []⟩, ⟨0, ⟨(some 18), none, (.imp (.append 1 8)), [(.tmp 11), (.tmp 17)]⟩, []⟩, ⟨0, ⟨(some 3), none, (.pure .id), [(.tmp 18)]⟩, []⟩])) (.region [⟨0, ⟨(some 9), none, (.pure .id), [(.tmp 4)]⟩, []⟩, ⟨0, ⟨(some 10), none, (.pure (.bin .add .none)), [(.tmp 9), (.const (.int .i64 1))]⟩, []⟩, ⟨0, ⟨(some 4), none, (.pure .id), [(.tmp 10)]⟩, []⟩])))))) (.seq (.region [⟨0, ⟨(some 19), none, (.pure .id), [(.tmp 3)]⟩, []⟩, ⟨0, ⟨(some 2), none, (.pure .id), [(.tmp 19)]⟩, []⟩]) .ret))))⟩
theorem c_skolemref06_Nots : compF Tryz.prog Tryz.f158 = some G_skolemref06_Nots := by kernel_rfl
theorem gc_skolemref06_Nots {args : List DV} {σ : GS} {Post : DV → GS → Prop} (h : @exB Tryz.prog ⟨G_skolemref06_Nots.body⟩ (genv0 args G_skolemref06_Nots.ntmps) σ ⟨@gretB G_skolemref06_Nots.results ⟨Post⟩⟩) : GCall Tryz.prog F_skolemref06_Nots args σ Post := gcall_ofB seatfollows Tryz.func158 (by kernel_rfl) c_skolemref06_Nots h
noncomputable abbrev G_skolemlaw06_step : GFun := ⟨220, [(.tmp 6)], (.seq (.region [⟨0, ⟨(some 5), none, (.new .box), [(.tmp 2)]⟩, []⟩, ⟨0, ⟨(some 6), none, (.pure .id), [(.const (.bool false))]⟩, []⟩]) (.seq (.region [⟨0, ⟨(some 7), none, (.pure .id), [(.const (.int .i64 0))]⟩, []⟩, ⟨0, ⟨(some 8), none, (.pure .id), [(.const (.int .i64 0))]⟩, []⟩, ⟨0, ⟨(some 9), none, (.pure .id), [(.const (.int .i64 0))]⟩, []⟩]) (.seq (.region [⟨0, ⟨(some 10), none, (.pure .id), [(.const (.int .i64 0))]⟩, []⟩]) (.seq (.seq (.region [⟨0, ⟨(some 19), none, (.pure (.faddr 0)), [(.tmp 5)]⟩, []⟩, ⟨0, ⟨(some 20), none, (.load (.load 1 false)), [(.tmp 19)]⟩, []⟩, ⟨0, ⟨(some 21), none, (.pure (.bin .rem .none)), [(.tmp 20), (.const (.int .u8 9))]⟩, []⟩]) (.block 0 (.seq (.region [⟨0, ⟨(some 53), none, (.pure (.bin .eql .none)), [(.tmp 21), (.const (.int .u8 0))]⟩, []⟩, ⟨0, ⟨(some 52), none, (.pure .id), [(.tmp 53)]⟩, []⟩]) (.cond (.tmp 52) (.seq (.region [⟨0, ⟨(some 55), none, (.pure .id), [(.tmp 0)]⟩, []⟩, ⟨0, ⟨(some 56), none, (.pure (.faddr 1)), [(.tmp 5)]⟩, []⟩, ⟨0, ⟨(some 57), none, (.load (.load 1 false)), [(.tmp 56)]⟩, []⟩, ⟨0, ⟨(some 58), none, (.call F_aig_Maker_In), [(.tmp 55), (.tmp 57)]⟩, []⟩, ⟨0, ⟨(some 54), none, (.pure .id), [(.tmp 58)]⟩, []⟩, ⟨0, ⟨(some 59), none, (.pure (.extract 0)), [(.tmp 54)]⟩, []⟩, ⟨0, ⟨(some 60), none, (.pure (.extract 1)), [(.tmp 54)]⟩, []⟩, ⟨0, ⟨(some 7), none, (.pure .id), [(.tmp 59)]⟩, []⟩, ⟨0, ⟨(some 10), none, (.pure .id), [(.tmp 60)]⟩, []⟩]) (.region [⟨0, ⟨(some 62), none, (.pure .id), [(.tmp 1)]⟩, []⟩, ⟨0, ⟨(some 63), none, (.pure (.faddr 1)), [(.tmp 5)]⟩, []⟩, ⟨0, ⟨(some 64), none, (.load (.load 1 false)), [(.tmp 63)]⟩, []⟩, ⟨0, ⟨(some 65), none, (.call F_skolemref06_Maker_In), [(.tmp 62), (.tmp 64)]⟩, []⟩, ⟨0, ⟨(some 61), none, (.pure .id), [(.tmp 65)]⟩, []⟩, ⟨0, ⟨(some 66), none, (.pure (.extract 0)), [(.tmp 61)]⟩, []⟩, ⟨0, ⟨(some 67), none, (.pure (.extract 1)), [(.tmp 61)]⟩, []⟩, ⟨0, ⟨(some 8), none, (.pure .id), [(.tmp 66)]⟩, []⟩, ⟨0, ⟨(some 9), none, (.pure .id), [(.tmp 67)]⟩, []⟩])) (.seq (.region [⟨0, ⟨(some 69), none, (.pure (.bin .eql .none)), [(.tmp 21), (.const (.int .u8 1))]⟩, []⟩, ⟨0, ⟨(some 68), none, (.pure .id), [(.tmp 69)]⟩, []⟩]) (.cond (.tmp 68) (.seq (.region [⟨0, ⟨(some 71), none, (.pure .id), [(.tmp 0)]⟩, []⟩, ⟨0, ⟨(some 72), none, (.pure (.faddr 1)), [(.tmp 5)]⟩, []⟩, ⟨0, ⟨(some 73), none, (.load (.load 1 false)), [(.tmp 72)]⟩, []⟩, ⟨0, ⟨(some 74), none, (.pure (.faddr 2)), [(.tmp 5)]⟩, []⟩, ⟨0, ⟨(some 75), none, (.load (.load 1 false)), [(.tmp 74)]⟩, []⟩, ⟨0, ⟨(some 76), none, (.call F_aig_Maker_And), [(.tmp 71), (.tmp 73), (.tmp 75)]⟩, []⟩, ⟨0, ⟨(some 70), none, (.pure .id), [(.tmp 76)]⟩, []⟩, ⟨0, ⟨(some 77), none, (.pure (.extract 0)), [(.tmp 70)]⟩, []⟩, ⟨0, ⟨(some 78), none, (.pure (.extract 1)), [(.tmp 70)]⟩, []⟩, ⟨0, ⟨(some 7), none, (.pure .id), [(.tmp 77)]⟩, []⟩, ⟨0, ⟨(some 10), none, (.pure .id), [(.tmp 78)]⟩, []⟩]) (.region [⟨0, ⟨(some 80), none, (.pure .id), [(.tmp 1)]⟩, []⟩, ⟨0, ⟨(some 81), none, (.pure (.faddr 1)), [(.tmp 5)]⟩, []⟩, ⟨0, ⟨(some 82), none, (.load (.load 1 false)), [(.tmp 81)]⟩, []⟩, ⟨0, ⟨(some 83), none, (.pure (.faddr 2)), [(.tmp 5)]⟩, []⟩, ⟨0, ⟨(some 84), none, (.load (.load 1 false)), [(.tmp 83)]⟩, []⟩, ⟨0, ⟨(some 85), none, (.call F_skolemref06_Maker_And), [(.tmp 80), (.tmp 82), (.tmp 84)]⟩, []⟩, ⟨0, ⟨(some 79), none, (.pure .id), [(.tmp 85)]⟩, []⟩, ⟨0, ⟨(some 86), none, (.pure (.extract 0)), [(.tmp 79)]⟩, []⟩, ⟨0, ⟨(some 87), none, (.pure (.extract 1)), [(.tmp 79)]⟩, []⟩, ⟨0, ⟨(some 8), none, (.pure .id), [(.tmp 86)]⟩, []⟩, ⟨0, ⟨(some 9), none, (.pure .id), [(.tmp 87)]⟩, []⟩])) (.seq (.region [⟨0, ⟨(some 89), none, (.pure (.bin .eql .none)), [(.tmp 21), (.const (.int .u8 2))]⟩, []⟩, ⟨0, ⟨(some 88), none, (.pure .id), [(.tmp 89)]⟩, []⟩]) (.cond (.tmp 88) (.seq (.region [⟨0, ⟨(some 91), none, (.pure .id), [(.tmp 0)]⟩, []⟩, ⟨0, ⟨(some 92), none, (.pure (.faddr 1)), [(.tmp 5)]⟩, []⟩, ⟨0, ⟨(some 93), none, (.load (.load 1 false)), [(.tmp 92)]⟩, []⟩, ⟨0, ⟨(some 94), none, (.pure (.faddr 2)), [(.tmp 5)]⟩, []⟩, ⟨0, ⟨(some 95), none, (.load (.load 1 false)), [(.tmp 94)]⟩, []⟩, ⟨0, ⟨(some 96), none, (.call F_aig_Maker_Or), [(.tmp 91), (.tmp 93), (.tmp 95)]⟩, []⟩, ⟨0, ⟨(some 90), none, (.pure .id), [(.tmp 96)]⟩, []⟩, ⟨0, ⟨(some 97), none, (.pure (.extract 0)), [(.tmp 90)]⟩, []⟩, ⟨0, ⟨(some 98), none, (.pure (.extract 1)), [(.tmp 90)]⟩, []⟩, ⟨0, ⟨(some 7), none, (.pure .id), [(.tmp 97)]⟩, []⟩, ⟨0, ⟨(some 10), none, (.pure .id), [(.tmp 98)]⟩, []⟩]) (.region [⟨0, ⟨(some 100), none, (.pure .id), [(.tmp 1)]⟩, []⟩, ⟨0, ⟨(some 101), none, (.pure (.faddr 1)), [(.tmp 5)]⟩, []⟩, ⟨0, ⟨(some 102), none, (.load (.load 1 false)), [(.tmp 101)]⟩, []⟩, ⟨0, ⟨(some 103), none, (.pure (.faddr 2)), [(.tmp 5)]⟩, []⟩, ⟨0, ⟨(some 104), none, (.load (.load 1 false)), [(.tmp 103)]⟩, []⟩, ⟨0, ⟨(some 105), none, (.call F_skolemref06_Maker_Or), [(.tmp 100), (.tmp 102), (.tmp 104)]⟩, []⟩, ⟨0, ⟨(some 99), none, (.pure .id), [(.tmp 105)]⟩, []⟩, ⟨0, ⟨(some 106), none, (.pure (.extract 0)), [(.tmp 99)]⟩, []⟩, ⟨0, ⟨(some 107), none, (.pure (.extract 1)), [(.tmp 99)]⟩, []⟩, ⟨0, ⟨(some 8), none, (.pure .id), [(.tmp 106)]⟩, []⟩, ⟨0, ⟨(some 9), none, (.pure .id), [(.tmp 107)]⟩, []⟩])) (.seq (.region [⟨0, ⟨(some 109), none, (.pure (.bin .eql .none)), [(.tmp 21), (.const (.int .u8 3))]⟩, []⟩, ⟨0, ⟨(some 108), none, (.pure .id), [(.tmp 109)]⟩, []⟩]) (.cond (.tmp 108) (.seq (.region [⟨0, ⟨(some 111), none, (.pure .id), [(.tmp 0)]⟩, []⟩, ⟨0, ⟨(some 112), none, (.pure (.faddr 1)), [(.tmp 5)]⟩, []⟩, ⟨0, ⟨(some 113), none, (.load (.load 1 false)), [(.tmp 112)]⟩, []⟩, ⟨0, ⟨(some 114), none, (.pure (.faddr 2)), [(.tmp 5)]⟩, []⟩, ⟨0, ⟨(some 115), none, (.load (.load 1 false)), [(.tmp 114)]⟩, []⟩, ⟨0, ⟨(some 116), none, (.call F_aig_Maker_Xor), [(.tmp 111), (.tmp 113), (.tmp 115)]⟩, []⟩, ⟨0, ⟨(some 110), none, (.pure .id), [(.tmp 116)]⟩, []⟩, ⟨0, ⟨(some 117), none, (.pure (.extract 0)), [(.tmp 110)]⟩, []⟩, ⟨0, ⟨(some 118), none, (.pure (.extract 1)), [(.tmp 110)]⟩, []⟩, ⟨0, ⟨(some 7), none, (.pure .id), [(.tmp 117)]⟩, []⟩, ⟨0, ⟨(some 10), none, (.pure .id), [(.tmp 118)]⟩, []⟩]) (.region [⟨0, ⟨(some 120), none, (.pure .id), [(.tmp 1)]⟩, []⟩, ⟨0, ⟨(some 121), none, (.pure (.faddr 1)), [(.tmp 5)]⟩, []⟩, ⟨0, ⟨(some 122), none, (.load (.load 1 false)), [(.tmp 121)]⟩, []⟩, ⟨0, ⟨(some 123), none, (.pure (.faddr 2)), [(.tmp 5)]⟩, []⟩, ⟨0, ⟨(some 124), none, (.load (.load 1 false)), [(.tmp 123)]⟩, []⟩, ⟨0, ⟨(some 125), none, (.call F_skolemref06_Maker_Xor), [(.tmp 120), (.tmp 122), (.tmp 124)]⟩, []⟩, ⟨0, ⟨(some 119), none, (.pure .id), [(.tmp 125)]⟩, []⟩, ⟨0, ⟨(some 126), none, (.pure (.extract 0)), [(.tmp 119)]⟩, []⟩, ⟨0, ⟨(some 127), none, (.pure (.extract 1)), [(.tmp 119)]⟩, []⟩, ⟨0, ⟨(some 8), none, (.pure .id), [(.tmp 126)]⟩, []⟩, ⟨0, ⟨(some 9), none, (.pure .id), [(.tmp 127)]⟩, []⟩])) (.seq (.region [⟨0, ⟨(some 129), none, (.pure (.bin .eql .none)), [(.tmp 21), (.const (.int .u8 4))]⟩, []⟩, ⟨0, ⟨(some 128), none, (.pure .id), [(.tmp 129)]⟩, []⟩]) (.cond (.tmp 128) (.seq (.region [⟨0, ⟨(some 131), none, (.pure .id), [(.tmp 0)]⟩, []⟩, ⟨0, ⟨(some 132), none, (.pure (.faddr 1)), [(.tmp 5)]⟩, []⟩, ⟨0, ⟨(some 133), none, (.load (.load 1 false)), [(.tmp 132)]⟩, []⟩, ⟨0, ⟨(some 134), none, (.pure (.faddr 2)), [(.tmp 5)]⟩, []⟩, ⟨0, ⟨(some 135), none, (.load (.load 1 false)), [(.tmp 134)]⟩, []⟩, ⟨0, ⟨(some 136), none, (.pure (.faddr 3)), [(.tmp 5)]⟩, []⟩, ⟨0, ⟨(some 137), none, (.load (.load 1 false)), [(.tmp 136)]⟩, []⟩, ⟨0, ⟨(some 138), none, (.call F_aig_Maker_Ite), [(.tmp 131), (.tmp 133), (.tmp 135), (.tmp 137)]⟩, []⟩, ⟨0, ⟨(some 130), none, (.pure .id), [(.tmp 138)]⟩, []⟩, ⟨0, ⟨(some 139), none, (.pure (.extract 0)), [(.tmp 130)]⟩, []⟩, ⟨0, ⟨(some 140), none, (.pure (.extract 1)), [(.tmp 130)]⟩, []⟩, ⟨0, ⟨(some 7), none, (.pure .id), [(.tmp 139)]⟩, []⟩, ⟨0, ⟨(some 10), none, (.pure .id), [(.tmp 140)]⟩, []⟩]) (.region [⟨0, ⟨(some 142), none, (.pure .id), [(.tmp 1)]⟩, []⟩, ⟨0, ⟨(some 143), none, (.pure (.faddr 1)), [(.tmp 5)]⟩, []⟩, ⟨0, ⟨(some 144), none, (.load (.load 1 false)), [(.tmp 143)]⟩, []⟩, ⟨0, ⟨(some 145), none, (.pure (.faddr 2)), [(.tmp 5)]⟩, []⟩, ⟨0, ⟨(some 146), none, (.load (.load 1 false)), [(.tmp 145)]⟩, []⟩, ⟨0, ⟨(some 147), none, (.pure (.faddr 3)), [(.tmp 5)]⟩, []⟩, ⟨0, ⟨(some 148), none, (.load (.load 1 false)), [(.tmp 147)]⟩, []⟩, ⟨0, ⟨(some 149), none, (.call F_skolemref06_Maker_Ite), [(.tmp 142), (.tmp 144), (.tmp 146), (.tmp 148)]⟩, []⟩, ⟨0, ⟨(some 141), none, (.pure .id), [(.tmp 149)]⟩, []⟩, ⟨0, ⟨(some 150), none, (.pure (.extract 0)), [(.tmp 141)]⟩, []⟩, ⟨0, ⟨(some 151), none, (.pure (.extract 1)), [(.tmp 141)]⟩, []⟩, ⟨0, ⟨(some 8), none, (.pure .id), [(.tmp 150)]⟩, []⟩, ⟨0, ⟨(some 9), none, (.pure .id), [(.tmp 151)]⟩, []⟩])) (.seq (.region [⟨0, ⟨(some 153), none, (.pure (.bin .eql .none)), [(.tmp 21), (.const (.int .u8 5))]⟩, []⟩, ⟨0, ⟨(some 152), none, (.pure .id), [(.tmp 153)]⟩, []⟩]) (.cond (.tmp 152) (.seq (.region [⟨0, ⟨(some 155), none, (.pure .id), [(.tmp 0)]⟩, []⟩, ⟨0, ⟨(some 156), none, (.pure (.faddr 4)), [(.tmp 5)]⟩, []⟩, ⟨0, ⟨(some 157), none, (.load (.load 1 false)), [(.tmp 156)]⟩, []⟩, ⟨0, ⟨(some 158), none, (.call F_aig_Maker_All), [(.tmp 155), (.tmp 157)]⟩, []⟩, ⟨0, ⟨(some 154), none, (.pure .id), [(.tmp 158)]⟩, []⟩, ⟨0, ⟨(some 159), none, (.pure (.extract 0)), [(.tmp 154)]⟩, []⟩, ⟨0, ⟨(some 160), none, (.pure (.extract 1)), [(.tmp 154)]⟩, []⟩, ⟨0, ⟨(some 7), none, (.pure .id), [(.tmp 159)]⟩, []⟩, ⟨0, ⟨(some 10), none, (.pure .id), [(.tmp 160)]⟩, []⟩]) (.region [⟨0, ⟨(some 162), none, (.pure .id), [(.tmp 1)]⟩, []⟩, ⟨0, ⟨(some 163), none, (.pure (.faddr 4)), [(.tmp 5)]⟩, []⟩, ⟨0, ⟨(some 164), none, (.load (.load 1 false)), [(.tmp 163)]⟩, []⟩, ⟨0, ⟨(some 165), none, (.call F_skolemref06_Maker_All), [(.tmp 162), (.tmp 164)]⟩, []⟩, ⟨0, ⟨(some 161), none, (.pure .id), [(.tmp 165)]⟩, []⟩, ⟨0, ⟨(some 166), none, (.pure (.extract 0)), [(.tmp 161)]⟩, []⟩, ⟨0, ⟨(some 167), none, (.pure (.extract 1)), [(.tmp 161)]⟩, []⟩, ⟨0, ⟨(some 8), none, (.pure .id), [(.tmp 166)]⟩, []⟩, ⟨0, ⟨(some 9), none, (.pure .id), [(.tmp 167)]⟩, []⟩])) (.seq (.region [⟨0, ⟨(some 169), none, (.pure (.bin .eql .none)), [(.tmp 21), (.const (.int .u8 6))]⟩, []⟩, ⟨0, ⟨(some 168), none, (.pure .id), [(.tmp 169)]⟩, []⟩]) (.cond (.tmp 168) (.seq (.region [⟨0, ⟨(some 171), none, (.pure .id), [(.tmp 0)]⟩, []⟩, ⟨0, ⟨(some 172), none, (.pure (.faddr 4)), [(.tmp 5)]⟩, []⟩, ⟨0, ⟨(some 173), none, (.load (.load 1 false)), [(.tmp 172)]⟩, []⟩, ⟨0, ⟨(some 174), none, (.call F_aig_Maker_Any), [(.tmp 171), (.tmp 173)]⟩, []⟩, ⟨0, ⟨(some 170), none, (.pure .id), [(.tmp 174)]⟩, []⟩, ⟨0, ⟨(some 175), none, (.pure (.extract 0)), [(.tmp 170)]⟩, []⟩, ⟨0, ⟨(some 176), none, (.pure (.extract 1)), [(.tmp 170)]⟩, []⟩, ⟨0, ⟨(some 7), none, (.pure .id), [(.tmp 175)]⟩, []⟩, ⟨0, ⟨(some 10), none, (.pure .id), [(.tmp 176)]⟩, []⟩]) (.region [⟨0, ⟨(some 178), none, (.pure .id), [(.tmp 1)]⟩, []⟩, ⟨0, ⟨(some 179), none, (.pure (.faddr 4)), [(.tmp 5)]⟩, []⟩, ⟨0, ⟨(some 180), none, (.load (.load 1 false)), [(.tmp 179)]⟩, []⟩, ⟨0, ⟨(some 181), none, (.call F_skolemref06_Maker_Any), [(.tmp 178), (.tmp 180)]⟩, []⟩, ⟨0, ⟨(some 177), none, (.pure .id), [(.tmp 181)]⟩, []⟩, ⟨0, ⟨(some 182), none, (.pure (.extract 0)), [(.tmp 177)]⟩, []⟩, ⟨0, ⟨(some 183), none, (.pure (.extract 1)), [(.tmp 177)]⟩, []⟩, ⟨0, ⟨(some 8), none, (.pure .id), [(.tmp 182)]⟩, []⟩, ⟨0, ⟨(some 9), none, (.pure .id), [(.tmp 183)]⟩, []⟩])) (.seq (.region [⟨0, ⟨(some 185), none, (.pure (.bin .eql .none)), [(.tmp 21), (.const (.int .u8 7))]⟩, []⟩, ⟨0, ⟨(some 184), none, (.pure .id), [(.tmp 185)]⟩, []⟩]) (.cond (.tmp 184) (.seq (.region [⟨0, ⟨(some 187), none, (.pure .id), [(.tmp 0)]⟩, []⟩, ⟨0, ⟨(some 188), none, (.pure (.faddr 5)), [(.tmp 5)]⟩, []⟩, ⟨0, ⟨(some 189), none, (.load (.load 2 true)), [(.tmp 188)]⟩, []⟩, ⟨0, ⟨(some 190), none, (.pure (.faddr 4)), [(.tmp 5)]⟩, []⟩, ⟨0, ⟨(some 191), none, (.load (.load 1 false)), [(.tmp 190)]⟩, []⟩, ⟨0, ⟨(some 192), none, (.call F_aig_Maker_Copy), [(.tmp 187), (.tmp 189), (.tmp 191)]⟩, []⟩, ⟨0, ⟨(some 186), none, (.pure .id), [(.tmp 192)]⟩, []⟩, ⟨0, ⟨(some 193), none, (.pure (.extract 0)), [(.tmp 186)]⟩, []⟩, ⟨0, ⟨(some 194), none, (.pure (.extract 1)), [(.tmp 186)]⟩, []⟩, ⟨0, ⟨(some 11), none, (.pure .id), [(.tmp 193)]⟩, []⟩, ⟨0, ⟨(some 12), none, (.pure .id), [(.tmp 194)]⟩, []⟩]) (.seq (.region [⟨0, ⟨(some 196), none, (.pure .id), [(.tmp 1)]⟩, []⟩, ⟨0, ⟨(some 197), none, (.pure (.faddr 5)), [(.tmp 5)]⟩, []⟩, ⟨0, ⟨(some 198), none, (.load (.load 2 true)), [(.tmp 197)]⟩, []⟩, ⟨0, ⟨(some 199), none, (.pure (.faddr 4)), [(.tmp 5)]⟩, []⟩, ⟨0, ⟨(some 200), none, (.load (.load 1 false)), [(.tmp 199)]⟩, []⟩, ⟨0, ⟨(some 201), none, (.call F_skolemref06_Maker_Copy), [(.tmp 196), (.tmp 198), (.tmp 200)]⟩, []⟩, ⟨0, ⟨(some 195), none, (.pure .id), [(.tmp 201)]⟩, []⟩, ⟨0, ⟨(some 202), none, (.pure (.extract 0)), [(.tmp 195)]⟩, []⟩, ⟨0, ⟨(some 203), none, (.pure (.extract 1)), [(.tmp 195)]⟩, []⟩, ⟨0, ⟨(some 13), none, (.pure .id), [(.tmp 202)]⟩, []⟩, ⟨0, ⟨(some 14), none, (.pure .id), [(.tmp 203)]⟩, []⟩]) (.seq (.region [⟨0, ⟨(some 204), none, (.pure .id), [(.tmp 11)]⟩, []⟩, ⟨0, ⟨(some 205), none, (.pure .id), [(.tmp 13)]⟩, []⟩, ⟨0, ⟨(some 206), none, (.call F_skolemref05_Ints), [(.tmp 204), (.tmp 205)]⟩, []⟩, ⟨0, ⟨(some 207), none, (.pure .id), [(.tmp 206)]⟩, []⟩, ⟨0, ⟨(some 208), (some (207, true)), (.pure .id), [(.tmp 12)]⟩, []⟩, ⟨0, ⟨(some 209), (some (207, true)), (.pure .id), [(.tmp 14)]⟩, []⟩, ⟨0, ⟨(some 210), (some (207, true)), (.pure (.bin .eql .none)), [(.tmp 208), (.tmp 209)]⟩, []⟩, ⟨0, ⟨(some 211), none, (.pure .pick), [(.tmp 207), (.tmp 210), (.const (.bool false))]⟩, []⟩, ⟨0, ⟨(some 6), none, (.pure .id), [(.tmp 211)]⟩, []⟩]) .ret))) (.seq (.region [⟨0, ⟨(some 23), none, (.pure .id), [(.tmp 0)]⟩, []⟩, ⟨0, ⟨(some 24), none, (.pure (.faddr 5)), [(.tmp 5)]⟩, []⟩, ⟨0, ⟨(some 25), none, (.load (.load 2 true)), [(.tmp 24)]⟩, []⟩, ⟨0, ⟨(some 26), none, (.pure (.faddr 4)), [(.tmp 5)]⟩, []⟩, ⟨0, ⟨(some 27), none, (.load (.load 1 false)), [(.tmp 26)]⟩, []⟩, ⟨0, ⟨(some 28), none, (.pure (.faddr 7)), [(.tmp 5)]⟩, []⟩, ⟨0, ⟨(some 29), none, (.load (.load 1 false)), [(.tmp 28)]⟩, []⟩, ⟨0, ⟨(some 30), none, (.call F_aig_Maker_Graft), [(.tmp 23), (.tmp 25), (.tmp 27), (.tmp 29)]⟩, []⟩, ⟨0, ⟨(some 22), none, (.pure .id), [(.tmp 30)]⟩, []⟩, ⟨0, ⟨(some 31), none, (.pure (.extract 0)), [(.tmp 22)]⟩, []⟩, ⟨0, ⟨(some 32), none, (.pure (.extract 1)), [(.tmp 22)]⟩, []⟩, ⟨0, ⟨(some 15), none, (.pure .id), [(.tmp 31)]⟩, []⟩, ⟨0, ⟨(some 16), none, (.pure .id), [(.tmp 32)]⟩, []⟩]) (.seq (.region [⟨0, ⟨(some 34), none, (.pure .id), [(.tmp 1)]⟩, []⟩, ⟨0, ⟨(some 35), none, (.pure (.faddr 5)), [(.tmp 5)]⟩, []⟩, ⟨0, ⟨(some 36), none, (.load (.load 2 true)), [(.tmp 35)]⟩, []⟩, ⟨0, ⟨(some 37), none, (.pure (.faddr 4)), [(.tmp 5)]⟩, []⟩, ⟨0, ⟨(some 38), none, (.load (.load 1 false)), [(.tmp 37)]⟩, []⟩, ⟨0, ⟨(some 39), none, (.pure (.faddr 7)), [(.tmp 5)]⟩, []⟩, ⟨0, ⟨(some 40), none, (.load (.load 1 false)), [(.tmp 39)]⟩, []⟩, ⟨0, ⟨(some 41), none, (.call F_skolemref06_Maker_Graft), [(.tmp 34), (.tmp 36), (.tmp 38), (.tmp 40)]⟩, []⟩, ⟨0, ⟨(some 33), none, (.pure .id), [(.tmp 41)]⟩, []⟩, ⟨0, ⟨(some 42), none, (.pure (.extract 0)), [(.tmp 33)]⟩, []⟩, ⟨0, ⟨(some 43), none, (.pure (.extract 1)), [(.tmp 33)]⟩, []⟩, ⟨0, ⟨(some 17), none, (.pure .id), [(.tmp 42)]⟩, []⟩, ⟨0, ⟨(some 18), none, (.pure .id), [(.tmp 43)]⟩, []⟩]) (.seq (.region [⟨0, ⟨(some 44), none, (.pure .id), [(.tmp 15)]⟩, []⟩, ⟨0, ⟨(some 45), none, (.pure .id), [(.tmp 17)]⟩, []⟩, ⟨0, ⟨(some 46), none, (.call F_skolemref05_Ints), [(.tmp 44), (.tmp 45)]⟩, []⟩, ⟨0, ⟨(some 47), none, (.pure .id), [(.tmp 46)]⟩, []⟩, ⟨0, ⟨(some 48), (some (47, true)), (.pure .id), [(.tmp 16)]⟩, []⟩, ⟨0, ⟨(some 49), (some (47, true)), (.pure .id), [(.tmp 18)]⟩, []⟩, ⟨0, ⟨(some 50), (some (47, true)), (.pure (.bin .eql .none)), [(.tmp 48), (.tmp 49)]⟩, []⟩, ⟨0, ⟨(some 51), none, (.pure .pick), [(.tmp 47), (.tmp 50), (.const (.bool false))]⟩, []⟩, ⟨0, ⟨(some 6), none, (.pure .id), [(.tmp 51)]⟩, []⟩]) .ret))))))))))))))))))))) (.seq (.region [⟨0, ⟨(some 212), none, (.pure .id), [(.tmp 7)]⟩, []⟩, ⟨0, ⟨(some 213), none, (.pure .id), [(.tmp 8)]⟩, []⟩, ⟨0, ⟨(some 214), none, (.pure (.bin .eql .none)), [(.tmp 212), (.tmp 213)]⟩, []⟩, ⟨0, ⟨(some 215), none, (.pure .id), [(.tmp 214)]⟩, []⟩, ⟨0, ⟨(some 216), (some (215, true)), (.pure .id), [(.tmp 10)]⟩, []⟩, ⟨0, ⟨(some 217), (some (215, true)), (.pure .id), [(.tmp 9)]⟩, []⟩, ⟨0, ⟨(some 218), (some (215, true)), (.pure (.bin .eql .none)), [(.tmp 216), (.tmp 217)]⟩, []⟩, ⟨0, ⟨(some 219), none, (.pure .pick), [(.tmp 215), (.tmp 218), (.const (.bool false))]⟩, []⟩, ⟨0, ⟨(some 6), none, (.pure .id), [(.tmp 219)]⟩, []⟩]) .ret)))))⟩
theorem c_skolemlaw06_step : compF Tryz.prog Tryz.f33 = some G_skolemlaw06_step := by kernel_rfl
theorem gc_skolemlaw06_step {args : List DV} {σ : GS} {Post : DV → GS → Prop} (h : @exB Tryz.prog ⟨G_skolemlaw06_step.body⟩ (genv0 args G_skolemlaw06_step.ntmps) σ ⟨@gretB G_skolemlaw06_step.results ⟨Post⟩⟩) : GCall Tryz.prog F_skolemlaw06_step args σ Post := gcall_ofB seatfollows Tryz.func33 (by kernel_rfl) c_skolemlaw06_step h
noncomputable abbrev G_skolemlaw06_AigMakes : GFun := ⟨107, [(.tmp 8)], (.seq (.region [⟨0, ⟨(some 5), none, (.new .box), [(.tmp 1)]⟩, []⟩, ⟨0, ⟨(some 8), none, (.pure .id), [(.const (.bool false))]⟩, []⟩]) (.seq (.seq (.region [⟨0, ⟨(some 15), none, (.load (.load 2 true)), [(.tmp 5)]⟩, []⟩, ⟨0, ⟨(some 16), none, (.new (.bslice 2 [.nils, .nils] 1 [(0, 2)])), [(.tmp 15)]⟩, []⟩, ⟨0, ⟨(some 17), none, (.call F_skolemlaw06_great), [(.tmp 16)]⟩, []⟩, ⟨0, ⟨(some 18), none, (.pure .id), [(.tmp 17)]⟩, []⟩, ⟨0, ⟨(some 19), (some (18, false)), (.pure .id), [(.tmp 0)]⟩, []⟩, ⟨0, ⟨(some 20), (some (18, false)), (.pure .len), [(.tmp 19)]⟩, []⟩, ⟨0, ⟨(some 21), (some (18, false)), (.pure (.bin .gtr .none)), [(.tmp 20), (.const (.int .i64 200))]⟩, []⟩, ⟨0, ⟨(some 22), none, (.pure .pick), [(.tmp 18), (.const (.bool true)), (.tmp 21)]⟩, []⟩, ⟨0, ⟨(some 23), none, (.pure .id), [(.tmp 22)]⟩, []⟩, ⟨0, ⟨(some 24), (some (23, false)), (.pure .id), [(.tmp 3)]⟩, []⟩, ⟨0, ⟨(some 25), (some (23, false)), (.pure .len), [(.tmp 24)]⟩, []⟩, ⟨0, ⟨(some 26), (some (23, false)), (.pure (.bin .gtr .none)), [(.tmp 25), (.const (.int .i64 100))]⟩, []⟩, ⟨0, ⟨(some 27), none, (.pure .pick), [(.tmp 23), (.const (.bool true)), (.tmp 26)]⟩, []⟩]) (.cond (.tmp 27) (.seq (.region [⟨0, ⟨(some 28), none, (.call F_skolemlaw06_works), []⟩, []⟩, ⟨0, ⟨(some 8), none, (.pure .id), [(.tmp 28)]⟩, []⟩]) .ret) .skip)) (.seq (.region [⟨0, ⟨(some 30), none, (.pure .id), [(.tmp 0)]⟩, []⟩, ⟨0, ⟨(some 31), none, (.call F_aig_New), [(.tmp 30)]⟩, []⟩, ⟨0, ⟨(some 29), none, (.pure .id), [(.tmp 31)]⟩, []⟩, ⟨0, ⟨(some 32), none, (.pure (.extract 0)), [(.tmp 29)]⟩, []⟩, ⟨0, ⟨(some 33), none, (.pure (.extract 1)), [(.tmp 29)]⟩, []⟩, ⟨0, ⟨(some 9), none, (.pure .id), [(.tmp 32)]⟩, []⟩, ⟨0, ⟨(some 10), none, (.pure .id), [(.tmp 33)]⟩, []⟩]) (.seq (.region [⟨0, ⟨(some 35), none, (.pure .id), [(.tmp 0)]⟩, []⟩, ⟨0, ⟨(some 36), none, (.call F_skolemref06_New), [(.tmp 35)]⟩, []⟩, ⟨0, ⟨(some 34), none, (.pure .id), [(.tmp 36)]⟩, []⟩, ⟨0, ⟨(some 37), none, (.pure (.extract 0)), [(.tmp 34)]⟩, []⟩, ⟨0, ⟨(some 38), none, (.pure (.extract 1)), [(.tmp 34)]⟩, []⟩, ⟨0, ⟨(some 11), none, (.pure .id), [(.tmp 37)]⟩, []⟩, ⟨0, ⟨(some 12), none, (.pure .id), [(.tmp 38)]⟩, []⟩]) (.seq (.seq (.region [⟨0, ⟨(some 39), none, (.pure .id), [(.tmp 2)]⟩, []⟩]) (.cond (.tmp 39) (.seq (.region [⟨0, ⟨(some 41), none, (.load (.load 2 true)), [(.tmp 5)]⟩, []⟩, ⟨0, ⟨(some 42), none, (.call F_aig_Edit), [(.tmp 41)]⟩, []⟩, ⟨0, ⟨(some 40), none, (.pure .id), [(.tmp 42)]⟩, []⟩, ⟨0, ⟨(some 43), none, (.pure (.extract 0)), [(.tmp 40)]⟩, []⟩, ⟨0, ⟨(some 44), none, (.pure (.extract 1)), [(.tmp 40)]⟩, []⟩, ⟨0, ⟨(some 9), none, (.pure .id), [(.tmp 43)]⟩, []⟩, ⟨0, ⟨(some 10), none, (.pure .id), [(.tmp 44)]⟩, []⟩]) (.region [⟨0, ⟨(some 46), none, (.load (.load 2 true)), [(.tmp 5)]⟩, []⟩, ⟨0, ⟨(some 47), none, (.call F_skolemref06_Edit), [(.tmp 46)]⟩, []⟩, ⟨0, ⟨(some 45), none, (.pure .id), [(.tmp 47)]⟩, []⟩, ⟨0, ⟨(some 48), none, (.pure (.extract 0)), [(.tmp 45)]⟩, []⟩, ⟨0, ⟨(some 49), none, (.pure (.extract 1)), [(.tmp 45)]⟩, []⟩, ⟨0, ⟨(some 11), none, (.pure .id), [(.tmp 48)]⟩, []⟩, ⟨0, ⟨(some 12), none, (.pure .id), [(.tmp 49)]⟩, []⟩])) .skip)) (.seq (.seq (.region [⟨0, ⟨(some 50), none, (.pure .id), [(.tmp 10)]⟩, []⟩, ⟨0, ⟨(some 51), none, (.pure .id), [(.tmp 12)]⟩, []⟩, ⟨0, ⟨(some 52), none, (.pure (.bin .neq .none)), [(.tmp 50), (.tmp 51)]⟩, []⟩, ⟨0, ⟨(some 53), none, (.pure .id), [(.tmp 52)]⟩, []⟩, ⟨0, ⟨(some 54), (some (53, false)), (.pure .id), [(.tmp 9)]⟩, []⟩, ⟨0, ⟨(some 55), (some (53, false)), (.pure (.bin .eql .ptr)), [(.tmp 54), (.const .nilp)]⟩, []⟩, ⟨0, ⟨(some 56), (some (53, false)), (.pure .id), [(.tmp 10)]⟩, []⟩, ⟨0, ⟨(some 57), (some (53, false)), (.pure (.bin .neq .none)), [(.tmp 56), (.const (.int .i64 0))]⟩, []⟩, ⟨0, ⟨(some 58), (some (53, false)), (.pure (.bin .neq .bool)), [(.tmp 55), (.tmp 57)]⟩, []⟩, ⟨0, ⟨(some 59), none, (.pure .pick), [(.tmp 53), (.const (.bool true)), (.tmp 58)]⟩, []⟩]) (.cond (.tmp 59) (.seq (.region [⟨0, ⟨(some 8), none, (.pure .id), [(.const (.bool false))]⟩, []⟩]) .ret) .skip)) (.seq (.seq (.region [⟨0, ⟨(some 60), none, (.pure .id), [(.tmp 3)]⟩, []⟩, ⟨0, ⟨(some 61), none, (.pure .len), [(.tmp 60)]⟩, []⟩, ⟨0, ⟨(some 62), none, (.pure .id), [(.const (.int .i64 0))]⟩, []⟩]) (.block 0 (.loop (.seq (.region [⟨0, ⟨(some 63), none, (.pure (.bin .lss .none)), [(.tmp 62), (.tmp 61)]⟩, []⟩]) (.seq (.cond (.tmp 63) .skip (.exit 0)) (.seq (.block 1 (.seq (.region [⟨0, ⟨(some 64), none, (.pure (.iaddr 8)), [(.tmp 60), (.tmp 62)]⟩, []⟩, ⟨0, ⟨(some 65), none, (.load (.load 8 true)), [(.tmp 64)]⟩, []⟩, ⟨0, ⟨(some 14), none, (.new (.alloc [(.int .u8 0), (.int .i64 0), (.int .i64 0), (.int .i64 0), .nils, .nils, .nils, .nils])), []⟩, []⟩, ⟨0, ⟨none, none, (.imp (.store 8)), [(.tmp 14), (.tmp 65)]⟩, []⟩]) (.seq (.seq (.region [⟨0, ⟨(some 66), none, (.pure (.faddr 5)), [(.tmp 14)]⟩, []⟩, ⟨0, ⟨(some 67), none, (.load (.load 2 true)), [(.tmp 66)]⟩, []⟩, ⟨0, ⟨(some 68), none, (.new (.bslice 2 [.nils, .nils] 1 [(0, 2)])), [(.tmp 67)]⟩, []⟩, ⟨0, ⟨(some 69), none, (.call F_skolemlaw06_great), [(.tmp 68)]⟩, []⟩, ⟨0, ⟨(some 70), none, (.pure .id), [(.tmp 69)]⟩, []⟩, ⟨0, ⟨(some 71), (some (70, false)), (.pure (.faddr 4)), [(.tmp 14)]⟩, []⟩, ⟨0, ⟨(some 72), (some (70, false)), (.load (.load 1 false)), [(.tmp 71)]⟩, []⟩, ⟨0, ⟨(some 73), (some (70, false)), (.pure .len), [(.tmp 72)]⟩, []⟩, ⟨0, ⟨(some 74), (some (70, false)), (.pure (.bin .gtr .none)), [(.tmp 73), (.const (.int .i64 100))]⟩, []⟩, ⟨0, ⟨(some 75), none, (.pure .pick), [(.tmp 70), (.const (.bool true)), (.tmp 74)]⟩, []⟩, ⟨0, ⟨(some 76), none, (.pure .id), [(.tmp 75)]⟩, []⟩, ⟨0, ⟨(some 77), (some (76, false)), (.pure (.faddr 7)), [(.tmp 14)]⟩, []⟩, ⟨0, ⟨(some 78), (some (76, false)), (.load (.load 1 false)), [(.tmp 77)]⟩, []⟩, ⟨0, ⟨(some 79), (some (76, false)), (.pure .len), [(.tmp 78)]⟩, []⟩, ⟨0, ⟨(some 80), (some (76, false)), (.pure (.bin .gtr .none)), [(.tmp 79), (.const (.int .i64 100))]⟩, []⟩, ⟨0, ⟨(some 81), none, (.pure .pick), [(.tmp 76), (.const (.bool true)), (.tmp 80)]⟩, []⟩]) (.cond (.tmp 81) (.seq (.region [⟨0, ⟨(some 82), none, (.call F_skolemlaw06_works), []⟩, []⟩, ⟨0, ⟨(some 8), none, (.pure .id), [(.tmp 82)]⟩, []⟩]) .ret) .skip)) (.seq (.region [⟨0, ⟨(some 83), none, (.pure .id), [(.tmp 12)]⟩, []⟩, ⟨0, ⟨(some 84), none, (.pure (.bin .eql .none)), [(.tmp 83), (.const (.int .i64 0))]⟩, []⟩, ⟨0, ⟨(some 85), none, (.pure .id), [(.tmp 84)]⟩, []⟩, ⟨0, ⟨(some 86), (some (85, true)), (.pure .id), [(.tmp 9)]⟩, []⟩, ⟨0, ⟨(some 87), (some (85, true)), (.pure .id), [(.tmp 11)]⟩, []⟩, ⟨0, ⟨(some 88), (some (85, true)), (.load (.load 8 true)), [(.tmp 14)]⟩, []⟩, ⟨0, ⟨(some 89), (some (85, true)), (.call F_skolemlaw06_step), [(.tmp 86), (.tmp 87), (.tmp 88)]⟩, []⟩, ⟨0, ⟨(some 90), (some (85, true)), (.pure (.un .not)), [(.tmp 89)]⟩, []⟩, ⟨0, ⟨(some 91), none, (.pure .pick), [(.tmp 85), (.tmp 90), (.const (.bool false))]⟩, []⟩]) (.cond (.tmp 91) (.seq (.region [⟨0, ⟨(some 8), none, (.pure .id), [(.const (.bool false))]⟩, []⟩]) .ret) .skip))))) (.region [⟨0, ⟨(some 92), none, (.pure (.bin .add .none)), [(.tmp 62), (.const (.int .i64 1))]⟩, []⟩, ⟨0, ⟨(some 62), none, (.pure .id), [(.tmp 92)]⟩, []⟩]))))))) (.seq (.region [⟨0, ⟨(some 93), none, (.pure .id), [(.tmp 12)]⟩, []⟩, ⟨1, ⟨(some 94), none, (.pure (.bin .neq .none)), [(.tmp 93), (.const (.int .i64 0))]⟩, []⟩, ⟨2, ⟨(some 95), none, (.pure .id), [(.tmp 94)]⟩, []⟩, ⟨3, ⟨(some 96), (some (95, false)), (.pure .id), [(.tmp 9)]⟩, []⟩, ⟨5, ⟨(some 98), (some (95, false)), (.pure .id), [(.tmp 11)]⟩, []⟩, ⟨6, ⟨(some 99), (some (95, false)), (.pure .nilck), [(.tmp 98)]⟩, []⟩, ⟨7, ⟨(some 100), (some (95, false)), (.pure (.faddr 0)), [(.tmp 99)]⟩, []⟩, ⟨8, ⟨(some 101), (some (95, false)), (.load (.load 2 true)), [(.tmp 100)]⟩, []⟩, ⟨4, ⟨(some 97), (some (95, false)), (.call F_aig_Maker_Graph), [(.tmp 96)]⟩, [⟨(some 101), (some (95, false)), (.load (.load 2 true)), [(.tmp 100)]⟩]⟩, ⟨9, ⟨(some 102), (some (95, false)), (.call F_skolemref06_Same), [(.tmp 97), (.tmp 101)]⟩, []⟩, ⟨10, ⟨(some 103), none, (.pure .pick), [(.tmp 95), (.const (.bool true)), (.tmp 102)]⟩, []⟩, ⟨11, ⟨(some 104), none, (.pure .id), [(.tmp 103)]⟩, []⟩, ⟨12, ⟨(some 105), (some (104, true)), (.call F_skolemlaw06_works), []⟩, []⟩, ⟨13, ⟨(some 106), none, (.pure .pick), [(.tmp 104), (.tmp 105), (.const (.bool false))]⟩, []⟩, ⟨14, ⟨(some 8), none, (.pure .id), [(.tmp 106)]⟩, []⟩]) .ret))))))))⟩
theorem c_skolemlaw06_AigMakes : compF Tryz.prog Tryz.f5 = some G_skolemlaw06_AigMakes := by kernel_rfl
theorem gc_skolemlaw06_AigMakes {args : List DV} {σ : GS} {Post : DV → GS → Prop} (h : @exB Tryz.prog ⟨G_skolemlaw06_AigMakes.body⟩ (genv0 args G_skolemlaw06_AigMakes.ntmps) σ ⟨@gretB G_skolemlaw06_AigMakes.results ⟨Post⟩⟩) : GCall Tryz.prog F_skolemlaw06_AigMakes args σ Post := gcall_ofB seatfollows Tryz.func5 (by kernel_rfl) c_skolemlaw06_AigMakes h
end Go.Gh
namespace Go.Gh
open Go.RowKit Go.Proofs
set_option linter.unusedVariables false
set_option linter.unusedSimpArgs false
set_option maxRecDepth 100000
def Mk.disj (m : Mk) (a b : Int) : Int × Mk := (notE (m.conj (notE a) (notE b)).1, (m.conj (notE a) (notE b)).2)
/-- A choice: a if c is true, otherwise b. -/
def Mk.choice (m : Mk) (c a b : Int) : Int × Mk := ((m.conj c a).2.conj (notE c) b).2.disj (m.conj c a).1 ((m.conj c a).2.conj (notE c) b).1
def Mk.conjs (m : Mk) (l : List Int) : Int × Mk := l.foldl (fun s e => s.2.conj s.1 e) (1, m)
/-- What an operation on a maker leaves: at most k Ands more. -/
structure Gd (m : Mk) (r : Int × Mk) (k : Nat) : Prop where
  ok : r.2.ok
  lo : m.n ≤ r.2.n
  hi : r.2.n ≤ m.n + k
  ins : r.2.ins = m.ins
  e0 : 0 ≤ r.1
  e1 : r.1 < 2 * r.2.n
  full : m.n + k ≤ 200000 → r.2.full = m.full
theorem Gd.conj {m : Mk} {r : Int × Mk} {k : Nat} (h : Gd m r k) {a b : Int} (a0 : 0 ≤ a) (a1 : a < 2 * r.2.n) (b0 : 0 ≤ b) (b1 : b < 2 * r.2.n) : Gd m (r.2.conj a b) (k + 1) := by
  have h1 := Mk.conj_n r.2 a b
  have h2 := Mk.conj_range a0 a1 b0 b1
  have := h.lo; have := h.hi
  exact ⟨Mk.conj_ok a0 a1 b0 b1 h.ok, by omega, by omega, by rw [Mk.conj_ins, h.ins], h2.1, h2.2, fun hh => by rw [Mk.conj_full _ _ _ (by omega)]; exact h.full (by omega)⟩
theorem Gd.not {m : Mk} {r : Int × Mk} {k : Nat} (h : Gd m r k) : Gd m (notE r.1, r.2) k :=
  ⟨h.ok, h.lo, h.hi, h.ins, (notE_range h.e0 h.e1).1, (notE_range h.e0 h.e1).2, h.full⟩
theorem Gd.self {m : Mk} (h : m.ok) {e : Int} (e0 : 0 ≤ e) (e1 : e < 2 * m.n) : Gd m (e, m) 0 := ⟨h, Nat.le_refl _, Nat.le_refl _, rfl, e0, e1, fun _ => rfl⟩
theorem Gd.grow {m : Mk} {r : Int × Mk} {k j : Nat} (h : Gd m r k) (hj : k ≤ j) : Gd m r j := ⟨h.ok, h.lo, by have := h.hi; omega, h.ins, h.e0, h.e1, fun hh => h.full (by omega)⟩
theorem Gd.disj {m : Mk} {r : Int × Mk} {k : Nat} (h : Gd m r k) {a b : Int} (a0 : 0 ≤ a) (a1 : a < 2 * r.2.n) (b0 : 0 ≤ b) (b1 : b < 2 * r.2.n) : Gd m (r.2.disj a b) (k + 1) :=
  (h.conj (notE_range a0 a1).1 (notE_range a0 a1).2 (notE_range b0 b1).1 (notE_range b0 b1).2).not
theorem Gd.choice {m : Mk} {c a b : Int} (h : m.ok) (c0 : 0 ≤ c) (c1 : c < 2 * m.n) (a0 : 0 ≤ a) (a1 : a < 2 * m.n) (b0 : 0 ≤ b) (b1 : b < 2 * m.n) : Gd m (m.choice c a b) 3 := by
  have g1 : Gd m (m.conj c a) 1 := (Gd.self h c0 c1).conj c0 c1 a0 a1
  have := g1.lo
  have hn := notE_range c0 c1
  have g2 := g1.conj (a := notE c) (b := b) hn.1 (by omega) b0 (by omega)
  have := (Mk.conj_n (m.conj c a).2 (notE c) b).1
  have := g1.e1
  exact g2.disj g1.e0 (by omega) g2.e0 g2.e1
theorem Gd.fold {m : Mk} : ∀ (l : List Int) {r : Int × Mk} {k : Nat}, Gd m r k → (∀ x ∈ l, 0 ≤ x ∧ x < 2 * m.n) → Gd m (l.foldl (fun s e => s.2.conj s.1 e) r) (k + l.length)
  | [], r, k, h, _ => h
  | x :: l, r, k, h, hx => by
    obtain ⟨x0, x1⟩ := hx x (.head _)
    have := h.lo
    have := Gd.fold l (h.conj h.e0 h.e1 x0 (by omega)) fun y hy => hx y (.tail _ hy)
    exact this.grow (by simp; omega)
theorem Mk.n_pos (m : Mk) : 1 ≤ m.n := by unfold Mk.n; omega
theorem Gd.conjs {m : Mk} {l : List Int} (h : m.ok) (hx : ∀ x ∈ l, 0 ≤ x ∧ x < 2 * m.n) : Gd m (m.conjs l) l.length :=
  (Gd.fold l (Gd.self h (e := 1) (by omega) (by have := m.n_pos; omega)) hx).grow (by omega)
theorem aig_or_ok {n id : Nat} {m : Mk} {a b : Int} {σ : GS} {Post : DV → GS → Prop} (hm : MkO n σ id m) (ha0 : 0 ≤ a) (ha1 : a < 2 * m.n) (hb0 : 0 ≤ b) (hb1 : b < 2 * m.n) (hsz : m.n < 2 ^ 39)
    (k : ∀ σ', MkO n σ' id (m.disj a b).2 → Stp σ id σ' → Post (.int .i64 (m.disj a b).1) σ') : GCall Tryz.prog F_aig_Maker_or [.ptr id 0, .int .i64 a, .int .i64 b] σ Post := by
  refine gc_aig_Maker_or ?_
  have na := notE_range ha0 ha1; have nb := notE_range hb0 hb1
  have xa := bits_xor_one (e := a) (by omega) (by omega)
  have xb := bits_xor_one (e := b) (by omega) (by omega)
  have hr := Mk.conj_range na.1 na.2 nb.1 nb.2
  have hn := (Mk.conj_n m (notE a) (notE b)).2
  have xc := bits_xor_one (e := (m.conj (notE a) (notE b)).1) (by omega) (by omega)
  simp [G_aig_Maker_or, genv0, List.replicate, xa, xb]
  refine aig_and_ok hm (by omega) (by omega) (by omega) (by omega) (by omega) fun σ1 h1 h2 => ?_
  simp [xc]
  exact k _ h1 h2
theorem aig_xor_ok {n id : Nat} {m : Mk} {a b : Int} {σ : GS} {Post : DV → GS → Prop} (hm : MkO n σ id m) (hok : m.ok) (ha0 : 0 ≤ a) (ha1 : a < 2 * m.n) (hb0 : 0 ≤ b) (hb1 : b < 2 * m.n) (hsz : m.n < 2 ^ 38)
    (k : ∀ σ', MkO n σ' id (m.choice a (notE b) b).2 → Stp σ id σ' → Post (.int .i64 (m.choice a (notE b) b).1) σ') : GCall Tryz.prog F_aig_Maker_xor [.ptr id 0, .int .i64 a, .int .i64 b] σ Post := by
  refine gc_aig_Maker_xor ?_
  have na := notE_range ha0 ha1; have nb := notE_range hb0 hb1
  have xa := bits_xor_one (e := a) (by omega) (by omega)
  have xb := bits_xor_one (e := b) (by omega) (by omega)
  have g1 : Gd m (m.conj a (notE b)) 1 := (Gd.self hok ha0 ha1).conj ha0 ha1 nb.1 nb.2
  have := g1.lo; have := g1.hi; have := g1.e1
  have g2 := g1.conj (a := notE a) (b := b) na.1 (by omega) hb0 (by omega)
  have := (Mk.conj_n (m.conj a (notE b)).2 (notE a) b)
  simp [G_aig_Maker_xor, genv0, List.replicate, xa, xb]
  refine aig_and_ok hm (by omega) (by omega) (by omega) (by omega) (by omega) fun σ1 h1 s1 => ?_
  simp [xa]
  refine aig_and_ok h1 (by omega) (by omega) (by omega) (by omega) (by omega) fun σ2 h2 s2 => ?_
  simp
  refine aig_or_ok h2 g1.e0 (by omega) g2.e0 g2.e1 (by omega) fun σ3 h3 s3 => ?_
  simp
  exact k _ h3 ((s1.trans s2).trans s3)
theorem aig_ite_ok {n id : Nat} {m : Mk} {c a b : Int} {σ : GS} {Post : DV → GS → Prop} (hm : MkO n σ id m) (hok : m.ok) (hc0 : 0 ≤ c) (hc1 : c < 2 * m.n) (ha0 : 0 ≤ a) (ha1 : a < 2 * m.n) (hb0 : 0 ≤ b) (hb1 : b < 2 * m.n) (hsz : m.n < 2 ^ 38)
    (k : ∀ σ', MkO n σ' id (m.choice c a b).2 → Stp σ id σ' → Post (.int .i64 (m.choice c a b).1) σ') : GCall Tryz.prog F_aig_Maker_ite [.ptr id 0, .int .i64 c, .int .i64 a, .int .i64 b] σ Post := by
  refine gc_aig_Maker_ite ?_
  have nc := notE_range hc0 hc1
  have xc := bits_xor_one (e := c) (by omega) (by omega)
  have g1 : Gd m (m.conj c a) 1 := (Gd.self hok hc0 hc1).conj hc0 hc1 ha0 ha1
  have := g1.lo; have := g1.hi; have := g1.e1
  have g2 := g1.conj (a := notE c) (b := b) nc.1 (by omega) hb0 (by omega)
  have := (Mk.conj_n (m.conj c a).2 (notE c) b)
  simp [G_aig_Maker_ite, genv0, List.replicate]
  refine aig_and_ok hm (by omega) (by omega) (by omega) (by omega) (by omega) fun σ1 h1 s1 => ?_
  simp [xc]
  refine aig_and_ok h1 (by omega) (by omega) (by omega) (by omega) (by omega) fun σ2 h2 s2 => ?_
  simp
  refine aig_or_ok h2 g1.e0 (by omega) g2.e0 g2.e1 (by omega) fun σ3 h3 s3 => ?_
  simp
  exact k _ h3 ((s1.trans s2).trans s3)
@[simp] theorem conjs_nil (m : Mk) : m.conjs [] = (1, m) := rfl
theorem conjs_take {m : Mk} {l : List Int} {i : Nat} {y : Int} (h : l[i]? = some y) : m.conjs (l.take (i + 1)) = (m.conjs (l.take i)).2.conj (m.conjs (l.take i)).1 y := by
  unfold Mk.conjs; rw [take_get h, List.foldl_append]; rfl
theorem aig_every_ok {n id : Nat} {m : Mk} {l : List Int} {σ : GS} {Post : DV → GS → Prop} (hm : MkO n σ id m) (hok : m.ok) (hx : ∀ x ∈ l, 0 ≤ x ∧ x < 2 * m.n) (hl : l.length < 2 ^ 30) (hsz : m.n < 2 ^ 30)
    (k : ∀ σ', MkO n σ' id (m.conjs l).2 → Stp σ id σ' → Post (.int .i64 (m.conjs l).1) σ') : GCall Tryz.prog F_aig_Maker_every [.ptr id 0, fints l] σ Post := by
  refine gc_aig_Maker_every ?_
  simp [G_aig_Maker_every, genv0, List.replicate]
  refine gfor l.length (fun i e σ' => e = mkEnv 20 [(0, .ptr id 0), (5, .int .i64 (m.conjs (l.take i)).1), (8, fints l), (9, .int .i64 l.length), (10, .int .i64 i)] ∧ MkO n σ' id (m.conjs (l.take i)).2 ∧ Stp σ id σ') _ ?_ ⟨rfl, hm, .refl _ _⟩ ?_
  · simp [mkEnv, List.replicate]
  rintro i _ σ' hi ⟨rfl, h1, s1⟩
  simp [mkEnv, List.replicate]
  by_cases hlt : i < l.length
  · obtain ⟨y, hy⟩ := nth_lt hlt
    have hy' := nth_get hy
    obtain ⟨y0, y1⟩ := hx y (List.mem_of_getElem? hy')
    have es : IntKind.i64.wrap ((i : Int) + 1) = (i : Int) + 1 := by rw [wrap_small] <;> omega
    have g := Gd.conjs hok (l := l.take i) fun x hx' => hx x (List.mem_of_mem_take hx')
    have := g.hi; have := g.e0; have := g.e1
    have : (l.take i).length ≤ l.length := by rw [List.length_take]; omega
    simp [hlt, hy]
    refine aig_and_ok h1 (by omega) (by omega) (by omega) (by omega) (by omega) fun σ2 h2 s2 => ?_
    simp [es]
    have ct := conjs_take (m := m) hy'
    exact forK_go _ hlt (by simp [mkEnv, List.replicate, ct]) ⟨rfl, by rw [ct]; exact h2, s1.trans s2⟩
  · have : i = l.length := by omega
    subst this
    rw [List.take_length] at h1
    simp
    exact k _ h1 s1
theorem aig_some_ok {n id : Nat} {m : Mk} {l : List Int} {σ : GS} {Post : DV → GS → Prop} (hm : MkO n σ id m) (hok : m.ok) (hx : ∀ x ∈ l, 0 ≤ x ∧ x < 2 * m.n) (hl : l.length < 2 ^ 30) (hsz : m.n < 2 ^ 30)
    (k : ∀ σ', MkO n σ' id (m.conjs (l.map notE)).2 → Stp σ id σ' → Post (.int .i64 (notE (m.conjs (l.map notE)).1)) σ') : GCall Tryz.prog F_aig_Maker_some [.ptr id 0, fints l] σ Post := by
  refine gc_aig_Maker_some ?_
  simp [G_aig_Maker_some, genv0, List.replicate]
  have hx' : ∀ x ∈ l.map notE, 0 ≤ x ∧ x < 2 * m.n := fun x h => by
    obtain ⟨y, hy, rfl⟩ := List.mem_map.1 h; exact notE_range (hx y hy).1 (hx y hy).2
  refine gfor l.length (fun i e σ' => e = mkEnv 22 [(0, .ptr id 0), (5, .int .i64 (m.conjs ((l.map notE).take i)).1), (8, fints l), (9, .int .i64 l.length), (10, .int .i64 i)] ∧ MkO n σ' id (m.conjs ((l.map notE).take i)).2 ∧ Stp σ id σ') _ ?_ ⟨rfl, hm, .refl _ _⟩ ?_
  · simp [mkEnv, List.replicate]
  rintro i _ σ' hi ⟨rfl, h1, s1⟩
  simp [mkEnv, List.replicate]
  have g := Gd.conjs hok (l := (l.map notE).take i) fun x hx2 => hx' x (List.mem_of_mem_take hx2)
  have := g.hi; have := g.e0; have := g.e1
  have : ((l.map notE).take i).length ≤ l.length := by rw [List.length_take, List.length_map]; omega
  by_cases hlt : i < l.length
  · obtain ⟨y, hy⟩ := nth_lt hlt
    have hy' := nth_get hy
    obtain ⟨y0, y1⟩ := hx y (List.mem_of_getElem? hy')
    have hy2 : (l.map notE)[i]? = some (notE y) := by rw [List.getElem?_map, hy']; rfl
    have es : IntKind.i64.wrap ((i : Int) + 1) = (i : Int) + 1 := by rw [wrap_small] <;> omega
    have xy := bits_xor_one (e := y) (by omega) (by omega)
    have ny := notE_range y0 y1
    simp [hlt, hy, xy]
    refine aig_and_ok h1 (by omega) (by omega) (by omega) (by omega) (by omega) fun σ2 h2 s2 => ?_
    simp [es]
    have ct := conjs_take (m := m) hy2
    exact forK_go _ hlt (by simp [mkEnv, List.replicate, ct]) ⟨rfl, by rw [ct]; exact h2, s1.trans s2⟩
  · have hie : i = l.length := by omega
    have xe := bits_xor_one (e := (m.conjs ((l.map notE).take i)).1) (by omega) (by omega)
    have htl : (l.map notE).take i = l.map notE := by rw [hie]; exact List.take_of_length_le (by simp)
    rw [htl] at h1 xe ⊢
    simp [hie, xe]
    exact k _ h1 s1
theorem ref_Disj_ok {n id : Nat} {m : Mk} {a b : Int} {σ : GS} {Post : DV → GS → Prop} (hm : RkO n σ id m) (hok : m.ok) (ha0 : 0 ≤ a) (ha1 : a < 2 * m.n) (hb0 : 0 ≤ b) (hb1 : b < 2 * m.n) (hsz : m.n < 2 ^ 39)
    (k : ∀ σ', RkO n σ' id (m.disj a b).2 → Rtp σ id σ' → Post (.int .i64 (m.disj a b).1) σ') : GCall Tryz.prog F_skolemref06_Maker_Disj [.ptr id 0, .int .i64 a, .int .i64 b] σ Post := by
  refine gc_skolemref06_Maker_Disj ?_
  have na := notE_range ha0 ha1; have nb := notE_range hb0 hb1
  have hr := Mk.conj_range na.1 na.2 nb.1 nb.2
  have hn := (Mk.conj_n m (notE a) (notE b)).2
  simp [G_skolemref06_Maker_Disj, genv0, List.replicate]
  refine ref_Not_ok ha0 (by omega) ?_
  simp
  refine ref_Not_ok hb0 (by omega) ?_
  simp
  refine ref_Conj_ok hm hok (by omega) (by omega) (by omega) (by omega) (by omega) fun σ1 h1 h2 => ?_
  simp
  refine ref_Not_ok hr.1 (by omega) ?_
  simp
  exact k _ h1 h2
theorem ref_Excl_ok {n id : Nat} {m : Mk} {a b : Int} {σ : GS} {Post : DV → GS → Prop} (hm : RkO n σ id m) (hok : m.ok) (ha0 : 0 ≤ a) (ha1 : a < 2 * m.n) (hb0 : 0 ≤ b) (hb1 : b < 2 * m.n) (hsz : m.n < 2 ^ 38)
    (k : ∀ σ', RkO n σ' id (m.choice a (notE b) b).2 → Rtp σ id σ' → Post (.int .i64 (m.choice a (notE b) b).1) σ') : GCall Tryz.prog F_skolemref06_Maker_Excl [.ptr id 0, .int .i64 a, .int .i64 b] σ Post := by
  refine gc_skolemref06_Maker_Excl ?_
  have na := notE_range ha0 ha1; have nb := notE_range hb0 hb1
  have g1 : Gd m (m.conj a (notE b)) 1 := (Gd.self hok ha0 ha1).conj ha0 ha1 nb.1 nb.2
  have := g1.lo; have := g1.hi; have := g1.e1
  have g2 := g1.conj (a := notE a) (b := b) na.1 (by omega) hb0 (by omega)
  have := (Mk.conj_n (m.conj a (notE b)).2 (notE a) b)
  simp [G_skolemref06_Maker_Excl, genv0, List.replicate]
  refine ref_Not_ok hb0 (by omega) ?_
  simp
  refine ref_Conj_ok hm hok (by omega) (by omega) (by omega) (by omega) (by omega) fun σ1 h1 s1 => ?_
  simp
  refine ref_Not_ok ha0 (by omega) ?_
  simp
  refine ref_Conj_ok h1 g1.ok (by omega) (by omega) (by omega) (by omega) (by omega) fun σ2 h2 s2 => ?_
  simp
  refine ref_Disj_ok h2 g2.ok g1.e0 (by omega) g2.e0 g2.e1 (by omega) fun σ3 h3 s3 => ?_
  simp
  exact k _ h3 ((s1.trans s2).trans s3)
theorem ref_Choice_ok {n id : Nat} {m : Mk} {c a b : Int} {σ : GS} {Post : DV → GS → Prop} (hm : RkO n σ id m) (hok : m.ok) (hc0 : 0 ≤ c) (hc1 : c < 2 * m.n) (ha0 : 0 ≤ a) (ha1 : a < 2 * m.n) (hb0 : 0 ≤ b) (hb1 : b < 2 * m.n) (hsz : m.n < 2 ^ 38)
    (k : ∀ σ', RkO n σ' id (m.choice c a b).2 → Rtp σ id σ' → Post (.int .i64 (m.choice c a b).1) σ') : GCall Tryz.prog F_skolemref06_Maker_Choice [.ptr id 0, .int .i64 c, .int .i64 a, .int .i64 b] σ Post := by
  refine gc_skolemref06_Maker_Choice ?_
  have nc := notE_range hc0 hc1
  have g1 : Gd m (m.conj c a) 1 := (Gd.self hok hc0 hc1).conj hc0 hc1 ha0 ha1
  have := g1.lo; have := g1.hi; have := g1.e1
  have g2 := g1.conj (a := notE c) (b := b) nc.1 (by omega) hb0 (by omega)
  have := (Mk.conj_n (m.conj c a).2 (notE c) b)
  simp [G_skolemref06_Maker_Choice, genv0, List.replicate]
  refine ref_Conj_ok hm hok (by omega) (by omega) (by omega) (by omega) (by omega) fun σ1 h1 s1 => ?_
  simp
  refine ref_Not_ok hc0 (by omega) ?_
  simp
  refine ref_Conj_ok h1 g1.ok (by omega) (by omega) (by omega) (by omega) (by omega) fun σ2 h2 s2 => ?_
  simp
  refine ref_Disj_ok h2 g2.ok g1.e0 (by omega) g2.e0 g2.e1 (by omega) fun σ3 h3 s3 => ?_
  simp
  exact k _ h3 ((s1.trans s2).trans s3)
theorem ref_Conjs_ok {n id : Nat} {m : Mk} {l : List Int} {σ : GS} {Post : DV → GS → Prop} (hm : RkO n σ id m) (hok : m.ok) (hx : ∀ x ∈ l, 0 ≤ x ∧ x < 2 * m.n) (hl : l.length < 2 ^ 30) (hsz : m.n < 2 ^ 30)
    (k : ∀ σ', RkO n σ' id (m.conjs l).2 → Rtp σ id σ' → Post (.int .i64 (m.conjs l).1) σ') : GCall Tryz.prog F_skolemref06_Maker_Conjs [.ptr id 0, fints l] σ Post := by
  refine gc_skolemref06_Maker_Conjs ?_
  simp [G_skolemref06_Maker_Conjs, genv0, List.replicate]
  refine gfor l.length (fun i e σ' => e = mkEnv 21 [(0, .ptr id 0), (1, fints l), (5, .int .i64 (m.conjs (l.take i)).1), (6, .int .i64 i)] ∧ RkO n σ' id (m.conjs (l.take i)).2 ∧ Rtp σ id σ') _ ?_ ⟨rfl, hm, .refl _ _⟩ ?_
  · simp [mkEnv, List.replicate]
  rintro i _ σ' hi ⟨rfl, h1, s1⟩
  simp [mkEnv, List.replicate]
  by_cases hlt : i < l.length
  · obtain ⟨y, hy⟩ := nth_lt hlt
    have hy' := nth_get hy
    obtain ⟨y0, y1⟩ := hx y (List.mem_of_getElem? hy')
    have es : IntKind.i64.wrap ((i : Int) + 1) = (i : Int) + 1 := by rw [wrap_small] <;> omega
    have g := Gd.conjs hok (l := l.take i) fun x hx' => hx x (List.mem_of_mem_take hx')
    have := g.hi; have := g.e0; have := g.e1
    have : (l.take i).length ≤ l.length := by rw [List.length_take]; omega
    simp [hlt, hy]
    refine ref_Conj_ok h1 g.ok (by omega) (by omega) (by omega) (by omega) (by omega) fun σ2 h2 s2 => ?_
    simp [es]
    have ct := conjs_take (m := m) hy'
    exact forK_go _ hlt (by simp [mkEnv, List.replicate, ct]) ⟨rfl, by rw [ct]; exact h2, s1.trans s2⟩
  · have : i = l.length := by omega
    subst this
    rw [List.take_length] at h1
    simp
    exact k _ h1 s1
theorem ref_Nots_ok {l : List Int} {n : Int} {σ : GS} {Post : DV → GS → Prop} (hl : l.length < 2 ^ 40) (hn : n < 2 ^ 60) (hx : ∀ x ∈ l, 0 ≤ x ∧ x < 2 * n) (h : Post (fints (l.map notE)) σ) : GCall Tryz.prog F_skolemref06_Nots [fints l] σ Post := by
  refine GCall.pure (r := fints (l.map notE)) ?_ (by simp) h
  refine gc_skolemref06_Nots ?_
  simp [G_skolemref06_Nots, genv0, List.replicate]
  refine gfor l.length (fun i e σ' => Fr σ.length σ σ' ∧ ∃ s, Own σ.length 1 eint σ' s ((l.take i).map notE) ∧ e = mkEnv 20 [(0, fints l), (3, s), (4, .int .i64 i)]) _ ?_ ⟨.rfl', .nils, .nil, rfl⟩ ?_
  · simp [mkEnv, List.replicate]
  rintro i _ σ' hi ⟨hF, s, hs, rfl⟩
  simp [mkEnv, List.replicate]
  by_cases hlt : i < l.length
  · obtain ⟨y, hy⟩ := nth_lt hlt
    have hy' := nth_get hy
    obtain ⟨y0, y1⟩ := hx y (List.mem_of_getElem? hy')
    have es : IntKind.i64.wrap ((i : Int) + 1) = (i : Int) + 1 := by rw [wrap_small] <;> omega
    simp [hlt, hy]
    refine ref_Not_ok y0 (by omega) ?_
    obtain ⟨s', σ1, q1, q2, q3, q4, q5, q6⟩ := hs.push (by_ := 8) (notE y) (fun _ => rfl) (by simp) hF.len (by simp; omega) (by decide)
    simp [q1, es]
    exact forK_go _ hlt (by simp [mkEnv, List.replicate]) ⟨hF.trans q3, s', by simpa [take_get hy'] using q2, rfl⟩
  · have : i = l.length := by omega
    subst this
    rw [List.take_length] at hs
    simp
    exact ⟨hF, hs.rd (fun _ => rfl) okN⟩
end Go.Gh
namespace Go.Gh
open Go.RowKit Go.Proofs
set_option linter.unusedVariables false
set_option linter.unusedSimpArgs false
set_option maxRecDepth 100000
@[simp] theorem ga_box_int (k : IntKind) (x : Int) : galloc .box [.int k x] = some (.row false [.int k x], fun id => .ptr id 0) := rfl
@[simp] theorem ga_box_ptr (i j : Nat) : galloc .box [.ptr i j] = some (.row false [.ptr i j], fun id => .ptr id 0) := rfl
@[simp] theorem ga_box_fsl (sz : Nat) (es : List (List DV)) : galloc .box [.fsl sz es] = some (.row false [.fsl sz es], fun id => .ptr id 0) := rfl
@[simp] theorem ga_b2_int {z : DV} (k : IntKind) (x y : Int) : galloc (.bslice 1 [z] 2 [(0, 1), (1, 1)]) [.int k x, .int k y] = some (.row false [.int k x, .int k y], fun id => .slice id 0 2 1 (some 2)) := rfl
@[simp] theorem ga_b3_int {z : DV} (k : IntKind) (x y w : Int) : galloc (.bslice 1 [z] 3 [(0, 1), (1, 1), (2, 1)]) [.int k x, .int k y, .int k w] = some (.row false [.int k x, .int k y, .int k w], fun id => .slice id 0 3 1 (some 3)) := rfl
theorem flat_eint : ∀ L : List Int, L.flatMap eint = L.map fun x => DV.int .i64 x
  | [] => rfl
  | x :: l => by rw [List.flatMap_cons, flat_eint l]; rfl
@[simp] theorem ptr_nil (id k : Nat) : gbin .eql .ptr (.ptr id k) .nilp = some (.bool false) := rfl
@[simp] theorem nil_nil : gbin .eql .ptr .nilp .nilp = some (.bool true) := rfl
/-- A slice that was just made is read as frozen from now on. -/
theorem GCall.lay {P : Program} {f : FuncId} {pre : List DV} {id : Nat} {cap : Option Nat} {L : List Int} {σ : GS} {Post : DV → GS → Prop} (h : σ[id]? = some (.row false (L.map fun x => .int .i64 x))) (hc : cap = some L.length)
    (k : ∀ σ1, (∀ j, j ≠ id → σ1[j]? = σ[j]?) → σ1.length = σ.length → GCall P f (pre ++ [fints L]) σ1 Post) : GCall P f (pre ++ [.slice id 0 L.length 1 cap]) σ Post := by
  have hO : Own 0 1 eint σ (.slice id 0 L.length 1 cap) L := .at_ (Nat.zero_le _) (by rw [h, flat_eint]) (fun c hcc => by rw [hc] at hcc; cases hcc; rfl)
  have hs : (fun i => (DV.slice id 0 L.length 1 cap).idOf == some i) = fun i => decide (i = id) := by
    funext i; show (some id == some i) = _; by_cases e : i = id
    · subst e; simp
    · simp [e, Ne.symm e]
  have hr := hO.rdF (fun _ => rfl)
  rw [hs] at hr
  have hp : ∀ l : List DV, Rds (Go.Gh.frz (fun i => decide (i = id)) σ) (RO (Go.Gh.frz (fun i => decide (i = id)) σ)) (l ++ [.slice id 0 L.length 1 cap]) (l ++ [fints L]) := fun l => by
    induction l with
    | nil => exact .cons hr .nil
    | cons x l ih => exact .cons (.same _) ih
  exact GCall.frz (fun i => decide (i = id)) (hp pre) (k _ (fun j hj => frz_off (by simpa using hj)) (frz_len _ _))
/-- The answer of an operation: the edge, or ErrArg if the edges are not there. -/
def mkOut (m : Mk) (L : List Int) (r : Int × Mk) : (Int × Int) × Mk := if L.all m.graph.has = true then ((r.1, 0), r.2) else ((0, 2), m)
theorem Mk.all_has {m : Mk} {L : List Int} : L.all m.graph.has = true ↔ ∀ x ∈ L, 0 ≤ x ∧ x < 2 * (m.n : Int) := by
  rw [List.all_eq_true]
  have : (m.graph.nodes : Int) = m.n := rfl
  simp [AigP.has, this]
theorem aig_none_ok {n id : Nat} {m : Mk} {σ : GS} {Post : DV → GS → Prop} (hm : MkO n σ id m) (k : Post (.bool false) σ) : GCall Tryz.prog F_aig_Maker_none [.ptr id 0] σ Post := by
  obtain ⟨si, sa, at_, in_, la, li, h⟩ := hm
  refine gc_aig_Maker_none ?_
  have hfld : gload (.load 1 false) [.ptr id 0] σ = some (.bool true) := ld_at h.row
  simp [G_aig_Maker_none, genv0, List.replicate, hfld]
  exact k
theorem aig_make_1_ok {e last : Int} {id : Nat} {σ : GS} {Post : DV → GS → Prop} (hb : gload (.load 1 false) [.ptr id 0] σ = some (.int .i64 last)) (h : Post (.bool (decide (e < 0) || decide (last < e))) σ) : GCall Tryz.prog F_aig_Maker_make_1 [.int .i64 e, .ptr id 0] σ Post := by
  refine gc_aig_Maker_make_1 ?_
  by_cases h1 : e < 0
  · simp [G_aig_Maker_make_1, genv0, List.replicate, h1]
    simpa [h1] using h
  · simp [G_aig_Maker_make_1, genv0, List.replicate, h1, hb]
    simpa [h1] using h
theorem aig_make_ok {n id : Nat} {m : Mk} {f : FuncId} {caps : List DV} {L : List Int} {r : Int × Mk} {Q : GS → Prop} {σ : GS} {Post : DV → GS → Prop} (hm : MkO n σ id m) (hsz : m.n < 2 ^ 39) (hl : L.length < 2 ^ 50)
    (hf : L.all m.graph.has = true → r.2.full = false ∧ ∀ σ', Fr σ.length σ σ' → ∀ K : DV → GS → Prop, (∀ σ'', MkO n σ'' id r.2 → Q σ'' → K (.int .i64 r.1) σ'') → GCall Tryz.prog f caps σ' K)
    (k1 : L.all m.graph.has = false → ∀ σ', Fr σ.length σ σ' → Post (.tuple [.int .i64 0, .int .i64 2]) σ')
    (k2 : L.all m.graph.has = true → ∀ σ', MkO n σ' id r.2 → Q σ' → Post (.tuple [.int .i64 r.1, .int .i64 0]) σ') : GCall Tryz.prog F_aig_Maker_make [.ptr id 0, .func f [] caps, fints L] σ Post := by
  refine gc_aig_Maker_make ?_
  have hm0 := hm
  obtain ⟨si, sa, at_, in_, la, li, h⟩ := hm
  have hagg : gload (.load 2 true) [.ptr id 1] σ = some (.agg [si, sa]) := by rw [ld_agg h.row]; rfl
  have hnp := m.n_pos
  have e1 : IntKind.i64.wrap (2 * (m.n : Int)) = 2 * m.n := by rw [wrap_small] <;> omega
  have e2 : IntKind.i64.wrap (2 * (m.n : Int) - 1) = 2 * m.n - 1 := by rw [wrap_small] <;> omega
  simp [G_aig_Maker_make, genv0, List.replicate]
  refine aig_none_ok hm0 ?_
  simp [hagg]
  refine nodes_live h (by omega) ?_
  simp [e1, e2]
  have hrowτ : ∀ τ j, gload (.load 1 false) [.ptr id j] (σ ++ τ) = [DV.bool true, si, sa, .map at_, .map in_, .bool m.full][j]? := fun τ j => ld_at (getE_append h.row)
  refine contains_func_ok (by omega) (p := fun e => decide (e < 0) || decide (2 * (m.n : Int) - 1 < e)) (fun x hx K hK => aig_make_1_ok (last := 2 * (m.n : Int) - 1) (by simp) hK) ?_
  have hany : (L.any fun e => decide (e < 0) || decide (2 * (m.n : Int) - 1 < e)) = !L.all m.graph.has := by
    have hn : (m.graph.nodes : Int) = m.n := rfl
    rw [Bool.eq_iff_iff]
    simp [List.all_eq_true, AigP.has, hn]
    constructor
    · rintro ⟨x, hx, hh⟩; exact ⟨x, hx, by omega⟩
    · rintro ⟨x, hx, hh⟩; exact ⟨x, hx, by omega⟩
  rw [hany]
  by_cases c : L.all m.graph.has = true
  rotate_left
  · have c' : L.all m.graph.has = false := by simpa using c
    simp [c']
    exact k1 c' _ (.app .rfl' _)
  obtain ⟨f1, f2⟩ := hf c
  have hsal := (h.ands.fit (σ' := σ ++ [.row false [.int .i64 (2 * (m.n : Int) - 1)]]) fun i hi => List.getElem?_append_left (h.ands.has_lt hi)).len
  simp [c, hrowτ, hsal]
  refine f2 _ (.app .rfl' _) _ fun σ2 h2 q2 => ?_
  have h2' := h2
  obtain ⟨si2, sa2, at2, in2, la2, li2, hr2⟩ := h2'
  have hfld : gload (.load 1 false) [.ptr id 5] σ2 = some (.bool r.2.full) := ld_at hr2.row
  rw [f1] at hfld
  simp [hfld]
  exact k2 c _ h2 q2
theorem ref_has_live {n id : Nat} {σ : GS} {m : Mk} {e : Int} {si sa : DV} {Post : DV → GS → Prop} (h : RkR n σ id m si sa) (hs : m.n < 2 ^ 40) (k : Post (.bool (m.graph.has e)) σ) : GCall Tryz.prog F_skolemref06_has [.agg [si, sa], .int .i64 e] σ Post := by
  refine GCall.borrow (args' := [AigP.enc ⟨m.ins, m.ands⟩, .int .i64 e]) (r := .bool (m.graph.has e)) (.cons (h.rd _ fun _ _ => trivial) (.cons (.same _) .nil)) (by simp) rfl ?_ k
  have hn : m.n = 1 + m.ins.length + m.ands.length := rfl
  exact ref_has_ok (g := ⟨m.ins, m.ands⟩) ⟨by show m.ins.length < _; omega, by show m.ands.length < _; omega⟩ rfl
theorem all_true {p : Int → Bool} {l : List Int} {i : Nat} {y : Int} (h : l[i]? = some y) (hp : p y = false) : l.all p = false := by
  rw [Bool.eq_false_iff]; intro hh; rw [List.all_eq_true.1 hh y (List.mem_of_getElem? h)] at hp; cases hp
theorem ref_all_live {n id : Nat} {σ : GS} {m : Mk} {L : List Int} {Post : DV → GS → Prop} (hm : RkO n σ id m) (hs : m.n < 2 ^ 40) (hl : L.length < 2 ^ 50) (k : Post (.bool (L.all m.graph.has)) σ) : GCall Tryz.prog F_skolemref06_Maker_all [.ptr id 0, fints L] σ Post := by
  obtain ⟨si, sa, h⟩ := hm
  have hld : gload (.load 2 true) [.ptr id 0] σ = some (.agg [si, sa]) := by rw [ld_agg h.row]; rfl
  refine gc_skolemref06_Maker_all ?_
  simp [G_skolemref06_Maker_all, genv0, List.replicate]
  refine gfor L.length (fun i e σ' => e = mkEnv 22 [(0, .ptr id 0), (1, fints L), (5, .int .i64 i)] ∧ σ' = σ ∧ ∀ y ∈ L.take i, m.graph.has y = true) _ ?_ ⟨rfl, rfl, by simp⟩ ?_
  · simp [mkEnv, List.replicate]
  rintro i _ _ hi ⟨rfl, rfl, hI⟩
  simp [mkEnv, List.replicate]
  by_cases hlt : i < L.length
  · obtain ⟨y, hy⟩ := nth_lt hlt
    have hy' := nth_get hy
    have es : IntKind.i64.wrap ((i : Int) + 1) = (i : Int) + 1 := by rw [wrap_small] <;> omega
    simp [hlt, hld, hy]
    refine ref_has_live h hs ?_
    by_cases c : m.graph.has y = true
    · simp [c, es]
      refine forK_go _ hlt (by simp [mkEnv, List.replicate]) ⟨rfl, rfl, fun z hz => ?_⟩
      rw [take_get hy', List.mem_append] at hz
      rcases hz with hz | hz
      · exact hI z hz
      · rw [List.mem_singleton.1 hz]; exact c
    · have c' : m.graph.has y = false := by simpa using c
      rw [all_true hy' c'] at k
      simp [c']
      exact k
  · have : i = L.length := by omega
    subst this
    rw [List.take_length] at hI
    rw [List.all_eq_true.2 hI] at k
    simp
    exact k
theorem ref_done_ok {n id : Nat} {m : Mk} {e N : Int} {σ : GS} {Post : DV → GS → Prop} (hm : RkO n σ id m) (hf : m.full = false) (k : Post (.tuple [.int .i64 e, .int .i64 0]) σ) : GCall Tryz.prog F_skolemref06_Maker_done [.ptr id 0, .int .i64 N, .int .i64 e] σ Post := by
  obtain ⟨si, sa, h⟩ := hm
  have hfld : gload (.load 1 false) [.ptr id 2] σ = some (.bool m.full) := ld_at h.row
  rw [hf] at hfld
  refine gc_skolemref06_Maker_done ?_
  simp [G_skolemref06_Maker_done, genv0, List.replicate, hfld]
  exact k
theorem aig_And_ok {n id : Nat} {m : Mk} {a b : Int} {σ : GS} {Post : DV → GS → Prop} (hm : MkO n σ id m) (hok : m.ok) (hfull : m.full = false) (hsz : m.n < 150000)
    (k : ∀ σ', MkO n σ' id (mkOut m [a, b] (m.conj a b)).2 → Stp σ id σ' → Post (.tuple [.int .i64 (mkOut m [a, b] (m.conj a b)).1.1, .int .i64 (mkOut m [a, b] (m.conj a b)).1.2]) σ') : GCall Tryz.prog F_aig_Maker_And [.ptr id 0, .int .i64 a, .int .i64 b] σ Post := by
  refine gc_aig_Maker_And ?_
  simp [G_aig_Maker_And, genv0, List.replicate]
  refine GCall.lay (pre := [_, _]) (L := [a, b]) ?hrow rfl fun σ1 g1 gl => ?_
  · simp
  have hb : ∀ j x, σ1.length = σ.length + 4 → j < 3 → (σ ++ [.row false [.ptr id 0], .row false [.int .i64 a], .row false [.int .i64 b], .row false [.int .i64 a, .int .i64 b]])[σ.length + j]? = some (.row false [x]) → ∀ τ, Fr σ1.length σ1 τ → τ[σ.length + j]? = some (.row false [x]) := fun j o hl hj ho τ hF => by
    rw [hF.get _ (by omega), g1 _ (by omega)]; exact ho
  have hl1 : σ1.length = σ.length + 4 := by rw [gl]; simp
  have hlow : ∀ j, j < σ.length → σ1[j]? = σ[j]? := fun j hj => by rw [g1 _ (by omega), List.getElem?_append_left hj]
  have hm1 : MkO n σ1 id m := hm.keep hlow
  refine aig_make_ok (r := m.conj a b) (Q := Stp σ id) hm1 (by omega) (by simp) (fun hall => ?_) (fun hall σ2 h2 => ?_) (fun hall σ2 h2 q2 => ?_)
  · have hall : [a, b].all m.graph.has = true := hall
    obtain ⟨a0, a1⟩ := Mk.all_has.1 hall a (by simp)
    obtain ⟨b0, b1⟩ := Mk.all_has.1 hall b (by simp)
    have g : Gd m (m.conj a b) 1 := (Gd.self hok a0 a1).conj a0 a1 b0 b1
    refine ⟨(g.full (by omega)).trans hfull, fun τ hF K hK => ?_⟩
    have hmτ : MkO n τ id m := hm1.keep hF.get
    have hsτ : Stp σ id τ := hm.stp (by have := hF.len; omega) fun j hj => (hF.get j (by omega)).trans (hlow j hj)
    have p0 : τ[σ.length]? = some (.row false [.ptr id 0]) := hb 0 (.ptr id 0) hl1 (by omega) (by simp) τ hF
    have e0 : gload (.load 1 false) [.ptr (σ.length) 0] τ = some (.ptr id 0) := by rw [ld_at p0]; rfl
    have p1 : τ[σ.length + 1]? = some (.row false [.int .i64 a]) := hb 1 (.int .i64 a) hl1 (by omega) (by simp) τ hF
    have e1 : gload (.load 1 false) [.ptr (σ.length + 1) 0] τ = some (.int .i64 a) := by rw [ld_at p1]; rfl
    have p2 : τ[σ.length + 2]? = some (.row false [.int .i64 b]) := hb 2 (.int .i64 b) hl1 (by omega) (by simp) τ hF
    have e2 : gload (.load 1 false) [.ptr (σ.length + 2) 0] τ = some (.int .i64 b) := by rw [ld_at p2]; rfl
    refine gc_aig_Maker_And_1 ?_
    simp [G_aig_Maker_And_1, genv0, List.replicate, e0, e1, e2]
    exact aig_and_ok hmτ (by omega) (by omega) (by omega) (by omega) (by omega) fun σ3 h3 s3 => by simpa using hK _ h3 (hsτ.trans s3)
  · have hall : [a, b].all m.graph.has = false := hall
    have e : mkOut m [a, b] (m.conj a b) = ((0, 2), m) := by unfold mkOut; rw [if_neg (by simp only [hall]; decide)]
    rw [e] at k
    simp
    exact k _ (hm1.keep h2.get) (hm.stp (by have := h2.len; omega) fun j hj => (h2.get j (by omega)).trans (hlow j hj))
  · have hall : [a, b].all m.graph.has = true := hall
    have e : mkOut m [a, b] (m.conj a b) = (((m.conj a b).1, 0), (m.conj a b).2) := by unfold mkOut; rw [if_pos hall]
    rw [e] at k
    simp
    exact k _ h2 q2
theorem ref_And_ok {n id : Nat} {m : Mk} {a b : Int} {σ : GS} {Post : DV → GS → Prop} (hm : RkO n σ id m) (hok : m.ok) (hfull : m.full = false) (hsz : m.n < 150000)
    (k : ∀ σ', RkO n σ' id (mkOut m [a, b] (m.conj a b)).2 → Rtp σ id σ' → Post (.tuple [.int .i64 (mkOut m [a, b] (m.conj a b)).1.1, .int .i64 (mkOut m [a, b] (m.conj a b)).1.2]) σ') : GCall Tryz.prog F_skolemref06_Maker_And [.ptr id 0, .int .i64 a, .int .i64 b] σ Post := by
  refine gc_skolemref06_Maker_And ?_
  simp [G_skolemref06_Maker_And, genv0, List.replicate]
  refine GCall.lay (pre := [_]) (L := [a, b]) ?hrow rfl fun σ1 g1 gl => ?_
  · simp
  have hl1 : σ1.length = σ.length + 1 := by rw [gl]; simp
  have hlow : ∀ j, j < σ.length → σ1[j]? = σ[j]? := fun j hj => by rw [g1 _ (by omega), List.getElem?_append_left hj]
  have hm1 : RkO n σ1 id m := hm.keep hlow
  have hs1 : Rtp σ id σ1 := hm.stp (by omega) hlow
  refine ref_all_live hm1 (by omega) (by simp) ?_
  by_cases hall : [a, b].all m.graph.has = true
  rotate_left
  · have hall' : [a, b].all m.graph.has = false := by simpa using hall
    have e : mkOut m [a, b] (m.conj a b) = ((0, 2), m) := by unfold mkOut; rw [if_neg hall]
    rw [e] at k
    simp only [hall']
    simp
    exact k _ hm1 hs1
  obtain ⟨a0, a1⟩ := Mk.all_has.1 hall a (by simp)
  obtain ⟨b0, b1⟩ := Mk.all_has.1 hall b (by simp)
  have g : Gd m (m.conj a b) 1 := (Gd.self hok a0 a1).conj a0 a1 b0 b1
  have e : mkOut m [a, b] (m.conj a b) = (((m.conj a b).1, 0), (m.conj a b).2) := by unfold mkOut; rw [if_pos hall]
  rw [e] at k
  simp only [hall]
  have hm1' := hm1
  obtain ⟨si, sa, h⟩ := hm1'
  have hld : gload (.load 1 false) [.ptr id 1] σ1 = some sa := ld_at h.row
  have hsal := h.ands.len
  simp [hld, hsal]
  refine ref_Conj_ok hm1 hok (by omega) (by omega) (by omega) (by omega) (by omega) fun σ2 h2 s2 => ?_
  simp
  refine ref_done_ok h2 ((g.full (by omega)).trans hfull) ?_
  simp
  exact k _ h2 (hs1.trans s2)
theorem aig_Or_ok {n id : Nat} {m : Mk} {a b : Int} {σ : GS} {Post : DV → GS → Prop} (hm : MkO n σ id m) (hok : m.ok) (hfull : m.full = false) (hsz : m.n < 150000)
    (k : ∀ σ', MkO n σ' id (mkOut m [a, b] (m.disj a b)).2 → Stp σ id σ' → Post (.tuple [.int .i64 (mkOut m [a, b] (m.disj a b)).1.1, .int .i64 (mkOut m [a, b] (m.disj a b)).1.2]) σ') : GCall Tryz.prog F_aig_Maker_Or [.ptr id 0, .int .i64 a, .int .i64 b] σ Post := by
  refine gc_aig_Maker_Or ?_
  simp [G_aig_Maker_Or, genv0, List.replicate]
  refine GCall.lay (pre := [_, _]) (L := [a, b]) ?hrow rfl fun σ1 g1 gl => ?_
  · simp
  have hb : ∀ j x, σ1.length = σ.length + 4 → j < 3 → (σ ++ [.row false [.ptr id 0], .row false [.int .i64 a], .row false [.int .i64 b], .row false [.int .i64 a, .int .i64 b]])[σ.length + j]? = some (.row false [x]) → ∀ τ, Fr σ1.length σ1 τ → τ[σ.length + j]? = some (.row false [x]) := fun j o hl hj ho τ hF => by
    rw [hF.get _ (by omega), g1 _ (by omega)]; exact ho
  have hl1 : σ1.length = σ.length + 4 := by rw [gl]; simp
  have hlow : ∀ j, j < σ.length → σ1[j]? = σ[j]? := fun j hj => by rw [g1 _ (by omega), List.getElem?_append_left hj]
  have hm1 : MkO n σ1 id m := hm.keep hlow
  refine aig_make_ok (r := m.disj a b) (Q := Stp σ id) hm1 (by omega) (by simp) (fun hall => ?_) (fun hall σ2 h2 => ?_) (fun hall σ2 h2 q2 => ?_)
  · have hall : [a, b].all m.graph.has = true := hall
    obtain ⟨a0, a1⟩ := Mk.all_has.1 hall a (by simp)
    obtain ⟨b0, b1⟩ := Mk.all_has.1 hall b (by simp)
    have g : Gd m (m.disj a b) 1 := (Gd.self hok a0 a1).disj a0 a1 b0 b1
    refine ⟨(g.full (by omega)).trans hfull, fun τ hF K hK => ?_⟩
    have hmτ : MkO n τ id m := hm1.keep hF.get
    have hsτ : Stp σ id τ := hm.stp (by have := hF.len; omega) fun j hj => (hF.get j (by omega)).trans (hlow j hj)
    have p0 : τ[σ.length]? = some (.row false [.ptr id 0]) := hb 0 (.ptr id 0) hl1 (by omega) (by simp) τ hF
    have e0 : gload (.load 1 false) [.ptr (σ.length) 0] τ = some (.ptr id 0) := by rw [ld_at p0]; rfl
    have p1 : τ[σ.length + 1]? = some (.row false [.int .i64 a]) := hb 1 (.int .i64 a) hl1 (by omega) (by simp) τ hF
    have e1 : gload (.load 1 false) [.ptr (σ.length + 1) 0] τ = some (.int .i64 a) := by rw [ld_at p1]; rfl
    have p2 : τ[σ.length + 2]? = some (.row false [.int .i64 b]) := hb 2 (.int .i64 b) hl1 (by omega) (by simp) τ hF
    have e2 : gload (.load 1 false) [.ptr (σ.length + 2) 0] τ = some (.int .i64 b) := by rw [ld_at p2]; rfl
    refine gc_aig_Maker_Or_1 ?_
    simp [G_aig_Maker_Or_1, genv0, List.replicate, e0, e1, e2]
    exact aig_or_ok hmτ a0 a1 b0 b1 (by omega) fun σ3 h3 s3 => by simpa using hK _ h3 (hsτ.trans s3)
  · have hall : [a, b].all m.graph.has = false := hall
    have e : mkOut m [a, b] (m.disj a b) = ((0, 2), m) := by unfold mkOut; rw [if_neg (by simp only [hall]; decide)]
    rw [e] at k
    simp
    exact k _ (hm1.keep h2.get) (hm.stp (by have := h2.len; omega) fun j hj => (h2.get j (by omega)).trans (hlow j hj))
  · have hall : [a, b].all m.graph.has = true := hall
    have e : mkOut m [a, b] (m.disj a b) = (((m.disj a b).1, 0), (m.disj a b).2) := by unfold mkOut; rw [if_pos hall]
    rw [e] at k
    simp
    exact k _ h2 q2
theorem ref_Or_ok {n id : Nat} {m : Mk} {a b : Int} {σ : GS} {Post : DV → GS → Prop} (hm : RkO n σ id m) (hok : m.ok) (hfull : m.full = false) (hsz : m.n < 150000)
    (k : ∀ σ', RkO n σ' id (mkOut m [a, b] (m.disj a b)).2 → Rtp σ id σ' → Post (.tuple [.int .i64 (mkOut m [a, b] (m.disj a b)).1.1, .int .i64 (mkOut m [a, b] (m.disj a b)).1.2]) σ') : GCall Tryz.prog F_skolemref06_Maker_Or [.ptr id 0, .int .i64 a, .int .i64 b] σ Post := by
  refine gc_skolemref06_Maker_Or ?_
  simp [G_skolemref06_Maker_Or, genv0, List.replicate]
  refine GCall.lay (pre := [_]) (L := [a, b]) ?hrow rfl fun σ1 g1 gl => ?_
  · simp
  have hl1 : σ1.length = σ.length + 1 := by rw [gl]; simp
  have hlow : ∀ j, j < σ.length → σ1[j]? = σ[j]? := fun j hj => by rw [g1 _ (by omega), List.getElem?_append_left hj]
  have hm1 : RkO n σ1 id m := hm.keep hlow
  have hs1 : Rtp σ id σ1 := hm.stp (by omega) hlow
  refine ref_all_live hm1 (by omega) (by simp) ?_
  by_cases hall : [a, b].all m.graph.has = true
  rotate_left
  · have hall' : [a, b].all m.graph.has = false := by simpa using hall
    have e : mkOut m [a, b] (m.disj a b) = ((0, 2), m) := by unfold mkOut; rw [if_neg hall]
    rw [e] at k
    simp only [hall']
    simp
    exact k _ hm1 hs1
  obtain ⟨a0, a1⟩ := Mk.all_has.1 hall a (by simp)
  obtain ⟨b0, b1⟩ := Mk.all_has.1 hall b (by simp)
  have g : Gd m (m.disj a b) 1 := (Gd.self hok a0 a1).disj a0 a1 b0 b1
  have e : mkOut m [a, b] (m.disj a b) = (((m.disj a b).1, 0), (m.disj a b).2) := by unfold mkOut; rw [if_pos hall]
  rw [e] at k
  simp only [hall]
  have hm1' := hm1
  obtain ⟨si, sa, h⟩ := hm1'
  have hld : gload (.load 1 false) [.ptr id 1] σ1 = some sa := ld_at h.row
  have hsal := h.ands.len
  simp [hld, hsal]
  refine ref_Disj_ok hm1 hok a0 a1 b0 b1 (by omega) fun σ2 h2 s2 => ?_
  simp
  refine ref_done_ok h2 ((g.full (by omega)).trans hfull) ?_
  simp
  exact k _ h2 (hs1.trans s2)
theorem aig_Xor_ok {n id : Nat} {m : Mk} {a b : Int} {σ : GS} {Post : DV → GS → Prop} (hm : MkO n σ id m) (hok : m.ok) (hfull : m.full = false) (hsz : m.n < 150000)
    (k : ∀ σ', MkO n σ' id (mkOut m [a, b] (m.choice a (notE b) b)).2 → Stp σ id σ' → Post (.tuple [.int .i64 (mkOut m [a, b] (m.choice a (notE b) b)).1.1, .int .i64 (mkOut m [a, b] (m.choice a (notE b) b)).1.2]) σ') : GCall Tryz.prog F_aig_Maker_Xor [.ptr id 0, .int .i64 a, .int .i64 b] σ Post := by
  refine gc_aig_Maker_Xor ?_
  simp [G_aig_Maker_Xor, genv0, List.replicate]
  refine GCall.lay (pre := [_, _]) (L := [a, b]) ?hrow rfl fun σ1 g1 gl => ?_
  · simp
  have hb : ∀ j x, σ1.length = σ.length + 4 → j < 3 → (σ ++ [.row false [.ptr id 0], .row false [.int .i64 a], .row false [.int .i64 b], .row false [.int .i64 a, .int .i64 b]])[σ.length + j]? = some (.row false [x]) → ∀ τ, Fr σ1.length σ1 τ → τ[σ.length + j]? = some (.row false [x]) := fun j o hl hj ho τ hF => by
    rw [hF.get _ (by omega), g1 _ (by omega)]; exact ho
  have hl1 : σ1.length = σ.length + 4 := by rw [gl]; simp
  have hlow : ∀ j, j < σ.length → σ1[j]? = σ[j]? := fun j hj => by rw [g1 _ (by omega), List.getElem?_append_left hj]
  have hm1 : MkO n σ1 id m := hm.keep hlow
  refine aig_make_ok (r := m.choice a (notE b) b) (Q := Stp σ id) hm1 (by omega) (by simp) (fun hall => ?_) (fun hall σ2 h2 => ?_) (fun hall σ2 h2 q2 => ?_)
  · have hall : [a, b].all m.graph.has = true := hall
    obtain ⟨a0, a1⟩ := Mk.all_has.1 hall a (by simp)
    obtain ⟨b0, b1⟩ := Mk.all_has.1 hall b (by simp)
    have g : Gd m (m.choice a (notE b) b) 3 := Gd.choice hok a0 a1 (notE_range b0 b1).1 (notE_range b0 b1).2 b0 b1
    refine ⟨(g.full (by omega)).trans hfull, fun τ hF K hK => ?_⟩
    have hmτ : MkO n τ id m := hm1.keep hF.get
    have hsτ : Stp σ id τ := hm.stp (by have := hF.len; omega) fun j hj => (hF.get j (by omega)).trans (hlow j hj)
    have p0 : τ[σ.length]? = some (.row false [.ptr id 0]) := hb 0 (.ptr id 0) hl1 (by omega) (by simp) τ hF
    have e0 : gload (.load 1 false) [.ptr (σ.length) 0] τ = some (.ptr id 0) := by rw [ld_at p0]; rfl
    have p1 : τ[σ.length + 1]? = some (.row false [.int .i64 a]) := hb 1 (.int .i64 a) hl1 (by omega) (by simp) τ hF
    have e1 : gload (.load 1 false) [.ptr (σ.length + 1) 0] τ = some (.int .i64 a) := by rw [ld_at p1]; rfl
    have p2 : τ[σ.length + 2]? = some (.row false [.int .i64 b]) := hb 2 (.int .i64 b) hl1 (by omega) (by simp) τ hF
    have e2 : gload (.load 1 false) [.ptr (σ.length + 2) 0] τ = some (.int .i64 b) := by rw [ld_at p2]; rfl
    refine gc_aig_Maker_Xor_1 ?_
    simp [G_aig_Maker_Xor_1, genv0, List.replicate, e0, e1, e2]
    exact aig_xor_ok hmτ hok a0 a1 b0 b1 (by omega) fun σ3 h3 s3 => by simpa using hK _ h3 (hsτ.trans s3)
  · have hall : [a, b].all m.graph.has = false := hall
    have e : mkOut m [a, b] (m.choice a (notE b) b) = ((0, 2), m) := by unfold mkOut; rw [if_neg (by simp only [hall]; decide)]
    rw [e] at k
    simp
    exact k _ (hm1.keep h2.get) (hm.stp (by have := h2.len; omega) fun j hj => (h2.get j (by omega)).trans (hlow j hj))
  · have hall : [a, b].all m.graph.has = true := hall
    have e : mkOut m [a, b] (m.choice a (notE b) b) = (((m.choice a (notE b) b).1, 0), (m.choice a (notE b) b).2) := by unfold mkOut; rw [if_pos hall]
    rw [e] at k
    simp
    exact k _ h2 q2
theorem ref_Xor_ok {n id : Nat} {m : Mk} {a b : Int} {σ : GS} {Post : DV → GS → Prop} (hm : RkO n σ id m) (hok : m.ok) (hfull : m.full = false) (hsz : m.n < 150000)
    (k : ∀ σ', RkO n σ' id (mkOut m [a, b] (m.choice a (notE b) b)).2 → Rtp σ id σ' → Post (.tuple [.int .i64 (mkOut m [a, b] (m.choice a (notE b) b)).1.1, .int .i64 (mkOut m [a, b] (m.choice a (notE b) b)).1.2]) σ') : GCall Tryz.prog F_skolemref06_Maker_Xor [.ptr id 0, .int .i64 a, .int .i64 b] σ Post := by
  refine gc_skolemref06_Maker_Xor ?_
  simp [G_skolemref06_Maker_Xor, genv0, List.replicate]
  refine GCall.lay (pre := [_]) (L := [a, b]) ?hrow rfl fun σ1 g1 gl => ?_
  · simp
  have hl1 : σ1.length = σ.length + 1 := by rw [gl]; simp
  have hlow : ∀ j, j < σ.length → σ1[j]? = σ[j]? := fun j hj => by rw [g1 _ (by omega), List.getElem?_append_left hj]
  have hm1 : RkO n σ1 id m := hm.keep hlow
  have hs1 : Rtp σ id σ1 := hm.stp (by omega) hlow
  refine ref_all_live hm1 (by omega) (by simp) ?_
  by_cases hall : [a, b].all m.graph.has = true
  rotate_left
  · have hall' : [a, b].all m.graph.has = false := by simpa using hall
    have e : mkOut m [a, b] (m.choice a (notE b) b) = ((0, 2), m) := by unfold mkOut; rw [if_neg hall]
    rw [e] at k
    simp only [hall']
    simp
    exact k _ hm1 hs1
  obtain ⟨a0, a1⟩ := Mk.all_has.1 hall a (by simp)
  obtain ⟨b0, b1⟩ := Mk.all_has.1 hall b (by simp)
  have g : Gd m (m.choice a (notE b) b) 3 := Gd.choice hok a0 a1 (notE_range b0 b1).1 (notE_range b0 b1).2 b0 b1
  have e : mkOut m [a, b] (m.choice a (notE b) b) = (((m.choice a (notE b) b).1, 0), (m.choice a (notE b) b).2) := by unfold mkOut; rw [if_pos hall]
  rw [e] at k
  simp only [hall]
  have hm1' := hm1
  obtain ⟨si, sa, h⟩ := hm1'
  have hld : gload (.load 1 false) [.ptr id 1] σ1 = some sa := ld_at h.row
  have hsal := h.ands.len
  simp [hld, hsal]
  refine ref_Excl_ok hm1 hok a0 a1 b0 b1 (by omega) fun σ2 h2 s2 => ?_
  simp
  refine ref_done_ok h2 ((g.full (by omega)).trans hfull) ?_
  simp
  exact k _ h2 (hs1.trans s2)
theorem aig_Ite_ok {n id : Nat} {m : Mk} {c a b : Int} {σ : GS} {Post : DV → GS → Prop} (hm : MkO n σ id m) (hok : m.ok) (hfull : m.full = false) (hsz : m.n < 150000)
    (k : ∀ σ', MkO n σ' id (mkOut m [c, a, b] (m.choice c a b)).2 → Stp σ id σ' → Post (.tuple [.int .i64 (mkOut m [c, a, b] (m.choice c a b)).1.1, .int .i64 (mkOut m [c, a, b] (m.choice c a b)).1.2]) σ') : GCall Tryz.prog F_aig_Maker_Ite [.ptr id 0, .int .i64 c, .int .i64 a, .int .i64 b] σ Post := by
  refine gc_aig_Maker_Ite ?_
  simp [G_aig_Maker_Ite, genv0, List.replicate]
  refine GCall.lay (pre := [_, _]) (L := [c, a, b]) ?hrow rfl fun σ1 g1 gl => ?_
  · simp
  have hb : ∀ j x, σ1.length = σ.length + 5 → j < 4 → (σ ++ [.row false [.ptr id 0], .row false [.int .i64 c], .row false [.int .i64 a], .row false [.int .i64 b], .row false [.int .i64 c, .int .i64 a, .int .i64 b]])[σ.length + j]? = some (.row false [x]) → ∀ τ, Fr σ1.length σ1 τ → τ[σ.length + j]? = some (.row false [x]) := fun j o hl hj ho τ hF => by
    rw [hF.get _ (by omega), g1 _ (by omega)]; exact ho
  have hl1 : σ1.length = σ.length + 5 := by rw [gl]; simp
  have hlow : ∀ j, j < σ.length → σ1[j]? = σ[j]? := fun j hj => by rw [g1 _ (by omega), List.getElem?_append_left hj]
  have hm1 : MkO n σ1 id m := hm.keep hlow
  refine aig_make_ok (r := m.choice c a b) (Q := Stp σ id) hm1 (by omega) (by simp) (fun hall => ?_) (fun hall σ2 h2 => ?_) (fun hall σ2 h2 q2 => ?_)
  · have hall : [c, a, b].all m.graph.has = true := hall
    obtain ⟨c0, c1⟩ := Mk.all_has.1 hall c (by simp)
    obtain ⟨a0, a1⟩ := Mk.all_has.1 hall a (by simp)
    obtain ⟨b0, b1⟩ := Mk.all_has.1 hall b (by simp)
    have g : Gd m (m.choice c a b) 3 := Gd.choice hok c0 c1 a0 a1 b0 b1
    refine ⟨(g.full (by omega)).trans hfull, fun τ hF K hK => ?_⟩
    have hmτ : MkO n τ id m := hm1.keep hF.get
    have hsτ : Stp σ id τ := hm.stp (by have := hF.len; omega) fun j hj => (hF.get j (by omega)).trans (hlow j hj)
    have p0 : τ[σ.length]? = some (.row false [.ptr id 0]) := hb 0 (.ptr id 0) hl1 (by omega) (by simp) τ hF
    have e0 : gload (.load 1 false) [.ptr (σ.length) 0] τ = some (.ptr id 0) := by rw [ld_at p0]; rfl
    have p1 : τ[σ.length + 1]? = some (.row false [.int .i64 c]) := hb 1 (.int .i64 c) hl1 (by omega) (by simp) τ hF
    have e1 : gload (.load 1 false) [.ptr (σ.length + 1) 0] τ = some (.int .i64 c) := by rw [ld_at p1]; rfl
    have p2 : τ[σ.length + 2]? = some (.row false [.int .i64 a]) := hb 2 (.int .i64 a) hl1 (by omega) (by simp) τ hF
    have e2 : gload (.load 1 false) [.ptr (σ.length + 2) 0] τ = some (.int .i64 a) := by rw [ld_at p2]; rfl
    have p3 : τ[σ.length + 3]? = some (.row false [.int .i64 b]) := hb 3 (.int .i64 b) hl1 (by omega) (by simp) τ hF
    have e3 : gload (.load 1 false) [.ptr (σ.length + 3) 0] τ = some (.int .i64 b) := by rw [ld_at p3]; rfl
    refine gc_aig_Maker_Ite_1 ?_
    simp [G_aig_Maker_Ite_1, genv0, List.replicate, e0, e1, e2, e3]
    exact aig_ite_ok hmτ hok c0 c1 a0 a1 b0 b1 (by omega) fun σ3 h3 s3 => by simpa using hK _ h3 (hsτ.trans s3)
  · have hall : [c, a, b].all m.graph.has = false := hall
    have e : mkOut m [c, a, b] (m.choice c a b) = ((0, 2), m) := by unfold mkOut; rw [if_neg (by simp only [hall]; decide)]
    rw [e] at k
    simp
    exact k _ (hm1.keep h2.get) (hm.stp (by have := h2.len; omega) fun j hj => (h2.get j (by omega)).trans (hlow j hj))
  · have hall : [c, a, b].all m.graph.has = true := hall
    have e : mkOut m [c, a, b] (m.choice c a b) = (((m.choice c a b).1, 0), (m.choice c a b).2) := by unfold mkOut; rw [if_pos hall]
    rw [e] at k
    simp
    exact k _ h2 q2
theorem ref_Ite_ok {n id : Nat} {m : Mk} {c a b : Int} {σ : GS} {Post : DV → GS → Prop} (hm : RkO n σ id m) (hok : m.ok) (hfull : m.full = false) (hsz : m.n < 150000)
    (k : ∀ σ', RkO n σ' id (mkOut m [c, a, b] (m.choice c a b)).2 → Rtp σ id σ' → Post (.tuple [.int .i64 (mkOut m [c, a, b] (m.choice c a b)).1.1, .int .i64 (mkOut m [c, a, b] (m.choice c a b)).1.2]) σ') : GCall Tryz.prog F_skolemref06_Maker_Ite [.ptr id 0, .int .i64 c, .int .i64 a, .int .i64 b] σ Post := by
  refine gc_skolemref06_Maker_Ite ?_
  simp [G_skolemref06_Maker_Ite, genv0, List.replicate]
  refine GCall.lay (pre := [_]) (L := [c, a, b]) ?hrow rfl fun σ1 g1 gl => ?_
  · simp
  have hl1 : σ1.length = σ.length + 1 := by rw [gl]; simp
  have hlow : ∀ j, j < σ.length → σ1[j]? = σ[j]? := fun j hj => by rw [g1 _ (by omega), List.getElem?_append_left hj]
  have hm1 : RkO n σ1 id m := hm.keep hlow
  have hs1 : Rtp σ id σ1 := hm.stp (by omega) hlow
  refine ref_all_live hm1 (by omega) (by simp) ?_
  by_cases hall : [c, a, b].all m.graph.has = true
  rotate_left
  · have hall' : [c, a, b].all m.graph.has = false := by simpa using hall
    have e : mkOut m [c, a, b] (m.choice c a b) = ((0, 2), m) := by unfold mkOut; rw [if_neg hall]
    rw [e] at k
    simp only [hall']
    simp
    exact k _ hm1 hs1
  obtain ⟨c0, c1⟩ := Mk.all_has.1 hall c (by simp)
  obtain ⟨a0, a1⟩ := Mk.all_has.1 hall a (by simp)
  obtain ⟨b0, b1⟩ := Mk.all_has.1 hall b (by simp)
  have g : Gd m (m.choice c a b) 3 := Gd.choice hok c0 c1 a0 a1 b0 b1
  have e : mkOut m [c, a, b] (m.choice c a b) = (((m.choice c a b).1, 0), (m.choice c a b).2) := by unfold mkOut; rw [if_pos hall]
  rw [e] at k
  simp only [hall]
  have hm1' := hm1
  obtain ⟨si, sa, h⟩ := hm1'
  have hld : gload (.load 1 false) [.ptr id 1] σ1 = some sa := ld_at h.row
  have hsal := h.ands.len
  simp [hld, hsal]
  refine ref_Choice_ok hm1 hok c0 c1 a0 a1 b0 b1 (by omega) fun σ2 h2 s2 => ?_
  simp
  refine ref_done_ok h2 ((g.full (by omega)).trans hfull) ?_
  simp
  exact k _ h2 (hs1.trans s2)
end Go.Gh
namespace Go.Gh
open Go.RowKit Go.Proofs
set_option linter.unusedVariables false
set_option linter.unusedSimpArgs false
set_option maxRecDepth 100000
def inOut (m : Mk) (v : Int) : Int × Int := if 0 ≤ edgeOf m.ins v then (edgeOf m.ins v, 0) else (0, 6)
theorem aig_In_ok {n id : Nat} {m : Mk} {v : Int} {σ : GS} {Post : DV → GS → Prop} (hm : MkO n σ id m) (k : Post (.tuple [.int .i64 (inOut m v).1, .int .i64 (inOut m v).2]) σ) : GCall Tryz.prog F_aig_Maker_In [.ptr id 0, .int .i64 v] σ Post := by
  have hm0 := hm
  obtain ⟨si, sa, at_, in_, la, li, h⟩ := hm
  refine gc_aig_Maker_In ?_
  have hfld : gload (.load 1 false) [.ptr id 4] σ = some (.map in_) := ld_at h.row
  have hlk : gload (.lookup (.int .i64) (.int .i64 0) true) [.map in_, .int .i64 v] σ = _ := h.inm.lookup (kt := .int .i64) v (.int .i64 0) true
  rw [h.ins_] at hlk
  simp [G_aig_Maker_In, genv0, List.replicate]
  refine aig_none_ok hm0 ?_
  unfold inOut at k
  by_cases c : 0 ≤ edgeOf m.ins v
  · rw [if_pos c] at hlk k
    simp [hfld, hlk]
    exact k
  · rw [if_neg c] at hlk k
    simp [hfld, hlk]
    exact k
theorem ref_In2_ok {n id : Nat} {m : Mk} {v : Int} {σ : GS} {Post : DV → GS → Prop} (hm : RkO n σ id m) (hs : m.n < 2 ^ 40) (k : Post (.tuple [.int .i64 (inOut m v).1, .int .i64 (inOut m v).2]) σ) : GCall Tryz.prog F_skolemref06_Maker_In [.ptr id 0, .int .i64 v] σ Post := by
  obtain ⟨si, sa, h⟩ := hm
  refine gc_skolemref06_Maker_In ?_
  have hagg : gload (.load 2 true) [.ptr id 0] σ = some (.agg [si, sa]) := by rw [ld_agg h.row]; rfl
  simp [G_skolemref06_Maker_In, genv0, List.replicate, hagg]
  refine ref_edge_live h hs ?_
  unfold inOut at k
  by_cases c : edgeOf m.ins v < 0
  · rw [if_neg (by omega)] at k
    simp [c]
    exact k
  · rw [if_pos (by omega)] at k
    simp [c]
    exact k
theorem aig_All_ok {n id : Nat} {m : Mk} {L : List Int} {σ : GS} {Post : DV → GS → Prop} (hm : MkO n σ id m) (hok : m.ok) (hfull : m.full = false) (hl : L.length ≤ 1000) (hsz : m.n < 150000)
    (k : ∀ σ', MkO n σ' id (mkOut m L (m.conjs L)).2 → Stp σ id σ' → Post (.tuple [.int .i64 (mkOut m L (m.conjs L)).1.1, .int .i64 (mkOut m L (m.conjs L)).1.2]) σ') : GCall Tryz.prog F_aig_Maker_All [.ptr id 0, fints L] σ Post := by
  refine gc_aig_Maker_All ?_
  simp [G_aig_Maker_All, genv0, List.replicate]
  obtain ⟨σ1, hσ1⟩ : ∃ σ1, σ ++ [.row false [.ptr id 0], .row false [fints L]] = σ1 := ⟨_, rfl⟩
  have hl1 : σ1.length = σ.length + 2 := by rw [← hσ1]; simp
  have hlow : ∀ j, j < σ.length → σ1[j]? = σ[j]? := fun j hj => by rw [← hσ1, List.getElem?_append_left hj]
  have b0 : σ1[σ.length]? = some (.row false [.ptr id 0]) := by rw [← hσ1]; simp
  have b1 : σ1[σ.length + 1]? = some (.row false [fints L]) := by rw [← hσ1]; simp
  have hm1 : MkO n σ1 id m := hm.keep hlow
  rw [hσ1]
  refine aig_make_ok (r := m.conjs L) (Q := Stp σ id) hm1 (by omega) (by omega) (fun hall => ?_) (fun hall σ2 h2 => ?_) (fun hall σ2 h2 q2 => ?_)
  · have hx := Mk.all_has.1 hall
    have g := Gd.conjs hok hx
    refine ⟨(g.full (by omega)).trans hfull, fun τ hF K hK => ?_⟩
    have hmτ : MkO n τ id m := hm1.keep hF.get
    have hsτ : Stp σ id τ := hm.stp (by have := hF.len; omega) fun j hj => (hF.get j (by omega)).trans (hlow j hj)
    have e0 : gload (.load 1 false) [.ptr σ.length 0] τ = some (.ptr id 0) := by rw [ld_at ((hF.get _ (by omega)).trans b0)]; rfl
    have e1 : gload (.load 1 false) [.ptr (σ.length + 1) 0] τ = some (fints L) := by rw [ld_at ((hF.get _ (by omega)).trans b1)]; rfl
    refine gc_aig_Maker_All_1 ?_
    simp [G_aig_Maker_All_1, genv0, List.replicate, e0, e1]
    exact aig_every_ok hmτ hok hx (by omega) (by omega) fun σ3 h3 s3 => by simpa using hK _ h3 (hsτ.trans s3)
  · have e : mkOut m L (m.conjs L) = ((0, 2), m) := by unfold mkOut; rw [if_neg (by simp [hall])]
    rw [e] at k
    simp
    exact k _ (hm1.keep h2.get) (hm.stp (by have := h2.len; omega) fun j hj => (h2.get j (by omega)).trans (hlow j hj))
  · have e : mkOut m L (m.conjs L) = (((m.conjs L).1, 0), (m.conjs L).2) := by unfold mkOut; rw [if_pos hall]
    rw [e] at k
    simp
    exact k _ h2 q2
theorem Mk.notE_has {m : Mk} {L : List Int} (h : ∀ x ∈ L, 0 ≤ x ∧ x < 2 * (m.n : Int)) : ∀ x ∈ L.map notE, 0 ≤ x ∧ x < 2 * (m.n : Int) := fun x hx => by
  obtain ⟨y, hy, rfl⟩ := List.mem_map.1 hx; exact notE_range (h y hy).1 (h y hy).2
/-- The disjunction of a list. -/
def Mk.disjs (m : Mk) (L : List Int) : Int × Mk := (notE (m.conjs (L.map notE)).1, (m.conjs (L.map notE)).2)
theorem aig_Any_ok {n id : Nat} {m : Mk} {L : List Int} {σ : GS} {Post : DV → GS → Prop} (hm : MkO n σ id m) (hok : m.ok) (hfull : m.full = false) (hl : L.length ≤ 1000) (hsz : m.n < 150000)
    (k : ∀ σ', MkO n σ' id (mkOut m L (m.disjs L)).2 → Stp σ id σ' → Post (.tuple [.int .i64 (mkOut m L (m.disjs L)).1.1, .int .i64 (mkOut m L (m.disjs L)).1.2]) σ') : GCall Tryz.prog F_aig_Maker_Any [.ptr id 0, fints L] σ Post := by
  refine gc_aig_Maker_Any ?_
  simp [G_aig_Maker_Any, genv0, List.replicate]
  obtain ⟨σ1, hσ1⟩ : ∃ σ1, σ ++ [.row false [.ptr id 0], .row false [fints L]] = σ1 := ⟨_, rfl⟩
  have hl1 : σ1.length = σ.length + 2 := by rw [← hσ1]; simp
  have hlow : ∀ j, j < σ.length → σ1[j]? = σ[j]? := fun j hj => by rw [← hσ1, List.getElem?_append_left hj]
  have b0 : σ1[σ.length]? = some (.row false [.ptr id 0]) := by rw [← hσ1]; simp
  have b1 : σ1[σ.length + 1]? = some (.row false [fints L]) := by rw [← hσ1]; simp
  have hm1 : MkO n σ1 id m := hm.keep hlow
  rw [hσ1]
  refine aig_make_ok (r := m.disjs L) (Q := Stp σ id) hm1 (by omega) (by omega) (fun hall => ?_) (fun hall σ2 h2 => ?_) (fun hall σ2 h2 q2 => ?_)
  · have hx := Mk.all_has.1 hall
    have g := Gd.conjs hok (Mk.notE_has hx)
    rw [List.length_map] at g
    refine ⟨(g.full (by omega)).trans hfull, fun τ hF K hK => ?_⟩
    have hmτ : MkO n τ id m := hm1.keep hF.get
    have hsτ : Stp σ id τ := hm.stp (by have := hF.len; omega) fun j hj => (hF.get j (by omega)).trans (hlow j hj)
    have e0 : gload (.load 1 false) [.ptr σ.length 0] τ = some (.ptr id 0) := by rw [ld_at ((hF.get _ (by omega)).trans b0)]; rfl
    have e1 : gload (.load 1 false) [.ptr (σ.length + 1) 0] τ = some (fints L) := by rw [ld_at ((hF.get _ (by omega)).trans b1)]; rfl
    refine gc_aig_Maker_Any_1 ?_
    simp [G_aig_Maker_Any_1, genv0, List.replicate, e0, e1]
    exact aig_some_ok hmτ hok hx (by omega) (by omega) fun σ3 h3 s3 => by simp; exact hK _ h3 (hsτ.trans s3)
  · have e : mkOut m L (m.disjs L) = ((0, 2), m) := by unfold mkOut; rw [if_neg (by simp [hall])]
    rw [e] at k
    simp
    exact k _ (hm1.keep h2.get) (hm.stp (by have := h2.len; omega) fun j hj => (h2.get j (by omega)).trans (hlow j hj))
  · have e : mkOut m L (m.disjs L) = (((m.disjs L).1, 0), (m.disjs L).2) := by unfold mkOut; rw [if_pos hall]
    rw [e] at k
    simp
    exact k _ h2 q2
theorem ref_All2_ok {n id : Nat} {m : Mk} {L : List Int} {σ : GS} {Post : DV → GS → Prop} (hm : RkO n σ id m) (hok : m.ok) (hfull : m.full = false) (hl : L.length ≤ 1000) (hsz : m.n < 150000)
    (k : ∀ σ', RkO n σ' id (mkOut m L (m.conjs L)).2 → Rtp σ id σ' → Post (.tuple [.int .i64 (mkOut m L (m.conjs L)).1.1, .int .i64 (mkOut m L (m.conjs L)).1.2]) σ') : GCall Tryz.prog F_skolemref06_Maker_All [.ptr id 0, fints L] σ Post := by
  refine gc_skolemref06_Maker_All ?_
  simp [G_skolemref06_Maker_All, genv0, List.replicate]
  refine ref_all_live hm (by omega) (by omega) ?_
  by_cases hall : L.all m.graph.has = true
  rotate_left
  · have hall' : L.all m.graph.has = false := by simpa using hall
    have e : mkOut m L (m.conjs L) = ((0, 2), m) := by unfold mkOut; rw [if_neg hall]
    rw [e] at k
    simp only [hall']
    simp
    exact k _ hm (.refl _ _)
  have hx := Mk.all_has.1 hall
  have g := Gd.conjs hok hx
  have e : mkOut m L (m.conjs L) = (((m.conjs L).1, 0), (m.conjs L).2) := by unfold mkOut; rw [if_pos hall]
  rw [e] at k
  simp only [hall]
  have hm' := hm
  obtain ⟨si, sa, h⟩ := hm'
  have hld : gload (.load 1 false) [.ptr id 1] σ = some sa := ld_at h.row
  have hsal := h.ands.len
  simp [hld, hsal]
  refine ref_Conjs_ok hm hok hx (by omega) (by omega) fun σ2 h2 s2 => ?_
  simp
  refine ref_done_ok h2 ((g.full (by omega)).trans hfull) ?_
  simp
  exact k _ h2 s2
theorem ref_Any_ok {n id : Nat} {m : Mk} {L : List Int} {σ : GS} {Post : DV → GS → Prop} (hm : RkO n σ id m) (hok : m.ok) (hfull : m.full = false) (hl : L.length ≤ 1000) (hsz : m.n < 150000)
    (k : ∀ σ', RkO n σ' id (mkOut m L (m.disjs L)).2 → Rtp σ id σ' → Post (.tuple [.int .i64 (mkOut m L (m.disjs L)).1.1, .int .i64 (mkOut m L (m.disjs L)).1.2]) σ') : GCall Tryz.prog F_skolemref06_Maker_Any [.ptr id 0, fints L] σ Post := by
  refine gc_skolemref06_Maker_Any ?_
  simp [G_skolemref06_Maker_Any, genv0, List.replicate]
  refine ref_all_live hm (by omega) (by omega) ?_
  by_cases hall : L.all m.graph.has = true
  rotate_left
  · have hall' : L.all m.graph.has = false := by simpa using hall
    have e : mkOut m L (m.disjs L) = ((0, 2), m) := by unfold mkOut; rw [if_neg hall]
    rw [e] at k
    simp only [hall']
    simp
    exact k _ hm (.refl _ _)
  have hx := Mk.all_has.1 hall
  have hx' := Mk.notE_has hx
  have g := Gd.conjs hok hx'
  rw [List.length_map] at g
  have e : mkOut m L (m.disjs L) = (((m.disjs L).1, 0), (m.disjs L).2) := by unfold mkOut; rw [if_pos hall]
  rw [e] at k
  simp only [hall]
  have hm' := hm
  obtain ⟨si, sa, h⟩ := hm'
  have hld : gload (.load 1 false) [.ptr id 1] σ = some sa := ld_at h.row
  have hsal := h.ands.len
  simp [hld, hsal]
  refine ref_Nots_ok (n := m.n) (by omega) (by omega) hx ?_
  simp
  refine ref_Conjs_ok hm hok hx' (by rw [List.length_map]; omega) (by omega) fun σ2 h2 s2 => ?_
  simp
  have := g.hi; have := g.e1
  refine ref_Not_ok g.e0 (by omega) ?_
  simp
  refine ref_done_ok h2 ((g.full (by omega)).trans hfull) ?_
  simp
  exact k _ h2 s2
end Go.Gh
namespace Go.Gh
open Go.RowKit Go.Proofs
set_option linter.unusedVariables false
set_option linter.unusedSimpArgs false
set_option maxRecDepth 100000
/-- What an input becomes in a graft. -/
def graftIv (m : Mk) (by_ : List (Int × Int)) (v : Int) : Int := match outOf by_ v with | some e => e | none => max (edgeOf m.ins v) 0
/-- Is an input reached that is neither there nor given? -/
def lacks (m : Mk) (by_ : List (Int × Int)) (r : List Bool) (v : Int) (k : Nat) : Bool := r.getD (k + 1) false && (decide (edgeOf m.ins v < 0) && (outOf by_ v).isNone)
def grafts (m : Mk) (g : AigP) (L : List Int) (by_ : List (Int × Int)) : Bool := g.all L && (decide (by_.map (·.1)).Nodup && (by_.map (·.2)).all m.graph.has)
def missing (m : Mk) (g : AigP) (L : List Int) (by_ : List (Int × Int)) : Bool := (List.range g.ins.length).any fun k => lacks m by_ (g.reach L) (g.ins.getD k 0) k
def grafted (m : Mk) (g : AigP) (L : List Int) (by_ : List (Int × Int)) : List Int × Mk := m.copy g (g.reach L) (0 :: g.ins.map (graftIv m by_))
def graft (m : Mk) (g : AigP) (L : List Int) (by_ : List (Int × Int)) : (List Int × Int) × Mk :=
  if grafts m g L by_ = true then
    if missing m g L by_ = true then (([], 6), m) else ((L.map (imgE (grafted m g L by_).1), 0), (grafted m g L by_).2)
  else (([], 2), m)
abbrev grOut (o : (List Int × Int) × Mk) : DV := .tuple [fints o.1.1, .int .i64 o.1.2]
theorem graft_bad {m : Mk} {g : AigP} {L : List Int} {by_ : List (Int × Int)} (h : grafts m g L by_ = false) : graft m g L by_ = (([], 2), m) := by unfold graft; rw [if_neg (by simp [h])]
theorem graft_miss {m : Mk} {g : AigP} {L : List Int} {by_ : List (Int × Int)} (h : grafts m g L by_ = true) (h2 : missing m g L by_ = true) : graft m g L by_ = (([], 6), m) := by unfold graft; rw [if_pos h, if_pos h2]
theorem graft_good {m : Mk} {g : AigP} {L : List Int} {by_ : List (Int × Int)} (h : grafts m g L by_ = true) (h2 : missing m g L by_ = false) : graft m g L by_ = ((L.map (imgE (grafted m g L by_).1), 0), (grafted m g L by_).2) := by unfold graft; rw [if_pos h, if_neg (by simp [h2])]
theorem graftIv_range {m : Mk} {by_ : List (Int × Int)} (h : (by_.map (·.2)).all m.graph.has = true) (v : Int) : 0 ≤ graftIv m by_ v ∧ graftIv m by_ v < 2 * (m.n : Int) := by
  unfold graftIv
  cases ho : outOf by_ v with
  | some e => exact Mk.all_has.1 h e (outOf_mem ho)
  | none =>
    have := edgeOf_lt m.ins v
    have hn : m.n = 1 + m.ins.length + m.ands.length := rfl
    simp only; omega
theorem rd_nil2 (σ : GS) (ok : Nat → Prop) (e : Int) (m : Mk) : Rd σ ok (.tuple [.nils, .int .i64 e]) (grOut (([], e), m)) := .tuple (.cons (.nils 1) (.cons (.same _) .nil))
theorem aig_Graft_1_1_ok {v : Int} {id to bx mid n0 : Nat} {m : Mk} {by_ : List (Int × Int)} {σ : GS} {Post : DV → GS → Prop} (h1 : σ[id]? = some (.row false [.map to])) (h2 : MpO kint σ to (ents by_)) (h3 : σ[bx]? = some (.row false [.ptr mid 0])) (h4 : MkO n0 σ mid m)
    (h : Post (.int .i64 (graftIv m by_ v)) σ) : GCall Tryz.prog F_aig_Maker_Graft_1_1 [.int .i64 v, .ptr id 0, .ptr bx 0] σ Post := by
  refine gc_aig_Maker_Graft_1_1 ?_
  have hl1 : gload (.load 1 false) [.ptr id 0] σ = some (.map to) := by rw [ld_at h1]; rfl
  have hl3 : gload (.load 1 false) [.ptr bx 0] σ = some (.ptr mid 0) := by rw [ld_at h3]; rfl
  have hlk : gload (.lookup (.int .i64) (.int .i64 0) true) [.map to, .int .i64 v] σ = _ := h2.lookup (kt := .int .i64) v (.int .i64 0) true
  have hE : kget v (ents by_) = (outOf by_ v).map kint := by have := kget_out (fun e => e) v by_; exact this
  rw [hE] at hlk
  unfold graftIv at h
  cases ho : outOf by_ v with
  | some e =>
    simp [ho] at hlk h
    simp [G_aig_Maker_Graft_1_1, genv0, List.replicate, hl1, hlk]
    exact h
  | none =>
    simp [ho] at hlk h
    simp [G_aig_Maker_Graft_1_1, genv0, List.replicate, hl1, hlk, hl3]
    exact aig_own_ok h4 (by simpa using h)
theorem slice_bools {r : List Bool} {a b : Nat} (h : a ≤ b) (h2 : b ≤ r.length) : gpure (.slice 1 true true false) [fbools r, .int .i64 a, .int .i64 b] = some (fbools ((r.drop a).take (b - a))) := by
  simp only [gpure, gslice, if_true, gbm, Option.bind_some, gbh, gbl, gbound, List.length_map]
  simp [h, h2, List.map_take, List.map_drop, List.drop_take]
/-- What the inner function of Graft leaves: the edges in the cell of the result. -/
structure GrS (σ : GS) (id cell : Nat) (out : List Int) (τ : GS) : Prop where
  stp : Stp σ id τ
  out : τ[cell]? = some (.row false [fints out])
theorem aig_Graft_1_ok {n id : Nat} {m : Mk} {g : AigP} {L : List Int} {by_ : List (Int × Int)} {b : Nat} {σ0 σ : GS} {Post : DV → GS → Prop} (hm0 : MkO n σ0 id m) (hlow : ∀ j, j < σ0.length → σ[j]? = σ0[j]?) (hb : σ0.length ≤ b) (hlen : b + 6 ≤ σ.length) (hok : m.ok) (hgr : grafts m g L by_ = true) (hl : L.length < 2 ^ 40) (hms : m.n + g.ands.length < 2 ^ 30)
    (b0 : σ[b]? = some (.row false [.ptr id 0])) (b1 : σ[b + 1]? = some (.row false [fints g.ins, fands g.ands])) (b2 : σ[b + 2]? = some (.row false [fints L])) (b3 : σ[b + 3]? = some (.row false [.nils])) (hM : MpO kint σ (b + 4) (ents by_)) (b5 : σ[b + 5]? = some (.row false [.map (b + 4)]))
    (k : ∀ τ, MkO n τ id (grafted m g L by_).2 → GrS σ0 id (b + 3) (L.map (imgE (grafted m g L by_).1)) τ → Post (.int .i64 0) τ) : GCall Tryz.prog F_aig_Maker_Graft_1 [.ptr (b + 2) 0, .ptr b 0, .ptr (b + 1) 0, .ptr (b + 5) 0, .ptr (b + 3) 0] σ Post := by
  refine gc_aig_Maker_Graft_1 ?_
  have hm : MkO n σ id m := hm0.keep hlow
  have hs0 : Stp σ0 id σ := hm0.stp (by omega) hlow
  simp only [grafts, Bool.and_eq_true, decide_eq_true_eq] at hgr
  obtain ⟨c1, c2, c3⟩ := hgr
  have hmay := AigP.all_may c1
  have hnn := AigP.may_nodes hmay
  have hgn : g.nodes = 1 + g.ins.length + g.ands.length := rfl
  have e0 : gload (.load 1 false) [.ptr b 0] σ = some (.ptr id 0) := by rw [ld_at b0]; rfl
  have e1 : gload (.load 2 true) [.ptr (b + 1) 0] σ = some g.enc := by rw [ld_agg b1]; rfl
  have e2 : gload (.load 1 false) [.ptr (b + 2) 0] σ = some (fints L) := by rw [ld_at b2]; rfl
  have hnn' : n ≤ σ.length := by have := hm.dom (.inl rfl); omega
  simp [G_aig_Maker_Graft_1, genv0, List.replicate, e0, e1, e2]
  refine aig_copied_ok (pre := []) (iv := graftIv m by_) hm hnn' hok (by omega) hmay (by omega) (fun e he => AigP.all_has c1 he) (fun v hv σ' hk K hK => ?_) (fun v hv => graftIv_range c3 v) fun σ2 T h2 s2 hag hT => ?_
  · exact aig_Graft_1_1_ok ((hk _ (by omega)).trans b5) (hM.fit (hk _ (by omega))) ((hk _ (by omega)).trans b0) (hm.keep hk) hK
  have hgd : m.copy g (g.reach L) (0 :: g.ins.map (graftIv m by_)) = grafted m g L by_ := rfl
  rw [hgd] at h2 hag hT
  have hTl : T.length = g.nodes := by rw [hag.len]; exact Mk.copy_len (by simp; omega)
  have hdn : (grafted m g L by_).2.n ≤ m.n + g.ands.length := Mk.copy_n.2
  have hnf0 : ∀ j, σ0.length ≤ j → ¬ Ft σ id j := fun j hj hf => by
    rw [hm0.ft_eq (hlow id (hm0.dom (.inl rfl)).1)] at hf
    have := (hm0.dom hf).1; omega
  have hb3 : ¬ Ft σ id (b + 3) := hnf0 _ (by omega)
  have hb32 := s2.ft _ (by omega) hb3
  have b32 : σ2[b + 3]? = some (.row false [.nils]) := (s2.get _ (by omega) hb3).trans b3
  have e22 : gload (.load 1 false) [.ptr (b + 2) 0] σ2 = some (fints L) := by rw [ld_at ((s2.get _ (by omega) (hnf0 _ (by omega))).trans b2)]; rfl
  simp [e2, e22]
  refine each_ok (pre := []) (c := imgE T) hl (fun x hx σ' K hK => ?_) ?_
  · obtain ⟨x0, x1⟩ := AigP.all_has c1 hx
    exact aig_of_ok x0 (by omega) (by omega) (fun t ht => by have := hT t ht; omega) hK
  have hmapeq : L.map (imgE T) = L.map (imgE (grafted m g L by_).1) := List.map_congr_left fun e he => by
    obtain ⟨e0, e1⟩ := AigP.all_has c1 he
    exact hag.img (AigP.reach_edge he e0 e1)
  rw [hmapeq]
  have hst : gimp (.store 1) [.ptr (b + 3) 0, fints (L.map (imgE (grafted m g L by_).1))] σ2 = some (.tuple [], σ2.set (b + 3) (.row false [fints (L.map (imgE (grafted m g L by_).1))])) := by simp [gimp, b32, DV.cells, over]
  have hl2 := s2.len
  simp [hst]
  have hne : ∀ j, j ≠ b + 3 → (σ2.set (b + 3) (.row false [fints (L.map (imgE (grafted m g L by_).1))]))[j]? = σ2[j]? := fun j hj => List.getElem?_set_ne (Ne.symm hj)
  have hidne : id ≠ b + 3 := fun e => hb32 (e ▸ .inl rfl)
  have s02 := hs0.trans s2
  exact k _ (h2.fit fun j hj => hne j fun e => hb32 (e ▸ hj)) ⟨⟨by simp; omega, fun j hj hf => (hne j (by omega)).trans (s02.get j hj hf), fun j hj hf => by rw [h2.ft_eq (hne id hidne)]; exact s02.ft j hj hf⟩, List.getElem?_set_self (by omega)⟩
end Go.Gh
namespace Go.Gh
open Go.RowKit Go.Proofs
set_option linter.unusedVariables false
set_option linter.unusedSimpArgs false
set_option maxRecDepth 100000
@[simp] theorem gres_c2 (env : Env) (σ : GS) (t u : Tmp) (n : Nat) (b : Bool) : gresL env σ [.cell t n b, .tmp u] = (gload (.load n b) [env[t]?.getD (.tuple [])] σ).map fun v => [v, env[u]?.getD (.tuple [])] := by
  simp only [gresL, gres1, garg]
  cases gload (.load n b) [env[t]?.getD (.tuple [])] σ <;> rfl
@[simp] theorem ga_mmap : galloc .mmap [] = some (.mp [] ([], 0), fun id => .map id) := rfl
theorem ents_new (σ : GS) : MpO kint (σ ++ [.mp [] ([], 0)]) σ.length (ents []) := ⟨by simp [ents], ([], 0), ⟨rfl, by simp, by simp⟩, by simp [ents, kenc]⟩
/-- The heap while Graft looks through what is given. -/
structure GrI (σ : GS) (id : Nat) (m : Mk) (g : AigP) (L : List Int) (by_ : List (Int × Int)) (i : Nat) (τ : GS) : Prop where
  b0 : τ[σ.length]? = some (.row false [.ptr id 0])
  b1 : τ[σ.length + 1]? = some (.row false [fints g.ins, fands g.ands])
  b2 : τ[σ.length + 2]? = some (.row false [fints L])
  b3 : τ[σ.length + 3]? = some (.row false [.nils])
  mp : MpO kint τ (σ.length + 4) (ents (by_.take i))
  b5 : τ[σ.length + 5]? = some (.row false [.map (σ.length + 4)])
  fr : Fr σ.length σ τ
  nd : ((by_.take i).map (·.1)).Nodup
  has : ((by_.take i).map (·.2)).all m.graph.has = true
theorem GrI.app {σ τ : GS} {id : Nat} {m : Mk} {g : AigP} {L : List Int} {by_ : List (Int × Int)} {i : Nat} (h : GrI σ id m g L by_ i τ) (X : GS) : GrI σ id m g L by_ i (τ ++ X) :=
  ⟨getE_append h.b0, getE_append h.b1, getE_append h.b2, getE_append h.b3, h.mp.fit (List.getElem?_append_left (by have := get_dom h.b5; omega)), getE_append h.b5, h.fr.app X, h.nd, h.has⟩
set_option maxHeartbeats 4000000 in
theorem aig_Graft_ok {n id : Nat} {m : Mk} {g : AigP} {L : List Int} {by_ : List (Int × Int)} {σ : GS} {Post : DV → GS → Prop} (hm : MkO n σ id m) (hok : m.ok) (hfull : m.full = false) (hs : g.Sm) (hl : L.length < 2 ^ 40) (hb : by_.length < 2 ^ 40) (hms : m.n + g.ands.length ≤ 200000)
    (k : ∀ σ', MkO n σ' id (graft m g L by_).2 → Stp σ id σ' → Post (grOut (graft m g L by_)) σ') : GCall Tryz.prog F_aig_Maker_Graft [.ptr id 0, g.enc, fints L, fands by_] σ Post := by
  refine GCall.out ?_
  refine gc_aig_Maker_Graft ?_
  have hnp := m.n_pos
  have e1 : IntKind.i64.wrap (2 * (m.n : Int)) = 2 * m.n := by rw [wrap_small] <;> omega
  have e2 : IntKind.i64.wrap (2 * (m.n : Int) - 1) = 2 * m.n - 1 := by rw [wrap_small] <;> omega
  have hno : ∀ τ, Go.Gh.frz (fun _ => false) τ = τ := frz_none
  -- what comes back with an error
  have herr : ∀ (τ : GS) (e : Int), graft m g L by_ = (([], e), m) → (∀ j, j < σ.length → τ[j]? = σ[j]?) → σ.length ≤ τ.length → ∃ S v', Rd (Go.Gh.frz S τ) (RO (Go.Gh.frz S τ)) (.tuple [.nils, .int .i64 e]) v' ∧ Post v' (Go.Gh.frz S τ) := fun τ e he hlow hle => by
    rw [he] at k
    exact ⟨fun _ => false, _, rd_nil2 _ _ e m, by rw [hno]; exact k τ (hm.keep hlow) (hm.stp hle hlow)⟩
  simp [G_aig_Maker_Graft, genv0, List.replicate]
  refine aig_none_ok (hm.app _) ?_
  have hmr := hm
  obtain ⟨si, sa, at_, in_, la, li, hR⟩ := hmr
  have hidl := get_dom hR.row
  have haggτ : ∀ τ, gload (.load 2 true) [.ptr id 1] (σ ++ τ) = some (.agg [si, sa]) := fun τ => by rw [ld_agg (getE_append hR.row)]; rfl
  simp [haggτ]
  refine nodes_live (hR.fit fun j hj => List.getElem?_append_left (hR.dom hj).1) (by omega) ?_
  simp [e1, e2]
  refine gfor by_.length (fun i e τ => e = mkEnv 124 [(4, .ptr σ.length 0), (5, .ptr (σ.length + 1) 0), (6, .ptr (σ.length + 2) 0), (8, .ptr (σ.length + 3) 0), (10, .ptr (σ.length + 5) 0), (11, .int .i64 (2 * m.n - 1)), (32, fands by_), (33, .int .i64 by_.length), (34, .int .i64 i)] ∧ GrI σ id m g L by_ i τ) _ ?_ ⟨rfl, ?hI⟩ ?_
  · simp [mkEnv, List.replicate]
  case hI =>
    refine ⟨by simp, by simp, by simp, by simp, ?_, by simp, .app .rfl' _, by simp, by simp⟩
    have h0 := ents_new (σ ++ [GObj.row false [DV.ptr id 0], GObj.row false [fints g.ins, fands g.ands], GObj.row false [fints L], GObj.row false [DV.nils]])
    have h1 := h0.fit (σ' := (σ ++ [GObj.row false [DV.ptr id 0], GObj.row false [fints g.ins, fands g.ands], GObj.row false [fints L], GObj.row false [DV.nils]] ++ [.mp [] ([], 0)]) ++ [.row false [.map (σ.length + 4)]]) (List.getElem?_append_left (by simp))
    simpa using h1
  rintro i _ τ hi ⟨rfl, hI⟩
  have hlt0 := get_dom hI.b5
  have hld10 : ∀ X, gload (.load 1 false) [.ptr (σ.length + 5) 0] (τ ++ X) = some (.map (σ.length + 4)) := fun X => by rw [ld_at (hI.app X).b5]; rfl
  have hst : ∀ X, gimp (.store 1) [.ptr (σ.length + 3) 0, .nils] (τ ++ X) = some (.tuple [], (τ ++ X).set (σ.length + 3) (.row false [.nils])) := fun X => by simp [gimp, (hI.app X).b3, DV.cells, over]
  have hld8 : ∀ X, gload (.load 1 false) [.ptr (σ.length + 3) 0] ((τ ++ X).set (σ.length + 3) (.row false [.nils])) = some .nils := fun X => by rw [ld_at (List.getElem?_set_self (by simp; omega))]; rfl
  have hbad : ∀ X, grafts m g L by_ = false → ∃ S v', Rd (Go.Gh.frz S ((τ ++ X).set (σ.length + 3) (.row false [.nils]))) (RO (Go.Gh.frz S ((τ ++ X).set (σ.length + 3) (.row false [.nils])))) (.tuple [.nils, .int .i64 2]) v' ∧ Post v' (Go.Gh.frz S ((τ ++ X).set (σ.length + 3) (.row false [.nils]))) := fun X hg =>
    herr _ _ (graft_bad hg) (fun j hj => by rw [List.getElem?_set_ne (by omega), List.getElem?_append_left (by omega)]; exact hI.fr.get j hj) (by simp; omega)
  simp [mkEnv, List.replicate]
  by_cases hlt : i < by_.length
  · obtain ⟨p, hp⟩ := nth_lt hlt
    have hp' := nth_get hp
    have es : IntKind.i64.wrap ((i : Int) + 1) = (i : Int) + 1 := by rw [wrap_small] <;> omega
    obtain ⟨X, hX⟩ : ∃ X, [GObj.row false [.int .i64 p.1, .int .i64 p.2]] = X := ⟨_, rfl⟩
    have hMX := (hI.app X).mp
    have hlk : gload (.lookup (.int .i64) (.int .i64 0) true) [.map (σ.length + 4), .int .i64 p.1] (τ ++ X) = _ := hMX.lookup (kt := .int .i64) p.1 (.int .i64 0) true
    have hpa : gload (.load 1 false) [.ptr τ.length 0] (τ ++ X) = some (.int .i64 p.1) := by rw [← hX]; simp
    have hpb : gload (.load 1 false) [.ptr τ.length 1] (τ ++ X) = some (.int .i64 p.2) := by rw [← hX]; simp
    simp [hlt, hp]
    rw [hX]
    have hn : (m.graph.nodes : Int) = m.n := rfl
    by_cases hk : p.1 ∈ (by_.take i).map (·.1)
    · have hkg : ∃ v, kget p.1 (ents (by_.take i)) = some v := by
        cases hh : kget p.1 (ents (by_.take i)) with
        | none => rw [kget_none, ents_keys] at hh; exact absurd hk hh
        | some v => exact ⟨v, rfl⟩
      obtain ⟨v, hv⟩ := hkg
      rw [hv] at hlk
      have hbn : ¬ (by_.map (·.1)).Nodup := fun hn => by
        have e : by_.map (·.1) = (by_.take i).map (·.1) ++ p.1 :: (by_.drop (i + 1)).map (·.1) := by rw [← List.map_cons (f := fun x : Int × Int => x.1), ← drop_get hp', ← List.map_append, List.take_append_drop]
        rw [e, List.nodup_append] at hn
        exact hn.2.2 p.1 hk p.1 (by simp) rfl
      simp [hld10, hpa, hlk, hst, hld8]
      exact hbad X (by unfold grafts; simp [hbn])
    · have hkn : kget p.1 (ents (by_.take i)) = none := by rw [kget_none, ents_keys]; exact hk
      rw [hkn] at hlk
      by_cases hh : m.graph.has p.2 = true
      rotate_left
      · have hbn : grafts m g L by_ = false := by
          have : (by_.map (·.2)).all m.graph.has = false := by
            rw [Bool.eq_false_iff]; intro h'; exact hh (List.all_eq_true.1 h' p.2 (List.mem_map.2 ⟨p, List.mem_of_getElem? hp', rfl⟩))
          unfold grafts; simp [this]
        simp only [AigP.has, hn, Bool.and_eq_true, decide_eq_true_eq] at hh
        by_cases hneg : p.2 < 0
        · simp [hld10, hpa, hpb, hlk, hst, hld8, hneg]
          exact hbad X hbn
        · have hbig : 2 * (m.n : Int) - 1 < p.2 := by omega
          simp [hld10, hpa, hpb, hlk, hst, hld8, hneg, hbig]
          exact hbad X hbn
      have hh' := hh
      simp only [AigP.has, hn, Bool.and_eq_true, decide_eq_true_eq] at hh
      have hneg : ¬ p.2 < 0 := by omega
      have hbig : ¬ 2 * (m.n : Int) - 1 < p.2 := by omega
      obtain ⟨o, ho1, ho2⟩ := hMX.set (kt := .int .i64) p.1 (.int .i64 p.2)
      replace ho1 : gimp (.mset (.int .i64)) [.map (σ.length + 4), .int .i64 p.1, .int .i64 p.2] (τ ++ X) = _ := ho1
      simp [hld10, hpa, hpb, hlk, hneg, hbig, ho1, es]
      have hne2 : ∀ j, j ≠ σ.length + 4 → ((τ ++ X).set (σ.length + 4) o)[j]? = (τ ++ X)[j]? := fun j hj => List.getElem?_set_ne (Ne.symm hj)
      have hIX := hI.app X
      refine forK_go _ hlt (by simp [mkEnv, List.replicate]) ⟨rfl, (hne2 _ (by omega)).trans hIX.b0, (hne2 _ (by omega)).trans hIX.b1, (hne2 _ (by omega)).trans hIX.b2, (hne2 _ (by omega)).trans hIX.b3, ?_, (hne2 _ (by omega)).trans hIX.b5, hIX.fr.set (by omega) _, ?_, ?_⟩
      · rw [take_get hp']
        have e : ents (by_.take i ++ [p]) = kset p.1 (.int .i64 p.2) (ents (by_.take i)) := by
          rw [kset_new (by rw [ents_keys]; exact hk)]; simp [ents]
        rw [e]
        exact ho2
      · rw [take_get hp', List.map_append, List.nodup_append]
        refine ⟨hI.nd, by simp, fun a ha b hb => ?_⟩
        simp at hb; subst hb; exact fun e => hk (e ▸ ha)
      · rw [take_get hp', List.map_append, List.all_append, hI.has]; simp [hh']
  · have : i = by_.length := by omega
    subst this
    clear hi hlt
    have hld5 : gload (.load 2 true) [.ptr (σ.length + 1) 0] τ = some g.enc := by rw [ld_agg hI.b1]; rfl
    have hld6 : gload (.load 1 false) [.ptr (σ.length + 2) 0] τ = some (fints L) := by rw [ld_at hI.b2]; rfl
    simp [hld5, hld6]
    have hst0 : gimp (.store 1) [.ptr (σ.length + 3) 0, .nils] τ = some (.tuple [], τ.set (σ.length + 3) (.row false [.nils])) := by simpa using hst []
    have hld80 : gload (.load 1 false) [.ptr (σ.length + 3) 0] (τ.set (σ.length + 3) (.row false [.nils])) = some .nils := by simpa using hld8 []
    have herr0 : ∀ e, graft m g L by_ = (([], e), m) → ∃ S v', Rd (Go.Gh.frz S (τ.set (σ.length + 3) (.row false [.nils]))) (RO (Go.Gh.frz S (τ.set (σ.length + 3) (.row false [.nils])))) (.tuple [.nils, .int .i64 e]) v' ∧ Post v' (Go.Gh.frz S (τ.set (σ.length + 3) (.row false [.nils]))) := fun e hg =>
      herr _ _ hg (fun j hj => by rw [List.getElem?_set_ne (by omega)]; exact hI.fr.get j hj) (by simp; omega)
    refine aig_all_ok hs (by omega) ?_
    by_cases c1 : g.all L = true
    rotate_left
    · simp [c1, hst0, hld80]
      exact herr0 2 (graft_bad (by unfold grafts; simp [c1]))
    have hmay := AigP.all_may c1
    have hnn := AigP.may_nodes hmay
    have hgn : g.nodes = 1 + g.ins.length + g.ands.length := rfl
    have hit := hI.mp
    have hnd := hI.nd
    have hhas := hI.has
    rw [List.take_length] at hit hnd hhas
    have hgr : grafts m g L by_ = true := by unfold grafts; simp only [c1, hnd, hhas]; simp
    obtain ⟨r, hr⟩ : ∃ r, g.reach L = r := ⟨_, rfl⟩
    have hrl : r.length = g.nodes := by rw [← hr]; exact AigP.reach_len g L
    have hld50 : gload (.load 1 false) [.ptr (σ.length + 1) 0] τ = some (fints g.ins) := by rw [ld_at hI.b1]; rfl
    have ew : IntKind.i64.wrap (1 + (g.ins.length : Int)) = ((1 + g.ins.length : Nat) : Int) := by rw [wrap_small] <;> omega
    have hsl := slice_bools (r := r) (a := 1) (b := 1 + g.ins.length) (by omega) (by omega)
    rw [show ((1 : Nat) : Int) = 1 from rfl, show ((1 + g.ins.length : Nat) : Int) = 1 + (g.ins.length : Int) by omega, show 1 + g.ins.length - 1 = g.ins.length by omega] at hsl
    obtain ⟨rr, hrr⟩ : ∃ rr, (r.drop 1).take g.ins.length = rr := ⟨_, rfl⟩
    rw [hrr] at hsl
    have hrrl : rr.length = g.ins.length := by rw [← hrr]; simp; omega
    simp [c1, hld5, hld6, hld50, ew]
    refine aig_reached_ok hmay (by omega) (fun e he => AigP.all_has c1 he) ?_
    rw [hr]
    simp [hld5, hld6, hld50, hsl]
    have hRτ : MkR n τ id m si sa at_ in_ la li := hR.fit fun j hj => hI.fr.get j (hR.dom hj).1
    have hmτ : MkO n τ id m := ⟨_, _, _, _, _, _, hRτ⟩
    have hld4 : gload (.load 1 false) [.ptr σ.length 0] τ = some (.ptr id 0) := by rw [ld_at hI.b0]; rfl
    have hld100 : gload (.load 1 false) [.ptr (σ.length + 5) 0] τ = some (.map (σ.length + 4)) := by simpa using hld10 []
    have hfld : gload (.load 1 false) [.ptr id 4] τ = some (.map in_) := ld_at hRτ.row
    refine gfor g.ins.length (fun i e τ' => e = mkEnv 124 [(4, .ptr σ.length 0), (5, .ptr (σ.length + 1) 0), (6, .ptr (σ.length + 2) 0), (8, .ptr (σ.length + 3) 0), (10, .ptr (σ.length + 5) 0), (74, fbools rr), (75, .int .i64 g.ins.length), (76, .int .i64 i)] ∧ τ' = τ ∧ ∀ j, j < i → lacks m by_ r (g.ins.getD j 0) j = false) _ ?_ ⟨rfl, rfl, fun j hj => absurd hj (Nat.not_lt_zero _)⟩ ?_
    · simp [mkEnv, List.replicate, hrrl]
    rintro i _ τ' hi ⟨rfl, hτ, hno2⟩
    rw [hτ]
    simp [mkEnv, List.replicate]
    by_cases hlt : i < g.ins.length
    · obtain ⟨v, hv⟩ := nth_lt hlt
      have hv' := nth_get hv
      obtain ⟨q, hq⟩ := nth_lt (l := rr) (i := i) (by omega)
      have hq' := nth_get hq
      have hgv : g.ins.getD i 0 = v := by rw [List.getD_eq_getElem?_getD, hv']; rfl
      have hrq : r.getD (i + 1) false = q := by
        rw [← hrr, List.getElem?_take, if_pos hlt, List.getElem?_drop, Nat.add_comm] at hq'
        rw [List.getD_eq_getElem?_getD, hq']; rfl
      have es : IntKind.i64.wrap ((i : Int) + 1) = (i : Int) + 1 := by rw [wrap_small] <;> omega
      have hlk : gload (.lookup (.int .i64) (.int .i64 0) true) [.map (σ.length + 4), .int .i64 v] τ = _ := hit.lookup (kt := .int .i64) v (.int .i64 0) true
      have hE : kget v (ents by_) = (outOf by_ v).map kint := by have := kget_out (fun e => e) v by_; exact this
      rw [hE] at hlk
      have hlk2 : gload (.lookup (.int .i64) (.int .i64 0) true) [.map in_, .int .i64 v] τ = _ := hRτ.inm.lookup (kt := .int .i64) v (.int .i64 0) true
      rw [hRτ.ins_] at hlk2
      have go : ∀ e, lacks m by_ r v i = false → e = mkEnv 124 [(4, .ptr σ.length 0), (5, .ptr (σ.length + 1) 0), (6, .ptr (σ.length + 2) 0), (8, .ptr (σ.length + 3) 0), (10, .ptr (σ.length + 5) 0), (74, fbools rr), (75, .int .i64 g.ins.length), (76, .int .i64 ((i + 1 : Nat) : Int))] → e = mkEnv 124 [(4, .ptr σ.length 0), (5, .ptr (σ.length + 1) 0), (6, .ptr (σ.length + 2) 0), (8, .ptr (σ.length + 3) 0), (10, .ptr (σ.length + 5) 0), (74, fbools rr), (75, .int .i64 g.ins.length), (76, .int .i64 ((i + 1 : Nat) : Int))] ∧ τ = τ ∧ ∀ j, j < i + 1 → lacks m by_ r (g.ins.getD j 0) j = false := fun e hl he => ⟨he, rfl, fun j hj => by
        rcases Nat.lt_succ_iff_lt_or_eq.1 hj with h | h
        · exact hno2 j h
        · subst h; rw [hgv]; exact hl⟩
      have hlk' : lacks m by_ r v i = (q && (decide (edgeOf m.ins v < 0) && (outOf by_ v).isNone)) := by unfold lacks; rw [hrq]
      by_cases cq : q = true
      rotate_left
      · have cq' : q = false := by simpa using cq
        subst cq'
        cases ho : outOf by_ v with
        | none =>
          simp [ho] at hlk
          by_cases ce : 0 ≤ edgeOf m.ins v
          · rw [if_pos ce] at hlk2
            simp [hlt, hq, hld100, hld50, hv, hlk, hld4, hfld, hlk2, es]
            exact forK_go _ hlt (by simp [mkEnv, List.replicate]) (go _ (by rw [hlk']; rfl) rfl)
          · rw [if_neg ce] at hlk2
            simp [hlt, hq, hld100, hld50, hv, hlk, hld4, hfld, hlk2, es]
            exact forK_go _ hlt (by simp [mkEnv, List.replicate]) (go _ (by rw [hlk']; rfl) rfl)
        | some y =>
          simp [ho] at hlk
          by_cases ce : 0 ≤ edgeOf m.ins v
          · rw [if_pos ce] at hlk2
            simp [hlt, hq, hld100, hld50, hv, hlk, hld4, hfld, hlk2, es]
            exact forK_go _ hlt (by simp [mkEnv, List.replicate]) (go _ (by rw [hlk']; rfl) rfl)
          · rw [if_neg ce] at hlk2
            simp [hlt, hq, hld100, hld50, hv, hlk, hld4, hfld, hlk2, es]
            exact forK_go _ hlt (by simp [mkEnv, List.replicate]) (go _ (by rw [hlk']; rfl) rfl)
      subst cq
      by_cases ce : 0 ≤ edgeOf m.ins v
      · rw [if_pos ce] at hlk2
        have hl0 : lacks m by_ r v i = false := by rw [hlk']; simp [show ¬ edgeOf m.ins v < 0 by omega]
        cases ho : outOf by_ v with
        | none =>
          simp [ho] at hlk
          simp [hlt, hq, hld100, hld50, hv, hlk, hld4, hfld, hlk2, es]
          exact forK_go _ hlt (by simp [mkEnv, List.replicate]) (go _ hl0 rfl)
        | some y =>
          simp [ho] at hlk
          simp [hlt, hq, hld100, hld50, hv, hlk, hld4, hfld, hlk2, es]
          exact forK_go _ hlt (by simp [mkEnv, List.replicate]) (go _ hl0 rfl)
      · rw [if_neg ce] at hlk2
        cases ho : outOf by_ v with
        | none =>
          simp [ho] at hlk
          simp [hlt, hq, hld100, hld50, hv, hlk, hld4, hfld, hlk2, hst0, hld80]
          refine herr0 6 (graft_miss hgr ?_)
          unfold missing
          rw [List.any_eq_true]
          exact ⟨i, List.mem_range.2 hlt, by rw [hr, hgv, hlk']; simp [ho]; omega⟩
        | some y =>
          simp [ho] at hlk
          simp [hlt, hq, hld100, hld50, hv, hlk, hld4, hfld, hlk2, es]
          exact forK_go _ hlt (by simp [mkEnv, List.replicate]) (go _ (by rw [hlk']; simp [ho]) rfl)
    · have : i = g.ins.length := by omega
      subst this
      have hms' : missing m g L by_ = false := by
        unfold missing
        rw [Bool.eq_false_iff]
        intro hh
        obtain ⟨j, hj, hjl⟩ := List.any_eq_true.1 hh
        rw [hr, hno2 j (List.mem_range.1 hj)] at hjl
        cases hjl
      rw [graft_good hgr hms'] at k
      simp [hld4]
      refine GCall.reads (args' := [.ptr id 0, .func F_aig_Maker_Graft_1 [] [.ptr (σ.length + 2) 0, .ptr σ.length 0, .ptr (σ.length + 1) 0, .ptr (σ.length + 5) 0, .ptr (σ.length + 3) 0], fints []]) (.cons (.same _) (.cons (.same _) (.cons (.nils 1) .nil))) ?_
      refine aig_make_ok (r := (0, (grafted m g L by_).2)) (Q := GrS σ id (σ.length + 3) (L.map (imgE (grafted m g L by_).1))) hmτ (by omega) (by simp) (fun _ => ⟨?_, fun τ' hF K hK => ?_⟩) (fun h => by simp at h) (fun _ σ2 h2 q2 => ?_)
      · refine (cpFold_full _ _ ?_).trans hfull
        rw [List.length_zip]
        show m.n + _ ≤ _
        omega
      · exact aig_Graft_1_ok hm (fun j hj => (hF.get j (by omega)).trans (hI.fr.get j hj)) (Nat.le_refl _) (by have := hF.len; omega) hok hgr hl (by omega) ((hF.get _ (by omega)).trans hI.b0) ((hF.get _ (by omega)).trans hI.b1) ((hF.get _ (by omega)).trans hI.b2) ((hF.get _ (by omega)).trans hI.b3) (hit.fit (hF.get _ (by omega))) ((hF.get _ (by omega)).trans hI.b5) fun τ2 g2 s2 => hK _ g2 s2
      · have hld8' : gload (.load 1 false) [.ptr (σ.length + 3) 0] σ2 = some (fints (L.map (imgE (grafted m g L by_).1))) := by rw [ld_at q2.out]; rfl
        have hl2 := get_dom q2.out
        have hset : σ2.set (σ.length + 3) (.row false [fints (L.map (imgE (grafted m g L by_).1))]) = σ2 := by
          apply List.ext_getElem?
          intro j
          by_cases hj : j = σ.length + 3
          · subst hj; rw [List.getElem?_set_self hl2, q2.out]
          · rw [List.getElem?_set_ne (Ne.symm hj)]
        have hst2 : gimp (.store 1) [.ptr (σ.length + 3) 0, fints (L.map (imgE (grafted m g L by_).1))] σ2 = some (.tuple [], σ2) := by rw [← hset]; simp [gimp, q2.out, DV.cells, over, hset]
        simp [hld8', hst2]
        exact ⟨fun _ => false, _, .same _, by rw [hno]; exact k _ h2 q2.stp⟩
end Go.Gh
namespace Go.Gh
open Go.RowKit Go.Proofs
set_option linter.unusedVariables false
set_option linter.unusedSimpArgs false
set_option maxRecDepth 100000
theorem outOf_take {by_ : List (Int × Int)} {v : Int} {i : Nat} {p : Int × Int} (h : by_[i]? = some p) (hn : (by_.map (·.1)).Nodup) : outOf (by_.take (i + 1)) v = if p.1 = v then some p.2 else outOf (by_.take i) v := by
  rw [take_get h]
  unfold outOf
  rw [List.find?_append]
  by_cases e : p.1 = v
  · subst e
    have : (by_.take i).find? (fun o => decide (o.1 = p.1)) = none := by
      rw [List.find?_eq_none]
      intro o ho
      have hs : by_.map (·.1) = (by_.take i).map (·.1) ++ p.1 :: (by_.drop (i + 1)).map (·.1) := by rw [← List.map_cons (f := fun x : Int × Int => x.1), ← drop_get h, ← List.map_append, List.take_append_drop]
      rw [hs, List.nodup_append] at hn
      have := hn.2.2 o.1 (List.mem_map.2 ⟨o, ho, rfl⟩) p.1 (by simp)
      simpa using this
    rw [this]; simp
  · rw [if_neg e]
    have : ([p] : List (Int × Int)).find? (fun o => decide (o.1 = v)) = none := by simp [e]
    rw [this]; simp
/-- A slice of one's own is read as frozen from now on. -/
theorem GCall.layO {P : Program} {f : FuncId} {pre : List DV} {n : Nat} {s : DV} {L : List Int} {σ : GS} {Post : DV → GS → Prop} (h : Own n 1 eint σ s L)
    (k : ∀ σ1, (∀ j, ¬ s.has j → σ1[j]? = σ[j]?) → σ1.length = σ.length → GCall P f (pre ++ [fints L]) σ1 Post) : GCall P f (pre ++ [s]) σ Post := by
  have hr := h.rdF (fun _ => rfl)
  have hp : ∀ l : List DV, Rds (Go.Gh.frz (fun i => s.idOf == some i) σ) (RO (Go.Gh.frz (fun i => s.idOf == some i) σ)) (l ++ [s]) (l ++ [fints L]) := fun l => by
    induction l with
    | nil => exact .cons hr .nil
    | cons x l ih => exact .cons (.same _) ih
  exact GCall.frz _ (hp pre) (k _ (fun j hj => frz_off (h.idOf_has hj)) (frz_len _ _))
set_option maxHeartbeats 4000000 in
theorem ref_Graft_ok {n id : Nat} {m : Mk} {g : AigP} {L : List Int} {by_ : List (Int × Int)} {σ : GS} {Post : DV → GS → Prop} (hm : RkO n σ id m) (hok : m.ok) (hfull : m.full = false) (hs : g.Sm) (hl : L.length < 2 ^ 40) (hb : by_.length < 2 ^ 40) (hms : m.n + g.ands.length ≤ 200000)
    (k : ∀ σ', RkO n σ' id (graft m g L by_).2 → Rtp σ id σ' → Post (grOut (graft m g L by_)) σ') : GCall Tryz.prog F_skolemref06_Maker_Graft [.ptr id 0, g.enc, fints L, fands by_] σ Post := by
  refine GCall.out ?_
  refine gc_skolemref06_Maker_Graft ?_
  have hnp := m.n_pos
  have hno : ∀ τ, Go.Gh.frz (fun _ => false) τ = τ := frz_none
  have herr : ∀ (τ : GS) (e : Int), graft m g L by_ = (([], e), m) → (∀ j, j < σ.length → τ[j]? = σ[j]?) → σ.length ≤ τ.length → ∃ S v', Rd (Go.Gh.frz S τ) (RO (Go.Gh.frz S τ)) (.tuple [.nils, .int .i64 e]) v' ∧ Post v' (Go.Gh.frz S τ) := fun τ e he hlow hle => by
    rw [he] at k
    exact ⟨fun _ => false, _, rd_nil2 _ _ e m, by rw [hno]; exact k τ (hm.keep hlow) (hm.stp hle hlow)⟩
  have hmr := hm
  obtain ⟨si, sa, hR⟩ := hmr
  have hidl := get_dom hR.row
  obtain ⟨σ1, hσ1⟩ : ∃ σ1, σ ++ [GObj.row false [fints g.ins, fands g.ands]] = σ1 := ⟨_, rfl⟩
  have hl1 : σ1.length = σ.length + 1 := by rw [← hσ1]; simp
  have hlow1 : ∀ j, j < σ.length → σ1[j]? = σ[j]? := fun j hj => by rw [← hσ1, List.getElem?_append_left hj]
  have b5 : σ1[σ.length]? = some (.row false [fints g.ins, fands g.ands]) := by rw [← hσ1]; simp
  have hR1 : RkR n σ1 id m si sa := hR.fit fun j hj => hlow1 j (hR.dom hj).1
  have hm1 : RkO n σ1 id m := ⟨_, _, hR1⟩
  have hld5 : gload (.load 2 true) [.ptr σ.length 0] σ1 = some g.enc := by rw [ld_agg b5]; rfl
  have hld50 : gload (.load 1 false) [.ptr σ.length 0] σ1 = some (fints g.ins) := by rw [ld_at b5]; rfl
  have hagg : gload (.load 2 true) [.ptr id 0] σ1 = some (.agg [si, sa]) := by rw [ld_agg hR1.row]; rfl
  simp [G_skolemref06_Maker_Graft, genv0, List.replicate]
  rw [hσ1]
  refine ref_HasAll_ok hs (by omega) ?_
  by_cases c1 : g.all L = true
  rotate_left
  · simp [c1]
    exact herr _ 2 (graft_bad (by unfold grafts; simp [c1])) hlow1 (by omega)
  simp [c1]
  have hmay := AigP.all_may c1
  have hnn := AigP.may_nodes hmay
  have hgn : g.nodes = 1 + g.ins.length + g.ands.length := rfl
  refine gfor by_.length (fun i e τ => e = mkEnv 137 [(0, .ptr id 0), (2, fints L), (3, fands by_), (5, .ptr σ.length 0), (10, .int .i64 i)] ∧ τ = σ1 ∧ ((by_.take i).map (·.1)).Nodup ∧ ((by_.take i).map (·.2)).all m.graph.has = true) _ ?_ ⟨rfl, rfl, by simp, by simp⟩ ?_
  · simp [mkEnv, List.replicate]
  rintro i _ τ hi ⟨rfl, hτ, hnd, hhas⟩
  rw [hτ]
  simp [mkEnv, List.replicate]
  by_cases hlt : i < by_.length
  · obtain ⟨p, hp⟩ := nth_lt hlt
    have hp' := nth_get hp
    have es : IntKind.i64.wrap ((i : Int) + 1) = (i : Int) + 1 := by rw [wrap_small] <;> omega
    simp [hlt]
    refine gfor i (fun k e τ => e = mkEnv 137 [(0, .ptr id 0), (2, fints L), (3, fands by_), (5, .ptr σ.length 0), (10, .int .i64 i), (11, .int .i64 k)] ∧ τ = σ1 ∧ ∀ j q, j < k → by_[j]? = some q → q.1 ≠ p.1) _ ?_ ⟨rfl, rfl, fun j q hj => absurd hj (Nat.not_lt_zero _)⟩ ?_
    · simp [mkEnv, List.replicate]
    rintro j _ τ2 hj ⟨rfl, hτ2, hne⟩
    rw [hτ2]
    simp [mkEnv, List.replicate]
    by_cases hjl : j < i
    · obtain ⟨q, hq⟩ := nth_lt (l := by_) (i := j) (by omega)
      have hq' := nth_get hq
      have es2 : IntKind.i64.wrap ((j : Int) + 1) = (j : Int) + 1 := by rw [wrap_small] <;> omega
      by_cases c : q.1 = p.1
      · have hbn : ¬ (by_.map (·.1)).Nodup := fun hn => by
          have h1 : (by_.map (·.1))[j]? = some q.1 := by rw [List.getElem?_map, hq']; rfl
          have h2 : (by_.map (·.1))[i]? = some p.1 := by rw [List.getElem?_map, hp']; rfl
          obtain ⟨a1, a2⟩ := List.getElem?_eq_some_iff.1 h1
          obtain ⟨b1, b2⟩ := List.getElem?_eq_some_iff.1 h2
          have := (List.getElem_inj hn (h₀ := a1) (h₁ := b1)).1 (a2.trans (c.trans b2.symm))
          omega
        simp [hjl, hq, hp, c]
        exact herr _ 2 (graft_bad (by unfold grafts; simp [hbn])) hlow1 (by omega)
      · simp [hjl, hq, hp, c, es2]
        refine forK_go _ hjl (by simp [mkEnv, List.replicate]) ⟨rfl, rfl, fun a b ha hab => ?_⟩
        rcases Nat.lt_succ_iff_lt_or_eq.1 ha with h | h
        · exact hne a b h hab
        · subst h; rw [hq'] at hab; cases hab; exact c
    · have hje : j = i := by omega
      subst hje
      simp [hagg, hp]
      refine ref_has_live hR1 (by omega) ?_
      by_cases hh : m.graph.has p.2 = true
      · simp [hh, es]
        refine forK_go _ hlt (by simp [mkEnv, List.replicate]) ⟨rfl, rfl, ?_, ?_⟩
        · rw [take_get hp', List.map_append, List.nodup_append]
          refine ⟨hnd, by simp, fun a ha b hb => ?_⟩
          simp at hb; subst hb
          obtain ⟨o, ho, rfl⟩ := List.mem_map.1 ha
          obtain ⟨x, hx⟩ := List.mem_iff_getElem?.1 ho
          have hxl : x < j := by have := get_dom hx; rw [List.length_take] at this; omega
          exact hne x o hxl (by rw [List.getElem?_take, if_pos hxl] at hx; exact hx)
        · rw [take_get hp', List.map_append, List.all_append, hhas]; simp [hh]
      · have hbn : grafts m g L by_ = false := by
          have : (by_.map (·.2)).all m.graph.has = false := by
            rw [Bool.eq_false_iff]; intro h'; exact hh (List.all_eq_true.1 h' p.2 (List.mem_map.2 ⟨p, List.mem_of_getElem? hp', rfl⟩))
          unfold grafts; simp [this]
        simp [hh]
        exact herr _ 2 (graft_bad hbn) hlow1 (by omega)
  · have : i = by_.length := by omega
    subst this
    rw [List.take_length] at hnd hhas
    have hgr : grafts m g L by_ = true := by unfold grafts; simp only [c1, hnd, hhas]; simp
    simp [hld5]
    refine ref_Reached_ok hmay (by omega) (fun e he => AigP.all_has c1 he) ?_
    obtain ⟨r, hr⟩ : ∃ r, g.reach L = r := ⟨_, rfl⟩
    have hrl : r.length = g.nodes := by rw [← hr]; exact AigP.reach_len g L
    rw [hr]
    simp
    have hiv : ∀ v, 0 ≤ graftIv m by_ v ∧ graftIv m by_ v < 2 * (m.n : Int) := fun v => graftIv_range hhas v
    refine gfor g.ins.length (fun i e τ => ∃ s, e = mkEnv 137 [(0, .ptr id 0), (2, fints L), (3, fands by_), (5, .ptr σ.length 0), (12, fbools r), (13, s), (14, .int .i64 i)] ∧ Own σ1.length 1 eint τ s ((g.ins.take i).map (graftIv m by_)) ∧ Fr σ1.length σ1 τ ∧ ∀ j, j < i → lacks m by_ r (g.ins.getD j 0) j = false) _ ?_ ⟨.nils, rfl, .nil, .rfl', fun j hj => absurd hj (Nat.not_lt_zero _)⟩ ?_
    · simp [mkEnv, List.replicate]
    rintro i _ τ hi ⟨s, rfl, hO, hF, hno2⟩
    have hlF := hF.len
    have hRτ : RkR n τ id m si sa := hR1.fit fun j hj => hF.get j (hR1.dom hj).1
    have b5τ := (hF.get _ (by omega)).trans b5
    have hld5τ : gload (.load 2 true) [.ptr σ.length 0] τ = some g.enc := by rw [ld_agg b5τ]; rfl
    have hld50τ : gload (.load 1 false) [.ptr σ.length 0] τ = some (fints g.ins) := by rw [ld_at b5τ]; rfl
    have haggτ : gload (.load 2 true) [.ptr id 0] τ = some (.agg [si, sa]) := by rw [ld_agg hRτ.row]; rfl
    have hlowτ : ∀ j, j < σ.length → τ[j]? = σ[j]? := fun j hj => (hF.get j (by omega)).trans (hlow1 j hj)
    simp [mkEnv, List.replicate, hld50τ]
    by_cases hlt : i < g.ins.length
    · obtain ⟨v, hv⟩ := nth_lt hlt
      have hv' := nth_get hv
      have hgv : g.ins.getD i 0 = v := by rw [List.getD_eq_getElem?_getD, hv']; rfl
      have es : IntKind.i64.wrap ((i : Int) + 1) = (i : Int) + 1 := by rw [wrap_small] <;> omega
      simp [hlt, haggτ, hld50τ, hv]
      refine ref_edge_live hRτ (by omega) ?_
      simp
      obtain ⟨ev, hev⟩ : ∃ ev : Nat → Int, ev = fun k => match outOf (by_.take k) v with | some e => e | none => edgeOf m.ins v := ⟨_, rfl⟩
      have hev0 : edgeOf m.ins v = ev 0 := by rw [hev]; simp [outOf]
      rw [hev0]
      refine gfor by_.length (fun k e τ' => e = mkEnv 137 [(0, .ptr id 0), (2, fints L), (3, fands by_), (5, .ptr σ.length 0), (12, fbools r), (13, s), (14, .int .i64 i), (15, .int .i64 (ev k)), (16, .int .i64 k)] ∧ τ' = τ) _ ?_ ⟨rfl, rfl⟩ ?_
      · simp [mkEnv, List.replicate]
      rintro k2 _ τ' hk2 ⟨rfl, hτ'⟩
      rw [hτ']
      simp [mkEnv, List.replicate]
      by_cases hkl : k2 < by_.length
      · obtain ⟨q, hq⟩ := nth_lt hkl
        have hq' := nth_get hq
        have es2 : IntKind.i64.wrap ((k2 : Int) + 1) = (k2 : Int) + 1 := by rw [wrap_small] <;> omega
        have hev1 : ev (k2 + 1) = if q.1 = v then q.2 else ev k2 := by rw [hev]; simp only; rw [outOf_take hq' hnd]; by_cases c : q.1 = v <;> simp [c]
        by_cases c : q.1 = v
        · rw [if_pos c] at hev1
          simp [hkl, hq, hld50τ, hv, c, es2]
          exact forK_go _ hkl (by simp [mkEnv, List.replicate, hev1]) ⟨rfl, rfl⟩
        · rw [if_neg c] at hev1
          simp [hkl, hq, hld50τ, hv, c, es2]
          exact forK_go _ hkl (by simp [mkEnv, List.replicate, hev1]) ⟨rfl, rfl⟩
      · have hke : k2 = by_.length := by omega
        have hevn : ev k2 = match outOf by_ v with | some e => e | none => edgeOf m.ins v := by rw [hev, hke]; simp only; rw [List.take_length]
        have hmx : max (ev k2) 0 = graftIv m by_ v := by
          rw [hevn]; unfold graftIv
          cases ho : outOf by_ v with
          | some e => have := Mk.all_has.1 hhas e (outOf_mem ho); simp only; omega
          | none => rfl
        have hneg : ev k2 < 0 ↔ (edgeOf m.ins v < 0 ∧ outOf by_ v = none) := by
          rw [hevn]
          cases ho : outOf by_ v with
          | some e => have := Mk.all_has.1 hhas e (outOf_mem ho); simp; omega
          | none => simp
        obtain ⟨q, hq⟩ := nth_lt (l := r) (i := i + 1) (by omega)
        have hq' := nth_get hq
        have hrq : r.getD (i + 1) false = q := by rw [List.getD_eq_getElem?_getD, hq']; rfl
        have hlk' : lacks m by_ r v i = (q && (decide (edgeOf m.ins v < 0) && (outOf by_ v).isNone)) := by unfold lacks; rw [hrq]
        obtain ⟨s', σ3, q1, q2, q3, q4, q5, q6⟩ := hO.push (by_ := 8) (graftIv m by_ v) (fun _ => rfl) (by simp) (by omega) (by simp; omega) (by decide)
        have fin : lacks m by_ r v i = false → ∀ j, j < i + 1 → lacks m by_ r (g.ins.getD j 0) j = false := fun hl j hj => by
          rcases Nat.lt_succ_iff_lt_or_eq.1 hj with h | h
          · exact hno2 j h
          · subst h; rw [hgv]; exact hl
        rw [← hke]
        have h01 : (0 : Int) ≤ (i : Int) + 1 := by omega
        by_cases cq : q = true
        · subst cq
          by_cases cn : ev k2 < 0
          · simp [es, h01, hq, cn]
            refine herr _ 6 (graft_miss hgr ?_) hlowτ (by omega)
            unfold missing
            rw [List.any_eq_true]
            refine ⟨i, List.mem_range.2 hlt, ?_⟩
            rw [hr, hgv, hlk']
            have := hneg.1 cn
            simp [this.1, this.2]
          · simp [es, h01, hq, cn, hmx, q1]
            refine forK_go _ hlt (by simp [mkEnv, List.replicate]) ⟨s', rfl, by simpa [take_get hv'] using q2, hF.trans q3, fin ?_⟩
            rw [hlk']
            by_cases a : edgeOf m.ins v < 0
            · cases ho : outOf by_ v with
              | none => exact absurd (hneg.2 ⟨a, ho⟩) cn
              | some e => simp
            · simp [a]
        · have cq' : q = false := by simpa using cq
          subst cq'
          simp [es, h01, hq, hmx, q1]
          exact forK_go _ hlt (by simp [mkEnv, List.replicate]) ⟨s', rfl, by simpa [take_get hv'] using q2, hF.trans q3, fin (by rw [hlk']; rfl)⟩
    · have : i = g.ins.length := by omega
      subst this
      rw [List.take_length] at hO
      have hms' : missing m g L by_ = false := by
        unfold missing
        rw [Bool.eq_false_iff]
        intro hh
        obtain ⟨j, hj, hjl⟩ := List.any_eq_true.1 hh
        rw [hr, hno2 j (List.mem_range.1 hj)] at hjl
        cases hjl
      rw [graft_good hgr hms'] at k
      have hsa : gload (.load 1 false) [.ptr id 1] τ = some sa := ld_at hRτ.row
      have hsal := hRτ.ands.len
      simp [hsa, hsal, hld5τ]
      have hge : ∀ j, s.has j → σ1.length ≤ j := fun j hj => hO.has_ge hj
      refine GCall.layO (pre := [_, _, _]) hO fun τ1 g1 gl => ?_
      have hlow3 : ∀ j, j < σ1.length → τ1[j]? = σ1[j]? := fun j hj => (g1 j fun hh => by have := hge j hh; omega).trans (hF.get j hj)
      have hlow4 : ∀ j, j < σ.length → τ1[j]? = σ[j]? := fun j hj => (hlow3 j (by omega)).trans (hlow1 j hj)
      have hm3 : RkO n τ1 id m := hm.keep hlow4
      have hs3 : Rtp σ id τ1 := hm.stp (by omega) hlow4
      refine ref_copied_ok (im := g.ins.map (graftIv m by_)) hm3 hok (by omega) hmay (by omega) (fun e he => AigP.all_has c1 he) (by simp) (fun x hx => by obtain ⟨y, hy, rfl⟩ := List.mem_map.1 hx; exact hiv y) fun τ2 h2 s2 => ?_
      have hgd : m.copy g (g.reach L) (0 :: g.ins.map (graftIv m by_)) = grafted m g L by_ := rfl
      rw [hgd] at h2 ⊢
      simp
      have hfl : (grafted m g L by_).2.full = false := by
        refine (cpFold_full _ _ ?_).trans hfull
        rw [List.length_zip]
        show m.n + _ ≤ _
        omega
      refine ref_done_ok h2 hfl ?_
      simp
      have hcpos : 0 < (m.n : Int) := by omega
      have hcok : CpOk (grafted m g L by_) := Mk.copy_ok hok fun t ht => by
        rcases List.mem_cons.1 ht with rfl | ht
        · exact ⟨Int.le_refl _, by omega⟩
        · obtain ⟨y, hy, rfl⟩ := List.mem_map.1 ht; exact hiv y
      have hTl : (grafted m g L by_).1.length = g.nodes := Mk.copy_len (by simp; omega)
      have hdn : (grafted m g L by_).2.n ≤ m.n + g.ands.length := Mk.copy_n.2
      refine ref_images_ok (by omega) hl (fun t ht => by have := hcok.to t ht; omega) (fun e he => by have := AigP.all_has c1 he; omega) ?_
      simp
      exact ⟨fun _ => false, _, .same _, by rw [hno]; exact k _ h2 (hs3.trans s2)⟩
end Go.Gh
namespace Go.Gh
open Go.RowKit Go.Proofs
set_option linter.unusedVariables false
set_option linter.unusedSimpArgs false
set_option maxRecDepth 100000
@[simp] theorem gres_c1 (env : Env) (σ : GS) (t : Tmp) (n : Nat) (b : Bool) : gresL env σ [.cell t n b] = (gload (.load n b) [env[t]?.getD (.tuple [])] σ).map fun v => [v] := by
  simp only [gresL, gres1, garg]
  cases gload (.load n b) [env[t]?.getD (.tuple [])] σ <;> rfl
theorem aig_Edit_ok {g : AigP} {σ : GS} {Post : DV → GS → Prop} (hs1 : g.ins.length < 2 ^ 40) (hs2 : g.ands.length < 2 ^ 40) (k1 : g.may = false → ∀ σ', Fr σ.length σ σ' → Post (.tuple [.nilp, .int .i64 2]) σ')
    (k2 : g.may = true → ∀ σ' id, MkO (σ.length + 1) σ' id ⟨g.ins, g.ands, false⟩ → Fr σ.length σ σ' → Post (.tuple [.ptr id 0, .int .i64 0]) σ') : GCall Tryz.prog F_aig_Edit [g.enc] σ Post := by
  refine gc_aig_Edit ?_
  simp [G_aig_Edit, genv0, List.replicate]
  refine aig_May_ok ⟨by omega, by omega⟩ ?_
  by_cases c : g.may = true
  · simp [c]
    refine aig_maker_ok hs1 hs2 (insOk_nodup (AigP.may_ins c)) fun σ' h1 h2 => ?_
    simp only [List.length_append, List.length_singleton] at h1 h2
    simp
    exact k2 c _ _ h1 ⟨by have := h2.len; omega, fun j hj => (h2.get j (by omega)).trans (List.getElem?_append_left hj)⟩
  · have c' : g.may = false := by simpa using c
    simp [c']
    exact k1 c' _ (.app .rfl' _)
theorem may_nil {ins : List Int} (h : ins.length ≤ 1000) : (AigP.mk ins []).may = insOk 0 ins := by
  unfold AigP.may AigP.nodes
  simp [andsOk]; intro _; omega
theorem aig_New_ok {ins : List Int} {σ : GS} {Post : DV → GS → Prop} (hl : ins.length ≤ 1000) (k1 : insOk 0 ins = false → ∀ σ', Fr σ.length σ σ' → Post (.tuple [.nilp, .int .i64 2]) σ')
    (k2 : insOk 0 ins = true → ∀ σ' id, MkO (σ.length + 1) σ' id ⟨ins, [], false⟩ → Fr σ.length σ σ' → Post (.tuple [.ptr id 0, .int .i64 0]) σ') : GCall Tryz.prog F_aig_New [fints ins] σ Post := by
  refine gc_aig_New ?_
  simp [G_aig_New, genv0, List.replicate]
  refine GCall.reads (args' := [AigP.enc ⟨ins, []⟩]) (.cons (.agg (.cons (.same _) (.cons (.nils 2) .nil))) .nil) ?_
  refine aig_Edit_ok (g := ⟨ins, []⟩) (by show ins.length < _; omega) (by simp) (fun h σ' h2 => ?_) (fun h σ' id h1 h2 => ?_)
  · simp
    exact k1 (by rwa [may_nil hl] at h) _ h2
  · simp
    exact k2 (by rwa [may_nil hl] at h) _ _ h1 h2
theorem ref_New_ok {ins : List Int} {σ : GS} {Post : DV → GS → Prop} (hl : ins.length ≤ 1000) (k1 : insOk 0 ins = false → Post (.tuple [.nilp, .int .i64 2]) σ)
    (k2 : insOk 0 ins = true → ∀ σ' id, RkO σ.length σ' id ⟨ins, [], false⟩ → Fr σ.length σ σ' → Post (.tuple [.ptr id 0, .int .i64 0]) σ') : GCall Tryz.prog F_skolemref06_New [fints ins] σ Post := by
  refine gc_skolemref06_New ?_
  simp [G_skolemref06_New, genv0, List.replicate]
  refine ref_Inputs_ok (by omega) ?_
  by_cases c : insOk 0 ins = true
  · simp [c]
    refine k2 c _ _ ⟨fints ins, .nils, ⟨Nat.le_refl _, ?_, .inl rfl, .nil, fsl_not_has, fun ⟨_, _, _, _, e⟩ => (by cases e), fun i hi => absurd hi fsl_not_has⟩⟩ (.app .rfl' _)
    simp
  · have c' : insOk 0 ins = false := by simpa using c
    simp [c']
    exact k1 c'
theorem ref_Edit_ok {g : AigP} {σ : GS} {Post : DV → GS → Prop} (hs1 : g.ins.length < 2 ^ 40) (hs2 : g.ands.length < 2 ^ 40) (k1 : g.may = false → ∀ σ', Fr σ.length σ σ' → Post (.tuple [.nilp, .int .i64 2]) σ')
    (k2 : g.may = true → ∀ σ' id, RkO σ.length σ' id ⟨g.ins, g.ands, false⟩ → Fr σ.length σ σ' → Post (.tuple [.ptr id 0, .int .i64 0]) σ') : GCall Tryz.prog F_skolemref06_Edit [g.enc] σ Post := by
  refine gc_skolemref06_Edit ?_
  simp [G_skolemref06_Edit, genv0, List.replicate]
  refine ref_May_ok ⟨by omega, by omega⟩ ?_
  by_cases c : g.may = true
  · simp [c]
    obtain ⟨σ1, hσ1⟩ : ∃ σ1, σ ++ [GObj.row false [fints g.ins, fands g.ands], GObj.row false [fints g.ins, DV.nils, DV.bool false]] = σ1 := ⟨_, rfl⟩
    have hl1 : σ1.length = σ.length + 2 := by rw [← hσ1]; simp
    have b1 : σ1[σ.length + 1]? = some (.row false [fints g.ins, .nils, .bool false]) := by rw [← hσ1]; simp
    obtain ⟨s', σ2, q1, q2, q3, q4, q5, q6, _⟩ := (Own.nil (n := σ.length + 2) (sz := 2) (enc := eand) (σ := σ1)).append (by_ := 16) (ys := g.ands) (x := fands g.ands) (fun _ => rfl) (by simp [gread, flatMap_flatten]) (by simp [glen]) (fun y _ => by simp) (by omega) (by simp; omega) (by decide)
    rw [hσ1]
    have b12 : σ2[σ.length + 1]? = some (.row false [fints g.ins, .nils, .bool false]) := (q3.get _ (by omega)).trans b1
    have hge : ∀ j, s'.has j → σ.length + 2 ≤ j := fun j hj => q2.has_ge hj
    have hst : gimp (.store 1) [.ptr (σ.length + 1) 1, s'] σ2 = some (.tuple [], σ2.set (σ.length + 1) (.row false [fints g.ins, s', .bool false])) := by simp [gimp, b12, cells_of_flat q2.flat, q2.flat, over]
    simp [q1, hst]
    have hne : ∀ j, j ≠ σ.length + 1 → (σ2.set (σ.length + 1) (.row false [fints g.ins, s', .bool false]))[j]? = σ2[j]? := fun j hj => List.getElem?_set_ne (Ne.symm hj)
    refine k2 c _ _ ⟨fints g.ins, s', ⟨by omega, List.getElem?_set_self (by omega), .inl rfl, ?_, fsl_not_has, fun h => by have := hge _ h; omega, fun i hi => absurd hi fsl_not_has⟩⟩ ⟨by simp; omega, fun j hj => ?_⟩
    · refine (q2.fit fun j hj => hne j ?_).weaken (by omega)
      have := hge j hj; omega
    · rw [hne j (by omega), q3.get j (by omega), ← hσ1, List.getElem?_append_left hj]
  · have c' : g.may = false := by simpa using c
    simp [c']
    exact k1 c' _ (.app .rfl' _)
theorem aig_Graph_ok {n id : Nat} {m : Mk} {σ : GS} {Post : DV → GS → Prop} (hm : MkO n σ id m) (hs : m.n < 2 ^ 40) (k : ∀ σ' s1 s2, Fr σ.length σ σ' → Own σ.length 1 eint σ' s1 m.ins → Own σ.length 2 eand σ' s2 m.ands → Post (.agg [s1, s2]) σ') : GCall Tryz.prog F_aig_Maker_Graph [.ptr id 0] σ Post := by
  have hmr := hm
  obtain ⟨si, sa, at_, in_, la, li, hR⟩ := hmr
  refine gc_aig_Maker_Graph ?_
  simp [G_aig_Maker_Graph, genv0, List.replicate]
  refine aig_none_ok (hm.app _) ?_
  have hld : ∀ τ j, gload (.load 1 false) [.ptr id j] (σ ++ τ) = [DV.bool true, si, sa, .map at_, .map in_, .bool m.full][j]? := fun τ j => ld_at (getE_append hR.row)
  simp [hld]
  have own_nilq : ∀ {α : Type} {n sz : Nat} {enc : α → List DV} {σ : GS} {s : DV} {xs : List α}, Own n sz enc σ s xs → nilq s ≠ [] ∧ (true ∈ nilq s → xs = []) := fun h => by
    rcases h with ⟨rfl, rfl⟩ | ⟨id, cap, rest, h1, rfl, h3, h4⟩
    · exact ⟨by simp [nilq], fun _ => rfl⟩
    · refine ⟨by simp only [nilq]; split <;> simp, ?_⟩
      simp only [nilq]; intro h; split at h
      · simp at h
      · exact List.length_eq_zero_iff.1 (by omega)
  have hi := hR.ins.fr (σ' := σ ++ [GObj.row false [DV.nils, DV.nils]]) (.app .rfl' _)
  have ha := hR.ands.fr (σ' := σ ++ [GObj.row false [DV.nils, DV.nils]]) (.app .rfl' _)
  have hmn : m.n = 1 + m.ins.length + m.ands.length := rfl
  refine clone_ok (xs := m.ins) (n := σ.length + 1) (own_nilq hi).1 (own_nilq hi).2 (fun τ => ((hi.fr (.app .rfl' τ)).read fun _ => rfl).1) ((hi.read fun _ => rfl).2) (by omega) (by simp) fun s1 σ1 o1 f1 _ _ => ?_
  have hl1 := f1.len
  simp only [List.length_append, List.length_singleton] at hl1 f1
  have hlow : ∀ j, j < σ.length → σ1[j]? = σ[j]? := fun j hj => (f1.get j (by omega)).trans (List.getElem?_append_left hj)
  have hld1 : gload (.load 1 false) [.ptr id 2] σ1 = some sa := ld_at ((hlow id (hR.dom (.inl rfl)).1).trans hR.row)
  have ha1 := hR.ands.fr (σ' := σ1) ⟨by omega, hlow⟩
  simp [hld, hld1]
  refine clone2_ok (xs := m.ands) (n := σ1.length) (own_nilq ha1).1 (own_nilq ha1).2 (fun τ => ((ha1.fr (.app .rfl' τ)).read fun _ => rfl).1) ((ha1.read fun _ => rfl).2) (by omega) (Nat.le_refl _) fun s2 σ2 o2 f2 _ => ?_
  have o1' := o1.fr f2
  have b0 : σ2[σ.length]? = some (.row false [.nils, .nils]) := (f2.get _ (by omega)).trans ((f1.get _ (by omega)).trans (by simp))
  have hl2 := f2.len
  have hst : gimp (.store 2) [.ptr σ.length 0, .agg [s1, s2]] σ2 = some (.tuple [], σ2.set σ.length (.row false [s1, s2])) := by simp [gimp, b0, over, o1'.flat, o2.flat]
  have hne : ∀ j, j ≠ σ.length → (σ2.set σ.length (.row false [s1, s2]))[j]? = σ2[j]? := fun j hj => List.getElem?_set_ne (Ne.symm hj)
  have hld3 : gload (.load 2 true) [.ptr σ.length 0] (σ2.set σ.length (.row false [s1, s2])) = some (.agg [s1, s2]) := by rw [ld_agg (List.getElem?_set_self (by omega))]; rfl
  have hfi := fill_flat2 (z0 := .nils) (z1 := .nils) o1'.flat o2.flat
  simp [hfi, hst, hld3]
  refine k _ s1 s2 ⟨by simp; omega, fun j hj => (hne j (by omega)).trans ((f2.get j (by omega)).trans (hlow j hj))⟩ ?_ ?_
  · exact (o1'.fit fun j hj => hne j (by have := o1'.has_ge hj; omega)).weaken (by omega)
  · exact (o2.fit fun j hj => hne j (by have := o2.has_ge hj; omega)).weaken (by omega)
end Go.Gh
namespace Go.Gh
open Go.RowKit Go.Proofs
set_option linter.unusedVariables false
set_option linter.unusedSimpArgs false
set_option maxRecDepth 100000
/-- Two makers in one heap. -/
theorem pair_aig {na nr ia ir : Nat} {σ σ1 : GS} {m m' m2 : Mk} (h : MkO na σ ia m) (h2 : RkO nr σ ir m2) (hd : ∀ i, Ft σ ia i → ¬ Rt σ ir i) (s : Stp σ ia σ1) : RkO nr σ1 ir m2 ∧ ∀ i, Ft σ1 ia i → ¬ Rt σ1 ir i := by
  have hk : ∀ i, Rt σ ir i → σ1[i]? = σ[i]? := fun i hi => s.get i (h2.dom hi).1 fun hf => hd i hf hi
  refine ⟨h2.fit hk, fun i hf hr => ?_⟩
  rw [h2.ft_eq (hk ir (.inl rfl))] at hr
  exact s.ft i (h2.dom hr).1 (fun hf' => hd i hf' hr) hf
theorem pair_ref {na nr ia ir : Nat} {σ σ1 : GS} {m m' m2 : Mk} (h : MkO na σ ia m) (h2 : RkO nr σ ir m2) (hd : ∀ i, Ft σ ia i → ¬ Rt σ ir i) (s : Rtp σ ir σ1) : MkO na σ1 ia m ∧ ∀ i, Ft σ1 ia i → ¬ Rt σ1 ir i := by
  have hk : ∀ i, Ft σ ia i → σ1[i]? = σ[i]? := fun i hi => s.get i (h.dom hi).1 fun hf => hd i hi hf
  refine ⟨h.fit hk, fun i hf hr => ?_⟩
  rw [h.ft_eq (hk ia (.inl rfl))] at hf
  exact s.ft i (h.dom hf).1 (fun hr' => hd i hf hr') hr
/-- A maker that is in order and not full, with at most k nodes more. -/
structure Kp (m m' : Mk) (k : Nat) : Prop where
  ok : m'.ok
  full : m'.full = false
  hi : m'.n ≤ m.n + k
theorem mkOut_kp {m : Mk} {L : List Int} {r : Int × Mk} {k : Nat} (hok : m.ok) (hfull : m.full = false) (hsz : m.n + k ≤ 200000) (h : (∀ x ∈ L, 0 ≤ x ∧ x < 2 * (m.n : Int)) → Gd m r k) : Kp m (mkOut m L r).2 k := by
  unfold mkOut
  by_cases c : L.all m.graph.has = true
  · rw [if_pos c]
    have g := h (Mk.all_has.1 c)
    exact ⟨g.ok, (g.full hsz).trans hfull, g.hi⟩
  · rw [if_neg c]; exact ⟨hok, hfull, by simp⟩
theorem graft_kp {m : Mk} {g : AigP} {L : List Int} {by_ : List (Int × Int)} (hok : m.ok) (hfull : m.full = false) (hsz : m.n + g.ands.length ≤ 200000) : Kp m (graft m g L by_).2 g.ands.length := by
  unfold graft
  by_cases c : grafts m g L by_ = true
  · rw [if_pos c]
    split
    · exact ⟨hok, hfull, by simp⟩
    · simp only [grafts, Bool.and_eq_true] at c
      have hiv := graftIv_range c.2.2
      have hp := m.n_pos
      refine ⟨(Mk.copy_ok hok fun t ht => ?_).ok, (cpFold_full _ _ ?_).trans hfull, Mk.copy_n.2⟩
      · rcases List.mem_cons.1 ht with rfl | ht
        · exact ⟨Int.le_refl _, by omega⟩
        · obtain ⟨y, hy, rfl⟩ := List.mem_map.1 ht; exact hiv y
      · rw [List.length_zip]; show m.n + _ ≤ _; omega
  · rw [if_neg c]; exact ⟨hok, hfull, by simp⟩
theorem graft_len {m : Mk} {g : AigP} {L : List Int} {by_ : List (Int × Int)} : (graft m g L by_).1.1.length ≤ L.length := by
  unfold graft; split
  · split <;> simp
  · simp
theorem aig_Copy_ok {n id : Nat} {m : Mk} {g : AigP} {L : List Int} {σ : GS} {Post : DV → GS → Prop} (hm : MkO n σ id m) (hok : m.ok) (hfull : m.full = false) (hs : g.Sm) (hl : L.length < 2 ^ 40) (hms : m.n + g.ands.length ≤ 200000)
    (k : ∀ σ', MkO n σ' id (graft m g L []).2 → Stp σ id σ' → Post (grOut (graft m g L [])) σ') : GCall Tryz.prog F_aig_Maker_Copy [.ptr id 0, g.enc, fints L] σ Post := by
  refine gc_aig_Maker_Copy ?_
  have hs1 : ∀ τ, Stp σ id (σ ++ τ) := fun τ => hm.stp (by simp) fun j hj => List.getElem?_append_left hj
  simp [G_aig_Maker_Copy, genv0, List.replicate]
  refine GCall.reads (args' := [.ptr id 0, g.enc, fints L, fands []]) (.cons (.same _) (.cons (.same _) (.cons (.same _) (.cons (.nils 2) .nil)))) ?_
  refine aig_Graft_ok (hm.app _) hok hfull hs hl (by simp) hms fun σ1 h1 s1 => ?_
  simp
  exact k _ h1 ((hs1 _).trans s1)
theorem ref_Copy_ok {n id : Nat} {m : Mk} {g : AigP} {L : List Int} {σ : GS} {Post : DV → GS → Prop} (hm : RkO n σ id m) (hok : m.ok) (hfull : m.full = false) (hs : g.Sm) (hl : L.length < 2 ^ 40) (hms : m.n + g.ands.length ≤ 200000)
    (k : ∀ σ', RkO n σ' id (graft m g L []).2 → Rtp σ id σ' → Post (grOut (graft m g L [])) σ') : GCall Tryz.prog F_skolemref06_Maker_Copy [.ptr id 0, g.enc, fints L] σ Post := by
  refine gc_skolemref06_Maker_Copy ?_
  have hs1 : ∀ τ, Rtp σ id (σ ++ τ) := fun τ => hm.stp (by simp) fun j hj => List.getElem?_append_left hj
  simp [G_skolemref06_Maker_Copy, genv0, List.replicate]
  refine GCall.reads (args' := [.ptr id 0, g.enc, fints L, fands []]) (.cons (.same _) (.cons (.same _) (.cons (.same _) (.cons (.nils 2) .nil)))) ?_
  refine ref_Graft_ok (hm.app _) hok hfull hs hl (by simp) hms fun σ1 h1 s1 => ?_
  simp
  exact k _ h1 ((hs1 _).trans s1)
/-- A call of a script. -/
structure OpV where
  kind : Int
  a : Int
  b : Int
  c : Int
  l : List Int
  g : AigP
  by_ : List (Int × Int)
abbrev eop (o : OpV) : List DV := [.int .u8 o.kind, .int .i64 o.a, .int .i64 o.b, .int .i64 o.c, fints o.l, fints o.g.ins, fands o.g.ands, fands o.by_]
set_option maxHeartbeats 4000000 in
theorem step_ok {na nr ia ir : Nat} {m : Mk} {o : OpV} {σ : GS} {Post : DV → GS → Prop} (h1 : MkO na σ ia m) (h2 : RkO nr σ ir m) (hd : ∀ i, Ft σ ia i → ¬ Rt σ ir i) (hok : m.ok) (hfull : m.full = false) (hsz : m.n ≤ 100000)
    (hk : 0 ≤ o.kind ∧ o.kind < 256) (hl : o.l.length ≤ 200) (hb : o.by_.length ≤ 200) (hgi : o.g.ins.length ≤ 2000) (hga : o.g.ands.length ≤ 600)
    (k : ∀ σ' m', MkO na σ' ia m' → RkO nr σ' ir m' → (∀ i, Ft σ' ia i → ¬ Rt σ' ir i) → Fr 0 σ σ' → Kp m m' 600 → Post (.bool true) σ') : GCall Tryz.prog F_skolemlaw06_step [.ptr ia 0, .ptr ir 0, .agg (eop o)] σ Post := by
  refine gc_skolemlaw06_step ?_
  obtain ⟨σ0, hσ0⟩ : ∃ σ0, σ ++ [GObj.row false (eop o)] = σ0 := ⟨_, rfl⟩
  have hl0 : σ0.length = σ.length + 1 := by rw [← hσ0]; simp
  have hlow : ∀ j, j < σ.length → σ0[j]? = σ[j]? := fun j hj => by rw [← hσ0, List.getElem?_append_left hj]
  have b0 : σ0[σ.length]? = some (.row false (eop o)) := by rw [← hσ0]; simp
  have m1 : MkO na σ0 ia m := h1.keep hlow
  have r1 : RkO nr σ0 ir m := h2.keep hlow
  have hsm : o.g.Sm := ⟨by omega, by omega⟩
  have d1 : ∀ i, Ft σ0 ia i → ¬ Rt σ0 ir i := fun i hf hr => by
    rw [h1.ft_eq (hlow ia (h1.dom (.inl rfl)).1)] at hf
    rw [h2.ft_eq (hlow ir (h2.dom (.inl rfl)).1)] at hr
    exact hd i hf hr
  have hnf : ¬ Ft σ0 ia σ.length := fun hf => by
    rw [h1.ft_eq (hlow ia (h1.dom (.inl rfl)).1)] at hf
    have := (h1.dom hf).1; omega
  have ld : ∀ τ, τ[σ.length]? = some (.row false (eop o)) → ∀ j, gload (.load 1 false) [.ptr σ.length j] τ = (eop o)[j]? := fun τ h j => ld_at h
  have ldg : ∀ τ, τ[σ.length]? = some (.row false (eop o)) → gload (.load 2 true) [.ptr σ.length 5] τ = some o.g.enc := fun τ h => by rw [ld_agg h]; rfl
  have fin : ∀ {m' : Mk} {σ1 σ2 : GS}, MkO na σ1 ia m' → Stp σ0 ia σ1 → RkO nr σ2 ir m' → Rtp σ1 ir σ2 → Kp m m' 600 → Post (.bool true) σ2 := fun {m' σ1 σ2} q1 s1 q2 s2 hkp => by
    obtain ⟨p1, p2⟩ := pair_aig (m' := m') m1 r1 d1 s1
    obtain ⟨p3, p4⟩ := pair_ref (m' := m') q1 p1 p2 s2
    exact k _ m' p3 q2 p4 ⟨Nat.zero_le _, fun i hi => absurd hi (Nat.not_lt_zero _)⟩ hkp
  have hrem : gbin .rem .none (.int .u8 o.kind) (.int .u8 9) = some (.int .u8 (o.kind % 9)) := by
    have : o.kind.tmod 9 = o.kind % 9 := Int.tmod_eq_emod_of_nonneg hk.1
    simp [this]
  simp [G_skolemlaw06_step, genv0, List.replicate, -gb_rem, hrem]
  rw [hσ0]
  have ld0 := ld σ0 b0
  have ldg0 := ldg σ0 b0
  by_cases c : o.kind % 9 = 0
  · simp [c, ld0]
    refine aig_In_ok m1 ?_
    simp [ld0]
    refine ref_In2_ok r1 (by omega) ?_
    simp
    exact fin m1 (.refl _ _) r1 (.refl _ _) ⟨hok, hfull, by omega⟩
  simp [c]
  clear c
  by_cases c : o.kind % 9 = 1
  · simp [c, ld0]
    refine aig_And_ok m1 hok hfull (by omega) fun σ1 q1 s1 => ?_
    have b1 := (s1.get _ (by omega) hnf).trans b0
    simp [ld _ b1]
    refine ref_And_ok (pair_aig (m' := m) m1 r1 d1 s1).1 hok hfull (by omega) fun σ2 q2 s2 => ?_
    simp
    exact fin q1 s1 q2 s2 (mkOut_kp hok hfull (by omega) (fun h => by obtain ⟨a0, a1⟩ := h o.a (by simp); obtain ⟨b0, b1⟩ := h o.b (by simp); exact ((Gd.self hok a0 a1).conj a0 a1 b0 b1).grow (by omega)))
  simp [c]
  clear c
  by_cases c : o.kind % 9 = 2
  · simp [c, ld0]
    refine aig_Or_ok m1 hok hfull (by omega) fun σ1 q1 s1 => ?_
    have b1 := (s1.get _ (by omega) hnf).trans b0
    simp [ld _ b1]
    refine ref_Or_ok (pair_aig (m' := m) m1 r1 d1 s1).1 hok hfull (by omega) fun σ2 q2 s2 => ?_
    simp
    exact fin q1 s1 q2 s2 (mkOut_kp hok hfull (by omega) (fun h => by obtain ⟨a0, a1⟩ := h o.a (by simp); obtain ⟨b0, b1⟩ := h o.b (by simp); exact ((Gd.self hok a0 a1).disj a0 a1 b0 b1).grow (by omega)))
  simp [c]
  clear c
  by_cases c : o.kind % 9 = 3
  · simp [c, ld0]
    refine aig_Xor_ok m1 hok hfull (by omega) fun σ1 q1 s1 => ?_
    have b1 := (s1.get _ (by omega) hnf).trans b0
    simp [ld _ b1]
    refine ref_Xor_ok (pair_aig (m' := m) m1 r1 d1 s1).1 hok hfull (by omega) fun σ2 q2 s2 => ?_
    simp
    exact fin q1 s1 q2 s2 (mkOut_kp hok hfull (by omega) (fun h => by obtain ⟨a0, a1⟩ := h o.a (by simp); obtain ⟨b0, b1⟩ := h o.b (by simp); exact (Gd.choice hok a0 a1 (notE_range b0 b1).1 (notE_range b0 b1).2 b0 b1).grow (by omega)))
  simp [c]
  clear c
  by_cases c : o.kind % 9 = 4
  · simp [c, ld0]
    refine aig_Ite_ok m1 hok hfull (by omega) fun σ1 q1 s1 => ?_
    have b1 := (s1.get _ (by omega) hnf).trans b0
    simp [ld _ b1]
    refine ref_Ite_ok (pair_aig (m' := m) m1 r1 d1 s1).1 hok hfull (by omega) fun σ2 q2 s2 => ?_
    simp
    exact fin q1 s1 q2 s2 (mkOut_kp hok hfull (by omega) (fun h => by obtain ⟨c0, c1⟩ := h o.a (by simp); obtain ⟨a0, a1⟩ := h o.b (by simp); obtain ⟨b0, b1⟩ := h o.c (by simp); exact (Gd.choice hok c0 c1 a0 a1 b0 b1).grow (by omega)))
  simp [c]
  clear c
  by_cases c : o.kind % 9 = 5
  · simp [c, ld0]
    refine aig_All_ok m1 hok hfull (by omega) (by omega) fun σ1 q1 s1 => ?_
    have b1 := (s1.get _ (by omega) hnf).trans b0
    simp [ld _ b1]
    refine ref_All2_ok (pair_aig (m' := m) m1 r1 d1 s1).1 hok hfull (by omega) (by omega) fun σ2 q2 s2 => ?_
    simp
    exact fin q1 s1 q2 s2 (mkOut_kp hok hfull (by omega) (fun h => (Gd.conjs hok h).grow (by omega)))
  simp [c]
  clear c
  by_cases c : o.kind % 9 = 6
  · simp [c, ld0]
    refine aig_Any_ok m1 hok hfull (by omega) (by omega) fun σ1 q1 s1 => ?_
    have b1 := (s1.get _ (by omega) hnf).trans b0
    simp [ld _ b1]
    refine ref_Any_ok (pair_aig (m' := m) m1 r1 d1 s1).1 hok hfull (by omega) (by omega) fun σ2 q2 s2 => ?_
    simp
    exact fin q1 s1 q2 s2 (mkOut_kp hok hfull (by omega) (fun h => by have g := (Gd.conjs hok (Mk.notE_has h)).not; rw [List.length_map] at g; exact g.grow (by omega)))
  simp [c]
  clear c
  by_cases c : o.kind % 9 = 7
  · simp [c, ld0, ldg0]
    refine aig_Copy_ok m1 hok hfull hsm (by omega) (by omega) fun σ1 q1 s1 => ?_
    have b1 := (s1.get _ (by omega) hnf).trans b0
    simp [ld _ b1, ldg _ b1]
    refine ref_Copy_ok (pair_aig (m' := m) m1 r1 d1 s1).1 hok hfull hsm (by omega) (by omega) fun σ2 q2 s2 => ?_
    have hgl := graft_len (m := m) (g := o.g) (L := o.l) (by_ := [])
    simp
    refine ref_Ints_ok (by omega) ?_
    simp
    have hkp := graft_kp (L := o.l) (by_ := []) hok hfull (g := o.g) (by omega)
    exact fin q1 s1 q2 s2 ⟨hkp.ok, hkp.full, by have := hkp.hi; omega⟩
  simp [c]
  clear c
  simp [ld0, ldg0]
  refine aig_Graft_ok m1 hok hfull hsm (by omega) (by omega) (by omega) fun σ1 q1 s1 => ?_
  have b1 := (s1.get _ (by omega) hnf).trans b0
  simp [ld _ b1, ldg _ b1]
  refine ref_Graft_ok (pair_aig (m' := m) m1 r1 d1 s1).1 hok hfull hsm (by omega) (by omega) (by omega) fun σ2 q2 s2 => ?_
  have hgl := graft_len (m := m) (g := o.g) (L := o.l) (by_ := o.by_)
  simp
  refine ref_Ints_ok (by omega) ?_
  simp
  have hkp := graft_kp (L := o.l) (by_ := o.by_) hok hfull (g := o.g) (by omega)
  exact fin q1 s1 q2 s2 ⟨hkp.ok, hkp.full, by have := hkp.hi; omega⟩
end Go.Gh
namespace Go.Gh
open Go.RowKit Go.Proofs
set_option linter.unusedVariables false
set_option linter.unusedSimpArgs false
set_option maxRecDepth 100000
theorem MkO.weaken {n k id : Nat} {σ : GS} {m : Mk} (h : MkO n σ id m) (hk : k ≤ n) : MkO k σ id m := by
  obtain ⟨si, sa, at_, in_, la, li, h⟩ := h
  exact ⟨si, sa, at_, in_, la, li, ⟨⟨by have := h.ge; omega, h.row, h.ins.weaken hk, h.ands.weaken hk, h.atm, h.inm, by have := h.at_ge; omega, by have := h.in_ge; omega, h.ne, h.si_id, h.sa_id, h.si_sa⟩, h.ats, h.ins_⟩⟩
/-- What New and Edit return: a maker, or nil and ErrArg. -/
def NewA (σ : GS) (n : Nat) (S : Option Mk) (p : DV) (e : Int) : Prop := match S with | none => p = .nilp ∧ e = 2 | some m => ∃ id, p = .ptr id 0 ∧ e = 0 ∧ MkO n σ id m
def NewR (σ : GS) (n : Nat) (S : Option Mk) (p : DV) (e : Int) : Prop := match S with | none => p = .nilp ∧ e = 2 | some m => ∃ id, p = .ptr id 0 ∧ e = 0 ∧ RkO n σ id m
def newS (ins : List Int) : Option Mk := if insOk 0 ins = true then some ⟨ins, [], false⟩ else none
def editS (g : AigP) : Option Mk := if g.may = true then some ⟨g.ins, g.ands, false⟩ else none
theorem aig_New2_ok {ins : List Int} {σ : GS} {Post : DV → GS → Prop} (hl : ins.length ≤ 1000) (k : ∀ σ' p e, Fr σ.length σ σ' → NewA σ' σ.length (newS ins) p e → Post (.tuple [p, .int .i64 e]) σ') : GCall Tryz.prog F_aig_New [fints ins] σ Post := by
  refine aig_New_ok hl (fun h σ' hF => ?_) (fun h σ' id hm hF => ?_)
  · exact k _ _ _ hF (by unfold newS; rw [if_neg (by simp [h])]; exact ⟨rfl, rfl⟩)
  · exact k _ _ _ hF (by unfold newS; rw [if_pos h]; exact ⟨id, rfl, rfl, hm.weaken (by omega)⟩)
theorem ref_New2_ok {ins : List Int} {σ : GS} {Post : DV → GS → Prop} (hl : ins.length ≤ 1000) (k : ∀ σ' p e, Fr σ.length σ σ' → NewR σ' σ.length (newS ins) p e → Post (.tuple [p, .int .i64 e]) σ') : GCall Tryz.prog F_skolemref06_New [fints ins] σ Post := by
  refine ref_New_ok hl (fun h => ?_) (fun h σ' id hm hF => ?_)
  · exact k _ _ _ .rfl' (by unfold newS; rw [if_neg (by simp [h])]; exact ⟨rfl, rfl⟩)
  · exact k _ _ _ hF (by unfold newS; rw [if_pos h]; exact ⟨id, rfl, rfl, hm⟩)
theorem aig_Edit2_ok {g : AigP} {σ : GS} {Post : DV → GS → Prop} (h1 : g.ins.length < 2 ^ 40) (h2 : g.ands.length < 2 ^ 40) (k : ∀ σ' p e, Fr σ.length σ σ' → NewA σ' σ.length (editS g) p e → Post (.tuple [p, .int .i64 e]) σ') : GCall Tryz.prog F_aig_Edit [g.enc] σ Post := by
  refine aig_Edit_ok h1 h2 (fun h σ' hF => ?_) (fun h σ' id hm hF => ?_)
  · exact k _ _ _ hF (by unfold editS; rw [if_neg (by simp [h])]; exact ⟨rfl, rfl⟩)
  · exact k _ _ _ hF (by unfold editS; rw [if_pos h]; exact ⟨id, rfl, rfl, hm.weaken (by omega)⟩)
theorem ref_Edit2_ok {g : AigP} {σ : GS} {Post : DV → GS → Prop} (h1 : g.ins.length < 2 ^ 40) (h2 : g.ands.length < 2 ^ 40) (k : ∀ σ' p e, Fr σ.length σ σ' → NewR σ' σ.length (editS g) p e → Post (.tuple [p, .int .i64 e]) σ') : GCall Tryz.prog F_skolemref06_Edit [g.enc] σ Post := by
  refine ref_Edit_ok h1 h2 (fun h σ' hF => ?_) (fun h σ' id hm hF => ?_)
  · exact k _ _ _ hF (by unfold editS; rw [if_neg (by simp [h])]; exact ⟨rfl, rfl⟩)
  · exact k _ _ _ hF (by unfold editS; rw [if_pos h]; exact ⟨id, rfl, rfl, hm⟩)
/-- Both makers, or both nil. -/
def Start (σ : GS) (S : Option Mk) (p : DV) (e : Int) (q : DV) (f : Int) : Prop := match S with
  | none => p = .nilp ∧ e = 2 ∧ q = .nilp ∧ f = 2
  | some m => ∃ ia ir na nr, p = .ptr ia 0 ∧ e = 0 ∧ q = .ptr ir 0 ∧ f = 0 ∧ MkO na σ ia m ∧ RkO nr σ ir m ∧ ∀ i, Ft σ ia i → ¬ Rt σ ir i
theorem start {σ1 σ2 : GS} {n : Nat} {S : Option Mk} {p q : DV} {e f : Int} (f2 : Fr σ1.length σ1 σ2) (n1 : NewA σ1 n S p e) (n2 : NewR σ2 σ1.length S q f) : Start σ2 S p e q f := by
  cases S with
  | none => exact ⟨n1.1, n1.2, n2.1, n2.2⟩
  | some m =>
    obtain ⟨ia, r1, r2, hm⟩ := n1
    obtain ⟨ir, r3, r4, hr⟩ := n2
    refine ⟨ia, ir, _, _, r1, r2, r3, r4, hm.keep f2.get, hr, fun i hf hr' => ?_⟩
    rw [hm.ft_eq (f2.get _ (hm.dom (.inl rfl)).1)] at hf
    have := (hm.dom hf).1
    have := (hr.dom hr').2
    omega
theorem newS_ok {ins : List Int} (hl : ins.length ≤ 200) {m : Mk} (h : newS ins = some m) : m.ok ∧ m.full = false ∧ m.n ≤ 1000 := by
  unfold newS at h
  split at h
  · cases h; exact ⟨rfl, rfl, by simp [Mk.n]; omega⟩
  · cases h
theorem editS_ok {g : AigP} (hi : g.ins.length ≤ 100) (ha : g.ands.length ≤ 600) {m : Mk} (h : editS g = some m) : m.ok ∧ m.full = false ∧ m.n ≤ 1000 := by
  unfold editS at h
  split at h
  · rename_i hm
    cases h
    exact ⟨by have := AigP.may_ands hm; unfold Mk.ok; simpa using this, rfl, by simp [Mk.n]; omega⟩
  · cases h
set_option maxHeartbeats 4000000 in
theorem makes_ok {ins : List Int} {g : AigP} {edit : Bool} {ops : List OpV} {σ : GS} {Post : DV → GS → Prop} (hi : ins.length < 2 ^ 47) (h1 : g.ins.length < 2 ^ 47) (h2 : g.ands.length < 2 ^ 47) (hl : ops.length < 2 ^ 47)
    (ho : ∀ o ∈ ops, (0 ≤ o.kind ∧ o.kind < 256) ∧ o.l.length < 2 ^ 47 ∧ o.by_.length < 2 ^ 47 ∧ o.g.ins.length < 2 ^ 47 ∧ o.g.ands.length < 2 ^ 47) (k : ∀ σ', Post (.bool true) σ') : GCall Tryz.prog F_skolemlaw06_AigMakes [fints ins, g.enc, .bool edit, .fsl 8 (ops.map eop)] σ Post := by
  refine gc_skolemlaw06_AigMakes ?_
  simp [G_skolemlaw06_AigMakes, genv0, List.replicate]
  refine great_one (g := g) (by simp) ?_
  by_cases c1 : g.great = true
  · simp [c1]
    refine works_ok ?_
    simp
    exact k _
  have hs : g.Sm := ⟨by omega, by omega⟩
  simp [c1]
  by_cases c2 : (200 : Int) < ins.length
  · simp [c2]
    refine works_ok ?_
    simp
    exact k _
  simp [c2]
  by_cases c3 : (100 : Int) < ops.length
  · simp [c3]
    refine works_ok ?_
    simp
    exact k _
  simp [c3]
  have c1' : g.ins.length ≤ 100 ∧ g.ands.length ≤ 600 := by
    simp only [AigP.great, Bool.or_eq_true, decide_eq_true_eq, not_or] at c1; omega
  refine aig_New2_ok (by omega) fun σ1 p e f1 n1 => ?_
  simp only [List.length_append, List.length_cons, List.length_nil] at f1
  have hb1 : σ1[σ.length]? = some (.row false [fints g.ins, fands g.ands]) := (f1.get _ (by omega)).trans (by simp)
  have hl1 := f1.len
  simp
  refine ref_New2_ok (by omega) fun σ2 q f f2 n2 => ?_
  have hb2 := (f2.get _ (by omega)).trans hb1
  have hld2 : gload (.load 2 true) [.ptr σ.length 0] σ2 = some g.enc := by rw [ld_agg hb2]; rfl
  have hl2 := f2.len
  have st := start f2 n1 n2
  have hS := fun m => newS_ok (ins := ins) (by omega) (m := m)
  generalize newS ins = S at st hS
  clear n1 n2 hb1 f1
  simp
  cases edit
  rotate_left
  simp [hld2]
  refine aig_Edit2_ok (by omega) (by omega) fun σ3 p e f3 n3 => ?_
  have hb3 := (f3.get _ (by omega)).trans hb2
  have hld3 : gload (.load 2 true) [.ptr σ.length 0] σ3 = some g.enc := by rw [ld_agg hb3]; rfl
  simp [hld3]
  refine ref_Edit2_ok (by omega) (by omega) fun σ2 q f f4 n4 => ?_
  have st := start f4 n3 n4
  have hS := fun m => editS_ok (g := g) (by omega) (by omega) (m := m)
  generalize editS g = S at st hS
  clear n3 n4
  simp
  rotate_left
  simp
  all_goals
    cases S with
    | none =>
      obtain ⟨rfl, rfl, rfl, rfl⟩ := st
      simp
      refine gfor ops.length (fun i e τ => e = mkEnv 107 [(9, .nilp), (11, .nilp), (12, .int .i64 2), (60, .fsl 8 (ops.map eop)), (61, .int .i64 ops.length), (62, .int .i64 i)]) _ ?_ rfl ?_
      · simp [mkEnv, List.replicate]
      rintro i _ τ hi' rfl
      simp [mkEnv, List.replicate]
      by_cases hlt : i < ops.length
      · obtain ⟨o, ho'⟩ := nth_lt hlt
        have ho2 := nth_get ho'
        obtain ⟨o1, o2, o3, o4, o5⟩ := ho o (List.mem_of_getElem? ho2)
        have es : IntKind.i64.wrap ((i : Int) + 1) = (i : Int) + 1 := by rw [wrap_small] <;> omega
        simp [hlt, ho']
        refine great_one (g := o.g) (by simp) ?_
        by_cases d1 : o.g.great = true
        · simp [d1]
          refine works_ok ?_
          simp
          exact k _
        have d1' : o.g.ins.length ≤ 100 ∧ o.g.ands.length ≤ 600 := by
          simp only [AigP.great, Bool.or_eq_true, decide_eq_true_eq, not_or] at d1; omega
        simp [d1]
        by_cases d2 : (100 : Int) < o.l.length
        · simp [d2]
          refine works_ok ?_
          simp
          exact k _
        simp [d2]
        by_cases d3 : (100 : Int) < o.by_.length
        · simp [d3]
          refine works_ok ?_
          simp
          exact k _
        simp [d3, es]
        exact forK_go _ hlt (by simp [mkEnv, List.replicate]) rfl
      · have : i = ops.length := by omega
        subst this
        simp
        refine works_ok ?_
        simp
        exact k _
    | some m =>
      obtain ⟨ia, ir, na, nr, rfl, rfl, rfl, rfl, hm, hr, hd⟩ := st
      obtain ⟨hok, hfull, hn⟩ := hS m rfl
      simp
      refine gfor ops.length (fun i e τ => e = mkEnv 107 [(9, .ptr ia 0), (11, .ptr ir 0), (12, .int .i64 0), (60, .fsl 8 (ops.map eop)), (61, .int .i64 ops.length), (62, .int .i64 i)] ∧ ∃ m : Mk, MkO na τ ia m ∧ RkO nr τ ir m ∧ (∀ j, Ft τ ia j → ¬ Rt τ ir j) ∧ m.ok ∧ m.full = false ∧ m.n ≤ 1000 + 600 * i) _ ?_ ⟨rfl, m, hm, hr, hd, hok, hfull, by omega⟩ ?_
      · simp [mkEnv, List.replicate]
      clear hm hr hd hok hfull hn hS m
      rintro i _ τ hi' ⟨rfl, m, hm, hr, hd, hok, hfull, hn⟩
      simp [mkEnv, List.replicate]
      by_cases hlt : i < ops.length
      · obtain ⟨o, ho'⟩ := nth_lt hlt
        have ho2 := nth_get ho'
        obtain ⟨o1, o2, o3, o4, o5⟩ := ho o (List.mem_of_getElem? ho2)
        have es : IntKind.i64.wrap ((i : Int) + 1) = (i : Int) + 1 := by rw [wrap_small] <;> omega
        simp [hlt, ho']
        refine great_one (g := o.g) (by simp) ?_
        by_cases d1 : o.g.great = true
        · simp [d1]
          refine works_ok ?_
          simp
          exact k _
        have d1' : o.g.ins.length ≤ 100 ∧ o.g.ands.length ≤ 600 := by
          simp only [AigP.great, Bool.or_eq_true, decide_eq_true_eq, not_or] at d1; omega
        simp [d1]
        by_cases d2 : (100 : Int) < o.l.length
        · simp [d2]
          refine works_ok ?_
          simp
          exact k _
        simp [d2]
        by_cases d3 : (100 : Int) < o.by_.length
        · simp [d3]
          refine works_ok ?_
          simp
          exact k _
        simp [d3]
        have hτ : ∀ j, j < τ.length → ∀ X : GS, (τ ++ X)[j]? = τ[j]? := fun j hj X => List.getElem?_append_left hj
        refine step_ok (o := o) (hm.app _) (hr.app _) (fun j hf hr' => ?_) hok hfull (by omega) o1 (by omega) (by omega) (by omega) (by omega) fun τ2 m' q1 q2 q3 _ q5 => ?_
        · rw [hm.ft_eq (hτ _ (hm.dom (.inl rfl)).1 _)] at hf
          rw [hr.ft_eq (hτ _ (hr.dom (.inl rfl)).1 _)] at hr'
          exact hd j hf hr'
        · simp [es]
          exact forK_go _ hlt (by simp [mkEnv, List.replicate]) ⟨rfl, m', q1, q2, q3, q5.ok, q5.full, by have := q5.hi; omega⟩
      · have : i = ops.length := by omega
        subst this
        have hr' := hr
        obtain ⟨si, sa, hR⟩ := hr'
        have hld : gload (.load 2 true) [.ptr ir 0] τ = some (.agg [si, sa]) := by rw [ld_agg hR.row]; rfl
        simp [hld]
        refine aig_Graph_ok hm (by omega) fun τ2 s1 s2 hF o1 o2 => ?_
        have hR2 : RkR nr τ2 ir m si sa := hR.fit fun j hj => hF.get j (hR.dom hj).1
        have hld2 : gload (.load 2 true) [.ptr ir 0] τ2 = some (.agg [si, sa]) := by rw [ld_agg hR2.row]; rfl
        simp [hld, hld2]
        have hmn : m.n = 1 + m.ins.length + m.ands.length := rfl
        have hsm : (AigP.mk m.ins m.ands).Sm := ⟨by show m.ins.length < _; omega, by show m.ands.length < _; omega⟩
        refine GCall.borrow (args' := [AigP.enc ⟨m.ins, m.ands⟩, AigP.enc ⟨m.ins, m.ands⟩]) (r := .bool true) (.cons (.agg (.cons (o1.rd (fun _ => rfl) fun _ _ => trivial) (.cons (o2.rd (fun _ => rfl) fun _ _ => trivial) .nil))) (.cons (hR2.rd _ fun _ _ => trivial) .nil)) (by simp) rfl (ref_Same_ok hsm hsm (by simp)) ?_
        simp
        refine works_ok ?_
        simp
        exact k _
end Go.Gh
