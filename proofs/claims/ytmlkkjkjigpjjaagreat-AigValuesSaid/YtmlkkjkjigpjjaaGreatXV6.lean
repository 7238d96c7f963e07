/-
  Proved: AigValues: the values and the tables of the graph are those of the reference.
  Part 6 of 8. Conditions: none. A verified frame that runs compiled texts over a ghost heap, the contracts of the functions that the statement reaches, and the plain law.
-/
import Derived.Test.YtmlkkjkjigpjjaaGreatXV5
import Derived.Test.YtmlkkjkjigpjjaaGreatProg
import Derived.KernelRfl
namespace Go.Gh
open Go.Proofs
abbrev F_skolemlaw06_AigCones : Nat := 3
abbrev F_skolemlaw06_great : Nat := 10
abbrev F_skolemlaw06_works : Nat := 11
abbrev F_skolemref06_Cone : Nat := 13
abbrev F_skolemref06_Restrict : Nat := 15
abbrev F_skolemref06_Same : Nat := 16
abbrev F_skolemref05_Ints : Nat := 17
abbrev F_skolemref06_May : Nat := 23
abbrev F_skolemref05_Normal : Nat := 45
abbrev F_skolemref06_Nodes : Nat := 50
abbrev F_skolemref06_Edge : Nat := 53
abbrev F_skolemref06_HasAll : Nat := 58
abbrev F_skolemref06_Maker_copied : Nat := 59
abbrev F_skolemref06_edges : Nat := 60
abbrev F_skolemref06_images : Nat := 61
abbrev F_skolemref05_In : Nat := 72
abbrev F_skolemref06_Reached : Nat := 74
abbrev F_skolemref06_Inputs : Nat := 77
abbrev F_skolemref06_Not : Nat := 78
abbrev F_skolemref06_find : Nat := 79
abbrev F_skolemref06_has : Nat := 80
abbrev F_skolemref06_Image : Nat := 101
abbrev F_skolemref05_variable : Nat := 121
abbrev F_skolemref05_Abs : Nat := 124
abbrev F_skolemref06_Maker_Conj : Nat := 144
noncomputable abbrev G_skolemref06_Cone : GFun := ⟨37, [(.cell 4 2 true), (.tmp 5), (.tmp 6)], (.seq (.region [⟨0, ⟨(some 2), none, (.new .box), [(.tmp 0)]⟩, []⟩, ⟨0, ⟨(some 4), none, (.new (.alloc [.nils, .nils])), []⟩, []⟩, ⟨0, ⟨(some 5), none, (.pure .id), [(.const .nils)]⟩, []⟩, ⟨0, ⟨(some 6), none, (.pure .id), [(.const (.int .i64 0))]⟩, []⟩]) (.seq (.seq (.region [⟨0, ⟨(some 9), none, (.load (.load 2 true)), [(.tmp 2)]⟩, []⟩, ⟨0, ⟨(some 10), none, (.pure .id), [(.tmp 1)]⟩, []⟩, ⟨0, ⟨(some 11), none, (.call F_skolemref06_HasAll), [(.tmp 9), (.tmp 10)]⟩, []⟩, ⟨0, ⟨(some 12), none, (.pure (.un .not)), [(.tmp 11)]⟩, []⟩]) (.cond (.tmp 12) (.seq (.region [⟨0, ⟨(some 13), none, (.pure (.build [.nils, .nils] [])), []⟩, []⟩, ⟨0, ⟨none, none, (.imp (.store 2)), [(.tmp 4), (.tmp 13)]⟩, []⟩, ⟨0, ⟨(some 5), none, (.pure .id), [(.const .nils)]⟩, []⟩, ⟨0, ⟨(some 6), none, (.pure .id), [(.const (.int .i64 2))]⟩, []⟩]) .ret) .skip)) (.seq (.region [⟨0, ⟨(some 14), none, (.pure (.faddr 0)), [(.tmp 2)]⟩, []⟩, ⟨0, ⟨(some 15), none, (.load (.load 1 false)), [(.tmp 14)]⟩, []⟩, ⟨0, ⟨(some 16), none, (.pure (.build [.nils, .nils] [(0, 1)])), [(.tmp 15)]⟩, []⟩, ⟨0, ⟨(some 17), none, (.pure (.build [.nils, .nils, (.bool false)] [(0, 2)])), [(.tmp 16)]⟩, []⟩, ⟨0, ⟨(some 18), none, (.new .box), [(.tmp 17)]⟩, []⟩, ⟨0, ⟨(some 7), none, (.pure .id), [(.tmp 18)]⟩, []⟩]) (.seq (.region [⟨0, ⟨(some 19), none, (.pure .id), [(.tmp 7)]⟩, []⟩, ⟨1, ⟨(some 20), none, (.load (.load 2 true)), [(.tmp 2)]⟩, []⟩, ⟨2, ⟨(some 21), none, (.pure .id), [(.tmp 1)]⟩, []⟩, ⟨3, ⟨(some 22), none, (.pure .id), [(.tmp 7)]⟩, []⟩, ⟨4, ⟨(some 23), none, (.pure .nilck), [(.tmp 22)]⟩, []⟩, ⟨5, ⟨(some 24), none, (.pure (.faddr 0)), [(.tmp 23)]⟩, []⟩, ⟨6, ⟨(some 25), none, (.load (.load 2 true)), [(.tmp 24)]⟩, []⟩, ⟨7, ⟨(some 26), none, (.pure (.faddr 0)), [(.tmp 2)]⟩, []⟩, ⟨8, ⟨(some 27), none, (.load (.load 1 false)), [(.tmp 26)]⟩, []⟩, ⟨9, ⟨(some 28), none, (.call F_skolemref06_edges), [(.tmp 25), (.tmp 27)]⟩, [⟨(some 20), none, (.load (.load 2 true)), [(.tmp 2)]⟩]⟩, ⟨10, ⟨(some 29), none, (.call F_skolemref06_Maker_copied), [(.tmp 19), (.tmp 20), (.tmp 21), (.tmp 28)]⟩, []⟩, ⟨11, ⟨(some 8), none, (.pure .id), [(.tmp 29)]⟩, []⟩]) (.seq (.region [⟨0, ⟨(some 30), none, (.pure .id), [(.tmp 7)]⟩, []⟩, ⟨1, ⟨(some 31), none, (.pure .nilck), [(.tmp 30)]⟩, []⟩, ⟨2, ⟨(some 32), none, (.pure (.faddr 0)), [(.tmp 31)]⟩, []⟩, ⟨3, ⟨(some 33), none, (.load (.load 2 true)), [(.tmp 32)]⟩, []⟩, ⟨4, ⟨(some 34), none, (.pure .id), [(.tmp 8)]⟩, []⟩, ⟨5, ⟨(some 35), none, (.pure .id), [(.tmp 1)]⟩, []⟩, ⟨6, ⟨(some 36), none, (.call F_skolemref06_images), [(.tmp 34), (.tmp 35)]⟩, [⟨(some 33), none, (.load (.load 2 true)), [(.tmp 32)]⟩]⟩, ⟨7, ⟨none, none, (.imp (.store 2)), [(.tmp 4), (.tmp 33)]⟩, []⟩, ⟨8, ⟨(some 5), none, (.pure .id), [(.tmp 36)]⟩, []⟩, ⟨9, ⟨(some 6), none, (.pure .id), [(.const (.int .i64 0))]⟩, []⟩]) .ret)))))⟩
theorem c_skolemref06_Cone : compF Tryz.prog Tryz.f13 = some G_skolemref06_Cone := by kernel_rfl
theorem gc_skolemref06_Cone {args : List DV} {σ : GS} {Post : DV → GS → Prop} (h : @exB Tryz.prog ⟨G_skolemref06_Cone.body⟩ (genv0 args G_skolemref06_Cone.ntmps) σ ⟨@gretB G_skolemref06_Cone.results ⟨Post⟩⟩) : GCall Tryz.prog F_skolemref06_Cone args σ Post := gcall_ofB seatfollows Tryz.func13 (by kernel_rfl) c_skolemref06_Cone h
noncomputable abbrev G_skolemref06_Restrict : GFun := ⟨123, [(.cell 6 2 true), (.tmp 7), (.tmp 8)], (.seq (.region [⟨0, ⟨(some 3), none, (.new .box), [(.tmp 0)]⟩, []⟩, ⟨0, ⟨(some 6), none, (.new (.alloc [.nils, .nils])), []⟩, []⟩, ⟨0, ⟨(some 7), none, (.pure .id), [(.const .nils)]⟩, []⟩, ⟨0, ⟨(some 8), none, (.pure .id), [(.const (.int .i64 0))]⟩, []⟩]) (.seq (.seq (.region [⟨0, ⟨(some 14), none, (.load (.load 2 true)), [(.tmp 3)]⟩, []⟩, ⟨0, ⟨(some 15), none, (.pure .id), [(.tmp 1)]⟩, []⟩, ⟨0, ⟨(some 16), none, (.call F_skolemref06_HasAll), [(.tmp 14), (.tmp 15)]⟩, []⟩, ⟨0, ⟨(some 17), none, (.pure (.un .not)), [(.tmp 16)]⟩, []⟩, ⟨0, ⟨(some 18), none, (.pure .id), [(.tmp 17)]⟩, []⟩, ⟨0, ⟨(some 19), (some (18, false)), (.pure .id), [(.tmp 2)]⟩, []⟩, ⟨0, ⟨(some 20), (some (18, false)), (.call F_skolemref05_Normal), [(.tmp 19)]⟩, []⟩, ⟨0, ⟨(some 21), (some (18, false)), (.pure (.un .not)), [(.tmp 20)]⟩, []⟩, ⟨0, ⟨(some 22), none, (.pure .pick), [(.tmp 18), (.const (.bool true)), (.tmp 21)]⟩, []⟩]) (.cond (.tmp 22) (.seq (.region [⟨0, ⟨(some 23), none, (.pure (.build [.nils, .nils] [])), []⟩, []⟩, ⟨0, ⟨none, none, (.imp (.store 2)), [(.tmp 6), (.tmp 23)]⟩, []⟩, ⟨0, ⟨(some 7), none, (.pure .id), [(.const .nils)]⟩, []⟩, ⟨0, ⟨(some 8), none, (.pure .id), [(.const (.int .i64 2))]⟩, []⟩]) .ret) .skip)) (.seq (.region [⟨0, ⟨(some 24), none, (.pure (.build [.nils, .nils, (.bool false)] [])), []⟩, []⟩, ⟨0, ⟨(some 25), none, (.new .box), [(.tmp 24)]⟩, []⟩, ⟨0, ⟨(some 9), none, (.pure .id), [(.tmp 25)]⟩, []⟩]) (.seq (.seq (.region [⟨0, ⟨(some 10), none, (.pure .id), [(.const (.int .i64 0))]⟩, []⟩]) (.block 0 (.loop (.seq (.seq (.region [⟨0, ⟨(some 26), none, (.pure .id), [(.tmp 10)]⟩, []⟩, ⟨0, ⟨(some 27), none, (.pure (.faddr 0)), [(.tmp 3)]⟩, []⟩, ⟨0, ⟨(some 28), none, (.load (.load 1 false)), [(.tmp 27)]⟩, []⟩, ⟨0, ⟨(some 29), none, (.pure .len), [(.tmp 28)]⟩, []⟩, ⟨0, ⟨(some 30), none, (.pure (.bin .lss .none)), [(.tmp 26), (.tmp 29)]⟩, []⟩]) (.cond (.tmp 30) .skip (.exit 0))) (.seq (.block 1 (.seq (.region [⟨0, ⟨(some 33), none, (.pure .id), [(.tmp 2)]⟩, []⟩, ⟨0, ⟨(some 34), none, (.pure (.faddr 0)), [(.tmp 3)]⟩, []⟩, ⟨0, ⟨(some 35), none, (.load (.load 1 false)), [(.tmp 34)]⟩, []⟩, ⟨0, ⟨(some 36), none, (.pure .id), [(.tmp 10)]⟩, []⟩, ⟨0, ⟨(some 37), none, (.pure (.iaddr 1)), [(.tmp 35), (.tmp 36)]⟩, []⟩, ⟨0, ⟨(some 38), none, (.load (.load 1 false)), [(.tmp 37)]⟩, []⟩, ⟨0, ⟨(some 39), none, (.call F_skolemref05_In), [(.tmp 33), (.tmp 38)]⟩, []⟩, ⟨0, ⟨(some 40), none, (.pure (.un .not)), [(.tmp 39)]⟩, []⟩, ⟨0, ⟨(some 41), none, (.pure .id), [(.tmp 40)]⟩, []⟩, ⟨0, ⟨(some 42), (some (41, true)), (.pure .id), [(.tmp 2)]⟩, []⟩, ⟨0, ⟨(some 43), (some (41, true)), (.pure (.faddr 0)), [(.tmp 3)]⟩, []⟩, ⟨0, ⟨(some 44), (some (41, true)), (.load (.load 1 false)), [(.tmp 43)]⟩, []⟩, ⟨0, ⟨(some 45), (some (41, true)), (.pure .id), [(.tmp 10)]⟩, []⟩, ⟨0, ⟨(some 46), (some (41, true)), (.pure (.iaddr 1)), [(.tmp 44), (.tmp 45)]⟩, []⟩, ⟨0, ⟨(some 47), (some (41, true)), (.load (.load 1 false)), [(.tmp 46)]⟩, []⟩, ⟨0, ⟨(some 48), (some (41, true)), (.pure (.un .neg)), [(.tmp 47)]⟩, []⟩, ⟨0, ⟨(some 49), (some (41, true)), (.call F_skolemref05_In), [(.tmp 42), (.tmp 48)]⟩, []⟩, ⟨0, ⟨(some 50), (some (41, true)), (.pure (.un .not)), [(.tmp 49)]⟩, []⟩, ⟨0, ⟨(some 51), none, (.pure .pick), [(.tmp 41), (.tmp 50), (.const (.bool false))]⟩, []⟩]) (.cond (.tmp 51) (.region [⟨0, ⟨(some 52), none, (.pure .id), [(.tmp 9)]⟩, []⟩, ⟨1, ⟨(some 53), none, (.pure .id), [(.tmp 9)]⟩, []⟩, ⟨2, ⟨(some 54), none, (.pure .nilck), [(.tmp 53)]⟩, []⟩, ⟨3, ⟨(some 55), none, (.pure (.faddr 0)), [(.tmp 54)]⟩, []⟩, ⟨4, ⟨(some 56), none, (.pure (.faddr 0)), [(.tmp 55)]⟩, []⟩, ⟨5, ⟨(some 57), none, (.load (.load 1 false)), [(.tmp 56)]⟩, []⟩, ⟨6, ⟨(some 58), none, (.pure (.faddr 0)), [(.tmp 3)]⟩, []⟩, ⟨7, ⟨(some 59), none, (.load (.load 1 false)), [(.tmp 58)]⟩, []⟩, ⟨8, ⟨(some 60), none, (.pure .id), [(.tmp 10)]⟩, []⟩, ⟨9, ⟨(some 61), none, (.pure (.iaddr 1)), [(.tmp 59), (.tmp 60)]⟩, []⟩, ⟨10, ⟨(some 62), none, (.load (.load 1 false)), [(.tmp 61)]⟩, []⟩, ⟨11, ⟨(some 63), none, (.new (.bslice 1 [(.int .i64 0)] 1 [(0, 1)])), [(.tmp 62)]⟩, []⟩, ⟨12, ⟨(some 64), none, (.imp (.append 1 8)), [(.tmp 57), (.tmp 63)]⟩, []⟩, ⟨13, ⟨(some 65), none, (.pure .nilck), [(.tmp 52)]⟩, []⟩, ⟨14, ⟨(some 66), none, (.pure (.faddr 0)), [(.tmp 65)]⟩, []⟩, ⟨15, ⟨(some 67), none, (.pure (.faddr 0)), [(.tmp 66)]⟩, []⟩, ⟨16, ⟨none, none, (.imp (.store 1)), [(.tmp 67), (.tmp 64)]⟩, []⟩]) .skip))) (.region [⟨0, ⟨(some 31), none, (.pure .id), [(.tmp 10)]⟩, []⟩, ⟨0, ⟨(some 32), none, (.pure (.bin .add .none)), [(.tmp 31), (.const (.int .i64 1))]⟩, []⟩, ⟨0, ⟨(some 10), none, (.pure .id), [(.tmp 32)]⟩, []⟩])))))) (.seq (.region [⟨0, ⟨(some 11), none, (.pure .id), [(.const .nils)]⟩, []⟩]) (.seq (.seq (.region [⟨0, ⟨(some 12), none, (.pure .id), [(.const (.int .i64 0))]⟩, []⟩]) (.block 2 (.loop (.seq (.seq (.region [⟨0, ⟨(some 68), none, (.pure .id), [(.tmp 12)]⟩, []⟩, ⟨0, ⟨(some 69), none, (.pure (.faddr 0)), [(.tmp 3)]⟩, []⟩, ⟨0, ⟨(some 70), none, (.load (.load 1 false)), [(.tmp 69)]⟩, []⟩, ⟨0, ⟨(some 71), none, (.pure .len), [(.tmp 70)]⟩, []⟩, ⟨0, ⟨(some 72), none, (.pure (.bin .lss .none)), [(.tmp 68), (.tmp 71)]⟩, []⟩]) (.cond (.tmp 72) .skip (.exit 2))) (.seq (.block 3 (.block 4 (.seq (.region [⟨0, ⟨(some 89), none, (.pure .id), [(.tmp 2)]⟩, []⟩, ⟨0, ⟨(some 90), none, (.pure (.faddr 0)), [(.tmp 3)]⟩, []⟩, ⟨0, ⟨(some 91), none, (.load (.load 1 false)), [(.tmp 90)]⟩, []⟩, ⟨0, ⟨(some 92), none, (.pure .id), [(.tmp 12)]⟩, []⟩, ⟨0, ⟨(some 93), none, (.pure (.iaddr 1)), [(.tmp 91), (.tmp 92)]⟩, []⟩, ⟨0, ⟨(some 94), none, (.load (.load 1 false)), [(.tmp 93)]⟩, []⟩, ⟨0, ⟨(some 95), none, (.call F_skolemref05_In), [(.tmp 89), (.tmp 94)]⟩, []⟩, ⟨0, ⟨(some 88), none, (.pure .id), [(.tmp 95)]⟩, []⟩]) (.cond (.tmp 88) (.region [⟨0, ⟨(some 96), none, (.pure .id), [(.tmp 11)]⟩, []⟩, ⟨0, ⟨(some 97), none, (.new (.bslice 1 [(.int .i64 0)] 1 [(0, 1)])), [(.const (.int .i64 1))]⟩, []⟩, ⟨0, ⟨(some 98), none, (.imp (.append 1 8)), [(.tmp 96), (.tmp 97)]⟩, []⟩, ⟨0, ⟨(some 11), none, (.pure .id), [(.tmp 98)]⟩, []⟩]) (.seq (.region [⟨0, ⟨(some 100), none, (.pure .id), [(.tmp 2)]⟩, []⟩, ⟨0, ⟨(some 101), none, (.pure (.faddr 0)), [(.tmp 3)]⟩, []⟩, ⟨0, ⟨(some 102), none, (.load (.load 1 false)), [(.tmp 101)]⟩, []⟩, ⟨0, ⟨(some 103), none, (.pure .id), [(.tmp 12)]⟩, []⟩, ⟨0, ⟨(some 104), none, (.pure (.iaddr 1)), [(.tmp 102), (.tmp 103)]⟩, []⟩, ⟨0, ⟨(some 105), none, (.load (.load 1 false)), [(.tmp 104)]⟩, []⟩, ⟨0, ⟨(some 106), none, (.pure (.un .neg)), [(.tmp 105)]⟩, []⟩, ⟨0, ⟨(some 107), none, (.call F_skolemref05_In), [(.tmp 100), (.tmp 106)]⟩, []⟩, ⟨0, ⟨(some 99), none, (.pure .id), [(.tmp 107)]⟩, []⟩]) (.cond (.tmp 99) (.region [⟨0, ⟨(some 108), none, (.pure .id), [(.tmp 11)]⟩, []⟩, ⟨0, ⟨(some 109), none, (.new (.bslice 1 [(.int .i64 0)] 1 [(0, 1)])), [(.const (.int .i64 0))]⟩, []⟩, ⟨0, ⟨(some 110), none, (.imp (.append 1 8)), [(.tmp 108), (.tmp 109)]⟩, []⟩, ⟨0, ⟨(some 11), none, (.pure .id), [(.tmp 110)]⟩, []⟩]) (.region [⟨0, ⟨(some 75), none, (.pure .id), [(.tmp 11)]⟩, []⟩, ⟨1, ⟨(some 76), none, (.pure .id), [(.tmp 9)]⟩, []⟩, ⟨2, ⟨(some 77), none, (.pure .nilck), [(.tmp 76)]⟩, []⟩, ⟨3, ⟨(some 78), none, (.pure (.faddr 0)), [(.tmp 77)]⟩, []⟩, ⟨4, ⟨(some 79), none, (.load (.load 2 true)), [(.tmp 78)]⟩, []⟩, ⟨5, ⟨(some 80), none, (.pure (.faddr 0)), [(.tmp 3)]⟩, []⟩, ⟨6, ⟨(some 81), none, (.load (.load 1 false)), [(.tmp 80)]⟩, []⟩, ⟨7, ⟨(some 82), none, (.pure .id), [(.tmp 12)]⟩, []⟩, ⟨8, ⟨(some 83), none, (.pure (.iaddr 1)), [(.tmp 81), (.tmp 82)]⟩, []⟩, ⟨9, ⟨(some 84), none, (.load (.load 1 false)), [(.tmp 83)]⟩, []⟩, ⟨10, ⟨(some 85), none, (.call F_skolemref06_Edge), [(.tmp 79), (.tmp 84)]⟩, []⟩, ⟨11, ⟨(some 86), none, (.new (.bslice 1 [(.int .i64 0)] 1 [(0, 1)])), [(.tmp 85)]⟩, []⟩, ⟨12, ⟨(some 87), none, (.imp (.append 1 8)), [(.tmp 75), (.tmp 86)]⟩, []⟩, ⟨13, ⟨(some 11), none, (.pure .id), [(.tmp 87)]⟩, []⟩]))))))) (.region [⟨0, ⟨(some 73), none, (.pure .id), [(.tmp 12)]⟩, []⟩, ⟨0, ⟨(some 74), none, (.pure (.bin .add .none)), [(.tmp 73), (.const (.int .i64 1))]⟩, []⟩, ⟨0, ⟨(some 12), none, (.pure .id), [(.tmp 74)]⟩, []⟩])))))) (.seq (.region [⟨0, ⟨(some 111), none, (.pure .id), [(.tmp 9)]⟩, []⟩, ⟨0, ⟨(some 112), none, (.load (.load 2 true)), [(.tmp 3)]⟩, []⟩, ⟨0, ⟨(some 113), none, (.pure .id), [(.tmp 1)]⟩, []⟩, ⟨0, ⟨(some 114), none, (.pure .id), [(.tmp 11)]⟩, []⟩, ⟨0, ⟨(some 115), none, (.call F_skolemref06_Maker_copied), [(.tmp 111), (.tmp 112), (.tmp 113), (.tmp 114)]⟩, []⟩, ⟨0, ⟨(some 13), none, (.pure .id), [(.tmp 115)]⟩, []⟩]) (.seq (.region [⟨0, ⟨(some 116), none, (.pure .id), [(.tmp 9)]⟩, []⟩, ⟨1, ⟨(some 117), none, (.pure .nilck), [(.tmp 116)]⟩, []⟩, ⟨2, ⟨(some 118), none, (.pure (.faddr 0)), [(.tmp 117)]⟩, []⟩, ⟨3, ⟨(some 119), none, (.load (.load 2 true)), [(.tmp 118)]⟩, []⟩, ⟨4, ⟨(some 120), none, (.pure .id), [(.tmp 13)]⟩, []⟩, ⟨5, ⟨(some 121), none, (.pure .id), [(.tmp 1)]⟩, []⟩, ⟨6, ⟨(some 122), none, (.call F_skolemref06_images), [(.tmp 120), (.tmp 121)]⟩, [⟨(some 119), none, (.load (.load 2 true)), [(.tmp 118)]⟩]⟩, ⟨7, ⟨none, none, (.imp (.store 2)), [(.tmp 6), (.tmp 119)]⟩, []⟩, ⟨8, ⟨(some 7), none, (.pure .id), [(.tmp 122)]⟩, []⟩, ⟨9, ⟨(some 8), none, (.pure .id), [(.const (.int .i64 0))]⟩, []⟩]) .ret))))))))⟩
theorem c_skolemref06_Restrict : compF Tryz.prog Tryz.f15 = some G_skolemref06_Restrict := by kernel_rfl
theorem gc_skolemref06_Restrict {args : List DV} {σ : GS} {Post : DV → GS → Prop} (h : @exB Tryz.prog ⟨G_skolemref06_Restrict.body⟩ (genv0 args G_skolemref06_Restrict.ntmps) σ ⟨@gretB G_skolemref06_Restrict.results ⟨Post⟩⟩) : GCall Tryz.prog F_skolemref06_Restrict args σ Post := gcall_ofB seatfollows Tryz.func15 (by kernel_rfl) c_skolemref06_Restrict h
noncomputable abbrev G_skolemref06_HasAll : GFun := ⟨22, [(.tmp 4)], (.seq (.region [⟨0, ⟨(some 2), none, (.new .box), [(.tmp 0)]⟩, []⟩, ⟨0, ⟨(some 4), none, (.pure .id), [(.const (.bool false))]⟩, []⟩]) (.seq (.seq (.region [⟨0, ⟨(some 6), none, (.load (.load 2 true)), [(.tmp 2)]⟩, []⟩, ⟨0, ⟨(some 7), none, (.call F_skolemref06_May), [(.tmp 6)]⟩, []⟩, ⟨0, ⟨(some 8), none, (.pure (.un .not)), [(.tmp 7)]⟩, []⟩]) (.cond (.tmp 8) (.seq (.region [⟨0, ⟨(some 4), none, (.pure .id), [(.const (.bool false))]⟩, []⟩]) .ret) .skip)) (.seq (.seq (.region [⟨0, ⟨(some 5), none, (.pure .id), [(.const (.int .i64 0))]⟩, []⟩]) (.block 0 (.loop (.seq (.seq (.region [⟨0, ⟨(some 9), none, (.pure .id), [(.tmp 5)]⟩, []⟩, ⟨0, ⟨(some 10), none, (.pure .id), [(.tmp 1)]⟩, []⟩, ⟨0, ⟨(some 11), none, (.pure .len), [(.tmp 10)]⟩, []⟩, ⟨0, ⟨(some 12), none, (.pure (.bin .lss .none)), [(.tmp 9), (.tmp 11)]⟩, []⟩]) (.cond (.tmp 12) .skip (.exit 0))) (.seq (.block 1 (.seq (.region [⟨0, ⟨(some 15), none, (.load (.load 2 true)), [(.tmp 2)]⟩, []⟩, ⟨1, ⟨(some 16), none, (.pure .id), [(.tmp 1)]⟩, []⟩, ⟨2, ⟨(some 17), none, (.pure .id), [(.tmp 5)]⟩, []⟩, ⟨3, ⟨(some 18), none, (.pure (.iaddr 1)), [(.tmp 16), (.tmp 17)]⟩, []⟩, ⟨4, ⟨(some 19), none, (.load (.load 1 false)), [(.tmp 18)]⟩, []⟩, ⟨5, ⟨(some 20), none, (.call F_skolemref06_has), [(.tmp 15), (.tmp 19)]⟩, []⟩, ⟨6, ⟨(some 21), none, (.pure (.un .not)), [(.tmp 20)]⟩, []⟩]) (.cond (.tmp 21) (.seq (.region [⟨0, ⟨(some 4), none, (.pure .id), [(.const (.bool false))]⟩, []⟩]) .ret) .skip))) (.region [⟨0, ⟨(some 13), none, (.pure .id), [(.tmp 5)]⟩, []⟩, ⟨0, ⟨(some 14), none, (.pure (.bin .add .none)), [(.tmp 13), (.const (.int .i64 1))]⟩, []⟩, ⟨0, ⟨(some 5), none, (.pure .id), [(.tmp 14)]⟩, []⟩])))))) (.seq (.region [⟨0, ⟨(some 4), none, (.pure .id), [(.const (.bool true))]⟩, []⟩]) .ret))))⟩
theorem c_skolemref06_HasAll : compF Tryz.prog Tryz.f58 = some G_skolemref06_HasAll := by kernel_rfl
theorem gc_skolemref06_HasAll {args : List DV} {σ : GS} {Post : DV → GS → Prop} (h : @exB Tryz.prog ⟨G_skolemref06_HasAll.body⟩ (genv0 args G_skolemref06_HasAll.ntmps) σ ⟨@gretB G_skolemref06_HasAll.results ⟨Post⟩⟩) : GCall Tryz.prog F_skolemref06_HasAll args σ Post := gcall_ofB seatfollows Tryz.func58 (by kernel_rfl) c_skolemref06_HasAll h
noncomputable abbrev G_skolemref06_May : GFun := ⟨52, [(.tmp 2)], (.seq (.region [⟨0, ⟨(some 1), none, (.new .box), [(.tmp 0)]⟩, []⟩, ⟨0, ⟨(some 2), none, (.pure .id), [(.const (.bool false))]⟩, []⟩]) (.seq (.seq (.region [⟨0, ⟨(some 6), none, (.pure (.faddr 0)), [(.tmp 1)]⟩, []⟩, ⟨0, ⟨(some 7), none, (.load (.load 1 false)), [(.tmp 6)]⟩, []⟩, ⟨0, ⟨(some 8), none, (.call F_skolemref06_Inputs), [(.tmp 7)]⟩, []⟩, ⟨0, ⟨(some 9), none, (.pure (.un .not)), [(.tmp 8)]⟩, []⟩, ⟨0, ⟨(some 10), none, (.pure .id), [(.tmp 9)]⟩, []⟩, ⟨0, ⟨(some 11), (some (10, false)), (.load (.load 2 true)), [(.tmp 1)]⟩, []⟩, ⟨0, ⟨(some 12), (some (10, false)), (.call F_skolemref06_Nodes), [(.tmp 11)]⟩, []⟩, ⟨0, ⟨(some 13), (some (10, false)), (.pure (.bin .gtr .none)), [(.tmp 12), (.const (.int .i64 200000))]⟩, []⟩, ⟨0, ⟨(some 14), none, (.pure .pick), [(.tmp 10), (.const (.bool true)), (.tmp 13)]⟩, []⟩]) (.cond (.tmp 14) (.seq (.region [⟨0, ⟨(some 2), none, (.pure .id), [(.const (.bool false))]⟩, []⟩]) .ret) .skip)) (.seq (.seq (.region [⟨0, ⟨(some 3), none, (.pure .id), [(.const (.int .i64 0))]⟩, []⟩]) (.block 0 (.loop (.seq (.seq (.region [⟨0, ⟨(some 15), none, (.pure .id), [(.tmp 3)]⟩, []⟩, ⟨0, ⟨(some 16), none, (.pure (.faddr 1)), [(.tmp 1)]⟩, []⟩, ⟨0, ⟨(some 17), none, (.load (.load 1 false)), [(.tmp 16)]⟩, []⟩, ⟨0, ⟨(some 18), none, (.pure .len), [(.tmp 17)]⟩, []⟩, ⟨0, ⟨(some 19), none, (.pure (.bin .lss .none)), [(.tmp 15), (.tmp 18)]⟩, []⟩]) (.cond (.tmp 19) .skip (.exit 0))) (.seq (.block 1 (.seq (.region [⟨0, ⟨(some 22), none, (.pure (.faddr 0)), [(.tmp 1)]⟩, []⟩, ⟨0, ⟨(some 23), none, (.load (.load 1 false)), [(.tmp 22)]⟩, []⟩, ⟨0, ⟨(some 24), none, (.pure .len), [(.tmp 23)]⟩, []⟩, ⟨0, ⟨(some 25), none, (.pure (.bin .add .none)), [(.const (.int .i64 1)), (.tmp 24)]⟩, []⟩, ⟨0, ⟨(some 26), none, (.pure .id), [(.tmp 3)]⟩, []⟩, ⟨0, ⟨(some 27), none, (.pure (.bin .add .none)), [(.tmp 25), (.tmp 26)]⟩, []⟩, ⟨0, ⟨(some 28), none, (.pure (.bin .mul .none)), [(.const (.int .i64 2)), (.tmp 27)]⟩, []⟩, ⟨0, ⟨(some 4), none, (.pure .id), [(.tmp 28)]⟩, []⟩]) (.seq (.region [⟨0, ⟨(some 5), none, (.pure .id), [(.const (.int .i64 0))]⟩, []⟩]) (.block 2 (.loop (.seq (.seq (.region [⟨0, ⟨(some 29), none, (.pure .id), [(.tmp 5)]⟩, []⟩, ⟨0, ⟨(some 30), none, (.pure (.bin .lss .none)), [(.tmp 29), (.const (.int .i64 2))]⟩, []⟩]) (.cond (.tmp 30) .skip (.exit 2))) (.seq (.block 3 (.seq (.region [⟨0, ⟨(some 33), none, (.pure (.faddr 1)), [(.tmp 1)]⟩, []⟩, ⟨0, ⟨(some 34), none, (.load (.load 1 false)), [(.tmp 33)]⟩, []⟩, ⟨0, ⟨(some 35), none, (.pure .id), [(.tmp 3)]⟩, []⟩, ⟨0, ⟨(some 36), none, (.pure .id), [(.tmp 5)]⟩, []⟩, ⟨0, ⟨(some 37), none, (.pure (.iaddr 2)), [(.tmp 34), (.tmp 35)]⟩, []⟩, ⟨0, ⟨(some 38), none, (.pure (.iarr 2 1)), [(.tmp 37), (.tmp 36)]⟩, []⟩, ⟨0, ⟨(some 39), none, (.load (.load 1 false)), [(.tmp 38)]⟩, []⟩, ⟨0, ⟨(some 40), none, (.pure (.bin .lss .none)), [(.tmp 39), (.const (.int .i64 0))]⟩, []⟩, ⟨0, ⟨(some 41), none, (.pure .id), [(.tmp 40)]⟩, []⟩, ⟨0, ⟨(some 42), (some (41, false)), (.pure (.faddr 1)), [(.tmp 1)]⟩, []⟩, ⟨0, ⟨(some 43), (some (41, false)), (.load (.load 1 false)), [(.tmp 42)]⟩, []⟩, ⟨0, ⟨(some 44), (some (41, false)), (.pure .id), [(.tmp 3)]⟩, []⟩, ⟨0, ⟨(some 45), (some (41, false)), (.pure .id), [(.tmp 5)]⟩, []⟩, ⟨0, ⟨(some 46), (some (41, false)), (.pure (.iaddr 2)), [(.tmp 43), (.tmp 44)]⟩, []⟩, ⟨0, ⟨(some 47), (some (41, false)), (.pure (.iarr 2 1)), [(.tmp 46), (.tmp 45)]⟩, []⟩, ⟨0, ⟨(some 48), (some (41, false)), (.load (.load 1 false)), [(.tmp 47)]⟩, []⟩, ⟨0, ⟨(some 49), (some (41, false)), (.pure .id), [(.tmp 4)]⟩, []⟩, ⟨0, ⟨(some 50), (some (41, false)), (.pure (.bin .geq .none)), [(.tmp 48), (.tmp 49)]⟩, []⟩, ⟨0, ⟨(some 51), none, (.pure .pick), [(.tmp 41), (.const (.bool true)), (.tmp 50)]⟩, []⟩]) (.cond (.tmp 51) (.seq (.region [⟨0, ⟨(some 2), none, (.pure .id), [(.const (.bool false))]⟩, []⟩]) .ret) .skip))) (.region [⟨0, ⟨(some 31), none, (.pure .id), [(.tmp 5)]⟩, []⟩, ⟨0, ⟨(some 32), none, (.pure (.bin .add .none)), [(.tmp 31), (.const (.int .i64 1))]⟩, []⟩, ⟨0, ⟨(some 5), none, (.pure .id), [(.tmp 32)]⟩, []⟩])))))))) (.region [⟨0, ⟨(some 20), none, (.pure .id), [(.tmp 3)]⟩, []⟩, ⟨0, ⟨(some 21), none, (.pure (.bin .add .none)), [(.tmp 20), (.const (.int .i64 1))]⟩, []⟩, ⟨0, ⟨(some 3), none, (.pure .id), [(.tmp 21)]⟩, []⟩])))))) (.seq (.region [⟨0, ⟨(some 2), none, (.pure .id), [(.const (.bool true))]⟩, []⟩]) .ret))))⟩
theorem c_skolemref06_May : compF Tryz.prog Tryz.f23 = some G_skolemref06_May := by kernel_rfl
theorem gc_skolemref06_May {args : List DV} {σ : GS} {Post : DV → GS → Prop} (h : @exB Tryz.prog ⟨G_skolemref06_May.body⟩ (genv0 args G_skolemref06_May.ntmps) σ ⟨@gretB G_skolemref06_May.results ⟨Post⟩⟩) : GCall Tryz.prog F_skolemref06_May args σ Post := gcall_ofB seatfollows Tryz.func23 (by kernel_rfl) c_skolemref06_May h
noncomputable abbrev G_skolemref06_Inputs : GFun := ⟨38, [(.tmp 2)], (.seq (.region [⟨0, ⟨(some 2), none, (.pure .id), [(.const (.bool false))]⟩, []⟩]) (.seq (.seq (.region [⟨0, ⟨(some 3), none, (.pure .id), [(.const (.int .i64 0))]⟩, []⟩]) (.block 0 (.loop (.seq (.seq (.region [⟨0, ⟨(some 4), none, (.pure .id), [(.tmp 3)]⟩, []⟩, ⟨0, ⟨(some 5), none, (.pure .id), [(.tmp 0)]⟩, []⟩, ⟨0, ⟨(some 6), none, (.pure .len), [(.tmp 5)]⟩, []⟩, ⟨0, ⟨(some 7), none, (.pure (.bin .lss .none)), [(.tmp 4), (.tmp 6)]⟩, []⟩]) (.cond (.tmp 7) .skip (.exit 0))) (.seq (.block 1 (.seq (.region [⟨0, ⟨(some 10), none, (.pure .id), [(.tmp 0)]⟩, []⟩, ⟨1, ⟨(some 11), none, (.pure .id), [(.tmp 3)]⟩, []⟩, ⟨2, ⟨(some 12), none, (.pure (.iaddr 1)), [(.tmp 10), (.tmp 11)]⟩, []⟩, ⟨3, ⟨(some 13), none, (.load (.load 1 false)), [(.tmp 12)]⟩, []⟩, ⟨4, ⟨(some 14), none, (.pure (.bin .lss .none)), [(.tmp 13), (.const (.int .i64 1))]⟩, []⟩, ⟨5, ⟨(some 15), none, (.pure .id), [(.tmp 14)]⟩, []⟩, ⟨6, ⟨(some 16), (some (15, false)), (.pure .id), [(.tmp 0)]⟩, []⟩, ⟨7, ⟨(some 17), (some (15, false)), (.pure .id), [(.tmp 3)]⟩, []⟩, ⟨8, ⟨(some 18), (some (15, false)), (.pure (.iaddr 1)), [(.tmp 16), (.tmp 17)]⟩, []⟩, ⟨9, ⟨(some 19), (some (15, false)), (.load (.load 1 false)), [(.tmp 18)]⟩, []⟩, ⟨10, ⟨(some 20), (some (15, false)), (.pure (.bin .gtr .none)), [(.tmp 19), (.const (.int .i64 65536))]⟩, []⟩, ⟨11, ⟨(some 21), none, (.pure .pick), [(.tmp 15), (.const (.bool true)), (.tmp 20)]⟩, []⟩, ⟨12, ⟨(some 22), none, (.pure .id), [(.tmp 21)]⟩, []⟩, ⟨13, ⟨(some 23), (some (22, false)), (.pure .id), [(.tmp 3)]⟩, []⟩, ⟨14, ⟨(some 24), (some (22, false)), (.pure (.bin .gtr .none)), [(.tmp 23), (.const (.int .i64 0))]⟩, []⟩, ⟨15, ⟨(some 25), (some (22, false)), (.pure .id), [(.tmp 24)]⟩, []⟩, ⟨16, ⟨(some 26), (some (25, true)), (.pure .id), [(.tmp 0)]⟩, []⟩, ⟨17, ⟨(some 27), (some (25, true)), (.pure .id), [(.tmp 3)]⟩, []⟩, ⟨18, ⟨(some 28), (some (25, true)), (.pure (.iaddr 1)), [(.tmp 26), (.tmp 27)]⟩, []⟩, ⟨19, ⟨(some 29), (some (25, true)), (.load (.load 1 false)), [(.tmp 28)]⟩, []⟩, ⟨20, ⟨(some 30), (some (25, true)), (.pure .id), [(.tmp 0)]⟩, []⟩, ⟨21, ⟨(some 31), (some (25, true)), (.pure .id), [(.tmp 3)]⟩, []⟩, ⟨22, ⟨(some 32), (some (25, true)), (.pure (.bin .sub .none)), [(.tmp 31), (.const (.int .i64 1))]⟩, []⟩, ⟨23, ⟨(some 33), (some (25, true)), (.pure (.iaddr 1)), [(.tmp 30), (.tmp 32)]⟩, []⟩, ⟨24, ⟨(some 34), (some (25, true)), (.load (.load 1 false)), [(.tmp 33)]⟩, []⟩, ⟨25, ⟨(some 35), (some (25, true)), (.pure (.bin .leq .none)), [(.tmp 29), (.tmp 34)]⟩, []⟩, ⟨26, ⟨(some 36), (some (22, false)), (.pure .pick), [(.tmp 25), (.tmp 35), (.const (.bool false))]⟩, []⟩, ⟨27, ⟨(some 37), none, (.pure .pick), [(.tmp 22), (.const (.bool true)), (.tmp 36)]⟩, []⟩]) (.cond (.tmp 37) (.seq (.region [⟨0, ⟨(some 2), none, (.pure .id), [(.const (.bool false))]⟩, []⟩]) .ret) .skip))) (.region [⟨0, ⟨(some 8), none, (.pure .id), [(.tmp 3)]⟩, []⟩, ⟨0, ⟨(some 9), none, (.pure (.bin .add .none)), [(.tmp 8), (.const (.int .i64 1))]⟩, []⟩, ⟨0, ⟨(some 3), none, (.pure .id), [(.tmp 9)]⟩, []⟩])))))) (.seq (.region [⟨0, ⟨(some 2), none, (.pure .id), [(.const (.bool true))]⟩, []⟩]) .ret)))⟩
theorem c_skolemref06_Inputs : compF Tryz.prog Tryz.f77 = some G_skolemref06_Inputs := by kernel_rfl
theorem gc_skolemref06_Inputs {args : List DV} {σ : GS} {Post : DV → GS → Prop} (h : @exB Tryz.prog ⟨G_skolemref06_Inputs.body⟩ (genv0 args G_skolemref06_Inputs.ntmps) σ ⟨@gretB G_skolemref06_Inputs.results ⟨Post⟩⟩) : GCall Tryz.prog F_skolemref06_Inputs args σ Post := gcall_ofB seatfollows Tryz.func77 (by kernel_rfl) c_skolemref06_Inputs h
noncomputable abbrev G_skolemref06_has : GFun := ⟨14, [(.tmp 4)], (.seq (.region [⟨0, ⟨(some 2), none, (.new .box), [(.tmp 0)]⟩, []⟩, ⟨0, ⟨(some 4), none, (.pure .id), [(.const (.bool false))]⟩, []⟩]) (.seq (.region [⟨0, ⟨(some 5), none, (.pure .id), [(.tmp 1)]⟩, []⟩, ⟨0, ⟨(some 6), none, (.pure (.bin .geq .none)), [(.tmp 5), (.const (.int .i64 0))]⟩, []⟩, ⟨0, ⟨(some 7), none, (.pure .id), [(.tmp 6)]⟩, []⟩, ⟨0, ⟨(some 8), (some (7, true)), (.pure .id), [(.tmp 1)]⟩, []⟩, ⟨0, ⟨(some 9), (some (7, true)), (.load (.load 2 true)), [(.tmp 2)]⟩, []⟩, ⟨0, ⟨(some 10), (some (7, true)), (.call F_skolemref06_Nodes), [(.tmp 9)]⟩, []⟩, ⟨0, ⟨(some 11), (some (7, true)), (.pure (.bin .mul .none)), [(.const (.int .i64 2)), (.tmp 10)]⟩, []⟩, ⟨0, ⟨(some 12), (some (7, true)), (.pure (.bin .lss .none)), [(.tmp 8), (.tmp 11)]⟩, []⟩, ⟨0, ⟨(some 13), none, (.pure .pick), [(.tmp 7), (.tmp 12), (.const (.bool false))]⟩, []⟩, ⟨0, ⟨(some 4), none, (.pure .id), [(.tmp 13)]⟩, []⟩]) .ret))⟩
theorem c_skolemref06_has : compF Tryz.prog Tryz.f80 = some G_skolemref06_has := by kernel_rfl
theorem gc_skolemref06_has {args : List DV} {σ : GS} {Post : DV → GS → Prop} (h : @exB Tryz.prog ⟨G_skolemref06_has.body⟩ (genv0 args G_skolemref06_has.ntmps) σ ⟨@gretB G_skolemref06_has.results ⟨Post⟩⟩) : GCall Tryz.prog F_skolemref06_has args σ Post := gcall_ofB seatfollows Tryz.func80 (by kernel_rfl) c_skolemref06_has h
noncomputable abbrev G_skolemref06_Nodes : GFun := ⟨11, [(.tmp 2)], (.seq (.region [⟨0, ⟨(some 1), none, (.new .box), [(.tmp 0)]⟩, []⟩, ⟨0, ⟨(some 2), none, (.pure .id), [(.const (.int .i64 0))]⟩, []⟩]) (.seq (.region [⟨0, ⟨(some 3), none, (.pure (.faddr 0)), [(.tmp 1)]⟩, []⟩, ⟨0, ⟨(some 4), none, (.load (.load 1 false)), [(.tmp 3)]⟩, []⟩, ⟨0, ⟨(some 5), none, (.pure .len), [(.tmp 4)]⟩, []⟩, ⟨0, ⟨(some 6), none, (.pure (.bin .add .none)), [(.const (.int .i64 1)), (.tmp 5)]⟩, []⟩, ⟨0, ⟨(some 7), none, (.pure (.faddr 1)), [(.tmp 1)]⟩, []⟩, ⟨0, ⟨(some 8), none, (.load (.load 1 false)), [(.tmp 7)]⟩, []⟩, ⟨0, ⟨(some 9), none, (.pure .len), [(.tmp 8)]⟩, []⟩, ⟨0, ⟨(some 10), none, (.pure (.bin .add .none)), [(.tmp 6), (.tmp 9)]⟩, []⟩, ⟨0, ⟨(some 2), none, (.pure .id), [(.tmp 10)]⟩, []⟩]) .ret))⟩
theorem c_skolemref06_Nodes : compF Tryz.prog Tryz.f50 = some G_skolemref06_Nodes := by kernel_rfl
theorem gc_skolemref06_Nodes {args : List DV} {σ : GS} {Post : DV → GS → Prop} (h : @exB Tryz.prog ⟨G_skolemref06_Nodes.body⟩ (genv0 args G_skolemref06_Nodes.ntmps) σ ⟨@gretB G_skolemref06_Nodes.results ⟨Post⟩⟩) : GCall Tryz.prog F_skolemref06_Nodes args σ Post := gcall_ofB seatfollows Tryz.func50 (by kernel_rfl) c_skolemref06_Nodes h
noncomputable abbrev G_skolemref06_Not : GFun := ⟨9, [(.tmp 2)], (.seq (.region [⟨0, ⟨(some 2), none, (.pure .id), [(.const (.int .i64 0))]⟩, []⟩]) (.seq (.region [⟨0, ⟨(some 3), none, (.pure .id), [(.tmp 0)]⟩, []⟩, ⟨0, ⟨(some 4), none, (.pure (.bin .add .none)), [(.tmp 3), (.const (.int .i64 1))]⟩, []⟩, ⟨0, ⟨(some 5), none, (.pure .id), [(.tmp 0)]⟩, []⟩, ⟨0, ⟨(some 6), none, (.pure (.bin .rem .none)), [(.tmp 5), (.const (.int .i64 2))]⟩, []⟩, ⟨0, ⟨(some 7), none, (.pure (.bin .mul .none)), [(.const (.int .i64 2)), (.tmp 6)]⟩, []⟩, ⟨0, ⟨(some 8), none, (.pure (.bin .sub .none)), [(.tmp 4), (.tmp 7)]⟩, []⟩, ⟨0, ⟨(some 2), none, (.pure .id), [(.tmp 8)]⟩, []⟩]) .ret))⟩
theorem c_skolemref06_Not : compF Tryz.prog Tryz.f78 = some G_skolemref06_Not := by kernel_rfl
theorem gc_skolemref06_Not {args : List DV} {σ : GS} {Post : DV → GS → Prop} (h : @exB Tryz.prog ⟨G_skolemref06_Not.body⟩ (genv0 args G_skolemref06_Not.ntmps) σ ⟨@gretB G_skolemref06_Not.results ⟨Post⟩⟩) : GCall Tryz.prog F_skolemref06_Not args σ Post := gcall_ofB seatfollows Tryz.func78 (by kernel_rfl) c_skolemref06_Not h
noncomputable abbrev G_skolemref06_find : GFun := ⟨41, [(.tmp 6)], (.seq (.region [⟨0, ⟨(some 3), none, (.new .box), [(.tmp 0)]⟩, []⟩, ⟨0, ⟨(some 6), none, (.pure .id), [(.const (.int .i64 0))]⟩, []⟩]) (.seq (.seq (.region [⟨0, ⟨(some 8), none, (.pure .id), [(.tmp 2)]⟩, []⟩, ⟨0, ⟨(some 9), none, (.pure (.bin .quo .none)), [(.tmp 8), (.const (.int .i64 2))]⟩, []⟩, ⟨0, ⟨(some 10), none, (.pure (.faddr 0)), [(.tmp 3)]⟩, []⟩, ⟨0, ⟨(some 11), none, (.load (.load 1 false)), [(.tmp 10)]⟩, []⟩, ⟨0, ⟨(some 12), none, (.pure .len), [(.tmp 11)]⟩, []⟩, ⟨0, ⟨(some 13), none, (.pure (.bin .sub .none)), [(.tmp 9), (.tmp 12)]⟩, []⟩, ⟨0, ⟨(some 14), none, (.pure .mx), [(.const (.int .i64 0)), (.tmp 13)]⟩, []⟩, ⟨0, ⟨(some 7), none, (.pure .id), [(.tmp 14)]⟩, []⟩]) (.block 0 (.loop (.seq (.seq (.region [⟨0, ⟨(some 15), none, (.pure .id), [(.tmp 7)]⟩, []⟩, ⟨0, ⟨(some 16), none, (.pure (.faddr 1)), [(.tmp 3)]⟩, []⟩, ⟨0, ⟨(some 17), none, (.load (.load 1 false)), [(.tmp 16)]⟩, []⟩, ⟨0, ⟨(some 18), none, (.pure .len), [(.tmp 17)]⟩, []⟩, ⟨0, ⟨(some 19), none, (.pure (.bin .lss .none)), [(.tmp 15), (.tmp 18)]⟩, []⟩]) (.cond (.tmp 19) .skip (.exit 0))) (.seq (.block 1 (.seq (.region [⟨0, ⟨(some 22), none, (.pure (.faddr 1)), [(.tmp 3)]⟩, []⟩, ⟨0, ⟨(some 23), none, (.load (.load 1 false)), [(.tmp 22)]⟩, []⟩, ⟨0, ⟨(some 24), none, (.pure .id), [(.tmp 7)]⟩, []⟩, ⟨0, ⟨(some 25), none, (.pure (.iaddr 2)), [(.tmp 23), (.tmp 24)]⟩, []⟩, ⟨0, ⟨(some 26), none, (.pure (.iarr 2 1)), [(.tmp 25), (.const (.int .i64 0))]⟩, []⟩, ⟨0, ⟨(some 27), none, (.load (.load 1 false)), [(.tmp 26)]⟩, []⟩, ⟨0, ⟨(some 28), none, (.pure .id), [(.tmp 1)]⟩, []⟩, ⟨0, ⟨(some 29), none, (.pure (.bin .eql .none)), [(.tmp 27), (.tmp 28)]⟩, []⟩, ⟨0, ⟨(some 30), none, (.pure .id), [(.tmp 29)]⟩, []⟩, ⟨0, ⟨(some 31), (some (30, true)), (.pure (.faddr 1)), [(.tmp 3)]⟩, []⟩, ⟨0, ⟨(some 32), (some (30, true)), (.load (.load 1 false)), [(.tmp 31)]⟩, []⟩, ⟨0, ⟨(some 33), (some (30, true)), (.pure .id), [(.tmp 7)]⟩, []⟩, ⟨0, ⟨(some 34), (some (30, true)), (.pure (.iaddr 2)), [(.tmp 32), (.tmp 33)]⟩, []⟩, ⟨0, ⟨(some 35), (some (30, true)), (.pure (.iarr 2 1)), [(.tmp 34), (.const (.int .i64 1))]⟩, []⟩, ⟨0, ⟨(some 36), (some (30, true)), (.load (.load 1 false)), [(.tmp 35)]⟩, []⟩, ⟨0, ⟨(some 37), (some (30, true)), (.pure .id), [(.tmp 2)]⟩, []⟩, ⟨0, ⟨(some 38), (some (30, true)), (.pure (.bin .eql .none)), [(.tmp 36), (.tmp 37)]⟩, []⟩, ⟨0, ⟨(some 39), none, (.pure .pick), [(.tmp 30), (.tmp 38), (.const (.bool false))]⟩, []⟩]) (.cond (.tmp 39) (.seq (.region [⟨0, ⟨(some 40), none, (.pure .id), [(.tmp 7)]⟩, []⟩, ⟨0, ⟨(some 6), none, (.pure .id), [(.tmp 40)]⟩, []⟩]) .ret) .skip))) (.region [⟨0, ⟨(some 20), none, (.pure .id), [(.tmp 7)]⟩, []⟩, ⟨0, ⟨(some 21), none, (.pure (.bin .add .none)), [(.tmp 20), (.const (.int .i64 1))]⟩, []⟩, ⟨0, ⟨(some 7), none, (.pure .id), [(.tmp 21)]⟩, []⟩])))))) (.seq (.region [⟨0, ⟨(some 6), none, (.pure .id), [(.const (.int .i64 (-1)))]⟩, []⟩]) .ret)))⟩
theorem c_skolemref06_find : compF Tryz.prog Tryz.f79 = some G_skolemref06_find := by kernel_rfl
theorem gc_skolemref06_find {args : List DV} {σ : GS} {Post : DV → GS → Prop} (h : @exB Tryz.prog ⟨G_skolemref06_find.body⟩ (genv0 args G_skolemref06_find.ntmps) σ ⟨@gretB G_skolemref06_find.results ⟨Post⟩⟩) : GCall Tryz.prog F_skolemref06_find args σ Post := gcall_ofB seatfollows Tryz.func79 (by kernel_rfl) c_skolemref06_find h
noncomputable abbrev G_skolemref06_Maker_Conj : GFun := ⟨79, [(.tmp 6)], (.seq (.region [⟨0, ⟨(some 6), none, (.pure .id), [(.const (.int .i64 0))]⟩, []⟩]) (.seq (.seq (.region [⟨0, ⟨(some 8), none, (.pure .id), [(.tmp 1)]⟩, []⟩, ⟨0, ⟨(some 9), none, (.pure .id), [(.tmp 2)]⟩, []⟩, ⟨0, ⟨(some 10), none, (.pure (.bin .gtr .none)), [(.tmp 8), (.tmp 9)]⟩, []⟩]) (.cond (.tmp 10) (.region [⟨0, ⟨(some 11), none, (.pure .id), [(.tmp 2)]⟩, []⟩, ⟨0, ⟨(some 12), none, (.pure .id), [(.tmp 1)]⟩, []⟩, ⟨0, ⟨(some 1), none, (.pure .id), [(.tmp 11)]⟩, []⟩, ⟨0, ⟨(some 2), none, (.pure .id), [(.tmp 12)]⟩, []⟩]) .skip)) (.seq (.block 0 (.seq (.region [⟨0, ⟨(some 14), none, (.pure .id), [(.tmp 1)]⟩, []⟩, ⟨0, ⟨(some 15), none, (.pure (.bin .eql .none)), [(.tmp 14), (.const (.int .i64 0))]⟩, []⟩, ⟨0, ⟨(some 16), none, (.pure .id), [(.tmp 15)]⟩, []⟩, ⟨0, ⟨(some 17), (some (16, false)), (.pure .id), [(.tmp 1)]⟩, []⟩, ⟨0, ⟨(some 18), (some (16, false)), (.call F_skolemref06_Not), [(.tmp 17)]⟩, []⟩, ⟨0, ⟨(some 19), (some (16, false)), (.pure .id), [(.tmp 2)]⟩, []⟩, ⟨0, ⟨(some 20), (some (16, false)), (.pure (.bin .eql .none)), [(.tmp 18), (.tmp 19)]⟩, []⟩, ⟨0, ⟨(some 21), none, (.pure .pick), [(.tmp 16), (.const (.bool true)), (.tmp 20)]⟩, []⟩, ⟨0, ⟨(some 13), none, (.pure .id), [(.tmp 21)]⟩, []⟩]) (.cond (.tmp 13) (.seq (.region [⟨0, ⟨(some 6), none, (.pure .id), [(.const (.int .i64 0))]⟩, []⟩]) .ret) (.seq (.region [⟨0, ⟨(some 23), none, (.pure .id), [(.tmp 1)]⟩, []⟩, ⟨0, ⟨(some 24), none, (.pure (.bin .eql .none)), [(.tmp 23), (.const (.int .i64 1))]⟩, []⟩, ⟨0, ⟨(some 25), none, (.pure .id), [(.tmp 24)]⟩, []⟩, ⟨0, ⟨(some 26), (some (25, false)), (.pure .id), [(.tmp 1)]⟩, []⟩, ⟨0, ⟨(some 27), (some (25, false)), (.pure .id), [(.tmp 2)]⟩, []⟩, ⟨0, ⟨(some 28), (some (25, false)), (.pure (.bin .eql .none)), [(.tmp 26), (.tmp 27)]⟩, []⟩, ⟨0, ⟨(some 29), none, (.pure .pick), [(.tmp 25), (.const (.bool true)), (.tmp 28)]⟩, []⟩, ⟨0, ⟨(some 22), none, (.pure .id), [(.tmp 29)]⟩, []⟩]) (.cond (.tmp 22) (.seq (.region [⟨0, ⟨(some 30), none, (.pure .id), [(.tmp 2)]⟩, []⟩, ⟨0, ⟨(some 6), none, (.pure .id), [(.tmp 30)]⟩, []⟩]) .ret) .skip))))) (.seq (.region [⟨0, ⟨(some 31), none, (.pure .id), [(.tmp 0)]⟩, []⟩, ⟨0, ⟨(some 32), none, (.pure .nilck), [(.tmp 31)]⟩, []⟩, ⟨0, ⟨(some 33), none, (.pure (.faddr 0)), [(.tmp 32)]⟩, []⟩, ⟨0, ⟨(some 34), none, (.load (.load 2 true)), [(.tmp 33)]⟩, []⟩, ⟨0, ⟨(some 35), none, (.pure .id), [(.tmp 1)]⟩, []⟩, ⟨0, ⟨(some 36), none, (.pure .id), [(.tmp 2)]⟩, []⟩, ⟨0, ⟨(some 37), none, (.call F_skolemref06_find), [(.tmp 34), (.tmp 35), (.tmp 36)]⟩, []⟩, ⟨0, ⟨(some 7), none, (.pure .id), [(.tmp 37)]⟩, []⟩]) (.seq (.seq (.region [⟨0, ⟨(some 38), none, (.pure .id), [(.tmp 7)]⟩, []⟩, ⟨0, ⟨(some 39), none, (.pure (.bin .lss .none)), [(.tmp 38), (.const (.int .i64 0))]⟩, []⟩]) (.cond (.tmp 39) (.seq (.seq (.region [⟨0, ⟨(some 40), none, (.pure .id), [(.tmp 0)]⟩, []⟩, ⟨0, ⟨(some 41), none, (.pure .nilck), [(.tmp 40)]⟩, []⟩, ⟨0, ⟨(some 42), none, (.pure (.faddr 0)), [(.tmp 41)]⟩, []⟩, ⟨0, ⟨(some 43), none, (.load (.load 2 true)), [(.tmp 42)]⟩, []⟩, ⟨0, ⟨(some 44), none, (.call F_skolemref06_Nodes), [(.tmp 43)]⟩, []⟩, ⟨0, ⟨(some 45), none, (.pure (.bin .geq .none)), [(.tmp 44), (.const (.int .i64 200000))]⟩, []⟩]) (.cond (.tmp 45) (.seq (.region [⟨0, ⟨(some 46), none, (.pure .id), [(.tmp 0)]⟩, []⟩, ⟨0, ⟨(some 47), none, (.pure .nilck), [(.tmp 46)]⟩, []⟩, ⟨0, ⟨(some 48), none, (.pure (.faddr 2)), [(.tmp 47)]⟩, []⟩, ⟨0, ⟨none, none, (.imp (.store 1)), [(.tmp 48), (.const (.bool true))]⟩, []⟩]) (.seq (.region [⟨0, ⟨(some 6), none, (.pure .id), [(.const (.int .i64 0))]⟩, []⟩]) .ret)) .skip)) (.seq (.region [⟨0, ⟨(some 49), none, (.pure .id), [(.tmp 0)]⟩, []⟩, ⟨0, ⟨(some 50), none, (.pure .nilck), [(.tmp 49)]⟩, []⟩, ⟨0, ⟨(some 51), none, (.pure (.faddr 0)), [(.tmp 50)]⟩, []⟩, ⟨0, ⟨(some 52), none, (.pure (.faddr 1)), [(.tmp 51)]⟩, []⟩, ⟨0, ⟨(some 53), none, (.load (.load 1 false)), [(.tmp 52)]⟩, []⟩, ⟨0, ⟨(some 54), none, (.pure .len), [(.tmp 53)]⟩, []⟩, ⟨0, ⟨(some 7), none, (.pure .id), [(.tmp 54)]⟩, []⟩]) (.region [⟨0, ⟨(some 55), none, (.pure .id), [(.tmp 0)]⟩, []⟩, ⟨0, ⟨(some 56), none, (.pure .id), [(.tmp 0)]⟩, []⟩, ⟨0, ⟨(some 57), none, (.pure .nilck), [(.tmp 56)]⟩, []⟩, ⟨0, ⟨(some 58), none, (.pure (.faddr 0)), [(.tmp 57)]⟩, []⟩, ⟨0, ⟨(some 59), none, (.pure (.faddr 1)), [(.tmp 58)]⟩, []⟩, ⟨0, ⟨(some 60), none, (.load (.load 1 false)), [(.tmp 59)]⟩, []⟩, ⟨0, ⟨(some 61), none, (.pure .id), [(.tmp 1)]⟩, []⟩, ⟨0, ⟨(some 62), none, (.pure .id), [(.tmp 2)]⟩, []⟩, ⟨0, ⟨(some 63), none, (.pure (.build [(.int .i64 0), (.int .i64 0)] [(0, 1), (1, 1)])), [(.tmp 61), (.tmp 62)]⟩, []⟩, ⟨0, ⟨(some 64), none, (.new (.bslice 2 [(.int .i64 0), (.int .i64 0)] 1 [(0, 2)])), [(.tmp 63)]⟩, []⟩, ⟨0, ⟨(some 65), none, (.imp (.append 2 16)), [(.tmp 60), (.tmp 64)]⟩, []⟩, ⟨0, ⟨(some 66), none, (.pure .nilck), [(.tmp 55)]⟩, []⟩, ⟨0, ⟨(some 67), none, (.pure (.faddr 0)), [(.tmp 66)]⟩, []⟩, ⟨0, ⟨(some 68), none, (.pure (.faddr 1)), [(.tmp 67)]⟩, []⟩, ⟨0, ⟨none, none, (.imp (.store 1)), [(.tmp 68), (.tmp 65)]⟩, []⟩]))) .skip)) (.seq (.region [⟨0, ⟨(some 69), none, (.pure .id), [(.tmp 0)]⟩, []⟩, ⟨0, ⟨(some 70), none, (.pure .nilck), [(.tmp 69)]⟩, []⟩, ⟨0, ⟨(some 71), none, (.pure (.faddr 0)), [(.tmp 70)]⟩, []⟩, ⟨0, ⟨(some 72), none, (.pure (.faddr 0)), [(.tmp 71)]⟩, []⟩, ⟨0, ⟨(some 73), none, (.load (.load 1 false)), [(.tmp 72)]⟩, []⟩, ⟨0, ⟨(some 74), none, (.pure .len), [(.tmp 73)]⟩, []⟩, ⟨0, ⟨(some 75), none, (.pure (.bin .add .none)), [(.const (.int .i64 1)), (.tmp 74)]⟩, []⟩, ⟨0, ⟨(some 76), none, (.pure .id), [(.tmp 7)]⟩, []⟩, ⟨0, ⟨(some 77), none, (.pure (.bin .add .none)), [(.tmp 75), (.tmp 76)]⟩, []⟩, ⟨0, ⟨(some 78), none, (.pure (.bin .mul .none)), [(.const (.int .i64 2)), (.tmp 77)]⟩, []⟩, ⟨0, ⟨(some 6), none, (.pure .id), [(.tmp 78)]⟩, []⟩]) .ret))))))⟩
theorem c_skolemref06_Maker_Conj : compF Tryz.prog Tryz.f144 = some G_skolemref06_Maker_Conj := by kernel_rfl
theorem gc_skolemref06_Maker_Conj {args : List DV} {σ : GS} {Post : DV → GS → Prop} (h : @exB Tryz.prog ⟨G_skolemref06_Maker_Conj.body⟩ (genv0 args G_skolemref06_Maker_Conj.ntmps) σ ⟨@gretB G_skolemref06_Maker_Conj.results ⟨Post⟩⟩) : GCall Tryz.prog F_skolemref06_Maker_Conj args σ Post := gcall_ofB seatfollows Tryz.func144 (by kernel_rfl) c_skolemref06_Maker_Conj h
noncomputable abbrev G_skolemref06_Image : GFun := ⟨19, [(.tmp 4)], (.seq (.region [⟨0, ⟨(some 4), none, (.pure .id), [(.const (.int .i64 0))]⟩, []⟩]) (.seq (.seq (.region [⟨0, ⟨(some 5), none, (.pure .id), [(.tmp 1)]⟩, []⟩, ⟨0, ⟨(some 6), none, (.pure (.bin .rem .none)), [(.tmp 5), (.const (.int .i64 2))]⟩, []⟩, ⟨0, ⟨(some 7), none, (.pure (.bin .eql .none)), [(.tmp 6), (.const (.int .i64 1))]⟩, []⟩]) (.cond (.tmp 7) (.seq (.region [⟨0, ⟨(some 8), none, (.pure .id), [(.tmp 0)]⟩, []⟩, ⟨0, ⟨(some 9), none, (.pure .id), [(.tmp 1)]⟩, []⟩, ⟨0, ⟨(some 10), none, (.pure (.bin .quo .none)), [(.tmp 9), (.const (.int .i64 2))]⟩, []⟩, ⟨0, ⟨(some 11), none, (.pure (.iaddr 1)), [(.tmp 8), (.tmp 10)]⟩, []⟩, ⟨0, ⟨(some 12), none, (.load (.load 1 false)), [(.tmp 11)]⟩, []⟩, ⟨0, ⟨(some 13), none, (.call F_skolemref06_Not), [(.tmp 12)]⟩, []⟩, ⟨0, ⟨(some 4), none, (.pure .id), [(.tmp 13)]⟩, []⟩]) .ret) .skip)) (.seq (.region [⟨0, ⟨(some 14), none, (.pure .id), [(.tmp 0)]⟩, []⟩, ⟨0, ⟨(some 15), none, (.pure .id), [(.tmp 1)]⟩, []⟩, ⟨0, ⟨(some 16), none, (.pure (.bin .quo .none)), [(.tmp 15), (.const (.int .i64 2))]⟩, []⟩, ⟨0, ⟨(some 17), none, (.pure (.iaddr 1)), [(.tmp 14), (.tmp 16)]⟩, []⟩, ⟨0, ⟨(some 18), none, (.load (.load 1 false)), [(.tmp 17)]⟩, []⟩, ⟨0, ⟨(some 4), none, (.pure .id), [(.tmp 18)]⟩, []⟩]) .ret)))⟩
theorem c_skolemref06_Image : compF Tryz.prog Tryz.f101 = some G_skolemref06_Image := by kernel_rfl
theorem gc_skolemref06_Image {args : List DV} {σ : GS} {Post : DV → GS → Prop} (h : @exB Tryz.prog ⟨G_skolemref06_Image.body⟩ (genv0 args G_skolemref06_Image.ntmps) σ ⟨@gretB G_skolemref06_Image.results ⟨Post⟩⟩) : GCall Tryz.prog F_skolemref06_Image args σ Post := gcall_ofB seatfollows Tryz.func101 (by kernel_rfl) c_skolemref06_Image h
noncomputable abbrev G_skolemref06_images : GFun := ⟨23, [(.tmp 4)], (.seq (.region [⟨0, ⟨(some 4), none, (.pure .id), [(.const .nils)]⟩, []⟩]) (.seq (.region [⟨0, ⟨(some 5), none, (.pure .id), [(.const .nils)]⟩, []⟩]) (.seq (.seq (.region [⟨0, ⟨(some 6), none, (.pure .id), [(.const (.int .i64 0))]⟩, []⟩]) (.block 0 (.loop (.seq (.seq (.region [⟨0, ⟨(some 7), none, (.pure .id), [(.tmp 6)]⟩, []⟩, ⟨0, ⟨(some 8), none, (.pure .id), [(.tmp 1)]⟩, []⟩, ⟨0, ⟨(some 9), none, (.pure .len), [(.tmp 8)]⟩, []⟩, ⟨0, ⟨(some 10), none, (.pure (.bin .lss .none)), [(.tmp 7), (.tmp 9)]⟩, []⟩]) (.cond (.tmp 10) .skip (.exit 0))) (.seq (.block 1 (.region [⟨0, ⟨(some 13), none, (.pure .id), [(.tmp 5)]⟩, []⟩, ⟨0, ⟨(some 14), none, (.pure .id), [(.tmp 0)]⟩, []⟩, ⟨0, ⟨(some 15), none, (.pure .id), [(.tmp 1)]⟩, []⟩, ⟨0, ⟨(some 16), none, (.pure .id), [(.tmp 6)]⟩, []⟩, ⟨0, ⟨(some 17), none, (.pure (.iaddr 1)), [(.tmp 15), (.tmp 16)]⟩, []⟩, ⟨0, ⟨(some 18), none, (.load (.load 1 false)), [(.tmp 17)]⟩, []⟩, ⟨0, ⟨(some 19), none, (.call F_skolemref06_Image), [(.tmp 14), (.tmp 18)]⟩, []⟩, ⟨0, ⟨(some 20), none, (.new (.bslice 1 [(.int .i64 0)] 1 [(0, 1)])), [(.tmp 19)]⟩, []⟩, ⟨0, ⟨(some 21), none, (.imp (.append 1 8)), [(.tmp 13), (.tmp 20)]⟩, []⟩, ⟨0, ⟨(some 5), none, (.pure .id), [(.tmp 21)]⟩, []⟩])) (.region [⟨0, ⟨(some 11), none, (.pure .id), [(.tmp 6)]⟩, []⟩, ⟨0, ⟨(some 12), none, (.pure (.bin .add .none)), [(.tmp 11), (.const (.int .i64 1))]⟩, []⟩, ⟨0, ⟨(some 6), none, (.pure .id), [(.tmp 12)]⟩, []⟩])))))) (.seq (.region [⟨0, ⟨(some 22), none, (.pure .id), [(.tmp 5)]⟩, []⟩, ⟨0, ⟨(some 4), none, (.pure .id), [(.tmp 22)]⟩, []⟩]) .ret))))⟩
theorem c_skolemref06_images : compF Tryz.prog Tryz.f61 = some G_skolemref06_images := by kernel_rfl
theorem gc_skolemref06_images {args : List DV} {σ : GS} {Post : DV → GS → Prop} (h : @exB Tryz.prog ⟨G_skolemref06_images.body⟩ (genv0 args G_skolemref06_images.ntmps) σ ⟨@gretB G_skolemref06_images.results ⟨Post⟩⟩) : GCall Tryz.prog F_skolemref06_images args σ Post := gcall_ofB seatfollows Tryz.func61 (by kernel_rfl) c_skolemref06_images h
noncomputable abbrev G_skolemref06_Reached : GFun := ⟨60, [(.tmp 4)], (.seq (.region [⟨0, ⟨(some 2), none, (.new .box), [(.tmp 0)]⟩, []⟩, ⟨0, ⟨(some 4), none, (.pure .id), [(.const .nils)]⟩, []⟩]) (.seq (.region [⟨0, ⟨(some 8), none, (.load (.load 2 true)), [(.tmp 2)]⟩, []⟩, ⟨0, ⟨(some 9), none, (.call F_skolemref06_Nodes), [(.tmp 8)]⟩, []⟩, ⟨0, ⟨(some 10), none, (.new (.mslice 1 1 [(.bool false)])), [(.tmp 9), (.tmp 9)]⟩, []⟩, ⟨0, ⟨(some 5), none, (.pure .id), [(.tmp 10)]⟩, []⟩]) (.seq (.seq (.region [⟨0, ⟨(some 6), none, (.pure .id), [(.const (.int .i64 0))]⟩, []⟩]) (.block 0 (.loop (.seq (.seq (.region [⟨0, ⟨(some 11), none, (.pure .id), [(.tmp 6)]⟩, []⟩, ⟨0, ⟨(some 12), none, (.pure .id), [(.tmp 1)]⟩, []⟩, ⟨0, ⟨(some 13), none, (.pure .len), [(.tmp 12)]⟩, []⟩, ⟨0, ⟨(some 14), none, (.pure (.bin .lss .none)), [(.tmp 11), (.tmp 13)]⟩, []⟩]) (.cond (.tmp 14) .skip (.exit 0))) (.seq (.block 1 (.region [⟨0, ⟨(some 17), none, (.pure .id), [(.tmp 5)]⟩, []⟩, ⟨0, ⟨(some 18), none, (.pure .id), [(.tmp 1)]⟩, []⟩, ⟨0, ⟨(some 19), none, (.pure .id), [(.tmp 6)]⟩, []⟩, ⟨0, ⟨(some 20), none, (.pure (.iaddr 1)), [(.tmp 18), (.tmp 19)]⟩, []⟩, ⟨0, ⟨(some 21), none, (.load (.load 1 false)), [(.tmp 20)]⟩, []⟩, ⟨0, ⟨(some 22), none, (.pure (.bin .quo .none)), [(.tmp 21), (.const (.int .i64 2))]⟩, []⟩, ⟨0, ⟨(some 23), none, (.pure (.iaddr 1)), [(.tmp 17), (.tmp 22)]⟩, []⟩, ⟨0, ⟨none, none, (.imp (.store 1)), [(.tmp 23), (.const (.bool true))]⟩, []⟩])) (.region [⟨0, ⟨(some 15), none, (.pure .id), [(.tmp 6)]⟩, []⟩, ⟨0, ⟨(some 16), none, (.pure (.bin .add .none)), [(.tmp 15), (.const (.int .i64 1))]⟩, []⟩, ⟨0, ⟨(some 6), none, (.pure .id), [(.tmp 16)]⟩, []⟩])))))) (.seq (.seq (.region [⟨0, ⟨(some 24), none, (.pure (.faddr 1)), [(.tmp 2)]⟩, []⟩, ⟨0, ⟨(some 25), none, (.load (.load 1 false)), [(.tmp 24)]⟩, []⟩, ⟨0, ⟨(some 26), none, (.pure .len), [(.tmp 25)]⟩, []⟩, ⟨0, ⟨(some 27), none, (.pure (.bin .sub .none)), [(.tmp 26), (.const (.int .i64 1))]⟩, []⟩, ⟨0, ⟨(some 7), none, (.pure .id), [(.tmp 27)]⟩, []⟩]) (.block 2 (.loop (.seq (.seq (.region [⟨0, ⟨(some 28), none, (.pure .id), [(.tmp 7)]⟩, []⟩, ⟨0, ⟨(some 29), none, (.pure (.bin .geq .none)), [(.tmp 28), (.const (.int .i64 0))]⟩, []⟩]) (.cond (.tmp 29) .skip (.exit 2))) (.seq (.block 3 (.seq (.region [⟨0, ⟨(some 32), none, (.pure .id), [(.tmp 5)]⟩, []⟩, ⟨0, ⟨(some 33), none, (.pure (.faddr 0)), [(.tmp 2)]⟩, []⟩, ⟨0, ⟨(some 34), none, (.load (.load 1 false)), [(.tmp 33)]⟩, []⟩, ⟨0, ⟨(some 35), none, (.pure .len), [(.tmp 34)]⟩, []⟩, ⟨0, ⟨(some 36), none, (.pure (.bin .add .none)), [(.const (.int .i64 1)), (.tmp 35)]⟩, []⟩, ⟨0, ⟨(some 37), none, (.pure .id), [(.tmp 7)]⟩, []⟩, ⟨0, ⟨(some 38), none, (.pure (.bin .add .none)), [(.tmp 36), (.tmp 37)]⟩, []⟩, ⟨0, ⟨(some 39), none, (.pure (.iaddr 1)), [(.tmp 32), (.tmp 38)]⟩, []⟩, ⟨0, ⟨(some 40), none, (.load (.load 1 false)), [(.tmp 39)]⟩, []⟩]) (.cond (.tmp 40) (.seq (.region [⟨0, ⟨(some 41), none, (.pure .id), [(.tmp 5)]⟩, []⟩, ⟨0, ⟨(some 42), none, (.pure (.faddr 1)), [(.tmp 2)]⟩, []⟩, ⟨0, ⟨(some 43), none, (.load (.load 1 false)), [(.tmp 42)]⟩, []⟩, ⟨0, ⟨(some 44), none, (.pure .id), [(.tmp 7)]⟩, []⟩, ⟨0, ⟨(some 45), none, (.pure (.iaddr 2)), [(.tmp 43), (.tmp 44)]⟩, []⟩, ⟨0, ⟨(some 46), none, (.pure (.iarr 2 1)), [(.tmp 45), (.const (.int .i64 0))]⟩, []⟩, ⟨0, ⟨(some 47), none, (.load (.load 1 false)), [(.tmp 46)]⟩, []⟩, ⟨0, ⟨(some 48), none, (.pure (.bin .quo .none)), [(.tmp 47), (.const (.int .i64 2))]⟩, []⟩, ⟨0, ⟨(some 49), none, (.pure (.iaddr 1)), [(.tmp 41), (.tmp 48)]⟩, []⟩, ⟨0, ⟨none, none, (.imp (.store 1)), [(.tmp 49), (.const (.bool true))]⟩, []⟩]) (.region [⟨0, ⟨(some 50), none, (.pure .id), [(.tmp 5)]⟩, []⟩, ⟨0, ⟨(some 51), none, (.pure (.faddr 1)), [(.tmp 2)]⟩, []⟩, ⟨0, ⟨(some 52), none, (.load (.load 1 false)), [(.tmp 51)]⟩, []⟩, ⟨0, ⟨(some 53), none, (.pure .id), [(.tmp 7)]⟩, []⟩, ⟨0, ⟨(some 54), none, (.pure (.iaddr 2)), [(.tmp 52), (.tmp 53)]⟩, []⟩, ⟨0, ⟨(some 55), none, (.pure (.iarr 2 1)), [(.tmp 54), (.const (.int .i64 1))]⟩, []⟩, ⟨0, ⟨(some 56), none, (.load (.load 1 false)), [(.tmp 55)]⟩, []⟩, ⟨0, ⟨(some 57), none, (.pure (.bin .quo .none)), [(.tmp 56), (.const (.int .i64 2))]⟩, []⟩, ⟨0, ⟨(some 58), none, (.pure (.iaddr 1)), [(.tmp 50), (.tmp 57)]⟩, []⟩, ⟨0, ⟨none, none, (.imp (.store 1)), [(.tmp 58), (.const (.bool true))]⟩, []⟩])) .skip))) (.region [⟨0, ⟨(some 30), none, (.pure .id), [(.tmp 7)]⟩, []⟩, ⟨0, ⟨(some 31), none, (.pure (.bin .sub .none)), [(.tmp 30), (.const (.int .i64 1))]⟩, []⟩, ⟨0, ⟨(some 7), none, (.pure .id), [(.tmp 31)]⟩, []⟩])))))) (.seq (.region [⟨0, ⟨(some 59), none, (.pure .id), [(.tmp 5)]⟩, []⟩, ⟨0, ⟨(some 4), none, (.pure .id), [(.tmp 59)]⟩, []⟩]) .ret)))))⟩
theorem c_skolemref06_Reached : compF Tryz.prog Tryz.f74 = some G_skolemref06_Reached := by kernel_rfl
theorem gc_skolemref06_Reached {args : List DV} {σ : GS} {Post : DV → GS → Prop} (h : @exB Tryz.prog ⟨G_skolemref06_Reached.body⟩ (genv0 args G_skolemref06_Reached.ntmps) σ ⟨@gretB G_skolemref06_Reached.results ⟨Post⟩⟩) : GCall Tryz.prog F_skolemref06_Reached args σ Post := gcall_ofB seatfollows Tryz.func74 (by kernel_rfl) c_skolemref06_Reached h
noncomputable abbrev G_skolemref06_Maker_copied : GFun := ⟨73, [(.tmp 8)], (.seq (.region [⟨0, ⟨(some 5), none, (.new .box), [(.tmp 1)]⟩, []⟩, ⟨0, ⟨(some 8), none, (.pure .id), [(.const .nils)]⟩, []⟩]) (.seq (.region [⟨0, ⟨(some 14), none, (.load (.load 2 true)), [(.tmp 5)]⟩, []⟩, ⟨0, ⟨(some 15), none, (.pure .id), [(.tmp 2)]⟩, []⟩, ⟨0, ⟨(some 16), none, (.call F_skolemref06_Reached), [(.tmp 14), (.tmp 15)]⟩, []⟩, ⟨0, ⟨(some 9), none, (.pure .id), [(.tmp 16)]⟩, []⟩]) (.seq (.region [⟨0, ⟨(some 17), none, (.load (.load 2 true)), [(.tmp 5)]⟩, []⟩, ⟨0, ⟨(some 18), none, (.call F_skolemref06_Nodes), [(.tmp 17)]⟩, []⟩, ⟨0, ⟨(some 19), none, (.new (.mslice 1 8 [(.int .i64 0)])), [(.tmp 18), (.tmp 18)]⟩, []⟩, ⟨0, ⟨(some 10), none, (.pure .id), [(.tmp 19)]⟩, []⟩]) (.seq (.seq (.region [⟨0, ⟨(some 11), none, (.pure .id), [(.const (.int .i64 0))]⟩, []⟩]) (.block 0 (.loop (.seq (.seq (.region [⟨0, ⟨(some 20), none, (.pure .id), [(.tmp 11)]⟩, []⟩, ⟨0, ⟨(some 21), none, (.pure .id), [(.tmp 3)]⟩, []⟩, ⟨0, ⟨(some 22), none, (.pure .len), [(.tmp 21)]⟩, []⟩, ⟨0, ⟨(some 23), none, (.pure (.bin .lss .none)), [(.tmp 20), (.tmp 22)]⟩, []⟩]) (.cond (.tmp 23) .skip (.exit 0))) (.seq (.block 1 (.region [⟨0, ⟨(some 26), none, (.pure .id), [(.tmp 10)]⟩, []⟩, ⟨0, ⟨(some 27), none, (.pure .id), [(.tmp 11)]⟩, []⟩, ⟨0, ⟨(some 28), none, (.pure (.bin .add .none)), [(.tmp 27), (.const (.int .i64 1))]⟩, []⟩, ⟨0, ⟨(some 29), none, (.pure .id), [(.tmp 3)]⟩, []⟩, ⟨0, ⟨(some 30), none, (.pure .id), [(.tmp 11)]⟩, []⟩, ⟨0, ⟨(some 31), none, (.pure (.iaddr 1)), [(.tmp 29), (.tmp 30)]⟩, []⟩, ⟨0, ⟨(some 32), none, (.load (.load 1 false)), [(.tmp 31)]⟩, []⟩, ⟨0, ⟨(some 33), none, (.pure (.iaddr 1)), [(.tmp 26), (.tmp 28)]⟩, []⟩, ⟨0, ⟨none, none, (.imp (.store 1)), [(.tmp 33), (.tmp 32)]⟩, []⟩])) (.region [⟨0, ⟨(some 24), none, (.pure .id), [(.tmp 11)]⟩, []⟩, ⟨0, ⟨(some 25), none, (.pure (.bin .add .none)), [(.tmp 24), (.const (.int .i64 1))]⟩, []⟩, ⟨0, ⟨(some 11), none, (.pure .id), [(.tmp 25)]⟩, []⟩])))))) (.seq (.seq (.region [⟨0, ⟨(some 12), none, (.pure .id), [(.const (.int .i64 0))]⟩, []⟩]) (.block 2 (.loop (.seq (.seq (.region [⟨0, ⟨(some 34), none, (.pure .id), [(.tmp 12)]⟩, []⟩, ⟨0, ⟨(some 35), none, (.pure (.faddr 1)), [(.tmp 5)]⟩, []⟩, ⟨0, ⟨(some 36), none, (.load (.load 1 false)), [(.tmp 35)]⟩, []⟩, ⟨0, ⟨(some 37), none, (.pure .len), [(.tmp 36)]⟩, []⟩, ⟨0, ⟨(some 38), none, (.pure (.bin .lss .none)), [(.tmp 34), (.tmp 37)]⟩, []⟩]) (.cond (.tmp 38) .skip (.exit 2))) (.seq (.block 3 (.seq (.region [⟨0, ⟨(some 41), none, (.pure (.faddr 0)), [(.tmp 5)]⟩, []⟩, ⟨0, ⟨(some 42), none, (.load (.load 1 false)), [(.tmp 41)]⟩, []⟩, ⟨0, ⟨(some 43), none, (.pure .len), [(.tmp 42)]⟩, []⟩, ⟨0, ⟨(some 44), none, (.pure (.bin .add .none)), [(.const (.int .i64 1)), (.tmp 43)]⟩, []⟩, ⟨0, ⟨(some 45), none, (.pure .id), [(.tmp 12)]⟩, []⟩, ⟨0, ⟨(some 46), none, (.pure (.bin .add .none)), [(.tmp 44), (.tmp 45)]⟩, []⟩, ⟨0, ⟨(some 13), none, (.pure .id), [(.tmp 46)]⟩, []⟩]) (.seq (.region [⟨0, ⟨(some 47), none, (.pure .id), [(.tmp 9)]⟩, []⟩, ⟨0, ⟨(some 48), none, (.pure .id), [(.tmp 13)]⟩, []⟩, ⟨0, ⟨(some 49), none, (.pure (.iaddr 1)), [(.tmp 47), (.tmp 48)]⟩, []⟩, ⟨0, ⟨(some 50), none, (.load (.load 1 false)), [(.tmp 49)]⟩, []⟩]) (.cond (.tmp 50) (.region [⟨0, ⟨(some 51), none, (.pure .id), [(.tmp 10)]⟩, []⟩, ⟨1, ⟨(some 52), none, (.pure .id), [(.tmp 13)]⟩, []⟩, ⟨2, ⟨(some 53), none, (.pure .id), [(.tmp 0)]⟩, []⟩, ⟨3, ⟨(some 54), none, (.pure .id), [(.tmp 10)]⟩, []⟩, ⟨4, ⟨(some 55), none, (.pure (.faddr 1)), [(.tmp 5)]⟩, []⟩, ⟨5, ⟨(some 56), none, (.load (.load 1 false)), [(.tmp 55)]⟩, []⟩, ⟨6, ⟨(some 57), none, (.pure .id), [(.tmp 12)]⟩, []⟩, ⟨7, ⟨(some 58), none, (.pure (.iaddr 2)), [(.tmp 56), (.tmp 57)]⟩, []⟩, ⟨8, ⟨(some 59), none, (.pure (.iarr 2 1)), [(.tmp 58), (.const (.int .i64 0))]⟩, []⟩, ⟨9, ⟨(some 60), none, (.load (.load 1 false)), [(.tmp 59)]⟩, []⟩, ⟨11, ⟨(some 62), none, (.pure .id), [(.tmp 10)]⟩, []⟩, ⟨12, ⟨(some 63), none, (.pure (.faddr 1)), [(.tmp 5)]⟩, []⟩, ⟨13, ⟨(some 64), none, (.load (.load 1 false)), [(.tmp 63)]⟩, []⟩, ⟨14, ⟨(some 65), none, (.pure .id), [(.tmp 12)]⟩, []⟩, ⟨15, ⟨(some 66), none, (.pure (.iaddr 2)), [(.tmp 64), (.tmp 65)]⟩, []⟩, ⟨16, ⟨(some 67), none, (.pure (.iarr 2 1)), [(.tmp 66), (.const (.int .i64 1))]⟩, []⟩, ⟨17, ⟨(some 68), none, (.load (.load 1 false)), [(.tmp 67)]⟩, []⟩, ⟨10, ⟨(some 61), none, (.call F_skolemref06_Image), [(.tmp 54), (.tmp 60)]⟩, [⟨(some 64), none, (.load (.load 1 false)), [(.tmp 63)]⟩, ⟨(some 68), none, (.load (.load 1 false)), [(.tmp 67)]⟩]⟩, ⟨18, ⟨(some 69), none, (.call F_skolemref06_Image), [(.tmp 62), (.tmp 68)]⟩, []⟩, ⟨19, ⟨(some 70), none, (.call F_skolemref06_Maker_Conj), [(.tmp 53), (.tmp 61), (.tmp 69)]⟩, []⟩, ⟨20, ⟨(some 71), none, (.pure (.iaddr 1)), [(.tmp 51), (.tmp 52)]⟩, []⟩, ⟨21, ⟨none, none, (.imp (.store 1)), [(.tmp 71), (.tmp 70)]⟩, []⟩]) .skip)))) (.region [⟨0, ⟨(some 39), none, (.pure .id), [(.tmp 12)]⟩, []⟩, ⟨0, ⟨(some 40), none, (.pure (.bin .add .none)), [(.tmp 39), (.const (.int .i64 1))]⟩, []⟩, ⟨0, ⟨(some 12), none, (.pure .id), [(.tmp 40)]⟩, []⟩])))))) (.seq (.region [⟨0, ⟨(some 72), none, (.pure .id), [(.tmp 10)]⟩, []⟩, ⟨0, ⟨(some 8), none, (.pure .id), [(.tmp 72)]⟩, []⟩]) .ret))))))⟩
theorem c_skolemref06_Maker_copied : compF Tryz.prog Tryz.f59 = some G_skolemref06_Maker_copied := by kernel_rfl
theorem gc_skolemref06_Maker_copied {args : List DV} {σ : GS} {Post : DV → GS → Prop} (h : @exB Tryz.prog ⟨G_skolemref06_Maker_copied.body⟩ (genv0 args G_skolemref06_Maker_copied.ntmps) σ ⟨@gretB G_skolemref06_Maker_copied.results ⟨Post⟩⟩) : GCall Tryz.prog F_skolemref06_Maker_copied args σ Post := gcall_ofB seatfollows Tryz.func59 (by kernel_rfl) c_skolemref06_Maker_copied h
noncomputable abbrev G_skolemref06_Edge : GFun := ⟨23, [(.tmp 4)], (.seq (.region [⟨0, ⟨(some 2), none, (.new .box), [(.tmp 0)]⟩, []⟩, ⟨0, ⟨(some 4), none, (.pure .id), [(.const (.int .i64 0))]⟩, []⟩]) (.seq (.seq (.region [⟨0, ⟨(some 5), none, (.pure .id), [(.const (.int .i64 0))]⟩, []⟩]) (.block 0 (.loop (.seq (.seq (.region [⟨0, ⟨(some 6), none, (.pure .id), [(.tmp 5)]⟩, []⟩, ⟨0, ⟨(some 7), none, (.pure (.faddr 0)), [(.tmp 2)]⟩, []⟩, ⟨0, ⟨(some 8), none, (.load (.load 1 false)), [(.tmp 7)]⟩, []⟩, ⟨0, ⟨(some 9), none, (.pure .len), [(.tmp 8)]⟩, []⟩, ⟨0, ⟨(some 10), none, (.pure (.bin .lss .none)), [(.tmp 6), (.tmp 9)]⟩, []⟩]) (.cond (.tmp 10) .skip (.exit 0))) (.seq (.block 1 (.seq (.region [⟨0, ⟨(some 13), none, (.pure (.faddr 0)), [(.tmp 2)]⟩, []⟩, ⟨0, ⟨(some 14), none, (.load (.load 1 false)), [(.tmp 13)]⟩, []⟩, ⟨0, ⟨(some 15), none, (.pure .id), [(.tmp 5)]⟩, []⟩, ⟨0, ⟨(some 16), none, (.pure (.iaddr 1)), [(.tmp 14), (.tmp 15)]⟩, []⟩, ⟨0, ⟨(some 17), none, (.load (.load 1 false)), [(.tmp 16)]⟩, []⟩, ⟨0, ⟨(some 18), none, (.pure .id), [(.tmp 1)]⟩, []⟩, ⟨0, ⟨(some 19), none, (.pure (.bin .eql .none)), [(.tmp 17), (.tmp 18)]⟩, []⟩]) (.cond (.tmp 19) (.seq (.region [⟨0, ⟨(some 20), none, (.pure .id), [(.tmp 5)]⟩, []⟩, ⟨0, ⟨(some 21), none, (.pure (.bin .add .none)), [(.tmp 20), (.const (.int .i64 1))]⟩, []⟩, ⟨0, ⟨(some 22), none, (.pure (.bin .mul .none)), [(.const (.int .i64 2)), (.tmp 21)]⟩, []⟩, ⟨0, ⟨(some 4), none, (.pure .id), [(.tmp 22)]⟩, []⟩]) .ret) .skip))) (.region [⟨0, ⟨(some 11), none, (.pure .id), [(.tmp 5)]⟩, []⟩, ⟨0, ⟨(some 12), none, (.pure (.bin .add .none)), [(.tmp 11), (.const (.int .i64 1))]⟩, []⟩, ⟨0, ⟨(some 5), none, (.pure .id), [(.tmp 12)]⟩, []⟩])))))) (.seq (.region [⟨0, ⟨(some 4), none, (.pure .id), [(.const (.int .i64 (-1)))]⟩, []⟩]) .ret)))⟩
theorem c_skolemref06_Edge : compF Tryz.prog Tryz.f53 = some G_skolemref06_Edge := by kernel_rfl
theorem gc_skolemref06_Edge {args : List DV} {σ : GS} {Post : DV → GS → Prop} (h : @exB Tryz.prog ⟨G_skolemref06_Edge.body⟩ (genv0 args G_skolemref06_Edge.ntmps) σ ⟨@gretB G_skolemref06_Edge.results ⟨Post⟩⟩) : GCall Tryz.prog F_skolemref06_Edge args σ Post := gcall_ofB seatfollows Tryz.func53 (by kernel_rfl) c_skolemref06_Edge h
noncomputable abbrev G_skolemref06_edges : GFun := ⟨23, [(.tmp 4)], (.seq (.region [⟨0, ⟨(some 2), none, (.new .box), [(.tmp 0)]⟩, []⟩, ⟨0, ⟨(some 4), none, (.pure .id), [(.const .nils)]⟩, []⟩]) (.seq (.region [⟨0, ⟨(some 5), none, (.pure .id), [(.const .nils)]⟩, []⟩]) (.seq (.seq (.region [⟨0, ⟨(some 6), none, (.pure .id), [(.const (.int .i64 0))]⟩, []⟩]) (.block 0 (.loop (.seq (.seq (.region [⟨0, ⟨(some 7), none, (.pure .id), [(.tmp 6)]⟩, []⟩, ⟨0, ⟨(some 8), none, (.pure .id), [(.tmp 1)]⟩, []⟩, ⟨0, ⟨(some 9), none, (.pure .len), [(.tmp 8)]⟩, []⟩, ⟨0, ⟨(some 10), none, (.pure (.bin .lss .none)), [(.tmp 7), (.tmp 9)]⟩, []⟩]) (.cond (.tmp 10) .skip (.exit 0))) (.seq (.block 1 (.region [⟨0, ⟨(some 13), none, (.pure .id), [(.tmp 5)]⟩, []⟩, ⟨1, ⟨(some 14), none, (.load (.load 2 true)), [(.tmp 2)]⟩, []⟩, ⟨2, ⟨(some 15), none, (.pure .id), [(.tmp 1)]⟩, []⟩, ⟨3, ⟨(some 16), none, (.pure .id), [(.tmp 6)]⟩, []⟩, ⟨4, ⟨(some 17), none, (.pure (.iaddr 1)), [(.tmp 15), (.tmp 16)]⟩, []⟩, ⟨5, ⟨(some 18), none, (.load (.load 1 false)), [(.tmp 17)]⟩, []⟩, ⟨6, ⟨(some 19), none, (.call F_skolemref06_Edge), [(.tmp 14), (.tmp 18)]⟩, []⟩, ⟨7, ⟨(some 20), none, (.new (.bslice 1 [(.int .i64 0)] 1 [(0, 1)])), [(.tmp 19)]⟩, []⟩, ⟨8, ⟨(some 21), none, (.imp (.append 1 8)), [(.tmp 13), (.tmp 20)]⟩, []⟩, ⟨9, ⟨(some 5), none, (.pure .id), [(.tmp 21)]⟩, []⟩])) (.region [⟨0, ⟨(some 11), none, (.pure .id), [(.tmp 6)]⟩, []⟩, ⟨0, ⟨(some 12), none, (.pure (.bin .add .none)), [(.tmp 11), (.const (.int .i64 1))]⟩, []⟩, ⟨0, ⟨(some 6), none, (.pure .id), [(.tmp 12)]⟩, []⟩])))))) (.seq (.region [⟨0, ⟨(some 22), none, (.pure .id), [(.tmp 5)]⟩, []⟩, ⟨0, ⟨(some 4), none, (.pure .id), [(.tmp 22)]⟩, []⟩]) .ret))))⟩
theorem c_skolemref06_edges : compF Tryz.prog Tryz.f60 = some G_skolemref06_edges := by kernel_rfl
theorem gc_skolemref06_edges {args : List DV} {σ : GS} {Post : DV → GS → Prop} (h : @exB Tryz.prog ⟨G_skolemref06_edges.body⟩ (genv0 args G_skolemref06_edges.ntmps) σ ⟨@gretB G_skolemref06_edges.results ⟨Post⟩⟩) : GCall Tryz.prog F_skolemref06_edges args σ Post := gcall_ofB seatfollows Tryz.func60 (by kernel_rfl) c_skolemref06_edges h
noncomputable abbrev G_skolemref06_Same : GFun := ⟨39, [(.tmp 4)], (.seq (.region [⟨0, ⟨(some 2), none, (.new .box), [(.tmp 0)]⟩, []⟩, ⟨0, ⟨(some 3), none, (.new .box), [(.tmp 1)]⟩, []⟩, ⟨0, ⟨(some 4), none, (.pure .id), [(.const (.bool false))]⟩, []⟩]) (.seq (.seq (.region [⟨0, ⟨(some 6), none, (.pure (.faddr 0)), [(.tmp 2)]⟩, []⟩, ⟨0, ⟨(some 7), none, (.load (.load 1 false)), [(.tmp 6)]⟩, []⟩, ⟨0, ⟨(some 8), none, (.pure (.faddr 0)), [(.tmp 3)]⟩, []⟩, ⟨0, ⟨(some 9), none, (.load (.load 1 false)), [(.tmp 8)]⟩, []⟩, ⟨0, ⟨(some 10), none, (.call F_skolemref05_Ints), [(.tmp 7), (.tmp 9)]⟩, []⟩, ⟨0, ⟨(some 11), none, (.pure (.un .not)), [(.tmp 10)]⟩, []⟩, ⟨0, ⟨(some 12), none, (.pure .id), [(.tmp 11)]⟩, []⟩, ⟨0, ⟨(some 13), (some (12, false)), (.pure (.faddr 1)), [(.tmp 2)]⟩, []⟩, ⟨0, ⟨(some 14), (some (12, false)), (.load (.load 1 false)), [(.tmp 13)]⟩, []⟩, ⟨0, ⟨(some 15), (some (12, false)), (.pure .len), [(.tmp 14)]⟩, []⟩, ⟨0, ⟨(some 16), (some (12, false)), (.pure (.faddr 1)), [(.tmp 3)]⟩, []⟩, ⟨0, ⟨(some 17), (some (12, false)), (.load (.load 1 false)), [(.tmp 16)]⟩, []⟩, ⟨0, ⟨(some 18), (some (12, false)), (.pure .len), [(.tmp 17)]⟩, []⟩, ⟨0, ⟨(some 19), (some (12, false)), (.pure (.bin .neq .none)), [(.tmp 15), (.tmp 18)]⟩, []⟩, ⟨0, ⟨(some 20), none, (.pure .pick), [(.tmp 12), (.const (.bool true)), (.tmp 19)]⟩, []⟩]) (.cond (.tmp 20) (.seq (.region [⟨0, ⟨(some 4), none, (.pure .id), [(.const (.bool false))]⟩, []⟩]) .ret) .skip)) (.seq (.seq (.region [⟨0, ⟨(some 5), none, (.pure .id), [(.const (.int .i64 0))]⟩, []⟩]) (.block 0 (.loop (.seq (.seq (.region [⟨0, ⟨(some 21), none, (.pure .id), [(.tmp 5)]⟩, []⟩, ⟨0, ⟨(some 22), none, (.pure (.faddr 1)), [(.tmp 2)]⟩, []⟩, ⟨0, ⟨(some 23), none, (.load (.load 1 false)), [(.tmp 22)]⟩, []⟩, ⟨0, ⟨(some 24), none, (.pure .len), [(.tmp 23)]⟩, []⟩, ⟨0, ⟨(some 25), none, (.pure (.bin .lss .none)), [(.tmp 21), (.tmp 24)]⟩, []⟩]) (.cond (.tmp 25) .skip (.exit 0))) (.seq (.block 1 (.seq (.region [⟨0, ⟨(some 28), none, (.pure (.faddr 1)), [(.tmp 2)]⟩, []⟩, ⟨1, ⟨(some 29), none, (.load (.load 1 false)), [(.tmp 28)]⟩, []⟩, ⟨2, ⟨(some 30), none, (.pure .id), [(.tmp 5)]⟩, []⟩, ⟨3, ⟨(some 31), none, (.pure (.iaddr 2)), [(.tmp 29), (.tmp 30)]⟩, []⟩, ⟨4, ⟨(some 32), none, (.load (.load 2 true)), [(.tmp 31)]⟩, []⟩, ⟨5, ⟨(some 33), none, (.pure (.faddr 1)), [(.tmp 3)]⟩, []⟩, ⟨6, ⟨(some 34), none, (.load (.load 1 false)), [(.tmp 33)]⟩, []⟩, ⟨7, ⟨(some 35), none, (.pure .id), [(.tmp 5)]⟩, []⟩, ⟨8, ⟨(some 36), none, (.pure (.iaddr 2)), [(.tmp 34), (.tmp 35)]⟩, []⟩, ⟨9, ⟨(some 37), none, (.load (.load 2 true)), [(.tmp 36)]⟩, []⟩, ⟨10, ⟨(some 38), none, (.pure (.bin .neq (.arr2 .i64))), [(.tmp 32), (.tmp 37)]⟩, []⟩]) (.cond (.tmp 38) (.seq (.region [⟨0, ⟨(some 4), none, (.pure .id), [(.const (.bool false))]⟩, []⟩]) .ret) .skip))) (.region [⟨0, ⟨(some 26), none, (.pure .id), [(.tmp 5)]⟩, []⟩, ⟨0, ⟨(some 27), none, (.pure (.bin .add .none)), [(.tmp 26), (.const (.int .i64 1))]⟩, []⟩, ⟨0, ⟨(some 5), none, (.pure .id), [(.tmp 27)]⟩, []⟩])))))) (.seq (.region [⟨0, ⟨(some 4), none, (.pure .id), [(.const (.bool true))]⟩, []⟩]) .ret))))⟩
theorem c_skolemref06_Same : compF Tryz.prog Tryz.f16 = some G_skolemref06_Same := by kernel_rfl
theorem gc_skolemref06_Same {args : List DV} {σ : GS} {Post : DV → GS → Prop} (h : @exB Tryz.prog ⟨G_skolemref06_Same.body⟩ (genv0 args G_skolemref06_Same.ntmps) σ ⟨@gretB G_skolemref06_Same.results ⟨Post⟩⟩) : GCall Tryz.prog F_skolemref06_Same args σ Post := gcall_ofB seatfollows Tryz.func16 (by kernel_rfl) c_skolemref06_Same h
noncomputable abbrev G_skolemref05_Normal : GFun := ⟨35, [(.tmp 2)], (.seq (.region [⟨0, ⟨(some 2), none, (.pure .id), [(.const (.bool false))]⟩, []⟩]) (.seq (.seq (.region [⟨0, ⟨(some 3), none, (.pure .id), [(.const (.int .i64 0))]⟩, []⟩]) (.block 0 (.loop (.seq (.seq (.region [⟨0, ⟨(some 4), none, (.pure .id), [(.tmp 3)]⟩, []⟩, ⟨0, ⟨(some 5), none, (.pure .id), [(.tmp 0)]⟩, []⟩, ⟨0, ⟨(some 6), none, (.pure .len), [(.tmp 5)]⟩, []⟩, ⟨0, ⟨(some 7), none, (.pure (.bin .lss .none)), [(.tmp 4), (.tmp 6)]⟩, []⟩]) (.cond (.tmp 7) .skip (.exit 0))) (.seq (.block 1 (.seq (.region [⟨0, ⟨(some 10), none, (.pure .id), [(.tmp 0)]⟩, []⟩, ⟨1, ⟨(some 11), none, (.pure .id), [(.tmp 3)]⟩, []⟩, ⟨2, ⟨(some 12), none, (.pure (.iaddr 1)), [(.tmp 10), (.tmp 11)]⟩, []⟩, ⟨3, ⟨(some 13), none, (.load (.load 1 false)), [(.tmp 12)]⟩, []⟩, ⟨4, ⟨(some 14), none, (.call F_skolemref05_Abs), [(.tmp 13)]⟩, []⟩, ⟨5, ⟨(some 15), none, (.call F_skolemref05_variable), [(.tmp 14)]⟩, []⟩, ⟨6, ⟨(some 16), none, (.pure (.un .not)), [(.tmp 15)]⟩, []⟩, ⟨7, ⟨(some 17), none, (.pure .id), [(.tmp 16)]⟩, []⟩, ⟨8, ⟨(some 18), (some (17, false)), (.pure .id), [(.tmp 3)]⟩, []⟩, ⟨9, ⟨(some 19), (some (17, false)), (.pure (.bin .gtr .none)), [(.tmp 18), (.const (.int .i64 0))]⟩, []⟩, ⟨10, ⟨(some 20), (some (17, false)), (.pure .id), [(.tmp 19)]⟩, []⟩, ⟨11, ⟨(some 21), (some (20, true)), (.pure .id), [(.tmp 0)]⟩, []⟩, ⟨12, ⟨(some 22), (some (20, true)), (.pure .id), [(.tmp 3)]⟩, []⟩, ⟨13, ⟨(some 23), (some (20, true)), (.pure (.iaddr 1)), [(.tmp 21), (.tmp 22)]⟩, []⟩, ⟨14, ⟨(some 24), (some (20, true)), (.load (.load 1 false)), [(.tmp 23)]⟩, []⟩, ⟨16, ⟨(some 26), (some (20, true)), (.pure .id), [(.tmp 0)]⟩, []⟩, ⟨17, ⟨(some 27), (some (20, true)), (.pure .id), [(.tmp 3)]⟩, []⟩, ⟨18, ⟨(some 28), (some (20, true)), (.pure (.bin .sub .none)), [(.tmp 27), (.const (.int .i64 1))]⟩, []⟩, ⟨19, ⟨(some 29), (some (20, true)), (.pure (.iaddr 1)), [(.tmp 26), (.tmp 28)]⟩, []⟩, ⟨20, ⟨(some 30), (some (20, true)), (.load (.load 1 false)), [(.tmp 29)]⟩, []⟩, ⟨15, ⟨(some 25), (some (20, true)), (.call F_skolemref05_Abs), [(.tmp 24)]⟩, [⟨(some 30), (some (20, true)), (.load (.load 1 false)), [(.tmp 29)]⟩]⟩, ⟨21, ⟨(some 31), (some (20, true)), (.call F_skolemref05_Abs), [(.tmp 30)]⟩, []⟩, ⟨22, ⟨(some 32), (some (20, true)), (.pure (.bin .leq .none)), [(.tmp 25), (.tmp 31)]⟩, []⟩, ⟨23, ⟨(some 33), (some (17, false)), (.pure .pick), [(.tmp 20), (.tmp 32), (.const (.bool false))]⟩, []⟩, ⟨24, ⟨(some 34), none, (.pure .pick), [(.tmp 17), (.const (.bool true)), (.tmp 33)]⟩, []⟩]) (.cond (.tmp 34) (.seq (.region [⟨0, ⟨(some 2), none, (.pure .id), [(.const (.bool false))]⟩, []⟩]) .ret) .skip))) (.region [⟨0, ⟨(some 8), none, (.pure .id), [(.tmp 3)]⟩, []⟩, ⟨0, ⟨(some 9), none, (.pure (.bin .add .none)), [(.tmp 8), (.const (.int .i64 1))]⟩, []⟩, ⟨0, ⟨(some 3), none, (.pure .id), [(.tmp 9)]⟩, []⟩])))))) (.seq (.region [⟨0, ⟨(some 2), none, (.pure .id), [(.const (.bool true))]⟩, []⟩]) .ret)))⟩
theorem c_skolemref05_Normal : compF Tryz.prog Tryz.f45 = some G_skolemref05_Normal := by kernel_rfl
theorem gc_skolemref05_Normal {args : List DV} {σ : GS} {Post : DV → GS → Prop} (h : @exB Tryz.prog ⟨G_skolemref05_Normal.body⟩ (genv0 args G_skolemref05_Normal.ntmps) σ ⟨@gretB G_skolemref05_Normal.results ⟨Post⟩⟩) : GCall Tryz.prog F_skolemref05_Normal args σ Post := gcall_ofB seatfollows Tryz.func45 (by kernel_rfl) c_skolemref05_Normal h
noncomputable abbrev G_skolemref05_In : GFun := ⟨18, [(.tmp 4)], (.seq (.region [⟨0, ⟨(some 4), none, (.pure .id), [(.const (.bool false))]⟩, []⟩]) (.seq (.seq (.region [⟨0, ⟨(some 5), none, (.pure .id), [(.const (.int .i64 0))]⟩, []⟩]) (.block 0 (.loop (.seq (.seq (.region [⟨0, ⟨(some 6), none, (.pure .id), [(.tmp 5)]⟩, []⟩, ⟨0, ⟨(some 7), none, (.pure .id), [(.tmp 0)]⟩, []⟩, ⟨0, ⟨(some 8), none, (.pure .len), [(.tmp 7)]⟩, []⟩, ⟨0, ⟨(some 9), none, (.pure (.bin .lss .none)), [(.tmp 6), (.tmp 8)]⟩, []⟩]) (.cond (.tmp 9) .skip (.exit 0))) (.seq (.block 1 (.seq (.region [⟨0, ⟨(some 12), none, (.pure .id), [(.tmp 0)]⟩, []⟩, ⟨0, ⟨(some 13), none, (.pure .id), [(.tmp 5)]⟩, []⟩, ⟨0, ⟨(some 14), none, (.pure (.iaddr 1)), [(.tmp 12), (.tmp 13)]⟩, []⟩, ⟨0, ⟨(some 15), none, (.load (.load 1 false)), [(.tmp 14)]⟩, []⟩, ⟨0, ⟨(some 16), none, (.pure .id), [(.tmp 1)]⟩, []⟩, ⟨0, ⟨(some 17), none, (.pure (.bin .eql .none)), [(.tmp 15), (.tmp 16)]⟩, []⟩]) (.cond (.tmp 17) (.seq (.region [⟨0, ⟨(some 4), none, (.pure .id), [(.const (.bool true))]⟩, []⟩]) .ret) .skip))) (.region [⟨0, ⟨(some 10), none, (.pure .id), [(.tmp 5)]⟩, []⟩, ⟨0, ⟨(some 11), none, (.pure (.bin .add .none)), [(.tmp 10), (.const (.int .i64 1))]⟩, []⟩, ⟨0, ⟨(some 5), none, (.pure .id), [(.tmp 11)]⟩, []⟩])))))) (.seq (.region [⟨0, ⟨(some 4), none, (.pure .id), [(.const (.bool false))]⟩, []⟩]) .ret)))⟩
theorem c_skolemref05_In : compF Tryz.prog Tryz.f72 = some G_skolemref05_In := by kernel_rfl
theorem gc_skolemref05_In {args : List DV} {σ : GS} {Post : DV → GS → Prop} (h : @exB Tryz.prog ⟨G_skolemref05_In.body⟩ (genv0 args G_skolemref05_In.ntmps) σ ⟨@gretB G_skolemref05_In.results ⟨Post⟩⟩) : GCall Tryz.prog F_skolemref05_In args σ Post := gcall_ofB seatfollows Tryz.func72 (by kernel_rfl) c_skolemref05_In h
noncomputable abbrev G_skolemref05_Ints : GFun := ⟨26, [(.tmp 4)], (.seq (.region [⟨0, ⟨(some 4), none, (.pure .id), [(.const (.bool false))]⟩, []⟩]) (.seq (.seq (.region [⟨0, ⟨(some 6), none, (.pure .id), [(.tmp 0)]⟩, []⟩, ⟨0, ⟨(some 7), none, (.pure .len), [(.tmp 6)]⟩, []⟩, ⟨0, ⟨(some 8), none, (.pure .id), [(.tmp 1)]⟩, []⟩, ⟨0, ⟨(some 9), none, (.pure .len), [(.tmp 8)]⟩, []⟩, ⟨0, ⟨(some 10), none, (.pure (.bin .neq .none)), [(.tmp 7), (.tmp 9)]⟩, []⟩]) (.cond (.tmp 10) (.seq (.region [⟨0, ⟨(some 4), none, (.pure .id), [(.const (.bool false))]⟩, []⟩]) .ret) .skip)) (.seq (.seq (.region [⟨0, ⟨(some 5), none, (.pure .id), [(.const (.int .i64 0))]⟩, []⟩]) (.block 0 (.loop (.seq (.seq (.region [⟨0, ⟨(some 11), none, (.pure .id), [(.tmp 5)]⟩, []⟩, ⟨0, ⟨(some 12), none, (.pure .id), [(.tmp 0)]⟩, []⟩, ⟨0, ⟨(some 13), none, (.pure .len), [(.tmp 12)]⟩, []⟩, ⟨0, ⟨(some 14), none, (.pure (.bin .lss .none)), [(.tmp 11), (.tmp 13)]⟩, []⟩]) (.cond (.tmp 14) .skip (.exit 0))) (.seq (.block 1 (.seq (.region [⟨0, ⟨(some 17), none, (.pure .id), [(.tmp 0)]⟩, []⟩, ⟨1, ⟨(some 18), none, (.pure .id), [(.tmp 5)]⟩, []⟩, ⟨2, ⟨(some 19), none, (.pure (.iaddr 1)), [(.tmp 17), (.tmp 18)]⟩, []⟩, ⟨3, ⟨(some 20), none, (.load (.load 1 false)), [(.tmp 19)]⟩, []⟩, ⟨4, ⟨(some 21), none, (.pure .id), [(.tmp 1)]⟩, []⟩, ⟨5, ⟨(some 22), none, (.pure .id), [(.tmp 5)]⟩, []⟩, ⟨6, ⟨(some 23), none, (.pure (.iaddr 1)), [(.tmp 21), (.tmp 22)]⟩, []⟩, ⟨7, ⟨(some 24), none, (.load (.load 1 false)), [(.tmp 23)]⟩, []⟩, ⟨8, ⟨(some 25), none, (.pure (.bin .neq .none)), [(.tmp 20), (.tmp 24)]⟩, []⟩]) (.cond (.tmp 25) (.seq (.region [⟨0, ⟨(some 4), none, (.pure .id), [(.const (.bool false))]⟩, []⟩]) .ret) .skip))) (.region [⟨0, ⟨(some 15), none, (.pure .id), [(.tmp 5)]⟩, []⟩, ⟨0, ⟨(some 16), none, (.pure (.bin .add .none)), [(.tmp 15), (.const (.int .i64 1))]⟩, []⟩, ⟨0, ⟨(some 5), none, (.pure .id), [(.tmp 16)]⟩, []⟩])))))) (.seq (.region [⟨0, ⟨(some 4), none, (.pure .id), [(.const (.bool true))]⟩, []⟩]) .ret))))⟩
theorem c_skolemref05_Ints : compF Tryz.prog Tryz.f17 = some G_skolemref05_Ints := by kernel_rfl
theorem gc_skolemref05_Ints {args : List DV} {σ : GS} {Post : DV → GS → Prop} (h : @exB Tryz.prog ⟨G_skolemref05_Ints.body⟩ (genv0 args G_skolemref05_Ints.ntmps) σ ⟨@gretB G_skolemref05_Ints.results ⟨Post⟩⟩) : GCall Tryz.prog F_skolemref05_Ints args σ Post := gcall_ofB seatfollows Tryz.func17 (by kernel_rfl) c_skolemref05_Ints h
noncomputable abbrev G_skolemref05_variable : GFun := ⟨9, [(.tmp 2)], (.seq (.region [⟨0, ⟨(some 2), none, (.pure .id), [(.const (.bool false))]⟩, []⟩]) (.seq (.region [⟨0, ⟨(some 3), none, (.pure .id), [(.tmp 0)]⟩, []⟩, ⟨0, ⟨(some 4), none, (.pure (.bin .geq .none)), [(.tmp 3), (.const (.int .i64 1))]⟩, []⟩, ⟨0, ⟨(some 5), none, (.pure .id), [(.tmp 4)]⟩, []⟩, ⟨0, ⟨(some 6), (some (5, true)), (.pure .id), [(.tmp 0)]⟩, []⟩, ⟨0, ⟨(some 7), (some (5, true)), (.pure (.bin .leq .none)), [(.tmp 6), (.const (.int .i64 65536))]⟩, []⟩, ⟨0, ⟨(some 8), none, (.pure .pick), [(.tmp 5), (.tmp 7), (.const (.bool false))]⟩, []⟩, ⟨0, ⟨(some 2), none, (.pure .id), [(.tmp 8)]⟩, []⟩]) .ret))⟩
theorem c_skolemref05_variable : compF Tryz.prog Tryz.f121 = some G_skolemref05_variable := by kernel_rfl
theorem gc_skolemref05_variable {args : List DV} {σ : GS} {Post : DV → GS → Prop} (h : @exB Tryz.prog ⟨G_skolemref05_variable.body⟩ (genv0 args G_skolemref05_variable.ntmps) σ ⟨@gretB G_skolemref05_variable.results ⟨Post⟩⟩) : GCall Tryz.prog F_skolemref05_variable args σ Post := gcall_ofB seatfollows Tryz.func121 (by kernel_rfl) c_skolemref05_variable h
noncomputable abbrev G_skolemref05_Abs : GFun := ⟨9, [(.tmp 2)], (.seq (.region [⟨0, ⟨(some 2), none, (.pure .id), [(.const (.int .i64 0))]⟩, []⟩]) (.seq (.seq (.region [⟨0, ⟨(some 3), none, (.pure .id), [(.tmp 0)]⟩, []⟩, ⟨0, ⟨(some 4), none, (.pure (.bin .lss .none)), [(.tmp 3), (.const (.int .i64 0))]⟩, []⟩]) (.cond (.tmp 4) (.seq (.region [⟨0, ⟨(some 5), none, (.pure .id), [(.tmp 0)]⟩, []⟩, ⟨0, ⟨(some 6), none, (.pure (.un .neg)), [(.tmp 5)]⟩, []⟩, ⟨0, ⟨(some 7), none, (.pure .mx), [(.const (.int .i64 0)), (.tmp 6)]⟩, []⟩, ⟨0, ⟨(some 2), none, (.pure .id), [(.tmp 7)]⟩, []⟩]) .ret) .skip)) (.seq (.region [⟨0, ⟨(some 8), none, (.pure .id), [(.tmp 0)]⟩, []⟩, ⟨0, ⟨(some 2), none, (.pure .id), [(.tmp 8)]⟩, []⟩]) .ret)))⟩
theorem c_skolemref05_Abs : compF Tryz.prog Tryz.f124 = some G_skolemref05_Abs := by kernel_rfl
theorem gc_skolemref05_Abs {args : List DV} {σ : GS} {Post : DV → GS → Prop} (h : @exB Tryz.prog ⟨G_skolemref05_Abs.body⟩ (genv0 args G_skolemref05_Abs.ntmps) σ ⟨@gretB G_skolemref05_Abs.results ⟨Post⟩⟩) : GCall Tryz.prog F_skolemref05_Abs args σ Post := gcall_ofB seatfollows Tryz.func124 (by kernel_rfl) c_skolemref05_Abs h
noncomputable abbrev G_skolemlaw06_AigCones : GFun := ⟨94, [(.tmp 6)], (.seq (.region [⟨0, ⟨(some 3), none, (.new .box), [(.tmp 0)]⟩, []⟩, ⟨0, ⟨(some 6), none, (.pure .id), [(.const (.bool false))]⟩, []⟩]) (.seq (.seq (.region [⟨0, ⟨(some 19), none, (.load (.load 2 true)), [(.tmp 3)]⟩, []⟩, ⟨0, ⟨(some 20), none, (.new (.bslice 2 [.nils, .nils] 1 [(0, 2)])), [(.tmp 19)]⟩, []⟩, ⟨0, ⟨(some 21), none, (.call F_skolemlaw06_great), [(.tmp 20)]⟩, []⟩, ⟨0, ⟨(some 22), none, (.pure .id), [(.tmp 21)]⟩, []⟩, ⟨0, ⟨(some 23), (some (22, false)), (.pure .id), [(.tmp 1)]⟩, []⟩, ⟨0, ⟨(some 24), (some (22, false)), (.pure .len), [(.tmp 23)]⟩, []⟩, ⟨0, ⟨(some 25), (some (22, false)), (.pure (.bin .gtr .none)), [(.tmp 24), (.const (.int .i64 100))]⟩, []⟩, ⟨0, ⟨(some 26), none, (.pure .pick), [(.tmp 22), (.const (.bool true)), (.tmp 25)]⟩, []⟩, ⟨0, ⟨(some 27), none, (.pure .id), [(.tmp 26)]⟩, []⟩, ⟨0, ⟨(some 28), (some (27, false)), (.pure .id), [(.tmp 2)]⟩, []⟩, ⟨0, ⟨(some 29), (some (27, false)), (.pure .len), [(.tmp 28)]⟩, []⟩, ⟨0, ⟨(some 30), (some (27, false)), (.pure (.bin .gtr .none)), [(.tmp 29), (.const (.int .i64 200))]⟩, []⟩, ⟨0, ⟨(some 31), none, (.pure .pick), [(.tmp 27), (.const (.bool true)), (.tmp 30)]⟩, []⟩]) (.cond (.tmp 31) (.seq (.region [⟨0, ⟨(some 32), none, (.call F_skolemlaw06_works), []⟩, []⟩, ⟨0, ⟨(some 6), none, (.pure .id), [(.tmp 32)]⟩, []⟩]) .ret) .skip)) (.seq (.region [⟨0, ⟨(some 34), none, (.load (.load 2 true)), [(.tmp 3)]⟩, []⟩, ⟨0, ⟨(some 35), none, (.pure .id), [(.tmp 1)]⟩, []⟩, ⟨0, ⟨(some 36), none, (.call F_aig_Cone), [(.tmp 34), (.tmp 35)]⟩, []⟩, ⟨0, ⟨(some 33), none, (.pure .id), [(.tmp 36)]⟩, []⟩, ⟨0, ⟨(some 37), none, (.pure (.extract 0)), [(.tmp 33)]⟩, []⟩, ⟨0, ⟨(some 38), none, (.pure (.extract 1)), [(.tmp 33)]⟩, []⟩, ⟨0, ⟨(some 39), none, (.pure (.extract 2)), [(.tmp 33)]⟩, []⟩, ⟨0, ⟨(some 7), none, (.new (.alloc [.nils, .nils])), []⟩, []⟩, ⟨0, ⟨none, none, (.imp (.store 2)), [(.tmp 7), (.tmp 37)]⟩, []⟩, ⟨0, ⟨(some 8), none, (.pure .id), [(.tmp 38)]⟩, []⟩, ⟨0, ⟨(some 9), none, (.pure .id), [(.tmp 39)]⟩, []⟩]) (.seq (.region [⟨0, ⟨(some 41), none, (.load (.load 2 true)), [(.tmp 3)]⟩, []⟩, ⟨0, ⟨(some 42), none, (.pure .id), [(.tmp 1)]⟩, []⟩, ⟨0, ⟨(some 43), none, (.call F_skolemref06_Cone), [(.tmp 41), (.tmp 42)]⟩, []⟩, ⟨0, ⟨(some 40), none, (.pure .id), [(.tmp 43)]⟩, []⟩, ⟨0, ⟨(some 44), none, (.pure (.extract 0)), [(.tmp 40)]⟩, []⟩, ⟨0, ⟨(some 45), none, (.pure (.extract 1)), [(.tmp 40)]⟩, []⟩, ⟨0, ⟨(some 46), none, (.pure (.extract 2)), [(.tmp 40)]⟩, []⟩, ⟨0, ⟨(some 10), none, (.new (.alloc [.nils, .nils])), []⟩, []⟩, ⟨0, ⟨none, none, (.imp (.store 2)), [(.tmp 10), (.tmp 44)]⟩, []⟩, ⟨0, ⟨(some 11), none, (.pure .id), [(.tmp 45)]⟩, []⟩, ⟨0, ⟨(some 12), none, (.pure .id), [(.tmp 46)]⟩, []⟩]) (.seq (.region [⟨0, ⟨(some 48), none, (.load (.load 2 true)), [(.tmp 3)]⟩, []⟩, ⟨0, ⟨(some 49), none, (.pure .id), [(.tmp 1)]⟩, []⟩, ⟨0, ⟨(some 50), none, (.pure .id), [(.tmp 2)]⟩, []⟩, ⟨0, ⟨(some 51), none, (.call F_aig_Restrict), [(.tmp 48), (.tmp 49), (.tmp 50)]⟩, []⟩, ⟨0, ⟨(some 47), none, (.pure .id), [(.tmp 51)]⟩, []⟩, ⟨0, ⟨(some 52), none, (.pure (.extract 0)), [(.tmp 47)]⟩, []⟩, ⟨0, ⟨(some 53), none, (.pure (.extract 1)), [(.tmp 47)]⟩, []⟩, ⟨0, ⟨(some 54), none, (.pure (.extract 2)), [(.tmp 47)]⟩, []⟩, ⟨0, ⟨(some 13), none, (.new (.alloc [.nils, .nils])), []⟩, []⟩, ⟨0, ⟨none, none, (.imp (.store 2)), [(.tmp 13), (.tmp 52)]⟩, []⟩, ⟨0, ⟨(some 14), none, (.pure .id), [(.tmp 53)]⟩, []⟩, ⟨0, ⟨(some 15), none, (.pure .id), [(.tmp 54)]⟩, []⟩]) (.seq (.region [⟨0, ⟨(some 56), none, (.load (.load 2 true)), [(.tmp 3)]⟩, []⟩, ⟨0, ⟨(some 57), none, (.pure .id), [(.tmp 1)]⟩, []⟩, ⟨0, ⟨(some 58), none, (.pure .id), [(.tmp 2)]⟩, []⟩, ⟨0, ⟨(some 59), none, (.call F_skolemref06_Restrict), [(.tmp 56), (.tmp 57), (.tmp 58)]⟩, []⟩, ⟨0, ⟨(some 55), none, (.pure .id), [(.tmp 59)]⟩, []⟩, ⟨0, ⟨(some 60), none, (.pure (.extract 0)), [(.tmp 55)]⟩, []⟩, ⟨0, ⟨(some 61), none, (.pure (.extract 1)), [(.tmp 55)]⟩, []⟩, ⟨0, ⟨(some 62), none, (.pure (.extract 2)), [(.tmp 55)]⟩, []⟩, ⟨0, ⟨(some 16), none, (.new (.alloc [.nils, .nils])), []⟩, []⟩, ⟨0, ⟨none, none, (.imp (.store 2)), [(.tmp 16), (.tmp 60)]⟩, []⟩, ⟨0, ⟨(some 17), none, (.pure .id), [(.tmp 61)]⟩, []⟩, ⟨0, ⟨(some 18), none, (.pure .id), [(.tmp 62)]⟩, []⟩]) (.seq (.region [⟨0, ⟨(some 63), none, (.load (.load 2 true)), [(.tmp 7)]⟩, []⟩, ⟨0, ⟨(some 64), none, (.load (.load 2 true)), [(.tmp 10)]⟩, []⟩, ⟨0, ⟨(some 65), none, (.call F_skolemref06_Same), [(.tmp 63), (.tmp 64)]⟩, []⟩, ⟨0, ⟨(some 66), none, (.pure .id), [(.tmp 65)]⟩, []⟩, ⟨0, ⟨(some 67), (some (66, true)), (.pure .id), [(.tmp 8)]⟩, []⟩, ⟨0, ⟨(some 68), (some (66, true)), (.pure .id), [(.tmp 11)]⟩, []⟩, ⟨0, ⟨(some 69), (some (66, true)), (.call F_skolemref05_Ints), [(.tmp 67), (.tmp 68)]⟩, []⟩, ⟨0, ⟨(some 70), none, (.pure .pick), [(.tmp 66), (.tmp 69), (.const (.bool false))]⟩, []⟩, ⟨0, ⟨(some 71), none, (.pure .id), [(.tmp 70)]⟩, []⟩, ⟨0, ⟨(some 72), (some (71, true)), (.pure .id), [(.tmp 9)]⟩, []⟩, ⟨0, ⟨(some 73), (some (71, true)), (.pure .id), [(.tmp 12)]⟩, []⟩, ⟨0, ⟨(some 74), (some (71, true)), (.pure (.bin .eql .none)), [(.tmp 72), (.tmp 73)]⟩, []⟩, ⟨0, ⟨(some 75), none, (.pure .pick), [(.tmp 71), (.tmp 74), (.const (.bool false))]⟩, []⟩, ⟨0, ⟨(some 76), none, (.pure .id), [(.tmp 75)]⟩, []⟩, ⟨0, ⟨(some 77), (some (76, true)), (.load (.load 2 true)), [(.tmp 13)]⟩, []⟩, ⟨0, ⟨(some 78), (some (76, true)), (.load (.load 2 true)), [(.tmp 16)]⟩, []⟩, ⟨0, ⟨(some 79), (some (76, true)), (.call F_skolemref06_Same), [(.tmp 77), (.tmp 78)]⟩, []⟩, ⟨0, ⟨(some 80), none, (.pure .pick), [(.tmp 76), (.tmp 79), (.const (.bool false))]⟩, []⟩, ⟨0, ⟨(some 81), none, (.pure .id), [(.tmp 80)]⟩, []⟩, ⟨0, ⟨(some 82), (some (81, true)), (.pure .id), [(.tmp 14)]⟩, []⟩, ⟨0, ⟨(some 83), (some (81, true)), (.pure .id), [(.tmp 17)]⟩, []⟩, ⟨0, ⟨(some 84), (some (81, true)), (.call F_skolemref05_Ints), [(.tmp 82), (.tmp 83)]⟩, []⟩, ⟨0, ⟨(some 85), none, (.pure .pick), [(.tmp 81), (.tmp 84), (.const (.bool false))]⟩, []⟩, ⟨0, ⟨(some 86), none, (.pure .id), [(.tmp 85)]⟩, []⟩, ⟨0, ⟨(some 87), (some (86, true)), (.pure .id), [(.tmp 15)]⟩, []⟩, ⟨0, ⟨(some 88), (some (86, true)), (.pure .id), [(.tmp 18)]⟩, []⟩, ⟨0, ⟨(some 89), (some (86, true)), (.pure (.bin .eql .none)), [(.tmp 87), (.tmp 88)]⟩, []⟩, ⟨0, ⟨(some 90), none, (.pure .pick), [(.tmp 86), (.tmp 89), (.const (.bool false))]⟩, []⟩, ⟨0, ⟨(some 91), none, (.pure .id), [(.tmp 90)]⟩, []⟩, ⟨0, ⟨(some 92), (some (91, true)), (.call F_skolemlaw06_works), []⟩, []⟩, ⟨0, ⟨(some 93), none, (.pure .pick), [(.tmp 91), (.tmp 92), (.const (.bool false))]⟩, []⟩, ⟨0, ⟨(some 6), none, (.pure .id), [(.tmp 93)]⟩, []⟩]) .ret)))))))⟩
theorem c_skolemlaw06_AigCones : compF Tryz.prog Tryz.f3 = some G_skolemlaw06_AigCones := by kernel_rfl
theorem gc_skolemlaw06_AigCones {args : List DV} {σ : GS} {Post : DV → GS → Prop} (h : @exB Tryz.prog ⟨G_skolemlaw06_AigCones.body⟩ (genv0 args G_skolemlaw06_AigCones.ntmps) σ ⟨@gretB G_skolemlaw06_AigCones.results ⟨Post⟩⟩) : GCall Tryz.prog F_skolemlaw06_AigCones args σ Post := gcall_ofB seatfollows Tryz.func3 (by kernel_rfl) c_skolemlaw06_AigCones h
noncomputable abbrev G_skolemlaw06_great : GFun := ⟨22, [(.tmp 2)], (.seq (.region [⟨0, ⟨(some 2), none, (.pure .id), [(.const (.bool false))]⟩, []⟩]) (.seq (.seq (.region [⟨0, ⟨(some 5), none, (.pure .id), [(.tmp 0)]⟩, []⟩, ⟨0, ⟨(some 6), none, (.pure .len), [(.tmp 5)]⟩, []⟩, ⟨0, ⟨(some 7), none, (.pure .id), [(.const (.int .i64 0))]⟩, []⟩]) (.block 0 (.loop (.seq (.region [⟨0, ⟨(some 8), none, (.pure (.bin .lss .none)), [(.tmp 7), (.tmp 6)]⟩, []⟩]) (.seq (.cond (.tmp 8) .skip (.exit 0)) (.seq (.block 1 (.seq (.region [⟨0, ⟨(some 9), none, (.pure (.iaddr 2)), [(.tmp 5), (.tmp 7)]⟩, []⟩, ⟨0, ⟨(some 10), none, (.load (.load 2 true)), [(.tmp 9)]⟩, []⟩, ⟨0, ⟨(some 4), none, (.new (.alloc [.nils, .nils])), []⟩, []⟩, ⟨0, ⟨none, none, (.imp (.store 2)), [(.tmp 4), (.tmp 10)]⟩, []⟩]) (.seq (.region [⟨0, ⟨(some 11), none, (.pure (.faddr 1)), [(.tmp 4)]⟩, []⟩, ⟨0, ⟨(some 12), none, (.load (.load 1 false)), [(.tmp 11)]⟩, []⟩, ⟨0, ⟨(some 13), none, (.pure .len), [(.tmp 12)]⟩, []⟩, ⟨0, ⟨(some 14), none, (.pure (.bin .gtr .none)), [(.tmp 13), (.const (.int .i64 600))]⟩, []⟩, ⟨0, ⟨(some 15), none, (.pure .id), [(.tmp 14)]⟩, []⟩, ⟨0, ⟨(some 16), (some (15, false)), (.pure (.faddr 0)), [(.tmp 4)]⟩, []⟩, ⟨0, ⟨(some 17), (some (15, false)), (.load (.load 1 false)), [(.tmp 16)]⟩, []⟩, ⟨0, ⟨(some 18), (some (15, false)), (.pure .len), [(.tmp 17)]⟩, []⟩, ⟨0, ⟨(some 19), (some (15, false)), (.pure (.bin .gtr .none)), [(.tmp 18), (.const (.int .i64 100))]⟩, []⟩, ⟨0, ⟨(some 20), none, (.pure .pick), [(.tmp 15), (.const (.bool true)), (.tmp 19)]⟩, []⟩]) (.cond (.tmp 20) (.seq (.region [⟨0, ⟨(some 2), none, (.pure .id), [(.const (.bool true))]⟩, []⟩]) .ret) .skip)))) (.region [⟨0, ⟨(some 21), none, (.pure (.bin .add .none)), [(.tmp 7), (.const (.int .i64 1))]⟩, []⟩, ⟨0, ⟨(some 7), none, (.pure .id), [(.tmp 21)]⟩, []⟩]))))))) (.seq (.region [⟨0, ⟨(some 2), none, (.pure .id), [(.const (.bool false))]⟩, []⟩]) .ret)))⟩
theorem c_skolemlaw06_great : compF Tryz.prog Tryz.f10 = some G_skolemlaw06_great := by kernel_rfl
theorem gc_skolemlaw06_great {args : List DV} {σ : GS} {Post : DV → GS → Prop} (h : @exB Tryz.prog ⟨G_skolemlaw06_great.body⟩ (genv0 args G_skolemlaw06_great.ntmps) σ ⟨@gretB G_skolemlaw06_great.results ⟨Post⟩⟩) : GCall Tryz.prog F_skolemlaw06_great args σ Post := gcall_ofB seatfollows Tryz.func10 (by kernel_rfl) c_skolemlaw06_great h
end Go.Gh
namespace Go.Gh
open Go.RowKit Go.Proofs
set_option linter.unusedVariables false
set_option linter.unusedSimpArgs false
set_option maxRecDepth 100000
theorem tdiv_two {a : Int} (h : 0 ≤ a) : a.tdiv 2 = a / 2 := Int.tdiv_eq_ediv_of_nonneg h
theorem tmod_two {a : Int} (h : 0 ≤ a) : a.tmod 2 = a % 2 := Int.tmod_eq_emod_of_nonneg h
theorem ref_Nodes_ok {g : AigP} {σ : GS} {Post : DV → GS → Prop} (hs : g.Sm) (h : Post (.int .i64 g.nodes) σ) : GCall Tryz.prog F_skolemref06_Nodes [g.enc] σ Post := by
  have h1 := hs.ins
  have h2 := hs.ands
  refine GCall.say (r := .int .i64 g.nodes) ?_ rfl h
  refine gc_skolemref06_Nodes ?_
  simp [G_skolemref06_Nodes, genv0, List.replicate]
  have e1 : IntKind.i64.wrap (1 + (g.ins.length : Int)) = 1 + g.ins.length := by rw [wrap_small] <;> omega
  rw [e1, wrap_small] <;> first | (simp [AigP.nodes]; done) | omega
theorem ref_Inputs_ok {ins : List Int} {σ : GS} {Post : DV → GS → Prop} (hl : ins.length < 2 ^ 50) (h : Post (.bool (insOk 0 ins)) σ) : GCall Tryz.prog F_skolemref06_Inputs [fints ins] σ Post := by
  refine gc_skolemref06_Inputs ?_
  simp [G_skolemref06_Inputs, genv0, List.replicate]
  refine gfor ins.length (fun i e σ' => σ' = σ ∧ (∃ last, insOk 0 ins = insOk last (ins.drop i) ∧ (i = 0 → last = 0) ∧ ∀ j, j + 1 = i → ins[j]? = some last) ∧ e = mkEnv 38 [(0, fints ins), (3, .int .i64 i)]) _ ?_ ⟨rfl, ⟨0, by simp, fun _ => rfl, fun j h => by omega⟩, rfl⟩ ?_
  · simp [mkEnv, List.replicate]
  rintro i _ _ hi ⟨rfl, ⟨last, hI, hl0, hl1⟩, rfl⟩
  simp [mkEnv, List.replicate]
  by_cases hlt : i < ins.length
  · obtain ⟨y, hy⟩ := nth_lt hlt
    rw [drop_get hy] at hI
    have es : IntKind.i64.wrap ((i : Int) + 1) = (i : Int) + 1 := by rw [wrap_small] <;> omega
    by_cases h1 : y < 1
    · have hv : isVar y = false := by unfold isVar; simp; omega
      simp [hlt, hy, h1]
      simpa [hI, insOk, hv] using h
    by_cases h2 : 65536 < y
    · have hv : isVar y = false := by unfold isVar; simp; omega
      simp [hlt, hy, h1, h2]
      simpa [hI, insOk, hv] using h
    have hv : isVar y = true := by unfold isVar; simp; omega
    cases i with
    | zero =>
      have := hl0 rfl
      subst this
      have h3 : 0 < y := by omega
      simp [hlt, hy, h1, h2]
      refine forK_go _ hlt (by simp [mkEnv, List.replicate]) ⟨rfl, ⟨y, by simp [hI, insOk, hv, h3], fun e => by omega, fun j hj => ?_⟩, rfl⟩
      have : j = 0 := by omega
      subst this; exact nth_get hy
    | succ i =>
      have hp := hl1 i rfl
      have hp' : nth ins i = some last := hp
      have ew : IntKind.i64.wrap (((i + 1 : Nat) : Int) - 1) = i := by rw [wrap_small] <;> omega
      have ew' : IntKind.i64.wrap (i : Int) = i := by rw [wrap_small] <;> omega
      have hge : (0 : Int) ≤ (i : Int) + 1 := by omega
      have hgt : (0 : Int) < (i : Int) + 1 := by omega
      have htn : ((i : Int) + 1).toNat = i + 1 := by omega
      have es2 : IntKind.i64.wrap ((i : Int) + 1 + 1) = (i : Int) + 1 + 1 := by rw [wrap_small] <;> omega
      by_cases h4 : y ≤ last
      · have h5 : ¬ last < y := by omega
        simp [hlt, hy, h1, h2, hge, hgt, htn, ew, ew', hp', h4]
        simpa [hI, insOk, hv, h5] using h
      · have h5 : last < y := by omega
        simp [hlt, hy, h1, h2, hge, hgt, htn, ew, ew', hp', h4, es2]
        refine forK_go _ hlt (by simp [mkEnv, List.replicate]) ⟨rfl, ⟨y, by simp [hI, insOk, hv, h5], fun e => by omega, fun j hj => ?_⟩, rfl⟩
        have : j = i + 1 := by omega
        subst this; exact nth_get hy
  · have : i = ins.length := by omega
    subst this
    simp
    simpa [hI, insOk] using h
theorem ref_May_ok {g : AigP} {σ : GS} {Post : DV → GS → Prop} (hs : g.Sm) (h : Post (.bool g.may) σ) : GCall Tryz.prog F_skolemref06_May [g.enc] σ Post := by
  have h1 := hs.ins
  have h2 := hs.ands
  refine GCall.say (r := .bool g.may) ?_ rfl h
  refine gc_skolemref06_May ?_
  simp [G_skolemref06_May, genv0, List.replicate]
  refine ref_Inputs_ok h1 ?_
  by_cases g1 : insOk 0 g.ins = true
  · simp [g1]
    refine ref_Nodes_ok hs ?_
    by_cases g2 : (200000 : Int) < g.nodes
    · have : ¬ g.nodes ≤ 200000 := by omega
      simp [g2, AigP.may, this]
    · have g2' : g.nodes ≤ 200000 := by omega
      simp [g2]
      refine gfor g.ands.length (fun i e σ' => σ' = σ ++ [.row false [fints g.ins, fands g.ands]] ∧ g.may = andsOk (2 * (1 + g.ins.length + i)) (g.ands.drop i) ∧ e = mkEnv 52 [(1, .ptr σ.length 0), (3, .int .i64 i)]) _ ?_ ⟨rfl, by simp [AigP.may, g1, g2'], rfl⟩ ?_
      · simp [mkEnv, List.replicate]
      rintro i _ _ hi ⟨rfl, hI, rfl⟩
      simp [mkEnv, List.replicate]
      by_cases hlt : i < g.ands.length
      · obtain ⟨p, hp⟩ := nth_lt hlt
        rw [drop_get hp] at hI
        have e1 : IntKind.i64.wrap (1 + (g.ins.length : Int)) = 1 + g.ins.length := by rw [wrap_small] <;> omega
        have e2 : IntKind.i64.wrap (1 + (g.ins.length : Int) + i) = 1 + g.ins.length + i := by rw [wrap_small] <;> omega
        have e3 : IntKind.i64.wrap (2 * (1 + (g.ins.length : Int) + i)) = 2 * (1 + g.ins.length + i) := by rw [wrap_small] <;> omega
        have es : IntKind.i64.wrap ((i : Int) + 1) = (i : Int) + 1 := by rw [wrap_small] <;> omega
        simp [hlt, e1, e2, e3]
        obtain ⟨M, hM⟩ : ∃ M, 2 * (1 + (g.ins.length : Int) + i) = M := ⟨_, rfl⟩
        rw [hM] at hI ⊢
        refine gfor 2 (fun j e σ' => σ' = σ ++ [.row false [fints g.ins, fands g.ands]] ∧ (1 ≤ j → 0 ≤ p.1 ∧ p.1 < M) ∧ (2 ≤ j → 0 ≤ p.2 ∧ p.2 < M) ∧ e = mkEnv 52 [(1, .ptr σ.length 0), (3, .int .i64 i), (4, .int .i64 M), (5, .int .i64 j)]) _ ?_ ⟨rfl, fun h => by omega, fun h => by omega, rfl⟩ ?_
        · simp [mkEnv, List.replicate]
        rintro j _ _ hj ⟨rfl, j1, j2, rfl⟩
        simp [mkEnv, List.replicate]
        have hcase : j = 0 ∨ j = 1 ∨ j = 2 := by omega
        rcases hcase with rfl | rfl | rfl
        · by_cases a1 : p.1 < 0
          · have : ¬ 0 ≤ p.1 := by omega
            simp [hp, a1]
            simpa [andsOk, this] using hI.symm
          · by_cases a2 : M ≤ p.1
            · have : ¬ p.1 < M := by omega
              simp [hp, a1, a2]
              simpa [andsOk, this] using hI.symm
            · simp [hp, a1, a2]
              exact forK_go _ (by omega) (by simp [mkEnv, List.replicate]) ⟨rfl, fun _ => by omega, fun h => by omega, rfl⟩
        · have := j1 (by omega)
          by_cases a1 : p.2 < 0
          · have : ¬ 0 ≤ p.2 := by omega
            simp [hp, a1]
            simpa [andsOk, this] using hI.symm
          · by_cases a2 : M ≤ p.2
            · have : ¬ p.2 < M := by omega
              simp [hp, a1, a2]
              simpa [andsOk, this] using hI.symm
            · have ew : IntKind.i64.wrap 2 = 2 := by decide
              simp [hp, a1, a2, ew]
              exact forK_go _ (by omega) (by simp [mkEnv, List.replicate]) ⟨rfl, fun _ => this, fun _ => by omega, rfl⟩
        · have b1 := j1 (by omega)
          have b2 := j2 (by omega)
          simp [es]
          refine forK_go _ hlt (by simp [mkEnv, List.replicate]) ⟨rfl, ?_, rfl⟩
          rw [hI]
          simp [andsOk, b1, b2]
          rw [← hM]
          congr 1
      · have : i = g.ands.length := by omega
        subst this
        simp
        simpa [andsOk] using hI
  · simp [g1, AigP.may]
theorem ref_has_ok {g : AigP} {e : Int} {σ : GS} {Post : DV → GS → Prop} (hs : g.Sm) (h : Post (.bool (g.has e)) σ) : GCall Tryz.prog F_skolemref06_has [g.enc, .int .i64 e] σ Post := by
  have h1 := hs.ins
  have h2 := hs.ands
  have hn : g.nodes = 1 + g.ins.length + g.ands.length := rfl
  refine GCall.say (r := .bool (g.has e)) ?_ rfl h
  refine gc_skolemref06_has ?_
  have ew : IntKind.i64.wrap (2 * (g.nodes : Int)) = 2 * g.nodes := by rw [wrap_small] <;> omega
  by_cases c : 0 ≤ e
  · simp [G_skolemref06_has, genv0, List.replicate, c]
    refine ref_Nodes_ok hs ?_
    simp [ew, AigP.has, c]
  · simp [G_skolemref06_has, genv0, List.replicate, c, AigP.has]
theorem ref_HasAll_ok {g : AigP} {l : List Int} {σ : GS} {Post : DV → GS → Prop} (hs : g.Sm) (hl : l.length < 2 ^ 60) (h : Post (.bool (g.all l)) σ) : GCall Tryz.prog F_skolemref06_HasAll [g.enc, fints l] σ Post := by
  refine GCall.say (r := .bool (g.all l)) ?_ rfl h
  refine gc_skolemref06_HasAll ?_
  simp [G_skolemref06_HasAll, genv0, List.replicate]
  refine ref_May_ok hs ?_
  by_cases hm : g.may = true
  · simp [hm]
    refine gfor l.length (fun i e σ' => σ' = σ ++ [.row false [fints g.ins, fands g.ands]] ∧ g.all l = (l.drop i).all g.has ∧ e = mkEnv 22 [(1, fints l), (2, .ptr σ.length 0), (5, .int .i64 i)]) _ ?_ ⟨rfl, by simp [AigP.all, hm], rfl⟩ ?_
    · simp [mkEnv, List.replicate]
    rintro i _ _ hi ⟨rfl, hI, rfl⟩
    simp [mkEnv, List.replicate]
    by_cases hlt : i < l.length
    · obtain ⟨y, hy⟩ := nth_lt hlt
      rw [drop_get hy] at hI
      have es : IntKind.i64.wrap ((i : Int) + 1) = (i : Int) + 1 := by rw [wrap_small] <;> omega
      simp [hlt, hy]
      refine ref_has_ok hs ?_
      by_cases c : g.has y = true
      · simp [c, es]
        exact forK_go _ hlt (by simp [mkEnv, List.replicate]) ⟨rfl, by rw [hI]; simp [c], rfl⟩
      · simp [c]
        rw [hI]; simp [c]
    · have : i = l.length := by omega
      subst this
      simp
      simpa using hI
  · simp [hm, AigP.all]
theorem ref_Not_ok {e : Int} {σ : GS} {Post : DV → GS → Prop} (h0 : 0 ≤ e) (h1 : e < 2 ^ 62) (h : Post (.int .i64 (notE e)) σ) : GCall Tryz.prog F_skolemref06_Not [.int .i64 e] σ Post := by
  refine gc_skolemref06_Not ?_
  have e1 : IntKind.i64.wrap (e + 1) = e + 1 := by rw [wrap_small] <;> omega
  have e2 : IntKind.i64.wrap (2 * (e % 2)) = 2 * (e % 2) := by rw [wrap_small] <;> omega
  have e3 : IntKind.i64.wrap (e + 1 - 2 * (e % 2)) = e + 1 - 2 * (e % 2) := by rw [wrap_small] <;> omega
  simp [G_skolemref06_Not, genv0, List.replicate, tmod_two h0, e1, e2, e3]
  exact h
theorem idxF_skip {p : (Int × Int) → Bool} : ∀ {l : List (Int × Int)} {k j : Nat}, j ≤ l.length → (∀ i x, i < j → l[i]? = some x → p x = false) → idxF p k l = idxF p (k + j) (l.drop j)
  | l, k, 0, _, _ => by simp
  | [], k, j + 1, h, _ => by simp at h
  | x :: l, k, j + 1, h, hp => by
    have h0 := hp 0 x (by omega) rfl
    simp only [idxF, h0, Bool.false_eq_true, if_false, List.drop_succ_cons]
    rw [idxF_skip (j := j) (by simpa using h) fun i y hi hy => hp (i + 1) y (by omega) (by simpa using hy)]
    congr 1; omega
theorem ref_find_ok {g : AigP} {a b : Int} {σ : GS} {Post : DV → GS → Prop} (hs : g.Sm) (hok : andsOk (2 * (1 + g.ins.length)) g.ands = true) (hb0 : 0 ≤ b) (hb1 : b < 2 ^ 60) (h : Post (.int .i64 (idxF (fun p => decide (p = (a, b))) 0 g.ands)) σ) : GCall Tryz.prog F_skolemref06_find [g.enc, .int .i64 a, .int .i64 b] σ Post := by
  have h1 := hs.ins
  have h2 := hs.ands
  refine GCall.say (r := .int .i64 (idxF (fun p => decide (p = (a, b))) 0 g.ands)) ?_ rfl h
  refine gc_skolemref06_find ?_
  have ew : IntKind.i64.wrap (b / 2) = b / 2 := by rw [wrap_small] <;> omega
  have ew2 : IntKind.i64.wrap (b / 2 - (g.ins.length : Int)) = b / 2 - g.ins.length := by rw [wrap_small] <;> omega
  obtain ⟨k0, hk0⟩ : ∃ k0 : Nat, max 0 (b / 2 - (g.ins.length : Int)) = k0 := ⟨(max 0 (b / 2 - (g.ins.length : Int))).toNat, by omega⟩
  simp [G_skolemref06_find, genv0, List.replicate, tdiv_two hb0, ew, ew2, hk0]
  have hgo : ∀ i, k0 ≤ i → i ≤ g.ands.length → True := fun _ _ _ => trivial
  refine gwhile (mkEnv 41 [(1, .int .i64 a), (2, .int .i64 b), (3, .ptr σ.length 0), (7, .int .i64 k0)]) (g.ands.length - k0) (fun m e σ' => ∃ i : Nat, σ' = σ ++ [.row false [fints g.ins, fands g.ands]] ∧ m = g.ands.length - i ∧ (i ≤ g.ands.length → idxF (fun p => decide (p = (a, b))) 0 g.ands = idxF (fun p => decide (p = (a, b))) i (g.ands.drop i)) ∧ (g.ands.length < i → idxF (fun p => decide (p = (a, b))) 0 g.ands = -1) ∧ e = mkEnv 41 [(1, .int .i64 a), (2, .int .i64 b), (3, .ptr σ.length 0), (7, .int .i64 i)]) ?_ ⟨k0, rfl, rfl, ?_, ?_, rfl⟩ ?_
  · simp [mkEnv, List.replicate]
  · intro hk
    have := idxF_skip (p := fun p => decide (p = (a, b))) (k := 0) hk fun i x hi hx => by
      have := andsOk_get hok hx
      simp only [decide_eq_false_iff_not]
      rintro rfl
      simp only at this
      omega
    simpa using this
  · intro hk
    rcases idxF_cases (fun p => decide (p = (a, b))) g.ands 0 with ⟨h3, _⟩ | ⟨i, x, h3, h4, h5, _⟩
    · exact h3
    · have hi := get_dom h4
      have := andsOk_get hok h4
      simp at h5; subst h5
      simp only at this
      omega
  rintro m _ _ ⟨i, rfl, rfl, hI, hI2, rfl⟩
  simp [mkEnv, List.replicate]
  by_cases hlt : i < g.ands.length
  · obtain ⟨p, hp⟩ := nth_lt hlt
    have hI := hI (by omega)
    rw [drop_get hp] at hI
    have es : IntKind.i64.wrap ((i : Int) + 1) = ((i + 1 : Nat) : Int) := wrap_suc (by omega)
    simp only [idxF] at hI
    by_cases c1 : p.1 = a
    · by_cases c2 : p.2 = b
      · have hp2 : p = (a, b) := by rw [← c1, ← c2]
        rw [if_pos (by simp [hp2])] at hI
        simp [hlt, hp, c1, c2]
        exact hI.symm
      · rw [if_neg (by simp; rintro rfl; exact c2 rfl)] at hI
        simp [hlt, hp, c1, c2, es]
        exact whK_go (g.ands.length - (i + 1)) _ (by omega) (by simp [mkEnv, List.replicate]) ⟨i + 1, rfl, rfl, fun _ => hI, fun h => by omega, rfl⟩
    · rw [if_neg (by simp; rintro rfl; exact c1 rfl)] at hI
      simp [hlt, hp, c1, es]
      exact whK_go (g.ands.length - (i + 1)) _ (by omega) (by simp [mkEnv, List.replicate]) ⟨i + 1, rfl, rfl, fun _ => hI, fun h => by omega, rfl⟩
  · simp [hlt]
    rcases Nat.lt_or_ge g.ands.length i with h3 | h3
    · exact (hI2 h3).symm
    · have : i = g.ands.length := by omega
      subst this
      have := hI (Nat.le_refl _)
      simp [idxF] at this
      exact this.symm
theorem ref_Edge_ok {g : AigP} {v : Int} {σ : GS} {Post : DV → GS → Prop} (hl : g.ins.length < 2 ^ 50) (h : Post (.int .i64 (edgeOf g.ins v)) σ) : GCall Tryz.prog F_skolemref06_Edge [g.enc, .int .i64 v] σ Post := by
  refine GCall.say (r := .int .i64 (edgeOf g.ins v)) ?_ rfl h
  refine gc_skolemref06_Edge ?_
  simp [G_skolemref06_Edge, genv0, List.replicate]
  refine gfor g.ins.length (fun i e σ' => σ' = σ ++ [.row false [fints g.ins, fands g.ands]] ∧ idxF (fun x => decide (x = v)) 0 g.ins = idxF (fun x => decide (x = v)) i (g.ins.drop i) ∧ e = mkEnv 23 [(1, .int .i64 v), (2, .ptr σ.length 0), (5, .int .i64 i)]) _ ?_ ⟨rfl, by simp, rfl⟩ ?_
  · simp [mkEnv, List.replicate]
  rintro i _ _ hi ⟨rfl, hI, rfl⟩
  simp [mkEnv, List.replicate]
  by_cases hlt : i < g.ins.length
  · obtain ⟨y, hy⟩ := nth_lt hlt
    rw [drop_get hy] at hI
    simp only [idxF, decide_eq_true_eq] at hI
    have es : IntKind.i64.wrap ((i : Int) + 1) = (i : Int) + 1 := by rw [wrap_small] <;> omega
    have ew : IntKind.i64.wrap (2 * ((i : Int) + 1)) = 2 * ((i : Int) + 1) := by rw [wrap_small] <;> omega
    by_cases c : y = v
    · rw [if_pos c] at hI
      simp [hlt, hy, c, es, ew]
      unfold edgeOf
      rw [hI, if_pos (by omega)]
    · rw [if_neg c] at hI
      simp [hlt, hy, c, es]
      exact forK_go _ hlt (by simp [mkEnv, List.replicate]) ⟨rfl, hI, rfl⟩
  · have : i = g.ins.length := by omega
    subst this
    simp [idxF] at hI
    simp
    unfold edgeOf
    rw [hI]; rfl
theorem ref_edges_ok {g : AigP} {vars : List Int} {σ : GS} {Post : DV → GS → Prop} (hl : g.ins.length < 2 ^ 40) (hv : vars.length < 2 ^ 40) (h : Post (fints (vars.map (edgeOf g.ins))) σ) : GCall Tryz.prog F_skolemref06_edges [g.enc, fints vars] σ Post := by
  refine GCall.pure (r := fints (vars.map (edgeOf g.ins))) ?_ (by simp) h
  refine gc_skolemref06_edges ?_
  simp [G_skolemref06_edges, genv0, List.replicate]
  refine gfor vars.length (fun i e σ' => Fr σ.length σ σ' ∧ σ'[σ.length]? = some (.row false [fints g.ins, fands g.ands]) ∧ ∃ s, Own (σ.length + 1) 1 eint σ' s ((vars.take i).map (edgeOf g.ins)) ∧ e = mkEnv 23 [(1, fints vars), (2, .ptr σ.length 0), (5, s), (6, .int .i64 i)]) _ ?_ ⟨Fr.self _, by simp, .nils, .nil, rfl⟩ ?_
  · simp [mkEnv, List.replicate]
  rintro i _ σ' hi ⟨hF, hA, s, hs, rfl⟩
  simp [mkEnv, List.replicate]
  have hld : gload (.load 2 true) [.ptr σ.length 0] σ' = some g.enc := by rw [ld_agg hA]; rfl
  by_cases hlt : i < vars.length
  · obtain ⟨y, hy⟩ := nth_lt hlt
    have hy' := nth_get hy
    have es : IntKind.i64.wrap ((i : Int) + 1) = (i : Int) + 1 := by rw [wrap_small] <;> omega
    simp [hlt, hy, hld]
    refine ref_Edge_ok (by omega) ?_
    have hal := get_dom hA
    obtain ⟨s', σ1, q1, q2, q3, q4, q5, q6⟩ := hs.push (by_ := 8) (edgeOf g.ins y) (fun _ => rfl) (by simp) (by omega) (by simp; omega) (by decide)
    simp [q1, es]
    exact forK_go _ hlt (by simp [mkEnv, List.replicate]) ⟨hF.trans (q3.mono (by omega)), (q3.get _ (by omega)).trans hA, s', by simpa [take_get hy'] using q2, rfl⟩
  · have : i = vars.length := by omega
    subst this
    rw [List.take_length] at hs
    simp
    exact ⟨hF, hs.rd (fun _ => rfl) fun i hi => .inl (by omega)⟩
theorem ref_Image_ok {T : List Int} {e : Int} {σ : GS} {Post : DV → GS → Prop} (h0 : 0 ≤ e) (h1 : e < 2 * T.length) (hl : T.length < 2 ^ 50) (hT : ∀ t ∈ T, 0 ≤ t ∧ t < 2 ^ 60) (h : Post (.int .i64 (imgE T e)) σ) : GCall Tryz.prog F_skolemref06_Image [fints T, .int .i64 e] σ Post := by
  refine gc_skolemref06_Image ?_
  obtain ⟨t, ht⟩ := nth_lt (l := T) (i := (e / 2).toNat) (by omega)
  have ht' := nth_get ht
  obtain ⟨t0, t1⟩ := hT t (List.mem_of_getElem? ht')
  have h2 : 0 ≤ e / 2 := by omega
  have ew : IntKind.i64.wrap (e / 2) = e / 2 := by rw [wrap_small] <;> omega
  have hi : imgE T e = turnE t e := by unfold imgE; rw [List.getD_eq_getElem?_getD, ht']; rfl
  rw [hi] at h
  unfold turnE at h
  by_cases c : e % 2 = 1
  · rw [if_pos c] at h
    simp [G_skolemref06_Image, genv0, List.replicate, tmod_two h0, tdiv_two h0, c, ew, h2, ht]
    exact ref_Not_ok t0 (by omega) (by simpa using h)
  · rw [if_neg c] at h
    simp [G_skolemref06_Image, genv0, List.replicate, tmod_two h0, tdiv_two h0, c, ew, h2, ht]
    exact h
theorem ref_images_ok {T l : List Int} {σ : GS} {Post : DV → GS → Prop} (hl : T.length < 2 ^ 50) (hll : l.length < 2 ^ 40) (hT : ∀ t ∈ T, 0 ≤ t ∧ t < 2 ^ 60) (he : ∀ e ∈ l, 0 ≤ e ∧ e < 2 * (T.length : Int)) (h : Post (fints (l.map (imgE T))) σ) : GCall Tryz.prog F_skolemref06_images [fints T, fints l] σ Post := by
  refine GCall.pure (r := fints (l.map (imgE T))) ?_ (by simp) h
  refine gc_skolemref06_images ?_
  simp [G_skolemref06_images, genv0, List.replicate]
  refine gfor l.length (fun i e σ' => Fr σ.length σ σ' ∧ ∃ s, Own σ.length 1 eint σ' s ((l.take i).map (imgE T)) ∧ e = mkEnv 23 [(0, fints T), (1, fints l), (5, s), (6, .int .i64 i)]) _ ?_ ⟨.rfl', .nils, .nil, rfl⟩ ?_
  · simp [mkEnv, List.replicate]
  rintro i _ σ' hi ⟨hF, s, hs, rfl⟩
  simp [mkEnv, List.replicate]
  by_cases hlt : i < l.length
  · obtain ⟨y, hy⟩ := nth_lt hlt
    have hy' := nth_get hy
    obtain ⟨y0, y1⟩ := he y (List.mem_of_getElem? hy')
    have es : IntKind.i64.wrap ((i : Int) + 1) = (i : Int) + 1 := by rw [wrap_small] <;> omega
    simp [hlt, hy]
    refine ref_Image_ok y0 y1 hl hT ?_
    obtain ⟨s', σ1, q1, q2, q3, q4, q5, q6⟩ := hs.push (by_ := 8) (imgE T y) (fun _ => rfl) (by simp) hF.len (by simp; omega) (by decide)
    simp [q1, es]
    exact forK_go _ hlt (by simp [mkEnv, List.replicate]) ⟨hF.trans q3, s', by simpa [take_get hy'] using q2, rfl⟩
  · have : i = l.length := by omega
    subst this
    rw [List.take_length] at hs
    simp
    exact ⟨hF, hs.rd (fun _ => rfl) okN⟩
end Go.Gh
namespace Go.Gh
open Go.RowKit Go.Proofs
set_option linter.unusedVariables false
set_option linter.unusedSimpArgs false
set_option maxRecDepth 100000
/-- A reference maker in the heap, its parts named. Its inputs may be frozen. -/
structure RkR (n : Nat) (σ : GS) (id : Nat) (m : Mk) (si sa : DV) : Prop where
  ge : n ≤ id
  row : σ[id]? = some (.row false [si, sa, .bool m.full])
  ins : si = fints m.ins ∨ Own n 1 eint σ si m.ins
  ands : Own n 2 eand σ sa m.ands
  si_id : ¬ si.has id
  sa_id : ¬ sa.has id
  si_sa : ∀ i, si.has i → ¬ sa.has i
def RkO (n : Nat) (σ : GS) (id : Nat) (m : Mk) : Prop := ∃ si sa, RkR n σ id m si sa
def Rt (σ : GS) (id i : Nat) : Prop := i = id ∨ ∃ si sa f, σ[id]? = some (.row false [si, sa, f]) ∧ (si.has i ∨ sa.has i)
structure Rtp (σ : GS) (id : Nat) (σ' : GS) : Prop where
  len : σ.length ≤ σ'.length
  get : ∀ i, i < σ.length → ¬ Rt σ id i → σ'[i]? = σ[i]?
  ft : ∀ i, i < σ.length → ¬ Rt σ id i → ¬ Rt σ' id i
theorem Rtp.refl (σ : GS) (id : Nat) : Rtp σ id σ := ⟨Nat.le_refl _, fun _ _ _ => rfl, fun _ _ h => h⟩
theorem Rtp.trans {a b c : GS} {id : Nat} (h : Rtp a id b) (k : Rtp b id c) : Rtp a id c :=
  ⟨Nat.le_trans h.len k.len, fun i hi hf => (k.get i (by have := h.len; omega) (h.ft i hi hf)).trans (h.get i hi hf), fun i hi hf => k.ft i (by have := h.len; omega) (h.ft i hi hf)⟩
theorem fsl_not_has {sz : Nat} {es : List (List DV)} {i : Nat} : ¬ (DV.fsl sz es).has i := fun ⟨_, _, _, _, e⟩ => by cases e
section
variable {n id : Nat} {σ σ' : GS} {m : Mk} {si sa : DV}
theorem RkR.si_lt (h : RkR n σ id m si sa) {i : Nat} (hi : si.has i) : i < σ.length ∧ n ≤ i := by
  rcases h.ins with e | h1
  · rw [e] at hi; exact absurd hi fsl_not_has
  · exact ⟨h1.has_lt hi, h1.has_ge hi⟩
theorem RkR.ft (h : RkR n σ id m si sa) (i : Nat) : Rt σ id i ↔ i = id ∨ si.has i ∨ sa.has i := by
  unfold Rt
  constructor
  · rintro (h1 | ⟨si', sa', f, h1, h2⟩)
    · exact .inl h1
    · rw [h.row] at h1; cases h1; exact .inr h2
  · rintro (h1 | h2)
    · exact .inl h1
    · exact .inr ⟨_, _, _, h.row, h2⟩
theorem RkR.dom (h : RkR n σ id m si sa) {i : Nat} (hi : Rt σ id i) : i < σ.length ∧ n ≤ i := by
  rcases (h.ft i).1 hi with rfl | h1 | h1
  · exact ⟨get_dom h.row, h.ge⟩
  · exact h.si_lt h1
  · exact ⟨h.ands.has_lt h1, h.ands.has_ge h1⟩
theorem RkR.fit (h : RkR n σ id m si sa) (k : ∀ i, Rt σ id i → σ'[i]? = σ[i]?) : RkR n σ' id m si sa := by
  have k' : ∀ i, (i = id ∨ si.has i ∨ sa.has i) → σ'[i]? = σ[i]? := fun i hi => k i ((h.ft i).2 hi)
  exact ⟨h.ge, (k' id (.inl rfl)).trans h.row, h.ins.imp (fun h => h) fun h1 => h1.fit fun i hi => k' i (.inr (.inl hi)), h.ands.fit fun i hi => k' i (.inr (.inr hi)), h.si_id, h.sa_id, h.si_sa⟩
end
theorem RkO.fit {n id : Nat} {σ σ' : GS} {m : Mk} (h : RkO n σ id m) (k : ∀ i, Rt σ id i → σ'[i]? = σ[i]?) : RkO n σ' id m := by
  obtain ⟨si, sa, h⟩ := h
  exact ⟨_, _, h.fit k⟩
theorem RkO.dom {n id : Nat} {σ : GS} {m : Mk} (h : RkO n σ id m) {i : Nat} (hi : Rt σ id i) : i < σ.length ∧ n ≤ i := by
  obtain ⟨si, sa, h⟩ := h
  exact h.dom hi
theorem RkO.keep {n id : Nat} {σ σ' : GS} {m : Mk} (h : RkO n σ id m) (k : ∀ i, i < σ.length → σ'[i]? = σ[i]?) : RkO n σ' id m := h.fit fun i hi => k i (h.dom hi).1
theorem RkO.app {n id : Nat} {σ : GS} {m : Mk} (h : RkO n σ id m) (τ : GS) : RkO n (σ ++ τ) id m := h.keep fun i hi => List.getElem?_append_left hi
theorem RkO.ft_eq {n id : Nat} {σ σ' : GS} {m : Mk} (h : RkO n σ id m) (k : σ'[id]? = σ[id]?) (i : Nat) : Rt σ' id i ↔ Rt σ id i := by
  unfold Rt; rw [k]
theorem RkO.stp {n id : Nat} {σ σ' : GS} {m : Mk} (h : RkO n σ id m) (hl : σ.length ≤ σ'.length) (k : ∀ i, i < σ.length → σ'[i]? = σ[i]?) : Rtp σ id σ' := by
  refine ⟨hl, fun i hi _ => k i hi, fun i hi hf => ?_⟩
  rwa [h.ft_eq (k id (h.dom (.inl rfl)).1)]
theorem RkR.rd {n id : Nat} {σ : GS} {m : Mk} {si sa : DV} (h : RkR n σ id m si sa) (ok : Nat → Prop) (hok : ∀ i, n ≤ i → ok i) : Rd σ ok (.agg [si, sa]) (AigP.enc ⟨m.ins, m.ands⟩) := by
  have h1 : Rd σ ok si (fints m.ins) := by
    rcases h.ins with e | h1
    · rw [e]; exact .same _
    · exact h1.rd (fun _ => rfl) hok
  exact .agg (.cons h1 (.cons (h.ands.rd (fun _ => rfl) hok) .nil))
theorem RkR.si_flat {n id : Nat} {σ : GS} {m : Mk} {si sa : DV} (h : RkR n σ id m si sa) : si.flat = true := by
  rcases h.ins with e | h1
  · rw [e]; rfl
  · exact h1.flat
theorem RkR.si_len {n id : Nat} {σ : GS} {m : Mk} {si sa : DV} (h : RkR n σ id m si sa) : gpure .len [si] = some (.int .i64 m.ins.length) := by
  rcases h.ins with e | h1
  · rw [e]; simp
  · exact h1.len
theorem ref_nodes_live {n id : Nat} {σ : GS} {m : Mk} {si sa : DV} {Post : DV → GS → Prop} (h : RkR n σ id m si sa) (hs : m.n < 2 ^ 40) (k : Post (.int .i64 m.n) σ) : GCall Tryz.prog F_skolemref06_Nodes [.agg [si, sa]] σ Post := by
  refine GCall.borrow (args' := [AigP.enc ⟨m.ins, m.ands⟩]) (r := .int .i64 m.n) (.cons (h.rd _ fun _ _ => trivial) .nil) (by simp) rfl ?_ k
  have hn : m.n = 1 + m.ins.length + m.ands.length := rfl
  exact ref_Nodes_ok (g := ⟨m.ins, m.ands⟩) ⟨by show m.ins.length < _; omega, by show m.ands.length < _; omega⟩ rfl
theorem ref_find_live {n id : Nat} {σ : GS} {m : Mk} {a b : Int} {si sa : DV} {Post : DV → GS → Prop} (h : RkR n σ id m si sa) (hs : m.n < 2 ^ 40) (hok : m.ok) (hb0 : 0 ≤ b) (hb1 : b < 2 ^ 60) (k : Post (.int .i64 (m.at a b)) σ) : GCall Tryz.prog F_skolemref06_find [.agg [si, sa], .int .i64 a, .int .i64 b] σ Post := by
  refine GCall.borrow (args' := [AigP.enc ⟨m.ins, m.ands⟩, .int .i64 a, .int .i64 b]) (r := .int .i64 (m.at a b)) (.cons (h.rd _ fun _ _ => trivial) (.cons (.same _) (.cons (.same _) .nil))) (by simp) rfl ?_ k
  have hn : m.n = 1 + m.ins.length + m.ands.length := rfl
  exact ref_find_ok (g := ⟨m.ins, m.ands⟩) ⟨by show m.ins.length < _; omega, by show m.ands.length < _; omega⟩ hok hb0 hb1 rfl
theorem ref_edge_live {n id : Nat} {σ : GS} {m : Mk} {v : Int} {si sa : DV} {Post : DV → GS → Prop} (h : RkR n σ id m si sa) (hs : m.n < 2 ^ 40) (k : Post (.int .i64 (edgeOf m.ins v)) σ) : GCall Tryz.prog F_skolemref06_Edge [.agg [si, sa], .int .i64 v] σ Post := by
  refine GCall.borrow (args' := [AigP.enc ⟨m.ins, m.ands⟩, .int .i64 v]) (r := .int .i64 (edgeOf m.ins v)) (.cons (h.rd _ fun _ _ => trivial) (.cons (.same _) .nil)) (by simp) rfl ?_ k
  have hn : m.n = 1 + m.ins.length + m.ands.length := rfl
  exact ref_Edge_ok (g := ⟨m.ins, m.ands⟩) (by show m.ins.length < _; omega) rfl
set_option maxHeartbeats 2000000 in
theorem ref_Conj_ok {n id : Nat} {m : Mk} {a b : Int} {σ : GS} {Post : DV → GS → Prop} (hm : RkO n σ id m) (hok : m.ok) (ha0 : 0 ≤ a) (ha1 : a < 2 ^ 60) (hb0 : 0 ≤ b) (hb1 : b < 2 ^ 60) (hsz : m.n < 2 ^ 40)
    (k : ∀ σ', RkO n σ' id (m.conj a b).2 → Rtp σ id σ' → Post (.int .i64 (m.conj a b).1) σ') : GCall Tryz.prog F_skolemref06_Maker_Conj [.ptr id 0, .int .i64 a, .int .i64 b] σ Post := by
  have hm0 := hm
  obtain ⟨si, sa, h⟩ := hm
  have hid := get_dom h.row
  have hnn : n ≤ σ.length := by have := h.ge; omega
  have hrow : ∀ j, gload (.load 1 false) [.ptr id j] σ = [si, sa, .bool m.full][j]? := fun j => ld_at h.row
  have hagg : gload (.load 2 true) [.ptr id 0] σ = some (.agg [si, sa]) := by rw [ld_agg h.row]; rfl
  have hmn : (m.n : Int) = 1 + m.ins.length + m.ands.length := by unfold Mk.n; omega
  have hsil := h.si_len
  -- what comes once the order of the edges is settled
  have main : ∀ (x y : Int), x = min a b → y = max a b → ∀ (K : Prop), True := fun _ _ _ _ _ => trivial
  refine gc_skolemref06_Maker_Conj ?_
  obtain ⟨x, hx⟩ : ∃ x, min a b = x := ⟨_, rfl⟩
  obtain ⟨y, hy⟩ : ∃ y, max a b = y := ⟨_, rfl⟩
  have hx0 : 0 ≤ x := by omega
  have hx1 : x < 2 ^ 60 := by omega
  have hy0 : 0 ≤ y := by omega
  have hy1 : y < 2 ^ 60 := by omega
  have hcj : m.conj a b = if x = 0 ∨ notE x = y then (0, m) else if x = 1 ∨ x = y then (y, m) else if 0 ≤ m.at x y then (2 * (1 + m.ins.length + m.at x y), m) else if 200000 ≤ m.n then (0, { m with full := true }) else (2 * (m.n : Int), { m with ands := m.ands ++ [(x, y)] }) := by unfold Mk.conj; rw [hx, hy]
  rw [hcj] at k
  by_cases hab : b < a
  all_goals
    first
    | (have e1 : x = b := by omega
       have e2 : y = a := by omega)
    | (have e1 : x = a := by omega
       have e2 : y = b := by omega)
    rw [← e1, ← e2] at *
    first
    | (have hlt : x < y := by omega
       simp [G_skolemref06_Maker_Conj, genv0, List.replicate, hlt])
    | (have hlt : ¬ y < x := by omega
       simp [G_skolemref06_Maker_Conj, genv0, List.replicate, hlt])
    clear e1 e2
    by_cases c1 : x = 0
    · rw [if_pos (.inl c1)] at k
      simp [c1]
      exact k σ hm0 (.refl _ _)
    simp [c1]
    refine ref_Not_ok hx0 (by omega) ?_
    by_cases c2 : notE x = y
    · rw [if_pos (.inr c2)] at k
      simp [c2]
      exact k σ hm0 (.refl _ _)
    rw [if_neg (by simp [c1, c2])] at k
    simp [c2]
    by_cases c3 : x = 1
    · rw [if_pos (.inl c3)] at k
      simp [c3]
      exact k σ hm0 (.refl _ _)
    by_cases c4 : x = y
    · rw [if_pos (.inr c4)] at k
      have c3' : ¬ y = 1 := by rw [← c4]; exact c3
      simp [c3', c4]
      exact k σ hm0 (.refl _ _)
    rw [if_neg (by simp [c3, c4])] at k
    simp [c3, c4, hagg]
    refine ref_find_live h hsz hok hy0 hy1 ?_
    have hatl := m.at_lt x y
    have ew1 : IntKind.i64.wrap (1 + (m.ins.length : Int)) = 1 + m.ins.length := by rw [wrap_small] <;> omega
    by_cases c5 : 0 ≤ m.at x y
    · rw [if_pos c5] at k
      have c5' : ¬ m.at x y < 0 := by omega
      have ew2 : IntKind.i64.wrap (1 + (m.ins.length : Int) + m.at x y) = 1 + m.ins.length + m.at x y := by rw [wrap_small] <;> omega
      have ew3 : IntKind.i64.wrap (2 * (1 + (m.ins.length : Int) + m.at x y)) = 2 * (1 + m.ins.length + m.at x y) := by rw [wrap_small] <;> omega
      simp [c5', hrow, hsil, ew1, ew2, ew3]
      exact k σ hm0 (.refl _ _)
    rw [if_neg c5] at k
    have c5' : m.at x y < 0 := by omega
    simp [c5', hagg]
    refine ref_nodes_live h hsz ?_
    by_cases c6 : 200000 ≤ m.n
    · rw [if_pos c6] at k
      have hst : gimp (.store 1) [.ptr id 2, .bool true] σ = some (.tuple [], σ.set id (.row false [si, sa, .bool true])) := by simp [gimp, h.row, DV.cells, over]
      have c6' : (200000 : Int) ≤ m.n := by omega
      simp [c6', hst]
      have hR : RkR n (σ.set id (.row false [si, sa, .bool true])) id { m with full := true } si sa := by
        have hne : ∀ i, i ≠ id → (σ.set id (GObj.row false [si, sa, .bool true]))[i]? = σ[i]? := fun i hi => List.getElem?_set_ne (Ne.symm hi)
        exact ⟨h.ge, by rw [List.getElem?_set_self hid], h.ins.imp (fun h => h) fun h1 => h1.fit fun i hi => hne i fun e => h.si_id (e ▸ hi), h.ands.fit fun i hi => hne i fun e => h.sa_id (e ▸ hi), h.si_id, h.sa_id, h.si_sa⟩
      refine k _ ⟨_, _, hR⟩ ⟨by simp, fun i hi hf => List.getElem?_set_ne fun e => hf (.inl e.symm), fun i hi hf hf' => hf ?_⟩
      exact (h.ft i).2 ((hR.ft i).1 hf')
    rw [if_neg c6] at k
    have c6' : ¬ (200000 : Int) ≤ m.n := by omega
    have hlen := h.ands.len
    obtain ⟨s', σ1, q1, q2, q3, q4, q5, q6⟩ := h.ands.push (by_ := 16) (x, y) (fun _ => rfl) (by simp) hnn (by omega) (by decide)
    have hk1 : ∀ i, i < σ.length → ¬ sa.has i → σ1[i]? = σ[i]? := q5
    have hrow1 : σ1[id]? = some (.row false [si, sa, .bool m.full]) := (hk1 id hid h.sa_id).trans h.row
    have hs'id : ¬ s'.has id := fun hh => by rcases q6 id hh with h1 | h1; exact h.sa_id h1; omega
    have hst : gimp (.store 1) [.ptr id 1, s'] σ1 = some (.tuple [], σ1.set id (.row false [si, s', .bool m.full])) := by
      simp [gimp, hrow1, cells_of_flat q2.flat, over, q2.flat]
    obtain ⟨σ2, hσ2⟩ : ∃ σ2, σ1.set id (.row false [si, s', .bool m.full]) = σ2 := ⟨_, rfl⟩
    rw [hσ2] at hst
    have hne2 : ∀ i, i ≠ id → σ2[i]? = σ1[i]? := fun i hi => by rw [← hσ2]; exact List.getElem?_set_ne (Ne.symm hi)
    have hrow2 : σ2[id]? = some (.row false [si, s', .bool m.full]) := by rw [← hσ2, List.getElem?_set_self (by omega)]
    have hld2 : gload (.load 1 false) [.ptr id 0] σ2 = some si := ld_at hrow2
    have ew2 : IntKind.i64.wrap (1 + (m.ins.length : Int) + m.ands.length) = 1 + m.ins.length + m.ands.length := by rw [wrap_small] <;> omega
    have ew3 : IntKind.i64.wrap (2 * (1 + (m.ins.length : Int) + m.ands.length)) = 2 * (1 + m.ins.length + m.ands.length) := by rw [wrap_small] <;> omega
    simp [c6', hrow, hlen, q1, hst, hld2, hsil, ew1, ew2, ew3]
    have hR : RkR n σ2 id { m with ands := m.ands ++ [(x, y)] } si s' := by
      refine ⟨h.ge, hrow2, h.ins.imp (fun h => h) fun h1 => h1.fit fun i hi => ?_, q2.fit fun i hi => hne2 _ (fun e => hs'id (e ▸ hi)), h.si_id, hs'id, fun i hi hi' => ?_⟩
      · rw [hne2 _ (fun e => h.si_id (e ▸ hi)), hk1 _ (h1.has_lt hi) (h.si_sa i hi)]
      · rcases q6 i hi' with h1 | h1
        · exact h.si_sa i hi h1
        · have := (h.si_lt hi).1; omega
    rw [hmn] at k
    refine k _ ⟨_, _, hR⟩ ⟨?_, fun i hi hf => ?_, fun i hi hf hf' => hf ?_⟩
    · have : σ2.length = σ1.length := by rw [← hσ2]; simp
      omega
    · have hnf := fun hh => hf ((h.ft i).2 hh)
      rw [hne2 _ (fun e => hnf (.inl e)), hk1 _ hi (fun hh => hnf (.inr (.inr hh)))]
    · refine (h.ft i).2 ?_
      rcases (hR.ft i).1 hf' with h1 | h1 | h1
      · exact .inl h1
      · exact .inr (.inl h1)
      · rcases q6 i h1 with h2 | h2
        · exact .inr (.inr h2)
        · omega
theorem ref_Reached_ok {g : AigP} {l : List Int} {σ : GS} {Post : DV → GS → Prop} (hm : g.may = true) (hl : l.length < 2 ^ 50) (he : ∀ e ∈ l, 0 ≤ e ∧ e < 2 * g.nodes) (h : Post (fbools (g.reach l)) σ) : GCall Tryz.prog F_skolemref06_Reached [g.enc, fints l] σ Post := by
  have hnn := AigP.may_nodes hm
  have hn : g.nodes = 1 + g.ins.length + g.ands.length := rfl
  have hs : g.Sm := ⟨by omega, by omega⟩
  have hok : ∀ {i : Nat} {p : Int × Int}, g.ands[i]? = some p → _ := fun {i p} h => andsOk_get (AigP.may_ands hm) (i := i) (p := p) h
  obtain ⟨n, hne⟩ : ∃ n, g.nodes = n := ⟨_, rfl⟩
  obtain ⟨base, hbase⟩ : ∃ b, 1 + g.ins.length = b := ⟨_, rfl⟩
  refine GCall.pure (r := fbools (g.reach l)) ?_ (by simp) h
  refine gc_skolemref06_Reached ?_
  simp [G_skolemref06_Reached, genv0, List.replicate]
  refine ref_Nodes_ok hs ?_
  rw [hne] at he ⊢
  simp [mslice_bools (show n < 2 ^ 40 by omega)]
  have hr0 : List.replicate n (DV.bool false) = bools (List.replicate n false) := by simp [bools]
  rw [hr0]
  obtain ⟨A, hA⟩ : ∃ A, GObj.row false [fints g.ins, fands g.ands] = A := ⟨_, rfl⟩
  rw [hA]
  refine gfor l.length (fun i e σ' => (∃ m, σ' = σ ++ (A :: .row false (bools m) :: []) ∧ m.length = n ∧ marks m (l.drop i) = marks (List.replicate n false) l) ∧ e = mkEnv 60 [(1, fints l), (2, .ptr σ.length 0), (5, .slice (σ.length + 1) 0 n 1 (some n)), (6, .int .i64 i)]) _ ?_ ⟨⟨List.replicate n false, by simp, by simp, rfl⟩, rfl⟩ ?_
  · simp [mkEnv, List.replicate]
  rintro i _ _ hi ⟨⟨m, rfl, hml, hI⟩, rfl⟩
  simp [mkEnv, List.replicate]
  by_cases hlt : i < l.length
  · obtain ⟨y, hy⟩ := nth_lt hlt
    have hy' := nth_get hy
    obtain ⟨y0, y1⟩ := he y (List.mem_of_getElem? hy')
    have hi1 := iaddr_half (id := σ.length + 1) (n := n) (e := y) (k := .i64) (cap := some n) y0 (by omega)
    have s1 : (y / 2).toNat < m.length := by omega
    have ew : IntKind.i64.wrap (y / 2) = y / 2 := by rw [wrap_small] <;> omega
    rw [drop_get hy', marks_cons] at hI
    have es : IntKind.i64.wrap ((i : Int) + 1) = (i : Int) + 1 := by rw [wrap_small] <;> omega
    simp [hlt, hy, tdiv_two y0, ew, hi1, s1, es]
    exact forK_go _ hlt (by simp [mkEnv, List.replicate]) ⟨⟨_, by simp [List.map_set], by simp [hml], hI⟩, rfl⟩
  · have : i = l.length := by omega
    subst this
    rw [List.drop_length] at hI
    have hI' : m = marks (List.replicate n false) l := hI
    have e1 : IntKind.i64.wrap (1 + (g.ins.length : Int)) = ((base : Nat) : Int) := by rw [wrap_small] <;> omega
    have hld : ∀ τ, gload (.load 1 false) [.ptr σ.length 0] (σ ++ A :: τ) = some (fints g.ins) := fun τ => by simp [← hA]
    have hld1 : ∀ τ, gload (.load 1 false) [.ptr σ.length 1] (σ ++ A :: τ) = some (fands g.ands) := fun τ => by simp [← hA]
    have ewl : IntKind.i64.wrap ((g.ands.length : Int) - 1) = (g.ands.length : Int) - 1 := by rw [wrap_small] <;> omega
    simp [hld1, ewl]
    have hfin : rcDown base g.ands g.ands.length m = g.reach l := by rw [hI']; unfold AigP.reach; rw [hbase, hne]
    refine gwhile (mkEnv 60 [(2, .ptr σ.length 0), (5, .slice (σ.length + 1) 0 n 1 (some n)), (7, .int .i64 ((g.ands.length : Int) - 1))]) g.ands.length (fun i e σ' => i ≤ g.ands.length ∧ (∃ m, σ' = σ ++ (A :: .row false (bools m) :: []) ∧ m.length = n ∧ rcDown base g.ands i m = g.reach l) ∧ e = mkEnv 60 [(2, .ptr σ.length 0), (5, .slice (σ.length + 1) 0 n 1 (some n)), (7, .int .i64 ((i : Int) - 1))]) ?_ ⟨Nat.le_refl _, ⟨m, rfl, hml, hfin⟩, rfl⟩ ?_
    · simp [mkEnv, List.replicate]
    clear hfin hI' hI hml m hi hlt
    rintro i _ _ ⟨hi, ⟨m, rfl, hml, hI⟩, rfl⟩
    simp [mkEnv, List.replicate]
    cases i with
    | zero =>
      have hI' : m = g.reach l := hI
      simp
      subst hI'
      subst hml
      exact rd_bools (ro := false) (by simp) (.inl (by omega))
    | succ i =>
      obtain ⟨p, hp⟩ := nth_lt (l := g.ands) (i := i) (by omega)
      have hp' := nth_get hp
      obtain ⟨p1, p2, p3, p4⟩ := hok hp'
      have hg : g.ands.getD i (0, 0) = p := by rw [List.getD_eq_getElem?_getD, hp']; rfl
      have g1 : (1 : Int) ≤ (i : Int) + 1 := by omega
      have g2 : (i : Int) + 1 - 1 = i := by omega
      have ew2 : IntKind.i64.wrap ((base : Int) + i) = ((base + i : Nat) : Int) := by rw [wrap_small] <;> omega
      have ew3 : IntKind.i64.wrap ((i : Int) - 1) = (i : Int) - 1 := by rw [wrap_small] <;> omega
      obtain ⟨b, hb⟩ := nth_lt (l := m) (i := base + i) (by omega)
      have hb' : m[base + i]? = some b := hb
      have hia := iaddr_own (id := σ.length + 1) (n := n) (sz := 1) (i := base + i) (k := .i64) (cap := some n) (by omega)
      have hi1 := iaddr_half (id := σ.length + 1) (n := n) (e := p.1) (k := .i64) (cap := some n) p1 (by omega)
      have hi2 := iaddr_half (id := σ.length + 1) (n := n) (e := p.2) (k := .i64) (cap := some n) p2 (by omega)
      have ed1 : IntKind.i64.wrap (p.1 / 2) = p.1 / 2 := by rw [wrap_small] <;> omega
      have ed2 : IntKind.i64.wrap (p.2 / 2) = p.2 / 2 := by rw [wrap_small] <;> omega
      simp at hia
      have hgd : m.getD (base + i) false = b := by rw [List.getD_eq_getElem?_getD, hb']; rfl
      have hI' : rcDown base g.ands i (rcStep base g.ands m i) = g.reach l := hI
      simp [g1, g2, hld, hld1, e1, ew2, hia, hb']
      cases b with
      | false =>
        have e : rcStep base g.ands m i = m := by unfold rcStep; rw [hgd]; rfl
        rw [e] at hI'
        simp [g2, ew3]
        exact whK_go i _ (by omega) (by simp [mkEnv, List.replicate]) ⟨by omega, ⟨m, rfl, hml, hI'⟩, rfl⟩
      | true =>
        have e : rcStep base g.ands m i = (m.set (p.1 / 2).toNat true).set (p.2 / 2).toNat true := by unfold rcStep; rw [hgd, hg]; rfl
        rw [e] at hI'
        have s1 : (p.1 / 2).toNat < m.length := by omega
        have s2 : (p.2 / 2).toNat < m.length := by omega
        simp [g2, hld1, hp, tdiv_two p1, tdiv_two p2, ed1, ed2, hi1, hi2, s1, s2, ew3]
        exact whK_go i _ (by omega) (by simp [mkEnv, List.replicate]) ⟨by omega, ⟨_, by simp [List.map_set], by simp [hml], hI'⟩, rfl⟩
end Go.Gh
namespace Go.Gh
open Go.RowKit Go.Proofs
set_option linter.unusedVariables false
set_option linter.unusedSimpArgs false
set_option maxRecDepth 100000
theorem ref_Image_live {T : List Int} {e : Int} {tid n : Nat} {cap : Option Nat} {σ : GS} {Post : DV → GS → Prop} (ht : σ[tid]? = some (.row false (ints T))) (hn : T.length = n) (h0 : 0 ≤ e) (h1 : e < 2 * T.length) (hl : T.length < 2 ^ 50) (hT : ∀ t ∈ T, 0 ≤ t ∧ t < 2 ^ 60) (h : Post (.int .i64 (imgE T e)) σ) : GCall Tryz.prog F_skolemref06_Image [.slice tid 0 n 1 cap, .int .i64 e] σ Post := by
  subst hn
  exact GCall.borrow (args' := [fints T, .int .i64 e]) (.cons (rd_ints ht trivial) (.cons (.same _) .nil)) (by simp) rfl (ref_Image_ok h0 h1 hl hT rfl) h
/-- The state of copying in the reference. -/
structure RpSt (n0 : Nat) (σ σ' : GS) (id : Nat) (g : AigP) (n : Nat) (T : List Int) (m : Mk) : Prop where
  box : σ'[σ.length]? = some (.row false [fints g.ins, fands g.ands])
  row : σ'[σ.length + 1]? = some (.row false (ints T))
  mak : RkO n0 σ' id m
  stp : Rtp σ id σ'
  nf : ∀ j, j < 2 → ¬ Rt σ' id (σ.length + j)
  tl : T.length = n
theorem RpSt.step {n0 id n : Nat} {σ σ' σ2 : GS} {g : AigP} {T : List Int} {m m' : Mk} (h : RpSt n0 σ σ' id g n T m) (hm : RkO n0 σ2 id m') (hs : Rtp σ' id σ2) : RpSt n0 σ σ2 id g n T m' := by
  have hk : ∀ j o, j < 2 → σ'[σ.length + j]? = some o → σ2[σ.length + j]? = some o := fun j o hj ho => (hs.get _ (get_dom ho) (h.nf j hj)).trans ho
  exact ⟨hk 0 _ (by omega) h.box, hk 1 _ (by omega) h.row, hm, h.stp.trans hs, fun j hj => hs.ft _ (by have := get_dom h.row; omega) (h.nf j hj), h.tl⟩
theorem RpSt.set {n0 id n : Nat} {σ σ' : GS} {g : AigP} {T : List Int} {m : Mk} (h : RpSt n0 σ σ' id g n T m) (i : Nat) (x : Int) : RpSt n0 σ (σ'.set (σ.length + 1) (.row false (ints (T.set i x)))) id g n (T.set i x) m := by
  have hne : ∀ j, j ≠ σ.length + 1 → (σ'.set (σ.length + 1) (.row false (ints (T.set i x))))[j]? = σ'[j]? := fun j hj => List.getElem?_set_ne (Ne.symm hj)
  have hfne : ∀ j, Rt σ' id j → j ≠ σ.length + 1 := fun j hj e => h.nf 1 (by omega) (e ▸ hj)
  have hid := hne id (hfne id (.inl rfl))
  exact ⟨(hne _ (by omega)).trans h.box, List.getElem?_set_self (get_dom h.row), h.mak.fit fun j hj => hne j (hfne j hj), ⟨by simpa using h.stp.len, fun i hi hf => (hne i (by omega)).trans (h.stp.get i hi hf), fun i hi hf => by rw [h.mak.ft_eq hid]; exact h.stp.ft i hi hf⟩, fun j hj => by rw [h.mak.ft_eq hid]; exact h.nf j hj, by simp [h.tl]⟩
set_option maxHeartbeats 2000000 in
theorem ref_copied_ok {n0 id : Nat} {m : Mk} {g : AigP} {l im : List Int} {σ : GS} {Post : DV → GS → Prop} (hmk : RkO n0 σ id m) (hmok : m.ok) (hms : m.n < 2 ^ 30) (hm : g.may = true) (hl : l.length < 2 ^ 50) (he : ∀ e ∈ l, 0 ≤ e ∧ e < 2 * g.nodes)
    (him : im.length = g.ins.length) (hiv : ∀ v ∈ im, 0 ≤ v ∧ v < 2 * m.n)
    (k : ∀ σ', RkO n0 σ' id (m.copy g (g.reach l) (0 :: im)).2 → Rtp σ id σ' → Post (fints (m.copy g (g.reach l) (0 :: im)).1) σ') :
    GCall Tryz.prog F_skolemref06_Maker_copied [.ptr id 0, g.enc, fints l, fints im] σ Post := by
  have hnn := AigP.may_nodes hm
  have hn : g.nodes = 1 + g.ins.length + g.ands.length := rfl
  have hs : g.Sm := ⟨by omega, by omega⟩
  have hok : ∀ {i : Nat} {p : Int × Int}, g.ands[i]? = some p → _ := fun {i p} h => andsOk_get (AigP.may_ands hm) (i := i) (p := p) h
  have hrl := g.reach_len l
  obtain ⟨r, hr⟩ : ∃ r, g.reach l = r := ⟨_, rfl⟩
  rw [hr] at hrl k
  have hidl := (hmk.dom (.inl rfl)).1
  have hpos : 0 < (m.n : Int) := by unfold Mk.n; omega
  obtain ⟨n, hne⟩ : ∃ n, g.nodes = n := ⟨_, rfl⟩
  rw [hne] at hrl
  refine GCall.out (GCall.mono (Post := fun v σ' => RpSt n0 σ σ' id g n (m.copy g r (0 :: im)).1 (m.copy g r (0 :: im)).2 ∧ v = .slice (σ.length + 1) 0 n 1 (some n)) ?_ ?_)
  rotate_left
  · rintro v σ' ⟨hC, rfl⟩
    have hS : ∀ i, Rt σ' id i → (fun i => decide (i = σ.length + 1)) i = false := fun i hi => by
      have h1 : i ≠ σ.length + 1 := fun e => hC.nf 1 (by omega) (e ▸ hi)
      simp [h1]
    refine ⟨fun i => decide (i = σ.length + 1), fints (m.copy g r (0 :: im)).1, ?_, k _ ?_ ?_⟩
    · have hrow := frz_row (S := fun i => decide (i = σ.length + 1)) hC.row (by simp)
      have := rd_ints (ok := RO (frz (fun i => decide (i = σ.length + 1)) σ')) (cap := some n) hrow (fun ro cs h => by rw [hrow] at h; cases h; rfl)
      rw [hC.tl] at this
      exact this
    · exact hC.mak.fit fun i hi => frz_off (hS i hi)
    · refine ⟨by rw [frz_len]; exact hC.stp.len, fun i hi hf => ?_, fun i hi hf => ?_⟩
      · rw [frz_off (by simp; omega)]; exact hC.stp.get i hi hf
      · rw [hC.mak.ft_eq (frz_off (hS id (.inl rfl)))]; exact hC.stp.ft i hi hf
  refine gc_skolemref06_Maker_copied ?_
  simp [G_skolemref06_Maker_copied, genv0, List.replicate]
  refine ref_Reached_ok hm hl he ?_
  simp
  refine ref_Nodes_ok hs ?_
  rw [hr, hne]
  simp [mslice_ints (show n < 2 ^ 40 by omega)]
  have hr0 : List.replicate n (DV.int .i64 0) = ints (List.replicate n 0) := by simp [ints]
  rw [hr0]
  obtain ⟨A, hA⟩ : ∃ A, GObj.row false [fints g.ins, fands g.ands] = A := ⟨_, rfl⟩
  have hldA : ∀ τ, gload (.load 1 false) [.ptr σ.length 0] (σ ++ A :: τ) = some (fints g.ins) := fun τ => by simp [← hA]
  rw [hA]
  refine gfor im.length (fun i e σ' => (∃ z, σ' = σ ++ (A :: .row false (ints (0 :: im.take i ++ z)) :: []) ∧ 1 + i + z.length = n ∧ ∀ t ∈ z, t = 0) ∧ e = mkEnv 73 [(0, .ptr id 0), (3, fints im), (5, .ptr σ.length 0), (9, fbools r), (10, .slice (σ.length + 1) 0 n 1 (some n)), (11, .int .i64 i)]) _ ?_ ⟨⟨List.replicate (n - 1) 0, ?_, by simp; omega, fun t ht => List.eq_of_mem_replicate ht⟩, rfl⟩ ?_
  · simp [mkEnv, List.replicate]
  · obtain ⟨q, rfl⟩ : ∃ q, n = q + 1 := ⟨n - 1, by omega⟩
    simp [List.replicate_succ]
  rintro i _ _ hi ⟨⟨z, rfl, hzl, hz⟩, rfl⟩
  simp [mkEnv, List.replicate]
  by_cases hlt : i < im.length
  · obtain ⟨y, hy⟩ := nth_lt hlt
    have hy' := nth_get hy
    have es : IntKind.i64.wrap ((i : Int) + 1) = (i : Int) + 1 := by rw [wrap_small] <;> omega
    cases z with
    | nil => simp at hzl; omega
    | cons z0 z =>
    have hz0 : z0 = 0 := hz z0 List.mem_cons_self
    subst hz0
    simp at hzl
    have hia := iaddr_own (id := σ.length + 1) (n := n) (sz := 1) (i := i + 1) (k := .i64) (cap := some n) (by omega)
    simp only [Nat.mul_one, Int.natCast_add, Int.natCast_one] at hia
    have hst : ∀ τ : GS, gimp (.store 1) [.ptr (σ.length + 1) (i + 1), .int .i64 y] (σ ++ (A :: .row false (.int .i64 0 :: (List.take i (List.map (DV.int .i64) im) ++ .int .i64 0 :: List.map (DV.int .i64) z)) :: τ)) = some (.tuple [], σ ++ (A :: .row false (.int .i64 0 :: (List.take i (List.map (DV.int .i64) im) ++ .int .i64 y :: List.map (DV.int .i64) z)) :: τ)) := fun τ => by
      have hl2 : (List.take i (List.map (DV.int .i64) im)).length = i := by simp; omega
      have hlt2 : i < i + (z.length + 1) := by omega
      simp [hl2]
    simp [hlt, hy, es, hia, hst]
    refine forK_go _ hlt (by simp [mkEnv, List.replicate]) ⟨⟨z, ?_, by omega, fun t ht => hz t (List.mem_cons_of_mem _ ht)⟩, rfl⟩
    rw [take_get hy']
    simp
  · have : i = im.length := by omega
    subst this
    have htk : List.take im.length (List.map (DV.int .i64) im) = List.map (DV.int .i64) im := by rw [← List.map_take, List.take_length]
    simp [htk]
    have hC0 : RpSt n0 σ (σ ++ (A :: .row false (ints (0 :: im ++ z)) :: [])) id g n (0 :: im ++ z) m := by
      have e0 : (σ ++ (A :: .row false (ints (0 :: im ++ z)) :: []))[id]? = σ[id]? := List.getElem?_append_left hidl
      refine ⟨by simp [← hA], by simp, hmk.app _, hmk.stp (by simp) fun i hi => List.getElem?_append_left hi, fun j hj hf' => ?_, by simp; omega⟩
      rw [hmk.ft_eq e0] at hf'
      have := (hmk.dom hf').1; omega
    simp at hC0
    obtain ⟨xs, hxs⟩ : ∃ xs, g.ands.zip (r.drop (1 + g.ins.length)) = xs := ⟨_, rfl⟩
    obtain ⟨s0, hs0⟩ : ∃ s0, ((0 :: im, m) : List Int × Mk) = s0 := ⟨_, rfl⟩
    have hcp0 : CpOk s0 := by
      rw [← hs0]
      refine ⟨fun t ht => ?_, hmok⟩
      simp only [List.mem_cons] at ht
      rcases ht with rfl | ht
      · show (0 : Int) ≤ 0 ∧ (0 : Int) < 2 * (m.n : Int); omega
      · exact hiv t ht
    have hl0 : s0.1.length = 1 + g.ins.length := by rw [← hs0]; simp; omega
    have hn0' : s0.2.n = m.n := by rw [← hs0]
    refine gfor g.ands.length (fun i e σ' => (∃ z, RpSt n0 σ σ' id g n (((xs.take i).foldl cpStep s0).1 ++ z) ((xs.take i).foldl cpStep s0).2 ∧ ∀ t ∈ z, t = 0) ∧ e = mkEnv 73 [(0, .ptr id 0), (5, .ptr σ.length 0), (9, fbools r), (10, .slice (σ.length + 1) 0 n 1 (some n)), (12, .int .i64 i)]) _ ?_ ⟨⟨z, by simpa [← hs0] using hC0, hz⟩, rfl⟩ ?_
    · simp [mkEnv, List.replicate]
    clear hC0 hldA hzl hz z hlt hi
    rintro i _ σ' hi ⟨⟨z, hC, hz⟩, rfl⟩
    simp [mkEnv, List.replicate]
    have hxl : xs.length = g.ands.length := by rw [← hxs]; simp; omega
    have hldI : gload (.load 1 false) [.ptr σ.length 0] σ' = some (fints g.ins) := by rw [ld_at hC.box]; rfl
    have hldN : gload (.load 1 false) [.ptr σ.length 1] σ' = some (fands g.ands) := by rw [ld_at hC.box]; rfl
    by_cases hlt : i < g.ands.length
    · obtain ⟨p, hp⟩ := nth_lt hlt
      have hp' := nth_get hp
      obtain ⟨p1, p2, p3, p4⟩ := hok hp'
      have es : IntKind.i64.wrap ((i : Int) + 1) = (i : Int) + 1 := by rw [wrap_small] <;> omega
      have ew : IntKind.i64.wrap (1 + (g.ins.length : Int)) = 1 + g.ins.length := by rw [wrap_small] <;> omega
      have ew2 : IntKind.i64.wrap (1 + (g.ins.length : Int) + i) = 1 + g.ins.length + i := by rw [wrap_small] <;> omega
      have hge : (0 : Int) ≤ 1 + (g.ins.length : Int) + i := by omega
      have htn : (1 + (g.ins.length : Int) + i).toNat = 1 + g.ins.length + i := by omega
      obtain ⟨b, hb⟩ := nth_lt (l := r) (i := 1 + g.ins.length + i) (by omega)
      have hb' := nth_get hb
      have hx : xs[i]? = some (p, b) := by rw [← hxs, List.getElem?_zip_eq_some, List.getElem?_drop]; exact ⟨hp', hb'⟩
      have htk := take_get hx
      have hfold : (xs.take (i + 1)).foldl cpStep s0 = cpStep ((xs.take i).foldl cpStep s0) (p, b) := by rw [htk, List.foldl_append]; rfl
      have hcp := cpFold_ok (xs.take i) hcp0
      have hcl := cpFold_len (xs.take i) s0
      have hcn := (cpFold_n (xs.take i) s0).2
      rw [List.length_take, Nat.min_eq_left (by omega)] at hcl hcn
      obtain ⟨s, hss⟩ : ∃ s, (xs.take i).foldl cpStep s0 = s := ⟨_, rfl⟩
      rw [hss] at hC hfold hcp hcl hcn
      have hMpos : 0 < (s.2.n : Int) := by unfold Mk.n; omega
      have hzl := hC.tl
      rw [List.length_append] at hzl
      cases z with
      | nil => simp at hzl; omega
      | cons z0 z =>
      have hz0 : z0 = 0 := hz z0 List.mem_cons_self
      subst hz0
      simp at hzl
      have hTr : ∀ t ∈ s.1 ++ 0 :: z, 0 ≤ t ∧ t < 2 ^ 60 := fun t ht => by
        rcases List.mem_append.1 ht with ht | ht
        · have := hcp.to t ht; omega
        · have : t = 0 := hz t ht
          omega
      have htlen : (s.1 ++ 0 :: z).length = n := by simp; omega
      simp [hlt, hldI, hldN, ew, ew2, hge, htn, hb]
      cases b with
      | false =>
        simp [es]
        refine forK_go _ hlt (by simp [mkEnv, List.replicate]) ⟨⟨z, ?_, fun t ht => hz t (List.mem_cons_of_mem _ ht)⟩, rfl⟩
        rw [hfold]
        simpa [cpStep] using hC
      | true =>
        have r1 := imgE_range hMpos hcp.to p.1
        have r2 := imgE_range hMpos hcp.to p.2
        have him : ∀ e : Int, 0 ≤ e → e < 2 * (1 + g.ins.length) + 2 * i → imgE (s.1 ++ 0 :: z) e = imgE s.1 e := fun e h0 h1 => imgE_app (by omega)
        simp [hldN, hp]
        refine ref_Image_live hC.row htlen p1 (by omega) (by omega) hTr ?_
        rw [him _ p1 (by omega)]
        simp [hldN, hp]
        refine ref_Image_live hC.row htlen p2 (by omega) (by omega) hTr ?_
        rw [him _ p2 (by omega)]
        simp
        refine ref_Conj_ok hC.mak hcp.ok r1.1 (by omega) r2.1 (by omega) (by omega) fun σ2 hm2 hst2 => ?_
        have hC2 := hC.step hm2 hst2
        have hia := iaddr_own (id := σ.length + 1) (n := n) (sz := 1) (i := 1 + g.ins.length + i) (k := .i64) (cap := some n) (by omega)
        rw [show (((1 + g.ins.length + i : Nat)) : Int) = 1 + (g.ins.length : Int) + i by omega, Nat.mul_one] at hia
        have hsto := store_int (b := (s.2.conj (imgE s.1 p.1) (imgE s.1 p.2)).1) hC2.row (i := 1 + g.ins.length + i) (by omega)
        have hCS := hC2.set (1 + g.ins.length + i) (s.2.conj (imgE s.1 p.1) (imgE s.1 p.2)).1
        rw [set_mid (show 1 + g.ins.length + i = s.1.length by omega)] at hsto hCS
        simp [ew2, hia, hsto, es]
        refine forK_go _ hlt (by simp [mkEnv, List.replicate]) ⟨⟨z, ?_, fun t ht => hz t (List.mem_cons_of_mem _ ht)⟩, rfl⟩
        rw [hfold]
        simpa [cpStep] using hCS
    · have : i = g.ands.length := by omega
      subst this
      rw [← hxl, List.take_length] at hC
      have hzl := hC.tl
      have hcl := cpFold_len xs s0
      rw [List.length_append] at hzl
      have hze : z = [] := List.length_eq_zero_iff.1 (by omega)
      subst hze
      rw [List.append_nil] at hC
      simp [hldN]
      have hco : m.copy g r (0 :: im) = xs.foldl cpStep s0 := by unfold Mk.copy; rw [hxs, hs0]
      rw [hco]
      exact hC
end Go.Gh
namespace Go.Gh
open Go.RowKit Go.Proofs
set_option linter.unusedVariables false
set_option linter.unusedSimpArgs false
set_option maxRecDepth 100000
@[simp] theorem fill_agg2 (z0 z1 z2 a b : DV) : gfill [(0, 2)] [z0, z1, z2] [.agg [a, b]] = some [a, b, z2] := by simp [gfill, DV.cells, over]
/-- The graph that has what edges reach. -/
def AigP.cone (g : AigP) (l : List Int) : GOut :=
  if g.all l = true then
    ⟨((Mk.mk g.ins [] false).copy g (g.reach l) (0 :: g.ins.map (edgeOf g.ins))).2.graph, l.map (imgE ((Mk.mk g.ins [] false).copy g (g.reach l) (0 :: g.ins.map (edgeOf g.ins))).1), 0⟩
  else .err 2
theorem rcDown_none (base : Nat) (ands : List (Int × Int)) (n : Nat) : ∀ k, rcDown base ands k (List.replicate n false) = List.replicate n false
  | 0 => rfl
  | k + 1 => by
    have : rcStep base ands (List.replicate n false) k = List.replicate n false := by
      unfold rcStep
      rw [if_neg]
      rw [List.getD_eq_getElem?_getD, List.getElem?_replicate]
      split <;> simp
    rw [rcDown, this, rcDown_none base ands n k]
theorem AigP.reach_none (g : AigP) : g.reach [] = List.replicate g.nodes false := by unfold AigP.reach; exact rcDown_none _ _ _ _
theorem cpFold_none : ∀ (xs : List ((Int × Int) × Bool)) (s : List Int × Mk), (∀ x ∈ xs, x.2 = false) → (xs.foldl cpStep s).2 = s.2
  | [], s, _ => rfl
  | x :: xs, s, h => by
    rw [List.foldl_cons, cpFold_none xs _ fun y hy => h y (List.mem_cons_of_mem _ hy)]
    unfold cpStep; rw [if_neg (by simp [h x List.mem_cons_self])]
theorem AigP.compose_nil (g : AigP) (l : List Int) : g.compose l [] = g.cone l := by
  unfold AigP.compose AigP.cone
  by_cases h : g.all l = true
  · have hm := AigP.all_may h
    have hnn := AigP.may_nodes hm
    have hc : ((Mk.mk g.ins [] false).copy g (g.reach (([] : List (Int × Int)).map (·.2))) (0 :: g.ins.map (edgeOf g.ins))).2 = Mk.mk g.ins [] false := by
      unfold Mk.copy
      rw [cpFold_none]
      rintro ⟨p, b⟩ hx
      have := (List.of_mem_zip hx).2
      rw [List.map_nil, AigP.reach_none] at this
      exact List.eq_of_mem_replicate (List.mem_of_mem_drop this)
    have hall : g.all [] = true := by simp [AigP.all, hm]
    rw [if_pos (by simp [h, hall]), if_pos h, if_pos (by simp)]
    simp only [hc, outOf, List.find?_nil, Option.map_none]
    have hfull : ((Mk.mk g.ins [] false).copy g (g.reach l) (0 :: g.ins.map (edgeOf g.ins))).2.full = false := by
      unfold Mk.copy
      rw [cpFold_full]
      rw [List.length_zip, List.length_drop]
      show 1 + g.ins.length + 0 + _ ≤ _
      have : g.nodes = 1 + g.ins.length + g.ands.length := rfl
      omega
    rw [if_neg (by rw [hfull]; simp)]
  · rw [if_neg (by simp [h]), if_neg h]
theorem ref_In_ok {a : List Int} {x : Int} {σ : GS} {Post : DV → GS → Prop} (hl : a.length < 2 ^ 60) (h : Post (.bool (a.contains x)) σ) : GCall Tryz.prog F_skolemref05_In [fints a, .int .i64 x] σ Post := by
  refine gc_skolemref05_In ?_
  simp [G_skolemref05_In, genv0, List.replicate]
  refine gfor a.length (fun i e σ' => σ' = σ ∧ a.contains x = (a.drop i).contains x ∧ e = mkEnv 18 [(0, fints a), (1, .int .i64 x), (5, .int .i64 i)]) _ ?_ ⟨rfl, by simp, rfl⟩ ?_
  · simp [mkEnv, List.replicate]
  rintro i _ _ hi ⟨rfl, hI, rfl⟩
  simp [mkEnv, List.replicate]
  by_cases hlt : i < a.length
  · obtain ⟨y, hy⟩ := nth_lt hlt
    rw [drop_get hy, List.contains_cons] at hI
    have es : IntKind.i64.wrap ((i : Int) + 1) = (i : Int) + 1 := by rw [wrap_small] <;> omega
    by_cases c : y = x
    · have c' : (x == y) = true := by simp [c]
      simp [hlt, hy, c]
      rw [hI, c'] at h; simpa using h
    · have c' : (x == y) = false := by simpa using fun e => c e.symm
      simp [hlt, hy, c, es]
      exact forK_go _ hlt (by simp [mkEnv, List.replicate]) ⟨rfl, by rw [hI, c']; simp, rfl⟩
  · have : i = a.length := by omega
    subst this
    simp
    rw [hI] at h; simpa using h
theorem ref_Abs_ok {x : Int} {σ : GS} {Post : DV → GS → Prop} (h : Post (.int .i64 (gabs x)) σ) : GCall Tryz.prog F_skolemref05_Abs [.int .i64 x] σ Post := by
  refine gc_skolemref05_Abs ?_
  unfold gabs at h
  by_cases c : x < 0
  · rw [if_pos c] at h
    simp [G_skolemref05_Abs, genv0, List.replicate, c]
    exact h
  · rw [if_neg c] at h
    simp [G_skolemref05_Abs, genv0, List.replicate, c]
    exact h
theorem ref_variable_ok {v : Int} {σ : GS} {Post : DV → GS → Prop} (h : Post (.bool (isVar v)) σ) : GCall Tryz.prog F_skolemref05_variable [.int .i64 v] σ Post := by
  refine gc_skolemref05_variable ?_
  by_cases h1 : 1 ≤ v <;> simp [G_skolemref05_variable, genv0, List.replicate, h1] <;> simpa [isVar, h1] using h
theorem ref_Normal_ok {a : List Int} {σ : GS} {Post : DV → GS → Prop} (hl : a.length < 2 ^ 50) (h : Post (.bool (normal a)) σ) : GCall Tryz.prog F_skolemref05_Normal [fints a] σ Post := by
  rw [normal_eq] at h
  refine gc_skolemref05_Normal ?_
  simp [G_skolemref05_Normal, genv0, List.replicate]
  refine gfor a.length (fun i e σ' => σ' = σ ∧ (∃ last, normR 0 a = normR last (a.drop i) ∧ (i = 0 → last = 0) ∧ ∀ j, j + 1 = i → ∃ y, a[j]? = some y ∧ last = gabs y) ∧ e = mkEnv 35 [(0, fints a), (3, .int .i64 i)]) _ ?_ ⟨rfl, ⟨0, by simp, fun _ => rfl, fun j h => by omega⟩, rfl⟩ ?_
  · simp [mkEnv, List.replicate]
  rintro i _ _ hi ⟨rfl, ⟨last, hI, hl0, hl1⟩, rfl⟩
  simp [mkEnv, List.replicate]
  by_cases hlt : i < a.length
  · obtain ⟨y, hy⟩ := nth_lt hlt
    have hy' := nth_get hy
    rw [drop_get hy] at hI
    have es : IntKind.i64.wrap ((i : Int) + 1) = (i : Int) + 1 := by rw [wrap_small] <;> omega
    simp [hlt, hy]
    refine ref_Abs_ok ?_
    simp
    refine ref_variable_ok ?_
    by_cases hv : isVar (gabs y) = true
    · cases i with
      | zero =>
        have := hl0 rfl
        subst this
        have h3 : 0 < gabs y := by have := hv; simp only [isVar, Bool.and_eq_true, decide_eq_true_eq] at this; omega
        simp [hv]
        refine forK_go _ hlt (by simp [mkEnv, List.replicate]) ⟨rfl, ⟨gabs y, by simp [hI, normR, hv, h3], fun e => by omega, fun j hj => ?_⟩, rfl⟩
        have : j = 0 := by omega
        subst this; exact ⟨y, hy', rfl⟩
      | succ i =>
        obtain ⟨z, hz, hlz⟩ := hl1 i rfl
        have hz' : nth a i = some z := hz
        have hge : (0 : Int) ≤ (i : Int) + 1 := by omega
        have hgt : (0 : Int) < (i : Int) + 1 := by omega
        have htn : ((i : Int) + 1).toNat = i + 1 := by omega
        have ew' : IntKind.i64.wrap (i : Int) = i := by rw [wrap_small] <;> omega
        have es2 : IntKind.i64.wrap ((i : Int) + 1 + 1) = (i : Int) + 1 + 1 := by rw [wrap_small] <;> omega
        simp [hv, hge, hgt, htn, hy, ew', hz']
        refine ref_Abs_ok ?_
        simp [hge, htn, hy, ew', hz']
        refine ref_Abs_ok ?_
        by_cases h4 : gabs y ≤ last
        · have h5 : ¬ last < gabs y := by omega
          rw [hlz] at h4 h5
          simp [h4]
          rw [hI, hlz] at h
          simpa [normR, hv, h5] using h
        · have h5 : last < gabs y := by omega
          rw [hlz] at h4
          simp [h4, es2]
          refine forK_go _ hlt (by simp [mkEnv, List.replicate]) ⟨rfl, ⟨gabs y, by simp [hI, normR, hv, h5], fun e => by omega, fun j hj => ?_⟩, rfl⟩
          have : j = i + 1 := by omega
          subst this; exact ⟨y, hy', rfl⟩
    · simp [hv]
      simpa [hI, normR, hv] using h
  · have : i = a.length := by omega
    subst this
    simp
    simpa [hI, normR] using h
theorem ref_Ints_ok {xs ys : List Int} {σ : GS} {Post : DV → GS → Prop} (hl : xs.length < 2 ^ 60) (h : Post (.bool (decide (xs = ys))) σ) : GCall Tryz.prog F_skolemref05_Ints [fints xs, fints ys] σ Post := by
  refine gc_skolemref05_Ints ?_
  by_cases hlen : xs.length = ys.length
  rotate_left
  · have hne : xs ≠ ys := fun e => hlen (by rw [e])
    have hlen' : ¬ ((xs.length : Int) = ys.length) := by omega
    simp [G_skolemref05_Ints, genv0, List.replicate, hlen']
    simpa [hne] using h
  simp [G_skolemref05_Ints, genv0, List.replicate, hlen]
  refine gfor xs.length (fun i e σ' => σ' = σ ∧ (xs = ys ↔ xs.drop i = ys.drop i) ∧ e = mkEnv 26 [(0, fints xs), (1, fints ys), (5, .int .i64 i)]) _ ?_ ⟨rfl, by simp, rfl⟩ ?_
  · simp [mkEnv, List.replicate]
  rintro i _ _ hi ⟨rfl, hI, rfl⟩
  simp [mkEnv, List.replicate]
  by_cases hlt : i < xs.length
  · obtain ⟨x, hx⟩ := nth_lt hlt
    obtain ⟨y, hy⟩ := nth_lt (l := ys) (i := i) (by omega)
    rw [drop_get hx, drop_get hy, List.cons.injEq] at hI
    have es : IntKind.i64.wrap ((i : Int) + 1) = (i : Int) + 1 := by rw [wrap_small] <;> omega
    by_cases c : x = y
    · simp [hlt, hx, hy, c, es]
      exact forK_go _ hlt (by simp [mkEnv, List.replicate]) ⟨rfl, by rw [hI]; simp [c], rfl⟩
    · have hne : xs ≠ ys := fun e => c (hI.1 e).1
      simp [hlt, hx, hy, c]
      simpa [hne] using h
  · have : i = xs.length := by omega
    subst this
    have he : xs = ys := hI.2 (by rw [List.drop_length, hlen, List.drop_length])
    simp
    simpa [he] using h
theorem ref_Same_ok {g k : AigP} {σ : GS} {Post : DV → GS → Prop} (hs : g.Sm) (hk : k.Sm) (h : Post (.bool (decide (g.ins = k.ins ∧ g.ands = k.ands))) σ) : GCall Tryz.prog F_skolemref06_Same [g.enc, k.enc] σ Post := by
  have h1 := hs.ins
  have h2 := hs.ands
  refine GCall.say (r := .bool (decide (g.ins = k.ins ∧ g.ands = k.ands))) ?_ rfl h
  refine gc_skolemref06_Same ?_
  simp [G_skolemref06_Same, genv0, List.replicate]
  refine ref_Ints_ok (by omega) ?_
  by_cases hi : g.ins = k.ins
  rotate_left
  · simp [hi]
  simp [hi]
  by_cases hlen : g.ands.length = k.ands.length
  rotate_left
  · have hne : g.ands ≠ k.ands := fun e => hlen (by rw [e])
    have hlen' : ¬ ((g.ands.length : Int) = k.ands.length) := by omega
    simp [hlen', hne]
  simp [hlen]
  have hld1 : ∀ τ : GS, True := fun _ => trivial
  refine gfor g.ands.length (fun i e σ' => σ' = σ ++ [.row false [fints k.ins, fands g.ands], .row false [fints k.ins, fands k.ands]] ∧ (g.ands = k.ands ↔ g.ands.drop i = k.ands.drop i) ∧ e = mkEnv 39 [(2, .ptr σ.length 0), (3, .ptr (σ.length + 1) 0), (5, .int .i64 i)]) _ ?_ ⟨by simp [hi], by simp, rfl⟩ ?_
  · simp [mkEnv, List.replicate]
  rintro i _ _ hi' ⟨rfl, hI, rfl⟩
  simp [mkEnv, List.replicate]
  by_cases hlt : i < g.ands.length
  · obtain ⟨p, hp⟩ := nth_lt hlt
    obtain ⟨q, hq⟩ := nth_lt (l := k.ands) (i := i) (by omega)
    rw [drop_get hp, drop_get hq, List.cons.injEq] at hI
    have es : IntKind.i64.wrap ((i : Int) + 1) = (i : Int) + 1 := by rw [wrap_small] <;> omega
    have hcmp : gbin .neq (.arr2 .i64) (.agg [.int .i64 p.1, .int .i64 p.2]) (.agg [.int .i64 q.1, .int .i64 q.2]) = some (.bool (!(p.1 == q.1 && p.2 == q.2))) := by simp [gbin, geq, eq2]
    by_cases c : p = q
    · have cc : (p.1 == q.1 && p.2 == q.2) = true := by simp [c]
      simp [hlt, hp, hq, hcmp, cc, es]
      exact forK_go _ hlt (by simp [mkEnv, List.replicate]) ⟨rfl, by rw [hI]; simp [c], rfl⟩
    · have hne : g.ands ≠ k.ands := fun e => c (hI.1 e).1
      have cc : (p.1 == q.1 && p.2 == q.2) = false := by
        rw [Bool.eq_false_iff]; intro hh; simp at hh; exact c (Prod.ext hh.1 hh.2)
      simp [hlt, hp, hq, hcmp, cc, hne]
  · have : i = g.ands.length := by omega
    subst this
    have he : g.ands = k.ands := hI.2 (by rw [List.drop_length, hlen, List.drop_length])
    simp [he, hi]
theorem ref_Cone_ok {g : AigP} {l : List Int} {σ : GS} {Post : DV → GS → Prop} (hs : g.Sm) (hl : l.length < 2 ^ 40) (h : Post (GOut.enc (g.cone l)) σ) : GCall Tryz.prog F_skolemref06_Cone [g.enc, fints l] σ Post := by
  refine GCall.pure (r := GOut.enc (g.cone l)) ?_ (closed_gout _) h
  refine gc_skolemref06_Cone ?_
  simp [G_skolemref06_Cone, genv0, List.replicate]
  refine ref_HasAll_ok hs (by omega) ?_
  by_cases c1 : g.all l = true
  rotate_left
  · have : g.cone l = .err 2 := by unfold AigP.cone; rw [if_neg c1]
    rw [this]
    simp [c1]
    exact rd_err _ _ _
  have hmay := AigP.all_may c1
  have hnn := AigP.may_nodes hmay
  have hgn : g.nodes = 1 + g.ins.length + g.ands.length := rfl
  simp [c1]
  obtain ⟨A, hA⟩ : ∃ A, GObj.row false [fints g.ins, fands g.ands] = A := ⟨_, rfl⟩
  refine GCall.reads (args' := [AigP.enc ⟨g.ins, []⟩, fints g.ins]) (.cons (.agg (.cons (.same _) (.cons (.nils 2) .nil))) (.cons (.same _) .nil)) ?_
  refine ref_edges_ok (g := ⟨g.ins, []⟩) (by show g.ins.length < _; omega) (by omega) ?_
  simp
  have hmk : RkO σ.length (σ ++ [.row false [fints g.ins, fands g.ands], .row false [.nils, .nils], .row false [fints g.ins, .nils, .bool false]]) (σ.length + 2) ⟨g.ins, [], false⟩ :=
    ⟨fints g.ins, .nils, by omega, by simp, .inl rfl, .nil, fsl_not_has, (fun ⟨_, _, _, _, e⟩ => by cases e), fun i hi => absurd hi fsl_not_has⟩
  have hms : (Mk.mk g.ins [] false).n = 1 + g.ins.length := by simp [Mk.n]
  refine ref_copied_ok hmk (by simp [Mk.ok, andsOk]) (by rw [hms]; omega) hmay (by omega) (fun e he => AigP.all_has c1 he) (by simp) (fun v hv => ?_) fun σ' hm' hst' => ?_
  · obtain ⟨u, hu, rfl⟩ := List.mem_map.1 hv
    have := edgeOf_lt g.ins u; have := edgeOf_pos hu; rw [hms]; omega
  obtain ⟨d, hd⟩ : ∃ d, (Mk.mk g.ins [] false).copy g (g.reach l) (0 :: g.ins.map (edgeOf g.ins)) = d := ⟨_, rfl⟩
  have hspec : g.cone l = ⟨d.2.graph, l.map (imgE d.1), 0⟩ := by unfold AigP.cone; rw [if_pos c1, hd]
  rw [hspec]
  rw [hd] at hm' ⊢
  have hdl : d.1.length = g.nodes := by rw [← hd]; exact Mk.copy_len (by simp; omega)
  have hdn : d.2.n ≤ (Mk.mk g.ins [] false).n + g.ands.length := by rw [← hd]; exact Mk.copy_n.2
  have hdok : CpOk d := by
    rw [← hd]
    refine Mk.copy_ok (by simp [Mk.ok, andsOk]) fun t ht => ?_
    simp only [List.mem_cons, List.mem_map] at ht
    rcases ht with rfl | ⟨v, hv, rfl⟩
    · rw [hms]; omega
    · have := edgeOf_lt g.ins v; have := edgeOf_pos hv; rw [hms]; omega
  rw [hms] at hdn
  have hft0 : ∀ i, Rt (σ ++ [GObj.row false [fints g.ins, fands g.ands], .row false [.nils, .nils], .row false [fints g.ins, .nils, .bool false]]) (σ.length + 2) i ↔ i = σ.length + 2 := fun i => by
    have hR : RkR σ.length (σ ++ [GObj.row false [fints g.ins, fands g.ands], .row false [.nils, .nils], .row false [fints g.ins, .nils, .bool false]]) (σ.length + 2) ⟨g.ins, [], false⟩ (fints g.ins) .nils := ⟨by omega, by simp, .inl rfl, .nil, fsl_not_has, (fun ⟨_, _, _, _, e⟩ => by cases e), fun i hi => absurd hi fsl_not_has⟩
    rw [hR.ft]
    constructor
    · rintro (h1 | h1 | ⟨_, _, _, _, e⟩)
      · exact h1
      · exact absurd h1 fsl_not_has
      · cases e
    · exact .inl
  have hlen := hst'.len
  simp at hlen
  have hC' : σ'[σ.length + 1]? = some (.row false [.nils, .nils]) := by rw [hst'.get _ (by simp) (by rw [hft0]; omega)]; simp
  have hF' : Fr σ.length σ σ' := ⟨by omega, fun j hj => by rw [hst'.get _ (by simp; omega) (by rw [hft0]; omega), List.getElem?_append_left hj]⟩
  obtain ⟨si, sa, hR⟩ := hm'
  have hgr : gload (.load 2 true) [.ptr (σ.length + 2) 0] σ' = some (.agg [si, sa]) := by rw [ld_agg hR.row]; rfl
  simp [hgr]
  refine ref_images_ok (by omega) hl (fun t ht => by have := hdok.to t ht; omega) (fun e he => by rw [hdl]; exact AigP.all_has c1 he) ?_
  have hst : gimp (.store 2) [.ptr (σ.length + 1) 0, .agg [si, sa]] σ' = some (.tuple [], σ'.set (σ.length + 1) (.row false [si, sa])) := by simp [gimp, hC', over, hR.si_flat, hR.ands.flat]
  have hldC : gload (.load 2 true) [.ptr (σ.length + 1) 0] (σ'.set (σ.length + 1) (.row false [si, sa])) = some (.agg [si, sa]) := by
    rw [ld_agg (List.getElem?_set_self (by omega))]; rfl
  simp [hgr, hst, hldC]
  refine ⟨hF'.set (by omega) _, ?_⟩
  have hnf : ¬ Rt σ' (σ.length + 2) (σ.length + 1) := hst'.ft _ (by simp) (by rw [hft0]; omega)
  have hR' : RkR σ.length (σ'.set (σ.length + 1) (.row false [si, sa])) (σ.length + 2) d.2 si sa := hR.fit fun j hj => List.getElem?_set_ne fun e => by subst e; exact hnf hj
  exact .tuple (.cons (hR'.rd _ fun i hi => .inl hi) (.cons (.same _) (.cons (.same _) .nil)))
end Go.Gh
namespace Go.Gh
open Go.RowKit Go.Proofs
set_option linter.unusedVariables false
set_option linter.unusedSimpArgs false
set_option maxRecDepth 100000
set_option maxHeartbeats 4000000 in
theorem ref_Restrict_ok {g : AigP} {l a : List Int} {σ : GS} {Post : DV → GS → Prop} (hs : g.Sm) (hl : l.length < 2 ^ 40) (hal : a.length < 2 ^ 40) (h : Post (GOut.enc (g.restrict l a)) σ) : GCall Tryz.prog F_skolemref06_Restrict [g.enc, fints l, fints a] σ Post := by
  refine GCall.pure (r := GOut.enc (g.restrict l a)) ?_ (closed_gout _) h
  refine gc_skolemref06_Restrict ?_
  simp [G_skolemref06_Restrict, genv0, List.replicate]
  refine ref_HasAll_ok hs (by omega) ?_
  by_cases c1 : g.all l = true
  rotate_left
  · have : g.restrict l a = .err 2 := by unfold AigP.restrict; rw [if_neg (by simp [c1])]
    rw [this]
    simp [c1]
    exact rd_err _ _ _
  simp [c1]
  refine ref_Normal_ok (by omega) ?_
  by_cases c2 : normal a = true
  rotate_left
  · have : g.restrict l a = .err 2 := by unfold AigP.restrict; rw [if_neg (by simp [c2])]
    rw [this]
    simp [c2]
    exact rd_err _ _ _
  simp [c2]
  have hmay := AigP.all_may c1
  have hnn := AigP.may_nodes hmay
  have hgn : g.nodes = 1 + g.ins.length + g.ands.length := rfl
  have hins := AigP.may_ins hmay
  have hvar := insOk_vars hins
  have hneg : ∀ v, isVar v = true → IntKind.i64.wrap (-v) = -v := fun v hv => by
    simp only [isVar, Bool.and_eq_true, decide_eq_true_eq] at hv
    rw [wrap_small] <;> omega
  obtain ⟨kp, hkp⟩ : ∃ kp : Int → Bool, (fun v => !(a.contains v || a.contains (-v))) = kp := ⟨_, rfl⟩
  refine gfor g.ins.length (fun i e σ' => e = mkEnv 123 [(1, fints l), (2, fints a), (3, .ptr σ.length 0), (6, .ptr (σ.length + 1) 0), (9, .ptr (σ.length + 2) 0), (10, .int .i64 i)] ∧
      σ'[σ.length]? = some (.row false [fints g.ins, fands g.ands]) ∧ σ'[σ.length + 1]? = some (.row false [.nils, .nils]) ∧ (∃ s, σ'[σ.length + 2]? = some (.row false [s, .nils, .bool false]) ∧ Own (σ.length + 3) 1 eint σ' s ((g.ins.take i).filter kp)) ∧ Fr σ.length σ σ') _ ?_ ⟨rfl, by simp, by simp, ⟨.nils, by simp, by simpa using Own.nil⟩, Fr.self _⟩ ?_
  · simp [mkEnv, List.replicate]
  rintro i _ σ' hi ⟨rfl, hA, hC, ⟨s, hM, hO⟩, hF⟩
  have hlen : σ.length + 3 ≤ σ'.length := by have := get_dom hM; omega
  have hldA : gload (.load 1 false) [.ptr σ.length 0] σ' = some (fints g.ins) := by rw [ld_at hA]; rfl
  simp [mkEnv, List.replicate]
  by_cases hlt : i < g.ins.length
  · obtain ⟨y, hy⟩ := nth_lt hlt
    have hy' := nth_get hy
    have hv := hvar y (List.mem_of_getElem? hy')
    have es : IntKind.i64.wrap ((i : Int) + 1) = (i : Int) + 1 := by rw [wrap_small] <;> omega
    simp [hldA, hlt, hy]
    refine ref_In_ok (by omega) ?_
    by_cases d1 : a.contains y = true
    · have hk : kp y = false := by rw [← hkp]; show (!(a.contains y || a.contains (-y))) = false; rw [d1]; rfl
      have d1' := d1
      simp at d1'
      simp [d1', es]
      refine forK_go _ hlt (by simp [mkEnv, List.replicate]) ⟨rfl, hA, hC, ⟨s, hM, ?_⟩, hF⟩
      rw [take_get hy', List.filter_append]; simpa [hk] using hO
    · have d1' := d1
      simp at d1'
      simp [d1', hldA, hy, hneg y hv]
      refine ref_In_ok (by omega) ?_
      by_cases d2 : a.contains (-y) = true
      · have hk : kp y = false := by rw [← hkp]; show (!(a.contains y || a.contains (-y))) = false; rw [d2]; cases a.contains y <;> rfl
        have d2' := d2
        simp at d2'
        simp [d2', es]
        refine forK_go _ hlt (by simp [mkEnv, List.replicate]) ⟨rfl, hA, hC, ⟨s, hM, ?_⟩, hF⟩
        rw [take_get hy', List.filter_append]; simpa [hk] using hO
      · have hk : kp y = true := by rw [← hkp]; show (!(a.contains y || a.contains (-y))) = true; rw [Bool.eq_false_iff.2 d1, Bool.eq_false_iff.2 d2]; rfl
        have d2' := d2
        simp at d2'
        have hldM : gload (.load 1 false) [.ptr (σ.length + 2) 0] σ' = some s := by rw [ld_at hM]; rfl
        obtain ⟨s', σ1, q1, q2, q3, q4, q5, q6⟩ := hO.push (by_ := 8) y (fun _ => rfl) (by simp) hlen (by have := List.length_filter_le kp (g.ins.take i); simp at this; omega) (by decide)
        have hge : ∀ j, s.has j → σ.length + 3 ≤ j := fun j hj => hO.has_ge hj
        have hk1 : ∀ j, j < σ.length + 3 → σ1[j]? = σ'[j]? := fun j hj => q3.get j hj
        have hM1 := (hk1 _ (by omega)).trans hM
        have hst : gimp (.store 1) [.ptr (σ.length + 2) 0, s'] σ1 = some (.tuple [], σ1.set (σ.length + 2) (.row false [s', .nils, .bool false])) := by
          simp [gimp, hM1, cells_of_flat q2.flat, over, q2.flat]
        simp [d2', hldM, hldA, hy, q1, hst, es]
        have hne : ∀ j, j ≠ σ.length + 2 → (σ1.set (σ.length + 2) (.row false [s', .nils, .bool false]))[j]? = σ1[j]? := fun j hj => List.getElem?_set_ne (Ne.symm hj)
        refine forK_go _ hlt (by simp [mkEnv, List.replicate]) ⟨rfl, ?_, ?_, ⟨s', ?_, ?_⟩, ?_⟩
        · rw [hne _ (by omega), hk1 _ (by omega)]; exact hA
        · rw [hne _ (by omega), hk1 _ (by omega)]; exact hC
        · rw [List.getElem?_set_self (by omega)]
        · rw [take_get hy', List.filter_append]
          have := q2.fit (σ' := σ1.set (σ.length + 2) (.row false [s', .nils, .bool false])) fun j hj => hne j (by have := q2.has_ge hj; omega)
          simpa [hk] using this
        · exact ⟨by simp; omega, fun j hj => by rw [hne _ (by omega), hk1 _ (by omega)]; exact hF.get j hj⟩
  · have : i = g.ins.length := by omega
    subst this
    rw [List.take_length] at hO
    obtain ⟨free, hfree⟩ : ∃ free, g.ins.filter kp = free := ⟨_, rfl⟩
    rw [hfree] at hO
    have hfl : free.length ≤ g.ins.length := by rw [← hfree]; exact List.length_filter_le _ _
    simp [hldA]
    have hR1 : RkR (σ.length + 2) σ' (σ.length + 2) ⟨free, [], false⟩ s .nils := ⟨Nat.le_refl _, hM, .inr (hO.weaken (by omega)), .nil, fun hh => by have := hO.has_ge hh; omega, (fun ⟨_, _, _, _, e⟩ => by cases e), fun i _ ⟨_, _, _, _, e⟩ => by cases e⟩
    have hms : (Mk.mk free [] false).n = 1 + free.length := by simp [Mk.n]
    obtain ⟨im, himd⟩ : ∃ im : Int → Int, (fun v => if a.contains v then 1 else if a.contains (-v) then 0 else edgeOf free v) = im := ⟨_, rfl⟩
    refine gfor g.ins.length (fun i e σ2 => (∃ u, e = mkEnv 123 [(1, fints l), (2, fints a), (3, .ptr σ.length 0), (6, .ptr (σ.length + 1) 0), (9, .ptr (σ.length + 2) 0), (11, u), (12, .int .i64 i)] ∧ Own σ'.length 1 eint σ2 u ((g.ins.take i).map im)) ∧ Fr σ'.length σ' σ2) _ ?_ ⟨⟨.nils, rfl, .nil⟩, .rfl'⟩ ?_
    · simp [mkEnv, List.replicate]
    clear hlt hi
    rintro i _ σ2 hi ⟨⟨u, rfl, hU⟩, hF2⟩
    simp [mkEnv, List.replicate]
    have hA2 := (hF2.get _ (by omega)).trans hA
    have hC2 := (hF2.get _ (by omega)).trans hC
    have hldA2 : gload (.load 1 false) [.ptr σ.length 0] σ2 = some (fints g.ins) := by rw [ld_at hA2]; rfl
    have hR2 : RkR (σ.length + 2) σ2 (σ.length + 2) ⟨free, [], false⟩ s .nils := hR1.fit fun j hj => hF2.get j (hR1.dom hj).1
    by_cases hlt : i < g.ins.length
    · obtain ⟨y, hy⟩ := nth_lt hlt
      have hy' := nth_get hy
      have hv := hvar y (List.mem_of_getElem? hy')
      have es : IntKind.i64.wrap ((i : Int) + 1) = (i : Int) + 1 := by rw [wrap_small] <;> omega
      have hpush : ∀ z : Int, ∃ u' σ3, gimp (.append 1 8) [u, .slice σ2.length 0 1 1 (some 1)] (σ2 ++ [.row false [.int .i64 z]]) = some (u', σ3) ∧ Own σ'.length 1 eint σ3 u' ((g.ins.take i).map im ++ [z]) ∧ Fr σ'.length σ2 σ3 := fun z => by
        obtain ⟨u', σ3, q1, q2, q3, _⟩ := hU.push (by_ := 8) z (fun _ => rfl) (by simp) hF2.len (by simp; omega) (by decide)
        exact ⟨u', σ3, q1, q2, q3⟩
      simp [hldA2, hlt, hy]
      refine ref_In_ok (by omega) ?_
      by_cases d1 : a.contains y = true
      · have hiy : im y = 1 := by rw [← himd]; simp only [d1, if_true]
        have d1' := d1
        simp at d1'
        obtain ⟨u', σ3, q1, q2, q3⟩ := hpush 1
        simp [d1', q1, es]
        refine forK_go _ hlt (by simp [mkEnv, List.replicate]) ⟨⟨u', rfl, ?_⟩, hF2.trans q3⟩
        rw [take_get hy', List.map_append]; simpa [hiy] using q2
      · have d1' := d1
        simp at d1'
        simp [d1', hldA2, hy, hneg y hv]
        refine ref_In_ok (by omega) ?_
        by_cases d2 : a.contains (-y) = true
        · have hiy : im y = 0 := by rw [← himd]; simp only [d1, d2, if_true]; rfl
          have d2' := d2
          simp at d2'
          obtain ⟨u', σ3, q1, q2, q3⟩ := hpush 0
          simp [d2', q1, es]
          refine forK_go _ hlt (by simp [mkEnv, List.replicate]) ⟨⟨u', rfl, ?_⟩, hF2.trans q3⟩
          rw [take_get hy', List.map_append]; simpa [hiy] using q2
        · have hiy : im y = edgeOf free y := by rw [← himd]; simp only [d1, d2]; rfl
          have d2' := d2
          simp at d2'
          have hagg : gload (.load 2 true) [.ptr (σ.length + 2) 0] σ2 = some (.agg [s, .nils]) := by rw [ld_agg hR2.row]; rfl
          simp [d2', hagg, hldA2, hy]
          refine ref_edge_live hR2 (by rw [hms]; omega) ?_
          obtain ⟨u', σ3, q1, q2, q3⟩ := hpush (edgeOf free y)
          simp [q1, es]
          refine forK_go _ hlt (by simp [mkEnv, List.replicate]) ⟨⟨u', rfl, ?_⟩, hF2.trans q3⟩
          rw [take_get hy', List.map_append]; simpa [hiy] using q2
    · have : i = g.ins.length := by omega
      subst this
      rw [List.take_length] at hU
      have hldA3 : gload (.load 2 true) [.ptr σ.length 0] σ2 = some g.enc := by rw [ld_agg hA2]; rfl
      simp [hldA2, hldA3]
      refine GCall.frz (fun i => u.idOf == some i) (args' := [.ptr (σ.length + 2) 0, g.enc, fints l, fints (g.ins.map im)]) (.cons (.same _) (.cons (.same _) (.cons (.same _) (.cons (hU.rdF fun _ => rfl) .nil)))) ?_
      have hoff : ∀ j, ¬ u.has j → (frz (fun i => u.idOf == some i) σ2)[j]? = σ2[j]? := fun j hj => frz_off (hU.idOf_has hj)
      have hl3 : (frz (fun i => u.idOf == some i) σ2).length = σ2.length := by rw [frz_len]
      obtain ⟨σ3, hσ3⟩ : ∃ σ3, frz (fun i => u.idOf == some i) σ2 = σ3 := ⟨_, rfl⟩
      rw [hσ3] at hoff hl3 ⊢
      have hl2 := hF2.len
      have hlow : ∀ j, j < σ'.length → σ3[j]? = σ'[j]? := fun j hj => (hoff j fun hh => by have := hU.has_ge hh; omega).trans (hF2.get j hj)
      have hR3 : RkR (σ.length + 2) σ3 (σ.length + 2) ⟨free, [], false⟩ s .nils := hR1.fit fun j hj => hlow j (hR1.dom hj).1
      have hC3 := (hlow _ (by omega)).trans hC
      have hft3 : ∀ j, Rt σ3 (σ.length + 2) j → σ.length + 2 ≤ j := fun j hj => (hR3.dom hj).2
      have hspec : g.restrict l a = ⟨((Mk.mk free [] false).copy g (g.reach l) (0 :: g.ins.map im)).2.graph, l.map (imgE ((Mk.mk free [] false).copy g (g.reach l) (0 :: g.ins.map im)).1), 0⟩ := by
        unfold AigP.restrict
        rw [if_pos (by simp [c1, c2])]
        simp only [hkp, hfree, himd]
      have himr : ∀ t ∈ g.ins.map im, 0 ≤ t ∧ t < 2 * ((Mk.mk free [] false).n : Int) := fun t ht => by
        obtain ⟨v, hv, rfl⟩ := List.mem_map.1 ht
        rw [hms, ← himd]
        simp only
        by_cases d1 : a.contains v = true
        · rw [if_pos d1]; omega
        · rw [if_neg d1]
          by_cases d2 : a.contains (-v) = true
          · rw [if_pos d2]; omega
          · rw [if_neg d2]
            have h1 := edgeOf_lt free v
            have h2 : 0 ≤ edgeOf free v := edgeOf_pos (by rw [← hfree, List.mem_filter, ← hkp]; exact ⟨hv, by show (!(a.contains v || a.contains (-v))) = true; rw [Bool.eq_false_iff.2 d1, Bool.eq_false_iff.2 d2]; rfl⟩)
            omega
      refine ref_copied_ok ⟨_, _, hR3⟩ (by simp [Mk.ok, andsOk]) (by rw [hms]; omega) hmay (by omega) (fun e he => AigP.all_has c1 he) (by simp) himr fun σ4 hm4 hst4 => ?_
      obtain ⟨d, hd⟩ : ∃ d, (Mk.mk free [] false).copy g (g.reach l) (0 :: g.ins.map im) = d := ⟨_, rfl⟩
      rw [hd] at hm4 hspec ⊢
      rw [hspec]
      have hdl : d.1.length = g.nodes := by rw [← hd]; exact Mk.copy_len (by simp; omega)
      have hdn : d.2.n ≤ (Mk.mk free [] false).n + g.ands.length := by rw [← hd]; exact Mk.copy_n.2
      have hdok : CpOk d := by
        rw [← hd]
        refine Mk.copy_ok (by simp [Mk.ok, andsOk]) fun t ht => ?_
        simp only [List.mem_cons] at ht
        rcases ht with rfl | ht
        · rw [hms]; omega
        · exact himr t ht
      rw [hms] at hdn
      have hlen4 := hst4.len
      have hC4 := (hst4.get _ (by omega) (fun hf => by have := hft3 _ hf; omega)).trans hC3
      have hF4 : Fr σ.length σ σ4 := ⟨by omega, fun j hj => by rw [hst4.get _ (by omega) (fun hf => by have := hft3 _ hf; omega), hlow _ (by omega)]; exact hF.get j hj⟩
      have hnf : ¬ Rt σ4 (σ.length + 2) (σ.length + 1) := hst4.ft _ (by omega) fun hf => by have := hft3 _ hf; omega
      obtain ⟨si, sa, hR⟩ := hm4
      have hgr : gload (.load 2 true) [.ptr (σ.length + 2) 0] σ4 = some (.agg [si, sa]) := by rw [ld_agg hR.row]; rfl
      simp [hgr]
      refine ref_images_ok (by omega) hl (fun t ht => by have := hdok.to t ht; omega) (fun e he => by rw [hdl]; exact AigP.all_has c1 he) ?_
      have hst : gimp (.store 2) [.ptr (σ.length + 1) 0, .agg [si, sa]] σ4 = some (.tuple [], σ4.set (σ.length + 1) (.row false [si, sa])) := by simp [gimp, hC4, over, hR.si_flat, hR.ands.flat]
      have hldC : gload (.load 2 true) [.ptr (σ.length + 1) 0] (σ4.set (σ.length + 1) (.row false [si, sa])) = some (.agg [si, sa]) := by
        rw [ld_agg (List.getElem?_set_self (by omega))]; rfl
      simp [hgr, hst, hldC]
      refine ⟨hF4.set (by omega) _, ?_⟩
      have hR' : RkR (σ.length + 2) (σ4.set (σ.length + 1) (.row false [si, sa])) (σ.length + 2) d.2 si sa := hR.fit fun j hj => List.getElem?_set_ne fun e => by subst e; exact hnf hj
      exact .tuple (.cons (hR'.rd _ fun i hi => .inl (by omega)) (.cons (.same _) (.cons (.same _) .nil)))
end Go.Gh
namespace Go.Gh
open Go.Proofs
set_option maxRecDepth 100000
theorem works_run : sayTrueL Tryz.prog [(F_aig_ToNet, G_aig_ToNet), (F_circ_May, G_circ_May)] 60 11 [] = true := by kernel_rfl
theorem works_ok {σ : GS} {Post : DV → GS → Prop} (k : Post (.bool true) σ) : GCall Tryz.prog 11 [] σ Post := by
  refine GCall.closed (sayTrueL_ok seatfollows (fun p hp => ?_) works_run) k
  simp only [List.mem_cons, List.not_mem_nil, or_false] at hp
  rcases hp with rfl | rfl
  · exact ⟨_, Tryz.func47, by kernel_rfl, c_aig_ToNet⟩
  · exact ⟨_, Tryz.func125, by kernel_rfl, c_circ_May⟩
end Go.Gh
namespace Go.Gh
open Go.RowKit Go.Proofs
set_option linter.unusedVariables false
set_option linter.unusedSimpArgs false
set_option maxRecDepth 100000
/-- Is a graph larger than the laws speak of? -/
def AigP.great (g : AigP) : Bool := decide (600 < g.ands.length) || decide (100 < g.ins.length)
abbrev eaig (g : AigP) : List DV := [fints g.ins, fands g.ands]
theorem closeds_eaig (g : AigP) : closeds (eaig g) = true := by
  have h1 := closed_fints g.ins
  have h2 := closed_fands g.ands
  simp only [closeds, h1, h2]; rfl
theorem great_ok {gs : List AigP} {σ : GS} {Post : DV → GS → Prop} (hl : gs.length < 2 ^ 50) (h : Post (.bool (gs.any AigP.great)) σ) : GCall Tryz.prog F_skolemlaw06_great [.fsl 2 (gs.map eaig)] σ Post := by
  obtain ⟨B, hB⟩ : ∃ B, gs.any AigP.great = B := ⟨_, rfl⟩
  rw [hB] at h
  refine GCall.say (r := .bool B) ?_ rfl h
  refine gc_skolemlaw06_great ?_
  simp [G_skolemlaw06_great, genv0, List.replicate]
  refine gfor gs.length (fun i e σ' => Fr σ.length σ σ' ∧ B = (gs.drop i).any AigP.great ∧ e = mkEnv 22 [(5, .fsl 2 (gs.map eaig)), (6, .int .i64 gs.length), (7, .int .i64 i)]) _ ?_ ⟨.rfl', by rw [← hB]; rfl, rfl⟩ ?_
  · simp [mkEnv, List.replicate]
  rintro i _ σ' hi ⟨hF, hI, rfl⟩
  simp [mkEnv, List.replicate]
  by_cases hlt : i < gs.length
  · obtain ⟨g, hg⟩ := nth_lt hlt
    rw [drop_get hg, List.any_cons] at hI
    have es : IntKind.i64.wrap ((i : Int) + 1) = (i : Int) + 1 := by rw [wrap_small] <;> omega
    by_cases c1 : (600 : Int) < g.ands.length
    · have c : g.great = true := by unfold AigP.great; simp; omega
      simp [hlt, hg, c1]
      refine ⟨hF.app _, ?_⟩
      rw [hI, c]; rfl
    · by_cases c2 : (100 : Int) < g.ins.length
      · have c : g.great = true := by unfold AigP.great; simp; omega
        simp [hlt, hg, c1, c2]
        refine ⟨hF.app _, ?_⟩
        rw [hI, c]; rfl
      · have c : g.great = false := by unfold AigP.great; simp; omega
        simp [hlt, hg, c1, c2, es]
        exact forK_go _ hlt (by simp [mkEnv, List.replicate]) ⟨hF.app _, by rw [hI, c]; rfl, rfl⟩
  · have : i = gs.length := by omega
    subst this
    simp
    refine ⟨hF, ?_⟩
    rw [hI, List.drop_length]; rfl
theorem great_one {g : AigP} {id : Nat} {cap : Option Nat} {σ : GS} {Post : DV → GS → Prop} (hr : σ[id]? = some (.row false (eaig g))) (h : Post (.bool g.great) σ) : GCall Tryz.prog F_skolemlaw06_great [.slice id 0 1 2 cap] σ Post := by
  have hrd := Rd.slice (σ := σ) (ok := fun _ => True) (id := id) (off := 0) (sz := 2) (cap := cap) (es := [eaig g]) trivial hr (by simp) (fun e he => by simp at he; subst he; rfl) (by simp; exact Rds.refl _)
  refine GCall.borrow (args' := [.fsl 2 ([g].map eaig)]) (r := .bool g.great) (.cons hrd .nil) ?_ rfl ?_ h
  · have h1 : closedss (g.ins.map eint) = true := closed_fints g.ins
    have h2 : closedss (g.ands.map eand) = true := closed_fands g.ands
    simp only [closeds, DV.closed, List.map_cons, List.map_nil, closedss]
    rw [h1, h2]; rfl
  · exact great_ok (gs := [g]) (by simp) (by simp)
theorem cones_ok {g : AigP} {l a : List Int} {σ : GS} {Post : DV → GS → Prop} (h1 : g.ins.length < 2 ^ 47) (h2 : g.ands.length < 2 ^ 47) (hl : l.length < 2 ^ 47) (ha : a.length < 2 ^ 47) (h6 : I64 a) (k : ∀ σ', Post (.bool true) σ') : GCall Tryz.prog F_skolemlaw06_AigCones [g.enc, fints l, fints a] σ Post := by
  refine gc_skolemlaw06_AigCones ?_
  simp [G_skolemlaw06_AigCones, genv0, List.replicate]
  refine great_one (g := g) (by simp) ?_
  by_cases c1 : g.great = true
  · simp [c1]
    refine works_ok ?_
    simp
    exact k _
  have hs : g.Sm := ⟨by omega, by omega⟩
  simp [c1]
  by_cases c2 : (100 : Int) < l.length
  · simp [c2]
    refine works_ok ?_
    simp
    exact k _
  simp [c2]
  by_cases c3 : (200 : Int) < a.length
  · simp [c3]
    refine works_ok ?_
    simp
    exact k _
  simp [c3]
  refine aig_Cone_ok hs (by omega) ?_
  rw [AigP.compose_nil]
  simp
  refine ref_Cone_ok hs (by omega) ?_
  simp
  refine aig_Restrict_ok hs (by omega) (by omega) h6 ?_
  simp
  refine ref_Restrict_ok hs (by omega) (by omega) ?_
  have hsm : ∀ o : GOut, o = g.cone l ∨ o = g.restrict l a → o.g.Sm ∧ o.l.length < 2 ^ 60 := by
    have hcp : ∀ (m : Mk) (T : List Int), m.ands = [] → (m.copy g (g.reach l) T).2.graph.ins = m.ins ∧ (m.copy g (g.reach l) T).2.graph.ands.length ≤ g.ands.length := fun m T hm => by
      have e1 := Mk.copy_ins (m := m) (g := g) (r := g.reach l) (T := T)
      have e2 := (Mk.copy_n (m := m) (g := g) (r := g.reach l) (T := T)).2
      unfold Mk.n at e2
      rw [e1, hm] at e2
      exact ⟨e1, by show (m.copy g (g.reach l) T).2.ands.length ≤ _; simp at e2; omega⟩
    rintro o (rfl | rfl)
    · unfold AigP.cone
      split
      · obtain ⟨e1, e2⟩ := hcp (Mk.mk g.ins [] false) (0 :: g.ins.map (edgeOf g.ins)) rfl
        exact ⟨⟨by show (Mk.graph _).ins.length < _; rw [e1]; exact hs.ins, by show (Mk.graph _).ands.length < _; omega⟩, by simp; omega⟩
      · exact ⟨⟨by simp [GOut.err], by simp [GOut.err]⟩, by simp [GOut.err]⟩
    · unfold AigP.restrict
      split
      · obtain ⟨e1, e2⟩ := hcp (Mk.mk (g.ins.filter fun v => !(a.contains v || a.contains (-v))) [] false) (0 :: g.ins.map fun v => if a.contains v then 1 else if a.contains (-v) then 0 else edgeOf (g.ins.filter fun v => !(a.contains v || a.contains (-v))) v) rfl
        refine ⟨⟨?_, ?_⟩, by simp; omega⟩
        · show (Mk.graph _).ins.length < _
          rw [e1]
          exact Nat.lt_of_le_of_lt (List.length_filter_le _ _) hs.ins
        · exact Nat.lt_of_le_of_lt e2 hs.ands
      · exact ⟨⟨by simp [GOut.err], by simp [GOut.err]⟩, by simp [GOut.err]⟩
  obtain ⟨c, hc⟩ : ∃ c, g.cone l = c := ⟨_, rfl⟩
  obtain ⟨r, hr⟩ : ∃ r, g.restrict l a = r := ⟨_, rfl⟩
  obtain ⟨s1, s2⟩ := hsm c (.inl hc.symm)
  obtain ⟨s3, s4⟩ := hsm r (.inr hr.symm)
  rw [hc, hr]
  simp
  refine ref_Same_ok s1 s1 ?_
  simp
  refine ref_Ints_ok s2 ?_
  simp
  refine ref_Same_ok s3 s3 ?_
  simp
  refine ref_Ints_ok s4 ?_
  simp
  refine works_ok ?_
  simp
  exact k _
end Go.Gh
namespace Go.Gh
open Go.Proofs
abbrev F_skolemlaw06_AigMays : Nat := 4
abbrev F_skolemref06_Support : Nat := 19
abbrev F_aig_Size : Nat := 20
abbrev F_skolemref06_Size : Nat := 21
abbrev F_aig_Reduced : Nat := 24
abbrev F_skolemref06_Reduced : Nat := 25
abbrev F_aig_Has : Nat := 26
abbrev F_skolemref06_Has : Nat := 27
abbrev F_aig_Same : Nat := 28
abbrev F_slices_Equal_int_int : Nat := 81
abbrev F_slices_Equal__2_int__2_int : Nat := 82
noncomputable abbrev G_aig_Support : GFun := ⟨40, [(.tmp 4), (.tmp 5)], (.seq (.region [⟨0, ⟨(some 2), none, (.new .box), [(.tmp 0)]⟩, []⟩, ⟨0, ⟨(some 4), none, (.pure .id), [(.const .nils)]⟩, []⟩, ⟨0, ⟨(some 5), none, (.pure .id), [(.const (.int .i64 0))]⟩, []⟩]) (.seq (.seq (.region [⟨0, ⟨(some 9), none, (.load (.load 2 true)), [(.tmp 2)]⟩, []⟩, ⟨0, ⟨(some 10), none, (.pure .id), [(.tmp 1)]⟩, []⟩, ⟨0, ⟨(some 11), none, (.new (.bslice 1 [(.int .i64 0)] 1 [(0, 1)])), [(.tmp 10)]⟩, []⟩, ⟨0, ⟨(some 12), none, (.call F_aig_all), [(.tmp 9), (.tmp 11)]⟩, []⟩, ⟨0, ⟨(some 13), none, (.pure (.un .not)), [(.tmp 12)]⟩, []⟩]) (.cond (.tmp 13) (.seq (.region [⟨0, ⟨(some 4), none, (.pure .id), [(.const .nils)]⟩, []⟩, ⟨0, ⟨(some 5), none, (.pure .id), [(.const (.int .i64 2))]⟩, []⟩]) .ret) .skip)) (.seq (.region [⟨0, ⟨(some 6), none, (.pure .id), [(.const .nils)]⟩, []⟩]) (.seq (.seq (.region [⟨0, ⟨(some 14), none, (.load (.load 2 true)), [(.tmp 2)]⟩, []⟩, ⟨1, ⟨(some 15), none, (.pure .id), [(.tmp 1)]⟩, []⟩, ⟨2, ⟨(some 16), none, (.new (.bslice 1 [(.int .i64 0)] 1 [(0, 1)])), [(.tmp 15)]⟩, []⟩, ⟨4, ⟨(some 18), none, (.pure (.faddr 0)), [(.tmp 2)]⟩, []⟩, ⟨5, ⟨(some 19), none, (.load (.load 1 false)), [(.tmp 18)]⟩, []⟩, ⟨6, ⟨(some 20), none, (.pure .len), [(.tmp 19)]⟩, []⟩, ⟨7, ⟨(some 21), none, (.pure (.bin .add .none)), [(.const (.int .i64 1)), (.tmp 20)]⟩, []⟩, ⟨10, ⟨(some 24), none, (.pure .id), [(.const (.int .i64 0))]⟩, []⟩, ⟨3, ⟨(some 17), none, (.call F_aig_reached), [(.tmp 14), (.tmp 16)]⟩, [⟨(some 19), none, (.load (.load 1 false)), [(.tmp 18)]⟩]⟩, ⟨8, ⟨(some 22), none, (.pure (.slice 1 true true false)), [(.tmp 17), (.const (.int .i64 1)), (.tmp 21)]⟩, []⟩, ⟨9, ⟨(some 23), none, (.pure .len), [(.tmp 22)]⟩, []⟩]) (.block 0 (.loop (.seq (.region [⟨0, ⟨(some 25), none, (.pure (.bin .lss .none)), [(.tmp 24), (.tmp 23)]⟩, []⟩]) (.seq (.cond (.tmp 25) .skip (.exit 0)) (.seq (.block 1 (.seq (.region [⟨0, ⟨(some 26), none, (.pure .id), [(.tmp 24)]⟩, []⟩, ⟨0, ⟨(some 27), none, (.pure (.iaddr 1)), [(.tmp 22), (.tmp 24)]⟩, []⟩, ⟨0, ⟨(some 28), none, (.load (.load 1 false)), [(.tmp 27)]⟩, []⟩, ⟨0, ⟨(some 7), none, (.pure .id), [(.tmp 26)]⟩, []⟩, ⟨0, ⟨(some 8), none, (.pure .id), [(.tmp 28)]⟩, []⟩]) (.seq (.region [⟨0, ⟨(some 29), none, (.pure .id), [(.tmp 8)]⟩, []⟩]) (.cond (.tmp 29) (.region [⟨0, ⟨(some 30), none, (.pure .id), [(.tmp 6)]⟩, []⟩, ⟨0, ⟨(some 31), none, (.pure (.faddr 0)), [(.tmp 2)]⟩, []⟩, ⟨0, ⟨(some 32), none, (.load (.load 1 false)), [(.tmp 31)]⟩, []⟩, ⟨0, ⟨(some 33), none, (.pure .id), [(.tmp 7)]⟩, []⟩, ⟨0, ⟨(some 34), none, (.pure (.iaddr 1)), [(.tmp 32), (.tmp 33)]⟩, []⟩, ⟨0, ⟨(some 35), none, (.load (.load 1 false)), [(.tmp 34)]⟩, []⟩, ⟨0, ⟨(some 36), none, (.new (.bslice 1 [(.int .i64 0)] 1 [(0, 1)])), [(.tmp 35)]⟩, []⟩, ⟨0, ⟨(some 37), none, (.imp (.append 1 8)), [(.tmp 30), (.tmp 36)]⟩, []⟩, ⟨0, ⟨(some 6), none, (.pure .id), [(.tmp 37)]⟩, []⟩]) .skip)))) (.region [⟨0, ⟨(some 38), none, (.pure (.bin .add .none)), [(.tmp 24), (.const (.int .i64 1))]⟩, []⟩, ⟨0, ⟨(some 24), none, (.pure .id), [(.tmp 38)]⟩, []⟩]))))))) (.seq (.region [⟨0, ⟨(some 39), none, (.pure .id), [(.tmp 6)]⟩, []⟩, ⟨0, ⟨(some 4), none, (.pure .id), [(.tmp 39)]⟩, []⟩, ⟨0, ⟨(some 5), none, (.pure .id), [(.const (.int .i64 0))]⟩, []⟩]) .ret)))))⟩
theorem c_aig_Support : compF Tryz.prog Tryz.f18 = some G_aig_Support := by kernel_rfl
theorem gc_aig_Support {args : List DV} {σ : GS} {Post : DV → GS → Prop} (h : @exB Tryz.prog ⟨G_aig_Support.body⟩ (genv0 args G_aig_Support.ntmps) σ ⟨@gretB G_aig_Support.results ⟨Post⟩⟩) : GCall Tryz.prog F_aig_Support args σ Post := gcall_ofB seatfollows Tryz.func18 (by kernel_rfl) c_aig_Support h
noncomputable abbrev G_aig_Size : GFun := ⟨31, [(.tmp 4), (.tmp 5)], (.seq (.region [⟨0, ⟨(some 2), none, (.new .box), [(.tmp 0)]⟩, []⟩, ⟨0, ⟨(some 4), none, (.pure .id), [(.const (.int .i64 0))]⟩, []⟩, ⟨0, ⟨(some 5), none, (.pure .id), [(.const (.int .i64 0))]⟩, []⟩]) (.seq (.seq (.region [⟨0, ⟨(some 9), none, (.load (.load 2 true)), [(.tmp 2)]⟩, []⟩, ⟨0, ⟨(some 10), none, (.pure .id), [(.tmp 1)]⟩, []⟩, ⟨0, ⟨(some 11), none, (.call F_aig_all), [(.tmp 9), (.tmp 10)]⟩, []⟩, ⟨0, ⟨(some 12), none, (.pure (.un .not)), [(.tmp 11)]⟩, []⟩]) (.cond (.tmp 12) (.seq (.region [⟨0, ⟨(some 4), none, (.pure .id), [(.const (.int .i64 0))]⟩, []⟩, ⟨0, ⟨(some 5), none, (.pure .id), [(.const (.int .i64 2))]⟩, []⟩]) .ret) .skip)) (.seq (.region [⟨0, ⟨(some 6), none, (.pure .id), [(.const (.int .i64 0))]⟩, []⟩]) (.seq (.seq (.region [⟨0, ⟨(some 13), none, (.load (.load 2 true)), [(.tmp 2)]⟩, []⟩, ⟨1, ⟨(some 14), none, (.pure .id), [(.tmp 1)]⟩, []⟩, ⟨3, ⟨(some 16), none, (.pure (.faddr 0)), [(.tmp 2)]⟩, []⟩, ⟨4, ⟨(some 17), none, (.load (.load 1 false)), [(.tmp 16)]⟩, []⟩, ⟨5, ⟨(some 18), none, (.pure .len), [(.tmp 17)]⟩, []⟩, ⟨6, ⟨(some 19), none, (.pure (.bin .add .none)), [(.const (.int .i64 1)), (.tmp 18)]⟩, []⟩, ⟨9, ⟨(some 22), none, (.pure .id), [(.const (.int .i64 0))]⟩, []⟩, ⟨2, ⟨(some 15), none, (.call F_aig_reached), [(.tmp 13), (.tmp 14)]⟩, [⟨(some 17), none, (.load (.load 1 false)), [(.tmp 16)]⟩]⟩, ⟨7, ⟨(some 20), none, (.pure (.slice 1 true false false)), [(.tmp 15), (.tmp 19)]⟩, []⟩, ⟨8, ⟨(some 21), none, (.pure .len), [(.tmp 20)]⟩, []⟩]) (.block 0 (.loop (.seq (.region [⟨0, ⟨(some 23), none, (.pure (.bin .lss .none)), [(.tmp 22), (.tmp 21)]⟩, []⟩]) (.seq (.cond (.tmp 23) .skip (.exit 0)) (.seq (.block 1 (.seq (.region [⟨0, ⟨(some 24), none, (.pure (.iaddr 1)), [(.tmp 20), (.tmp 22)]⟩, []⟩, ⟨0, ⟨(some 25), none, (.load (.load 1 false)), [(.tmp 24)]⟩, []⟩, ⟨0, ⟨(some 8), none, (.pure .id), [(.tmp 25)]⟩, []⟩]) (.seq (.region [⟨0, ⟨(some 26), none, (.pure .id), [(.tmp 8)]⟩, []⟩]) (.cond (.tmp 26) (.region [⟨0, ⟨(some 27), none, (.pure .id), [(.tmp 6)]⟩, []⟩, ⟨0, ⟨(some 28), none, (.pure (.bin .add .none)), [(.tmp 27), (.const (.int .i64 1))]⟩, []⟩, ⟨0, ⟨(some 6), none, (.pure .id), [(.tmp 28)]⟩, []⟩]) .skip)))) (.region [⟨0, ⟨(some 29), none, (.pure (.bin .add .none)), [(.tmp 22), (.const (.int .i64 1))]⟩, []⟩, ⟨0, ⟨(some 22), none, (.pure .id), [(.tmp 29)]⟩, []⟩]))))))) (.seq (.region [⟨0, ⟨(some 30), none, (.pure .id), [(.tmp 6)]⟩, []⟩, ⟨0, ⟨(some 4), none, (.pure .id), [(.tmp 30)]⟩, []⟩, ⟨0, ⟨(some 5), none, (.pure .id), [(.const (.int .i64 0))]⟩, []⟩]) .ret)))))⟩
theorem c_aig_Size : compF Tryz.prog Tryz.f20 = some G_aig_Size := by kernel_rfl
theorem gc_aig_Size {args : List DV} {σ : GS} {Post : DV → GS → Prop} (h : @exB Tryz.prog ⟨G_aig_Size.body⟩ (genv0 args G_aig_Size.ntmps) σ ⟨@gretB G_aig_Size.results ⟨Post⟩⟩) : GCall Tryz.prog F_aig_Size args σ Post := gcall_ofB seatfollows Tryz.func20 (by kernel_rfl) c_aig_Size h
noncomputable abbrev G_aig_Reduced : GFun := ⟨42, [(.tmp 2)], (.seq (.region [⟨0, ⟨(some 1), none, (.new .box), [(.tmp 0)]⟩, []⟩, ⟨0, ⟨(some 2), none, (.pure .id), [(.const (.bool false))]⟩, []⟩]) (.seq (.region [⟨0, ⟨(some 6), none, (.new .mmap), []⟩, []⟩, ⟨0, ⟨(some 3), none, (.pure .id), [(.tmp 6)]⟩, []⟩]) (.seq (.seq (.region [⟨0, ⟨(some 7), none, (.pure (.faddr 1)), [(.tmp 1)]⟩, []⟩, ⟨0, ⟨(some 8), none, (.load (.load 1 false)), [(.tmp 7)]⟩, []⟩, ⟨0, ⟨(some 9), none, (.pure .len), [(.tmp 8)]⟩, []⟩, ⟨0, ⟨(some 10), none, (.pure .id), [(.const (.int .i64 0))]⟩, []⟩]) (.block 0 (.loop (.seq (.region [⟨0, ⟨(some 11), none, (.pure (.bin .lss .none)), [(.tmp 10), (.tmp 9)]⟩, []⟩]) (.seq (.cond (.tmp 11) .skip (.exit 0)) (.seq (.block 1 (.seq (.region [⟨0, ⟨(some 12), none, (.pure (.iaddr 2)), [(.tmp 8), (.tmp 10)]⟩, []⟩, ⟨0, ⟨(some 13), none, (.load (.load 2 true)), [(.tmp 12)]⟩, []⟩, ⟨0, ⟨(some 5), none, (.new (.alloc [(.int .i64 0), (.int .i64 0)])), []⟩, []⟩, ⟨0, ⟨none, none, (.imp (.store 2)), [(.tmp 5), (.tmp 13)]⟩, []⟩]) (.seq (.seq (.region [⟨0, ⟨(some 14), none, (.pure (.iarr 2 1)), [(.tmp 5), (.const (.int .i64 0))]⟩, []⟩, ⟨0, ⟨(some 15), none, (.load (.load 1 false)), [(.tmp 14)]⟩, []⟩, ⟨0, ⟨(some 16), none, (.pure (.bin .lss .none)), [(.tmp 15), (.const (.int .i64 2))]⟩, []⟩, ⟨0, ⟨(some 17), none, (.pure .id), [(.tmp 16)]⟩, []⟩, ⟨0, ⟨(some 18), (some (17, false)), (.pure (.iarr 2 1)), [(.tmp 5), (.const (.int .i64 0))]⟩, []⟩, ⟨0, ⟨(some 19), (some (17, false)), (.load (.load 1 false)), [(.tmp 18)]⟩, []⟩, ⟨0, ⟨(some 20), (some (17, false)), (.pure (.iarr 2 1)), [(.tmp 5), (.const (.int .i64 1))]⟩, []⟩, ⟨0, ⟨(some 21), (some (17, false)), (.load (.load 1 false)), [(.tmp 20)]⟩, []⟩, ⟨0, ⟨(some 22), (some (17, false)), (.pure (.bin .geq .none)), [(.tmp 19), (.tmp 21)]⟩, []⟩, ⟨0, ⟨(some 23), none, (.pure .pick), [(.tmp 17), (.const (.bool true)), (.tmp 22)]⟩, []⟩, ⟨0, ⟨(some 24), none, (.pure .id), [(.tmp 23)]⟩, []⟩, ⟨0, ⟨(some 25), (some (24, false)), (.pure (.iarr 2 1)), [(.tmp 5), (.const (.int .i64 0))]⟩, []⟩, ⟨0, ⟨(some 26), (some (24, false)), (.load (.load 1 false)), [(.tmp 25)]⟩, []⟩, ⟨0, ⟨(some 27), (some (24, false)), (.pure (.bin .xor .none)), [(.tmp 26), (.const (.int .i64 1))]⟩, []⟩, ⟨0, ⟨(some 28), (some (24, false)), (.pure (.iarr 2 1)), [(.tmp 5), (.const (.int .i64 1))]⟩, []⟩, ⟨0, ⟨(some 29), (some (24, false)), (.load (.load 1 false)), [(.tmp 28)]⟩, []⟩, ⟨0, ⟨(some 30), (some (24, false)), (.pure (.bin .eql .none)), [(.tmp 27), (.tmp 29)]⟩, []⟩, ⟨0, ⟨(some 31), none, (.pure .pick), [(.tmp 24), (.const (.bool true)), (.tmp 30)]⟩, []⟩, ⟨0, ⟨(some 32), none, (.pure .id), [(.tmp 31)]⟩, []⟩, ⟨0, ⟨(some 33), (some (32, false)), (.pure .id), [(.tmp 3)]⟩, []⟩, ⟨0, ⟨(some 34), (some (32, false)), (.load (.load 2 true)), [(.tmp 5)]⟩, []⟩, ⟨0, ⟨(some 35), (some (32, false)), (.load (.lookup (.arr2 .i64) (.bool false) false)), [(.tmp 33), (.tmp 34)]⟩, []⟩, ⟨0, ⟨(some 36), none, (.pure .pick), [(.tmp 32), (.const (.bool true)), (.tmp 35)]⟩, []⟩]) (.cond (.tmp 36) (.seq (.region [⟨0, ⟨(some 2), none, (.pure .id), [(.const (.bool false))]⟩, []⟩]) .ret) .skip)) (.region [⟨0, ⟨(some 37), none, (.pure .id), [(.tmp 3)]⟩, []⟩, ⟨0, ⟨(some 38), none, (.load (.load 2 true)), [(.tmp 5)]⟩, []⟩, ⟨0, ⟨none, none, (.imp (.mset (.arr2 .i64))), [(.tmp 37), (.tmp 38), (.const (.bool true))]⟩, []⟩])))) (.region [⟨0, ⟨(some 39), none, (.pure (.bin .add .none)), [(.tmp 10), (.const (.int .i64 1))]⟩, []⟩, ⟨0, ⟨(some 10), none, (.pure .id), [(.tmp 39)]⟩, []⟩]))))))) (.seq (.region [⟨0, ⟨(some 40), none, (.load (.load 2 true)), [(.tmp 1)]⟩, []⟩, ⟨0, ⟨(some 41), none, (.call F_aig_May), [(.tmp 40)]⟩, []⟩, ⟨0, ⟨(some 2), none, (.pure .id), [(.tmp 41)]⟩, []⟩]) .ret))))⟩
theorem c_aig_Reduced : compF Tryz.prog Tryz.f24 = some G_aig_Reduced := by kernel_rfl
theorem gc_aig_Reduced {args : List DV} {σ : GS} {Post : DV → GS → Prop} (h : @exB Tryz.prog ⟨G_aig_Reduced.body⟩ (genv0 args G_aig_Reduced.ntmps) σ ⟨@gretB G_aig_Reduced.results ⟨Post⟩⟩) : GCall Tryz.prog F_aig_Reduced args σ Post := gcall_ofB seatfollows Tryz.func24 (by kernel_rfl) c_aig_Reduced h
noncomputable abbrev G_aig_Has : GFun := ⟨9, [(.tmp 4)], (.seq (.region [⟨0, ⟨(some 2), none, (.new .box), [(.tmp 0)]⟩, []⟩, ⟨0, ⟨(some 4), none, (.pure .id), [(.const (.bool false))]⟩, []⟩]) (.seq (.region [⟨0, ⟨(some 5), none, (.load (.load 2 true)), [(.tmp 2)]⟩, []⟩, ⟨0, ⟨(some 6), none, (.pure .id), [(.tmp 1)]⟩, []⟩, ⟨0, ⟨(some 7), none, (.new (.bslice 1 [(.int .i64 0)] 1 [(0, 1)])), [(.tmp 6)]⟩, []⟩, ⟨0, ⟨(some 8), none, (.call F_aig_all), [(.tmp 5), (.tmp 7)]⟩, []⟩, ⟨0, ⟨(some 4), none, (.pure .id), [(.tmp 8)]⟩, []⟩]) .ret))⟩
theorem c_aig_Has : compF Tryz.prog Tryz.f26 = some G_aig_Has := by kernel_rfl
theorem gc_aig_Has {args : List DV} {σ : GS} {Post : DV → GS → Prop} (h : @exB Tryz.prog ⟨G_aig_Has.body⟩ (genv0 args G_aig_Has.ntmps) σ ⟨@gretB G_aig_Has.results ⟨Post⟩⟩) : GCall Tryz.prog F_aig_Has args σ Post := gcall_ofB seatfollows Tryz.func26 (by kernel_rfl) c_aig_Has h
noncomputable abbrev G_aig_Same : GFun := ⟨17, [(.tmp 4)], (.seq (.region [⟨0, ⟨(some 2), none, (.new .box), [(.tmp 0)]⟩, []⟩, ⟨0, ⟨(some 3), none, (.new .box), [(.tmp 1)]⟩, []⟩, ⟨0, ⟨(some 4), none, (.pure .id), [(.const (.bool false))]⟩, []⟩]) (.seq (.region [⟨0, ⟨(some 5), none, (.pure (.faddr 0)), [(.tmp 2)]⟩, []⟩, ⟨0, ⟨(some 6), none, (.load (.load 1 false)), [(.tmp 5)]⟩, []⟩, ⟨0, ⟨(some 7), none, (.pure (.faddr 0)), [(.tmp 3)]⟩, []⟩, ⟨0, ⟨(some 8), none, (.load (.load 1 false)), [(.tmp 7)]⟩, []⟩, ⟨0, ⟨(some 9), none, (.call F_slices_Equal_int_int), [(.tmp 6), (.tmp 8)]⟩, []⟩, ⟨0, ⟨(some 10), none, (.pure .id), [(.tmp 9)]⟩, []⟩, ⟨0, ⟨(some 11), (some (10, true)), (.pure (.faddr 1)), [(.tmp 2)]⟩, []⟩, ⟨0, ⟨(some 12), (some (10, true)), (.load (.load 1 false)), [(.tmp 11)]⟩, []⟩, ⟨0, ⟨(some 13), (some (10, true)), (.pure (.faddr 1)), [(.tmp 3)]⟩, []⟩, ⟨0, ⟨(some 14), (some (10, true)), (.load (.load 1 false)), [(.tmp 13)]⟩, []⟩, ⟨0, ⟨(some 15), (some (10, true)), (.call F_slices_Equal__2_int__2_int), [(.tmp 12), (.tmp 14)]⟩, []⟩, ⟨0, ⟨(some 16), none, (.pure .pick), [(.tmp 10), (.tmp 15), (.const (.bool false))]⟩, []⟩, ⟨0, ⟨(some 4), none, (.pure .id), [(.tmp 16)]⟩, []⟩]) .ret))⟩
theorem c_aig_Same : compF Tryz.prog Tryz.f28 = some G_aig_Same := by kernel_rfl
theorem gc_aig_Same {args : List DV} {σ : GS} {Post : DV → GS → Prop} (h : @exB Tryz.prog ⟨G_aig_Same.body⟩ (genv0 args G_aig_Same.ntmps) σ ⟨@gretB G_aig_Same.results ⟨Post⟩⟩) : GCall Tryz.prog F_aig_Same args σ Post := gcall_ofB seatfollows Tryz.func28 (by kernel_rfl) c_aig_Same h
noncomputable abbrev G_slices_Equal_int_int : GFun := ⟨26, [(.tmp 4)], (.seq (.region [⟨0, ⟨(some 4), none, (.pure .id), [(.const (.bool false))]⟩, []⟩]) (.seq (.seq (.region [⟨0, ⟨(some 6), none, (.pure .id), [(.tmp 0)]⟩, []⟩, ⟨0, ⟨(some 7), none, (.pure .len), [(.tmp 6)]⟩, []⟩, ⟨0, ⟨(some 8), none, (.pure .id), [(.tmp 1)]⟩, []⟩, ⟨0, ⟨(some 9), none, (.pure .len), [(.tmp 8)]⟩, []⟩, ⟨0, ⟨(some 10), none, (.pure (.bin .neq .none)), [(.tmp 7), (.tmp 9)]⟩, []⟩]) (.cond (.tmp 10) (.seq (.region [⟨0, ⟨(some 4), none, (.pure .id), [(.const (.bool false))]⟩, []⟩]) .ret) .skip)) (.seq (.seq (.region [⟨0, ⟨(some 11), none, (.pure .id), [(.tmp 0)]⟩, []⟩, ⟨0, ⟨(some 12), none, (.pure .len), [(.tmp 11)]⟩, []⟩, ⟨0, ⟨(some 13), none, (.pure .id), [(.const (.int .i64 0))]⟩, []⟩]) (.block 0 (.loop (.seq (.region [⟨0, ⟨(some 14), none, (.pure (.bin .lss .none)), [(.tmp 13), (.tmp 12)]⟩, []⟩]) (.seq (.cond (.tmp 14) .skip (.exit 0)) (.seq (.block 1 (.seq (.region [⟨0, ⟨(some 15), none, (.pure .id), [(.tmp 13)]⟩, []⟩, ⟨0, ⟨(some 5), none, (.pure .id), [(.tmp 15)]⟩, []⟩]) (.seq (.region [⟨0, ⟨(some 16), none, (.pure .id), [(.tmp 0)]⟩, []⟩, ⟨1, ⟨(some 17), none, (.pure .id), [(.tmp 5)]⟩, []⟩, ⟨2, ⟨(some 18), none, (.pure (.iaddr 1)), [(.tmp 16), (.tmp 17)]⟩, []⟩, ⟨3, ⟨(some 19), none, (.load (.load 1 false)), [(.tmp 18)]⟩, []⟩, ⟨4, ⟨(some 20), none, (.pure .id), [(.tmp 1)]⟩, []⟩, ⟨5, ⟨(some 21), none, (.pure .id), [(.tmp 5)]⟩, []⟩, ⟨6, ⟨(some 22), none, (.pure (.iaddr 1)), [(.tmp 20), (.tmp 21)]⟩, []⟩, ⟨7, ⟨(some 23), none, (.load (.load 1 false)), [(.tmp 22)]⟩, []⟩, ⟨8, ⟨(some 24), none, (.pure (.bin .neq .none)), [(.tmp 19), (.tmp 23)]⟩, []⟩]) (.cond (.tmp 24) (.seq (.region [⟨0, ⟨(some 4), none, (.pure .id), [(.const (.bool false))]⟩, []⟩]) .ret) .skip)))) (.region [⟨0, ⟨(some 25), none, (.pure (.bin .add .none)), [(.tmp 13), (.const (.int .i64 1))]⟩, []⟩, ⟨0, ⟨(some 13), none, (.pure .id), [(.tmp 25)]⟩, []⟩]))))))) (.seq (.region [⟨0, ⟨(some 4), none, (.pure .id), [(.const (.bool true))]⟩, []⟩]) .ret))))⟩
theorem c_slices_Equal_int_int : compF Tryz.prog Tryz.f81 = some G_slices_Equal_int_int := by kernel_rfl
theorem gc_slices_Equal_int_int {args : List DV} {σ : GS} {Post : DV → GS → Prop} (h : @exB Tryz.prog ⟨G_slices_Equal_int_int.body⟩ (genv0 args G_slices_Equal_int_int.ntmps) σ ⟨@gretB G_slices_Equal_int_int.results ⟨Post⟩⟩) : GCall Tryz.prog F_slices_Equal_int_int args σ Post := gcall_ofB seatfollows Tryz.func81 (by kernel_rfl) c_slices_Equal_int_int h
noncomputable abbrev G_slices_Equal__2_int__2_int : GFun := ⟨26, [(.tmp 4)], (.seq (.region [⟨0, ⟨(some 4), none, (.pure .id), [(.const (.bool false))]⟩, []⟩]) (.seq (.seq (.region [⟨0, ⟨(some 6), none, (.pure .id), [(.tmp 0)]⟩, []⟩, ⟨0, ⟨(some 7), none, (.pure .len), [(.tmp 6)]⟩, []⟩, ⟨0, ⟨(some 8), none, (.pure .id), [(.tmp 1)]⟩, []⟩, ⟨0, ⟨(some 9), none, (.pure .len), [(.tmp 8)]⟩, []⟩, ⟨0, ⟨(some 10), none, (.pure (.bin .neq .none)), [(.tmp 7), (.tmp 9)]⟩, []⟩]) (.cond (.tmp 10) (.seq (.region [⟨0, ⟨(some 4), none, (.pure .id), [(.const (.bool false))]⟩, []⟩]) .ret) .skip)) (.seq (.seq (.region [⟨0, ⟨(some 11), none, (.pure .id), [(.tmp 0)]⟩, []⟩, ⟨0, ⟨(some 12), none, (.pure .len), [(.tmp 11)]⟩, []⟩, ⟨0, ⟨(some 13), none, (.pure .id), [(.const (.int .i64 0))]⟩, []⟩]) (.block 0 (.loop (.seq (.region [⟨0, ⟨(some 14), none, (.pure (.bin .lss .none)), [(.tmp 13), (.tmp 12)]⟩, []⟩]) (.seq (.cond (.tmp 14) .skip (.exit 0)) (.seq (.block 1 (.seq (.region [⟨0, ⟨(some 15), none, (.pure .id), [(.tmp 13)]⟩, []⟩, ⟨0, ⟨(some 5), none, (.pure .id), [(.tmp 15)]⟩, []⟩]) (.seq (.region [⟨0, ⟨(some 16), none, (.pure .id), [(.tmp 0)]⟩, []⟩, ⟨1, ⟨(some 17), none, (.pure .id), [(.tmp 5)]⟩, []⟩, ⟨2, ⟨(some 18), none, (.pure (.iaddr 2)), [(.tmp 16), (.tmp 17)]⟩, []⟩, ⟨3, ⟨(some 19), none, (.load (.load 2 true)), [(.tmp 18)]⟩, []⟩, ⟨4, ⟨(some 20), none, (.pure .id), [(.tmp 1)]⟩, []⟩, ⟨5, ⟨(some 21), none, (.pure .id), [(.tmp 5)]⟩, []⟩, ⟨6, ⟨(some 22), none, (.pure (.iaddr 2)), [(.tmp 20), (.tmp 21)]⟩, []⟩, ⟨7, ⟨(some 23), none, (.load (.load 2 true)), [(.tmp 22)]⟩, []⟩, ⟨8, ⟨(some 24), none, (.pure (.bin .neq (.arr2 .i64))), [(.tmp 19), (.tmp 23)]⟩, []⟩]) (.cond (.tmp 24) (.seq (.region [⟨0, ⟨(some 4), none, (.pure .id), [(.const (.bool false))]⟩, []⟩]) .ret) .skip)))) (.region [⟨0, ⟨(some 25), none, (.pure (.bin .add .none)), [(.tmp 13), (.const (.int .i64 1))]⟩, []⟩, ⟨0, ⟨(some 13), none, (.pure .id), [(.tmp 25)]⟩, []⟩]))))))) (.seq (.region [⟨0, ⟨(some 4), none, (.pure .id), [(.const (.bool true))]⟩, []⟩]) .ret))))⟩
theorem c_slices_Equal__2_int__2_int : compF Tryz.prog Tryz.f82 = some G_slices_Equal__2_int__2_int := by kernel_rfl
theorem gc_slices_Equal__2_int__2_int {args : List DV} {σ : GS} {Post : DV → GS → Prop} (h : @exB Tryz.prog ⟨G_slices_Equal__2_int__2_int.body⟩ (genv0 args G_slices_Equal__2_int__2_int.ntmps) σ ⟨@gretB G_slices_Equal__2_int__2_int.results ⟨Post⟩⟩) : GCall Tryz.prog F_slices_Equal__2_int__2_int args σ Post := gcall_ofB seatfollows Tryz.func82 (by kernel_rfl) c_slices_Equal__2_int__2_int h
noncomputable abbrev G_skolemref06_Support : GFun := ⟨38, [(.tmp 4), (.tmp 5)], (.seq (.region [⟨0, ⟨(some 2), none, (.new .box), [(.tmp 0)]⟩, []⟩, ⟨0, ⟨(some 4), none, (.pure .id), [(.const .nils)]⟩, []⟩, ⟨0, ⟨(some 5), none, (.pure .id), [(.const (.int .i64 0))]⟩, []⟩]) (.seq (.seq (.region [⟨0, ⟨(some 9), none, (.load (.load 2 true)), [(.tmp 2)]⟩, []⟩, ⟨0, ⟨(some 10), none, (.pure .id), [(.tmp 1)]⟩, []⟩, ⟨0, ⟨(some 11), none, (.call F_skolemref06_Has), [(.tmp 9), (.tmp 10)]⟩, []⟩, ⟨0, ⟨(some 12), none, (.pure (.un .not)), [(.tmp 11)]⟩, []⟩]) (.cond (.tmp 12) (.seq (.region [⟨0, ⟨(some 4), none, (.pure .id), [(.const .nils)]⟩, []⟩, ⟨0, ⟨(some 5), none, (.pure .id), [(.const (.int .i64 2))]⟩, []⟩]) .ret) .skip)) (.seq (.region [⟨0, ⟨(some 13), none, (.load (.load 2 true)), [(.tmp 2)]⟩, []⟩, ⟨0, ⟨(some 14), none, (.pure .id), [(.tmp 1)]⟩, []⟩, ⟨0, ⟨(some 15), none, (.new (.bslice 1 [(.int .i64 0)] 1 [(0, 1)])), [(.tmp 14)]⟩, []⟩, ⟨0, ⟨(some 16), none, (.call F_skolemref06_Reached), [(.tmp 13), (.tmp 15)]⟩, []⟩, ⟨0, ⟨(some 6), none, (.pure .id), [(.tmp 16)]⟩, []⟩]) (.seq (.region [⟨0, ⟨(some 7), none, (.pure .id), [(.const .nils)]⟩, []⟩]) (.seq (.seq (.region [⟨0, ⟨(some 8), none, (.pure .id), [(.const (.int .i64 0))]⟩, []⟩]) (.block 0 (.loop (.seq (.seq (.region [⟨0, ⟨(some 17), none, (.pure .id), [(.tmp 8)]⟩, []⟩, ⟨0, ⟨(some 18), none, (.pure (.faddr 0)), [(.tmp 2)]⟩, []⟩, ⟨0, ⟨(some 19), none, (.load (.load 1 false)), [(.tmp 18)]⟩, []⟩, ⟨0, ⟨(some 20), none, (.pure .len), [(.tmp 19)]⟩, []⟩, ⟨0, ⟨(some 21), none, (.pure (.bin .lss .none)), [(.tmp 17), (.tmp 20)]⟩, []⟩]) (.cond (.tmp 21) .skip (.exit 0))) (.seq (.block 1 (.seq (.region [⟨0, ⟨(some 24), none, (.pure .id), [(.tmp 6)]⟩, []⟩, ⟨0, ⟨(some 25), none, (.pure .id), [(.tmp 8)]⟩, []⟩, ⟨0, ⟨(some 26), none, (.pure (.bin .add .none)), [(.tmp 25), (.const (.int .i64 1))]⟩, []⟩, ⟨0, ⟨(some 27), none, (.pure (.iaddr 1)), [(.tmp 24), (.tmp 26)]⟩, []⟩, ⟨0, ⟨(some 28), none, (.load (.load 1 false)), [(.tmp 27)]⟩, []⟩]) (.cond (.tmp 28) (.region [⟨0, ⟨(some 29), none, (.pure .id), [(.tmp 7)]⟩, []⟩, ⟨0, ⟨(some 30), none, (.pure (.faddr 0)), [(.tmp 2)]⟩, []⟩, ⟨0, ⟨(some 31), none, (.load (.load 1 false)), [(.tmp 30)]⟩, []⟩, ⟨0, ⟨(some 32), none, (.pure .id), [(.tmp 8)]⟩, []⟩, ⟨0, ⟨(some 33), none, (.pure (.iaddr 1)), [(.tmp 31), (.tmp 32)]⟩, []⟩, ⟨0, ⟨(some 34), none, (.load (.load 1 false)), [(.tmp 33)]⟩, []⟩, ⟨0, ⟨(some 35), none, (.new (.bslice 1 [(.int .i64 0)] 1 [(0, 1)])), [(.tmp 34)]⟩, []⟩, ⟨0, ⟨(some 36), none, (.imp (.append 1 8)), [(.tmp 29), (.tmp 35)]⟩, []⟩, ⟨0, ⟨(some 7), none, (.pure .id), [(.tmp 36)]⟩, []⟩]) .skip))) (.region [⟨0, ⟨(some 22), none, (.pure .id), [(.tmp 8)]⟩, []⟩, ⟨0, ⟨(some 23), none, (.pure (.bin .add .none)), [(.tmp 22), (.const (.int .i64 1))]⟩, []⟩, ⟨0, ⟨(some 8), none, (.pure .id), [(.tmp 23)]⟩, []⟩])))))) (.seq (.region [⟨0, ⟨(some 37), none, (.pure .id), [(.tmp 7)]⟩, []⟩, ⟨0, ⟨(some 4), none, (.pure .id), [(.tmp 37)]⟩, []⟩, ⟨0, ⟨(some 5), none, (.pure .id), [(.const (.int .i64 0))]⟩, []⟩]) .ret))))))⟩
theorem c_skolemref06_Support : compF Tryz.prog Tryz.f19 = some G_skolemref06_Support := by kernel_rfl
theorem gc_skolemref06_Support {args : List DV} {σ : GS} {Post : DV → GS → Prop} (h : @exB Tryz.prog ⟨G_skolemref06_Support.body⟩ (genv0 args G_skolemref06_Support.ntmps) σ ⟨@gretB G_skolemref06_Support.results ⟨Post⟩⟩) : GCall Tryz.prog F_skolemref06_Support args σ Post := gcall_ofB seatfollows Tryz.func19 (by kernel_rfl) c_skolemref06_Support h
noncomputable abbrev G_skolemref06_Size : GFun := ⟨35, [(.tmp 4), (.tmp 5)], (.seq (.region [⟨0, ⟨(some 2), none, (.new .box), [(.tmp 0)]⟩, []⟩, ⟨0, ⟨(some 4), none, (.pure .id), [(.const (.int .i64 0))]⟩, []⟩, ⟨0, ⟨(some 5), none, (.pure .id), [(.const (.int .i64 0))]⟩, []⟩]) (.seq (.seq (.region [⟨0, ⟨(some 9), none, (.load (.load 2 true)), [(.tmp 2)]⟩, []⟩, ⟨0, ⟨(some 10), none, (.pure .id), [(.tmp 1)]⟩, []⟩, ⟨0, ⟨(some 11), none, (.call F_skolemref06_HasAll), [(.tmp 9), (.tmp 10)]⟩, []⟩, ⟨0, ⟨(some 12), none, (.pure (.un .not)), [(.tmp 11)]⟩, []⟩]) (.cond (.tmp 12) (.seq (.region [⟨0, ⟨(some 4), none, (.pure .id), [(.const (.int .i64 0))]⟩, []⟩, ⟨0, ⟨(some 5), none, (.pure .id), [(.const (.int .i64 2))]⟩, []⟩]) .ret) .skip)) (.seq (.region [⟨0, ⟨(some 13), none, (.load (.load 2 true)), [(.tmp 2)]⟩, []⟩, ⟨0, ⟨(some 14), none, (.pure .id), [(.tmp 1)]⟩, []⟩, ⟨0, ⟨(some 15), none, (.call F_skolemref06_Reached), [(.tmp 13), (.tmp 14)]⟩, []⟩, ⟨0, ⟨(some 6), none, (.pure .id), [(.tmp 15)]⟩, []⟩]) (.seq (.region [⟨0, ⟨(some 7), none, (.pure .id), [(.const (.int .i64 0))]⟩, []⟩]) (.seq (.seq (.region [⟨0, ⟨(some 8), none, (.pure .id), [(.const (.int .i64 0))]⟩, []⟩]) (.block 0 (.loop (.seq (.seq (.region [⟨0, ⟨(some 16), none, (.pure .id), [(.tmp 8)]⟩, []⟩, ⟨0, ⟨(some 17), none, (.pure (.faddr 1)), [(.tmp 2)]⟩, []⟩, ⟨0, ⟨(some 18), none, (.load (.load 1 false)), [(.tmp 17)]⟩, []⟩, ⟨0, ⟨(some 19), none, (.pure .len), [(.tmp 18)]⟩, []⟩, ⟨0, ⟨(some 20), none, (.pure (.bin .lss .none)), [(.tmp 16), (.tmp 19)]⟩, []⟩]) (.cond (.tmp 20) .skip (.exit 0))) (.seq (.block 1 (.seq (.region [⟨0, ⟨(some 23), none, (.pure .id), [(.tmp 6)]⟩, []⟩, ⟨0, ⟨(some 24), none, (.pure (.faddr 0)), [(.tmp 2)]⟩, []⟩, ⟨0, ⟨(some 25), none, (.load (.load 1 false)), [(.tmp 24)]⟩, []⟩, ⟨0, ⟨(some 26), none, (.pure .len), [(.tmp 25)]⟩, []⟩, ⟨0, ⟨(some 27), none, (.pure (.bin .add .none)), [(.const (.int .i64 1)), (.tmp 26)]⟩, []⟩, ⟨0, ⟨(some 28), none, (.pure .id), [(.tmp 8)]⟩, []⟩, ⟨0, ⟨(some 29), none, (.pure (.bin .add .none)), [(.tmp 27), (.tmp 28)]⟩, []⟩, ⟨0, ⟨(some 30), none, (.pure (.iaddr 1)), [(.tmp 23), (.tmp 29)]⟩, []⟩, ⟨0, ⟨(some 31), none, (.load (.load 1 false)), [(.tmp 30)]⟩, []⟩]) (.cond (.tmp 31) (.region [⟨0, ⟨(some 32), none, (.pure .id), [(.tmp 7)]⟩, []⟩, ⟨0, ⟨(some 33), none, (.pure (.bin .add .none)), [(.tmp 32), (.const (.int .i64 1))]⟩, []⟩, ⟨0, ⟨(some 7), none, (.pure .id), [(.tmp 33)]⟩, []⟩]) .skip))) (.region [⟨0, ⟨(some 21), none, (.pure .id), [(.tmp 8)]⟩, []⟩, ⟨0, ⟨(some 22), none, (.pure (.bin .add .none)), [(.tmp 21), (.const (.int .i64 1))]⟩, []⟩, ⟨0, ⟨(some 8), none, (.pure .id), [(.tmp 22)]⟩, []⟩])))))) (.seq (.region [⟨0, ⟨(some 34), none, (.pure .id), [(.tmp 7)]⟩, []⟩, ⟨0, ⟨(some 4), none, (.pure .id), [(.tmp 34)]⟩, []⟩, ⟨0, ⟨(some 5), none, (.pure .id), [(.const (.int .i64 0))]⟩, []⟩]) .ret))))))⟩
theorem c_skolemref06_Size : compF Tryz.prog Tryz.f21 = some G_skolemref06_Size := by kernel_rfl
theorem gc_skolemref06_Size {args : List DV} {σ : GS} {Post : DV → GS → Prop} (h : @exB Tryz.prog ⟨G_skolemref06_Size.body⟩ (genv0 args G_skolemref06_Size.ntmps) σ ⟨@gretB G_skolemref06_Size.results ⟨Post⟩⟩) : GCall Tryz.prog F_skolemref06_Size args σ Post := gcall_ofB seatfollows Tryz.func21 (by kernel_rfl) c_skolemref06_Size h
noncomputable abbrev G_skolemref06_Reduced : GFun := ⟨49, [(.tmp 2)], (.seq (.region [⟨0, ⟨(some 1), none, (.new .box), [(.tmp 0)]⟩, []⟩, ⟨0, ⟨(some 2), none, (.pure .id), [(.const (.bool false))]⟩, []⟩]) (.seq (.seq (.region [⟨0, ⟨(some 6), none, (.load (.load 2 true)), [(.tmp 1)]⟩, []⟩, ⟨0, ⟨(some 7), none, (.call F_skolemref06_May), [(.tmp 6)]⟩, []⟩, ⟨0, ⟨(some 8), none, (.pure (.un .not)), [(.tmp 7)]⟩, []⟩]) (.cond (.tmp 8) (.seq (.region [⟨0, ⟨(some 2), none, (.pure .id), [(.const (.bool false))]⟩, []⟩]) .ret) .skip)) (.seq (.seq (.region [⟨0, ⟨(some 3), none, (.pure .id), [(.const (.int .i64 0))]⟩, []⟩]) (.block 0 (.loop (.seq (.seq (.region [⟨0, ⟨(some 9), none, (.pure .id), [(.tmp 3)]⟩, []⟩, ⟨0, ⟨(some 10), none, (.pure (.faddr 1)), [(.tmp 1)]⟩, []⟩, ⟨0, ⟨(some 11), none, (.load (.load 1 false)), [(.tmp 10)]⟩, []⟩, ⟨0, ⟨(some 12), none, (.pure .len), [(.tmp 11)]⟩, []⟩, ⟨0, ⟨(some 13), none, (.pure (.bin .lss .none)), [(.tmp 9), (.tmp 12)]⟩, []⟩]) (.cond (.tmp 13) .skip (.exit 0))) (.seq (.block 1 (.seq (.region [⟨0, ⟨(some 16), none, (.pure (.faddr 1)), [(.tmp 1)]⟩, []⟩, ⟨1, ⟨(some 17), none, (.load (.load 1 false)), [(.tmp 16)]⟩, []⟩, ⟨2, ⟨(some 18), none, (.pure .id), [(.tmp 3)]⟩, []⟩, ⟨3, ⟨(some 19), none, (.pure (.iaddr 2)), [(.tmp 17), (.tmp 18)]⟩, []⟩, ⟨4, ⟨(some 20), none, (.pure (.iarr 2 1)), [(.tmp 19), (.const (.int .i64 0))]⟩, []⟩, ⟨5, ⟨(some 21), none, (.load (.load 1 false)), [(.tmp 20)]⟩, []⟩, ⟨6, ⟨(some 22), none, (.pure (.faddr 1)), [(.tmp 1)]⟩, []⟩, ⟨7, ⟨(some 23), none, (.load (.load 1 false)), [(.tmp 22)]⟩, []⟩, ⟨8, ⟨(some 24), none, (.pure .id), [(.tmp 3)]⟩, []⟩, ⟨9, ⟨(some 25), none, (.pure (.iaddr 2)), [(.tmp 23), (.tmp 24)]⟩, []⟩, ⟨10, ⟨(some 26), none, (.pure (.iarr 2 1)), [(.tmp 25), (.const (.int .i64 1))]⟩, []⟩, ⟨11, ⟨(some 27), none, (.load (.load 1 false)), [(.tmp 26)]⟩, []⟩, ⟨12, ⟨(some 4), none, (.pure .id), [(.tmp 21)]⟩, []⟩, ⟨13, ⟨(some 5), none, (.pure .id), [(.tmp 27)]⟩, []⟩]) (.seq (.region [⟨0, ⟨(some 28), none, (.pure .id), [(.tmp 4)]⟩, []⟩, ⟨0, ⟨(some 29), none, (.pure (.bin .lss .none)), [(.tmp 28), (.const (.int .i64 2))]⟩, []⟩, ⟨0, ⟨(some 30), none, (.pure .id), [(.tmp 29)]⟩, []⟩, ⟨0, ⟨(some 31), (some (30, false)), (.pure .id), [(.tmp 4)]⟩, []⟩, ⟨0, ⟨(some 32), (some (30, false)), (.pure .id), [(.tmp 5)]⟩, []⟩, ⟨0, ⟨(some 33), (some (30, false)), (.pure (.bin .geq .none)), [(.tmp 31), (.tmp 32)]⟩, []⟩, ⟨0, ⟨(some 34), none, (.pure .pick), [(.tmp 30), (.const (.bool true)), (.tmp 33)]⟩, []⟩, ⟨0, ⟨(some 35), none, (.pure .id), [(.tmp 34)]⟩, []⟩, ⟨0, ⟨(some 36), (some (35, false)), (.pure .id), [(.tmp 4)]⟩, []⟩, ⟨0, ⟨(some 37), (some (35, false)), (.call F_skolemref06_Not), [(.tmp 36)]⟩, []⟩, ⟨0, ⟨(some 38), (some (35, false)), (.pure .id), [(.tmp 5)]⟩, []⟩, ⟨0, ⟨(some 39), (some (35, false)), (.pure (.bin .eql .none)), [(.tmp 37), (.tmp 38)]⟩, []⟩, ⟨0, ⟨(some 40), none, (.pure .pick), [(.tmp 35), (.const (.bool true)), (.tmp 39)]⟩, []⟩, ⟨0, ⟨(some 41), none, (.pure .id), [(.tmp 40)]⟩, []⟩, ⟨0, ⟨(some 42), (some (41, false)), (.load (.load 2 true)), [(.tmp 1)]⟩, []⟩, ⟨0, ⟨(some 43), (some (41, false)), (.pure .id), [(.tmp 4)]⟩, []⟩, ⟨0, ⟨(some 44), (some (41, false)), (.pure .id), [(.tmp 5)]⟩, []⟩, ⟨0, ⟨(some 45), (some (41, false)), (.call F_skolemref06_find), [(.tmp 42), (.tmp 43), (.tmp 44)]⟩, []⟩, ⟨0, ⟨(some 46), (some (41, false)), (.pure .id), [(.tmp 3)]⟩, []⟩, ⟨0, ⟨(some 47), (some (41, false)), (.pure (.bin .neq .none)), [(.tmp 45), (.tmp 46)]⟩, []⟩, ⟨0, ⟨(some 48), none, (.pure .pick), [(.tmp 41), (.const (.bool true)), (.tmp 47)]⟩, []⟩]) (.cond (.tmp 48) (.seq (.region [⟨0, ⟨(some 2), none, (.pure .id), [(.const (.bool false))]⟩, []⟩]) .ret) .skip)))) (.region [⟨0, ⟨(some 14), none, (.pure .id), [(.tmp 3)]⟩, []⟩, ⟨0, ⟨(some 15), none, (.pure (.bin .add .none)), [(.tmp 14), (.const (.int .i64 1))]⟩, []⟩, ⟨0, ⟨(some 3), none, (.pure .id), [(.tmp 15)]⟩, []⟩])))))) (.seq (.region [⟨0, ⟨(some 2), none, (.pure .id), [(.const (.bool true))]⟩, []⟩]) .ret))))⟩
theorem c_skolemref06_Reduced : compF Tryz.prog Tryz.f25 = some G_skolemref06_Reduced := by kernel_rfl
theorem gc_skolemref06_Reduced {args : List DV} {σ : GS} {Post : DV → GS → Prop} (h : @exB Tryz.prog ⟨G_skolemref06_Reduced.body⟩ (genv0 args G_skolemref06_Reduced.ntmps) σ ⟨@gretB G_skolemref06_Reduced.results ⟨Post⟩⟩) : GCall Tryz.prog F_skolemref06_Reduced args σ Post := gcall_ofB seatfollows Tryz.func25 (by kernel_rfl) c_skolemref06_Reduced h
noncomputable abbrev G_skolemref06_Has : GFun := ⟨12, [(.tmp 4)], (.seq (.region [⟨0, ⟨(some 2), none, (.new .box), [(.tmp 0)]⟩, []⟩, ⟨0, ⟨(some 4), none, (.pure .id), [(.const (.bool false))]⟩, []⟩]) (.seq (.region [⟨0, ⟨(some 5), none, (.load (.load 2 true)), [(.tmp 2)]⟩, []⟩, ⟨0, ⟨(some 6), none, (.call F_skolemref06_May), [(.tmp 5)]⟩, []⟩, ⟨0, ⟨(some 7), none, (.pure .id), [(.tmp 6)]⟩, []⟩, ⟨0, ⟨(some 8), (some (7, true)), (.load (.load 2 true)), [(.tmp 2)]⟩, []⟩, ⟨0, ⟨(some 9), (some (7, true)), (.pure .id), [(.tmp 1)]⟩, []⟩, ⟨0, ⟨(some 10), (some (7, true)), (.call F_skolemref06_has), [(.tmp 8), (.tmp 9)]⟩, []⟩, ⟨0, ⟨(some 11), none, (.pure .pick), [(.tmp 7), (.tmp 10), (.const (.bool false))]⟩, []⟩, ⟨0, ⟨(some 4), none, (.pure .id), [(.tmp 11)]⟩, []⟩]) .ret))⟩
theorem c_skolemref06_Has : compF Tryz.prog Tryz.f27 = some G_skolemref06_Has := by kernel_rfl
theorem gc_skolemref06_Has {args : List DV} {σ : GS} {Post : DV → GS → Prop} (h : @exB Tryz.prog ⟨G_skolemref06_Has.body⟩ (genv0 args G_skolemref06_Has.ntmps) σ ⟨@gretB G_skolemref06_Has.results ⟨Post⟩⟩) : GCall Tryz.prog F_skolemref06_Has args σ Post := gcall_ofB seatfollows Tryz.func27 (by kernel_rfl) c_skolemref06_Has h
noncomputable abbrev G_skolemlaw06_AigMays : GFun := ⟨116, [(.tmp 6)], (.seq (.region [⟨0, ⟨(some 3), none, (.new .box), [(.tmp 0)]⟩, []⟩, ⟨0, ⟨(some 4), none, (.new .box), [(.tmp 1)]⟩, []⟩, ⟨0, ⟨(some 6), none, (.pure .id), [(.const (.bool false))]⟩, []⟩]) (.seq (.seq (.region [⟨0, ⟨(some 17), none, (.load (.load 2 true)), [(.tmp 3)]⟩, []⟩, ⟨0, ⟨(some 18), none, (.load (.load 2 true)), [(.tmp 4)]⟩, []⟩, ⟨0, ⟨(some 19), none, (.new (.bslice 2 [.nils, .nils] 2 [(0, 2), (2, 2)])), [(.tmp 17), (.tmp 18)]⟩, []⟩, ⟨0, ⟨(some 20), none, (.call F_skolemlaw06_great), [(.tmp 19)]⟩, []⟩, ⟨0, ⟨(some 21), none, (.pure .id), [(.tmp 20)]⟩, []⟩, ⟨0, ⟨(some 22), (some (21, false)), (.pure .id), [(.tmp 2)]⟩, []⟩, ⟨0, ⟨(some 23), (some (21, false)), (.pure .len), [(.tmp 22)]⟩, []⟩, ⟨0, ⟨(some 24), (some (21, false)), (.pure (.bin .gtr .none)), [(.tmp 23), (.const (.int .i64 100))]⟩, []⟩, ⟨0, ⟨(some 25), none, (.pure .pick), [(.tmp 21), (.const (.bool true)), (.tmp 24)]⟩, []⟩]) (.cond (.tmp 25) (.seq (.region [⟨0, ⟨(some 26), none, (.call F_skolemlaw06_works), []⟩, []⟩, ⟨0, ⟨(some 6), none, (.pure .id), [(.tmp 26)]⟩, []⟩]) .ret) .skip)) (.seq (.region [⟨0, ⟨(some 7), none, (.pure .id), [(.const (.int .i64 0))]⟩, []⟩]) (.seq (.seq (.region [⟨0, ⟨(some 27), none, (.pure .id), [(.tmp 2)]⟩, []⟩, ⟨0, ⟨(some 28), none, (.pure .len), [(.tmp 27)]⟩, []⟩, ⟨0, ⟨(some 29), none, (.pure (.bin .gtr .none)), [(.tmp 28), (.const (.int .i64 0))]⟩, []⟩]) (.cond (.tmp 29) (.region [⟨0, ⟨(some 30), none, (.pure .id), [(.tmp 2)]⟩, []⟩, ⟨0, ⟨(some 31), none, (.pure (.iaddr 1)), [(.tmp 30), (.const (.int .i64 0))]⟩, []⟩, ⟨0, ⟨(some 32), none, (.load (.load 1 false)), [(.tmp 31)]⟩, []⟩, ⟨0, ⟨(some 7), none, (.pure .id), [(.tmp 32)]⟩, []⟩]) .skip)) (.seq (.region [⟨0, ⟨(some 34), none, (.load (.load 2 true)), [(.tmp 3)]⟩, []⟩, ⟨0, ⟨(some 35), none, (.pure .id), [(.tmp 7)]⟩, []⟩, ⟨0, ⟨(some 36), none, (.call F_aig_Support), [(.tmp 34), (.tmp 35)]⟩, []⟩, ⟨0, ⟨(some 33), none, (.pure .id), [(.tmp 36)]⟩, []⟩, ⟨0, ⟨(some 37), none, (.pure (.extract 0)), [(.tmp 33)]⟩, []⟩, ⟨0, ⟨(some 38), none, (.pure (.extract 1)), [(.tmp 33)]⟩, []⟩, ⟨0, ⟨(some 8), none, (.pure .id), [(.tmp 37)]⟩, []⟩, ⟨0, ⟨(some 9), none, (.pure .id), [(.tmp 38)]⟩, []⟩]) (.seq (.region [⟨0, ⟨(some 40), none, (.load (.load 2 true)), [(.tmp 3)]⟩, []⟩, ⟨0, ⟨(some 41), none, (.pure .id), [(.tmp 7)]⟩, []⟩, ⟨0, ⟨(some 42), none, (.call F_skolemref06_Support), [(.tmp 40), (.tmp 41)]⟩, []⟩, ⟨0, ⟨(some 39), none, (.pure .id), [(.tmp 42)]⟩, []⟩, ⟨0, ⟨(some 43), none, (.pure (.extract 0)), [(.tmp 39)]⟩, []⟩, ⟨0, ⟨(some 44), none, (.pure (.extract 1)), [(.tmp 39)]⟩, []⟩, ⟨0, ⟨(some 10), none, (.pure .id), [(.tmp 43)]⟩, []⟩, ⟨0, ⟨(some 11), none, (.pure .id), [(.tmp 44)]⟩, []⟩]) (.seq (.region [⟨0, ⟨(some 46), none, (.load (.load 2 true)), [(.tmp 3)]⟩, []⟩, ⟨0, ⟨(some 47), none, (.pure .id), [(.tmp 2)]⟩, []⟩, ⟨0, ⟨(some 48), none, (.call F_aig_Size), [(.tmp 46), (.tmp 47)]⟩, []⟩, ⟨0, ⟨(some 45), none, (.pure .id), [(.tmp 48)]⟩, []⟩, ⟨0, ⟨(some 49), none, (.pure (.extract 0)), [(.tmp 45)]⟩, []⟩, ⟨0, ⟨(some 50), none, (.pure (.extract 1)), [(.tmp 45)]⟩, []⟩, ⟨0, ⟨(some 12), none, (.pure .id), [(.tmp 49)]⟩, []⟩, ⟨0, ⟨(some 13), none, (.pure .id), [(.tmp 50)]⟩, []⟩]) (.seq (.region [⟨0, ⟨(some 52), none, (.load (.load 2 true)), [(.tmp 3)]⟩, []⟩, ⟨0, ⟨(some 53), none, (.pure .id), [(.tmp 2)]⟩, []⟩, ⟨0, ⟨(some 54), none, (.call F_skolemref06_Size), [(.tmp 52), (.tmp 53)]⟩, []⟩, ⟨0, ⟨(some 51), none, (.pure .id), [(.tmp 54)]⟩, []⟩, ⟨0, ⟨(some 55), none, (.pure (.extract 0)), [(.tmp 51)]⟩, []⟩, ⟨0, ⟨(some 56), none, (.pure (.extract 1)), [(.tmp 51)]⟩, []⟩, ⟨0, ⟨(some 14), none, (.pure .id), [(.tmp 55)]⟩, []⟩, ⟨0, ⟨(some 15), none, (.pure .id), [(.tmp 56)]⟩, []⟩]) (.seq (.region [⟨0, ⟨(some 57), none, (.load (.load 2 true)), [(.tmp 3)]⟩, []⟩, ⟨2, ⟨(some 59), none, (.load (.load 2 true)), [(.tmp 3)]⟩, []⟩, ⟨1, ⟨(some 58), none, (.call F_aig_May), [(.tmp 57)]⟩, [⟨(some 59), none, (.load (.load 2 true)), [(.tmp 3)]⟩]⟩, ⟨3, ⟨(some 60), none, (.call F_skolemref06_May), [(.tmp 59)]⟩, []⟩, ⟨4, ⟨(some 61), none, (.pure (.bin .eql .bool)), [(.tmp 58), (.tmp 60)]⟩, []⟩, ⟨5, ⟨(some 62), none, (.pure .id), [(.tmp 61)]⟩, []⟩, ⟨6, ⟨(some 63), (some (62, true)), (.load (.load 2 true)), [(.tmp 3)]⟩, []⟩, ⟨8, ⟨(some 65), (some (62, true)), (.load (.load 2 true)), [(.tmp 3)]⟩, []⟩, ⟨7, ⟨(some 64), (some (62, true)), (.call F_aig_Reduced), [(.tmp 63)]⟩, [⟨(some 65), (some (62, true)), (.load (.load 2 true)), [(.tmp 3)]⟩]⟩, ⟨9, ⟨(some 66), (some (62, true)), (.call F_skolemref06_Reduced), [(.tmp 65)]⟩, []⟩, ⟨10, ⟨(some 67), (some (62, true)), (.pure (.bin .eql .bool)), [(.tmp 64), (.tmp 66)]⟩, []⟩, ⟨11, ⟨(some 68), none, (.pure .pick), [(.tmp 62), (.tmp 67), (.const (.bool false))]⟩, []⟩, ⟨12, ⟨(some 69), none, (.pure .id), [(.tmp 68)]⟩, []⟩, ⟨13, ⟨(some 70), (some (69, true)), (.load (.load 2 true)), [(.tmp 3)]⟩, []⟩, ⟨14, ⟨(some 71), (some (69, true)), (.pure .id), [(.tmp 7)]⟩, []⟩, ⟨16, ⟨(some 73), (some (69, true)), (.load (.load 2 true)), [(.tmp 3)]⟩, []⟩, ⟨17, ⟨(some 74), (some (69, true)), (.pure .id), [(.tmp 7)]⟩, []⟩, ⟨15, ⟨(some 72), (some (69, true)), (.call F_aig_Has), [(.tmp 70), (.tmp 71)]⟩, [⟨(some 73), (some (69, true)), (.load (.load 2 true)), [(.tmp 3)]⟩]⟩, ⟨18, ⟨(some 75), (some (69, true)), (.call F_skolemref06_Has), [(.tmp 73), (.tmp 74)]⟩, []⟩, ⟨19, ⟨(some 76), (some (69, true)), (.pure (.bin .eql .bool)), [(.tmp 72), (.tmp 75)]⟩, []⟩, ⟨20, ⟨(some 77), none, (.pure .pick), [(.tmp 69), (.tmp 76), (.const (.bool false))]⟩, []⟩, ⟨21, ⟨(some 78), none, (.pure .id), [(.tmp 77)]⟩, []⟩, ⟨22, ⟨(some 79), (some (78, true)), (.load (.load 2 true)), [(.tmp 3)]⟩, []⟩, ⟨23, ⟨(some 80), (some (78, true)), (.load (.load 2 true)), [(.tmp 4)]⟩, []⟩, ⟨25, ⟨(some 82), (some (78, true)), (.load (.load 2 true)), [(.tmp 3)]⟩, []⟩, ⟨26, ⟨(some 83), (some (78, true)), (.load (.load 2 true)), [(.tmp 4)]⟩, []⟩, ⟨24, ⟨(some 81), (some (78, true)), (.call F_aig_Same), [(.tmp 79), (.tmp 80)]⟩, [⟨(some 82), (some (78, true)), (.load (.load 2 true)), [(.tmp 3)]⟩, ⟨(some 83), (some (78, true)), (.load (.load 2 true)), [(.tmp 4)]⟩]⟩, ⟨27, ⟨(some 84), (some (78, true)), (.call F_skolemref06_Same), [(.tmp 82), (.tmp 83)]⟩, []⟩, ⟨28, ⟨(some 85), (some (78, true)), (.pure (.bin .eql .bool)), [(.tmp 81), (.tmp 84)]⟩, []⟩, ⟨29, ⟨(some 86), none, (.pure .pick), [(.tmp 78), (.tmp 85), (.const (.bool false))]⟩, []⟩, ⟨30, ⟨(some 87), none, (.pure .id), [(.tmp 86)]⟩, []⟩, ⟨31, ⟨(some 88), (some (87, true)), (.load (.load 2 true)), [(.tmp 3)]⟩, []⟩, ⟨32, ⟨(some 89), (some (87, true)), (.load (.load 2 true)), [(.tmp 3)]⟩, []⟩, ⟨33, ⟨(some 90), (some (87, true)), (.call F_aig_Same), [(.tmp 88), (.tmp 89)]⟩, []⟩, ⟨34, ⟨(some 91), none, (.pure .pick), [(.tmp 87), (.tmp 90), (.const (.bool false))]⟩, []⟩, ⟨35, ⟨(some 16), none, (.pure .id), [(.tmp 91)]⟩, []⟩]) (.seq (.region [⟨0, ⟨(some 92), none, (.pure .id), [(.tmp 16)]⟩, []⟩, ⟨0, ⟨(some 93), none, (.pure .id), [(.tmp 92)]⟩, []⟩, ⟨0, ⟨(some 94), (some (93, true)), (.pure .id), [(.tmp 8)]⟩, []⟩, ⟨0, ⟨(some 95), (some (93, true)), (.pure .id), [(.tmp 10)]⟩, []⟩, ⟨0, ⟨(some 96), (some (93, true)), (.call F_skolemref05_Ints), [(.tmp 94), (.tmp 95)]⟩, []⟩, ⟨0, ⟨(some 97), none, (.pure .pick), [(.tmp 93), (.tmp 96), (.const (.bool false))]⟩, []⟩, ⟨0, ⟨(some 98), none, (.pure .id), [(.tmp 97)]⟩, []⟩, ⟨0, ⟨(some 99), (some (98, true)), (.pure .id), [(.tmp 9)]⟩, []⟩, ⟨0, ⟨(some 100), (some (98, true)), (.pure .id), [(.tmp 11)]⟩, []⟩, ⟨0, ⟨(some 101), (some (98, true)), (.pure (.bin .eql .none)), [(.tmp 99), (.tmp 100)]⟩, []⟩, ⟨0, ⟨(some 102), none, (.pure .pick), [(.tmp 98), (.tmp 101), (.const (.bool false))]⟩, []⟩, ⟨0, ⟨(some 103), none, (.pure .id), [(.tmp 102)]⟩, []⟩, ⟨0, ⟨(some 104), (some (103, true)), (.pure .id), [(.tmp 12)]⟩, []⟩, ⟨0, ⟨(some 105), (some (103, true)), (.pure .id), [(.tmp 14)]⟩, []⟩, ⟨0, ⟨(some 106), (some (103, true)), (.pure (.bin .eql .none)), [(.tmp 104), (.tmp 105)]⟩, []⟩, ⟨0, ⟨(some 107), none, (.pure .pick), [(.tmp 103), (.tmp 106), (.const (.bool false))]⟩, []⟩, ⟨0, ⟨(some 108), none, (.pure .id), [(.tmp 107)]⟩, []⟩, ⟨0, ⟨(some 109), (some (108, true)), (.pure .id), [(.tmp 13)]⟩, []⟩, ⟨0, ⟨(some 110), (some (108, true)), (.pure .id), [(.tmp 15)]⟩, []⟩, ⟨0, ⟨(some 111), (some (108, true)), (.pure (.bin .eql .none)), [(.tmp 109), (.tmp 110)]⟩, []⟩, ⟨0, ⟨(some 112), none, (.pure .pick), [(.tmp 108), (.tmp 111), (.const (.bool false))]⟩, []⟩, ⟨0, ⟨(some 113), none, (.pure .id), [(.tmp 112)]⟩, []⟩, ⟨0, ⟨(some 114), (some (113, true)), (.call F_skolemlaw06_works), []⟩, []⟩, ⟨0, ⟨(some 115), none, (.pure .pick), [(.tmp 113), (.tmp 114), (.const (.bool false))]⟩, []⟩, ⟨0, ⟨(some 6), none, (.pure .id), [(.tmp 115)]⟩, []⟩]) .ret))))))))))⟩
theorem c_skolemlaw06_AigMays : compF Tryz.prog Tryz.f4 = some G_skolemlaw06_AigMays := by kernel_rfl
theorem gc_skolemlaw06_AigMays {args : List DV} {σ : GS} {Post : DV → GS → Prop} (h : @exB Tryz.prog ⟨G_skolemlaw06_AigMays.body⟩ (genv0 args G_skolemlaw06_AigMays.ntmps) σ ⟨@gretB G_skolemlaw06_AigMays.results ⟨Post⟩⟩) : GCall Tryz.prog F_skolemlaw06_AigMays args σ Post := gcall_ofB seatfollows Tryz.func4 (by kernel_rfl) c_skolemlaw06_AigMays h
end Go.Gh
namespace Go.Gh
open Go.RowKit Go.Proofs
set_option linter.unusedVariables false
set_option linter.unusedSimpArgs false
set_option maxRecDepth 100000
/-- A list of one number, of one's own. -/
theorem rd_one {σ : GS} {ok : Nat → Prop} {id : Nat} {ro : Bool} {e : Int} {cap : Option Nat} (h : σ[id]? = some (.row ro [.int .i64 e])) (k : ok id) : Rd σ ok (.slice id 0 1 1 cap) (fints [e]) := rd_ints (vs := [e]) (by simpa using h) k
theorem all_one {g : AigP} {e : Int} {id : Nat} {cap : Option Nat} {σ : GS} {Post : DV → GS → Prop} (hs : g.Sm) (hr : σ[id]? = some (.row false [.int .i64 e])) (h : Post (.bool (g.all [e])) σ) : GCall Tryz.prog F_aig_all [g.enc, .slice id 0 1 1 cap] σ Post :=
  GCall.borrow (args' := [g.enc, fints [e]]) (.cons (.same _) (.cons (rd_one hr trivial) .nil)) (by simp) rfl (aig_all_ok hs (by simp) rfl) h
theorem aig_Has_ok {g : AigP} {e : Int} {σ : GS} {Post : DV → GS → Prop} (hs : g.Sm) (h : Post (.bool (g.all [e])) σ) : GCall Tryz.prog F_aig_Has [g.enc, .int .i64 e] σ Post := by
  refine GCall.say (r := .bool (g.all [e])) ?_ rfl h
  refine gc_aig_Has ?_
  simp [G_aig_Has, genv0, List.replicate]
  refine all_one (e := e) hs (by simp) ?_
  simp
theorem ref_Has_ok {g : AigP} {e : Int} {σ : GS} {Post : DV → GS → Prop} (hs : g.Sm) (h : Post (.bool (g.all [e])) σ) : GCall Tryz.prog F_skolemref06_Has [g.enc, .int .i64 e] σ Post := by
  refine GCall.say (r := .bool (g.all [e])) ?_ rfl h
  refine gc_skolemref06_Has ?_
  simp [G_skolemref06_Has, genv0, List.replicate]
  refine ref_May_ok hs ?_
  by_cases c : g.may = true
  · simp [c]
    refine ref_has_ok hs ?_
    simp [AigP.all, c]
  · simp [c, AigP.all]
/-- The inputs that an edge reaches. -/
def supp (l : List (Int × Bool)) : List Int := (l.filter fun x => x.2).map (·.1)
theorem supp_push (l : List (Int × Bool)) (v : Int) (b : Bool) : supp (l ++ [(v, b)]) = if b then supp l ++ [v] else supp l := by cases b <;> simp [supp]
def AigP.support (g : AigP) (e : Int) : List Int × Int := if g.all [e] = true then (supp (g.ins.zip ((g.reach [e]).drop 1)), 0) else ([], 2)
theorem aig_Support_ok {g : AigP} {e : Int} {σ : GS} {Post : DV → GS → Prop} (hs : g.Sm) (h : Post (.tuple [fints (g.support e).1, .int .i64 (g.support e).2]) σ) : GCall Tryz.prog F_aig_Support [g.enc, .int .i64 e] σ Post := by
  refine GCall.pure (r := .tuple [fints (g.support e).1, .int .i64 (g.support e).2]) ?_ (by simp) h
  refine gc_aig_Support ?_
  simp [G_aig_Support, genv0, List.replicate]
  refine all_one (e := e) hs (by simp) ?_
  by_cases c : g.all [e] = true
  rotate_left
  · simp [c]
    rw [show g.support e = ([], 2) by unfold AigP.support; rw [if_neg c]]
    exact .tuple (.cons (.nils 1) (.cons (.same _) .nil))
  have hm := AigP.all_may c
  have hnn := AigP.may_nodes hm
  have hn : g.nodes = 1 + g.ins.length + g.ands.length := rfl
  have hrl := g.reach_len [e]
  have hsp : g.support e = (supp (g.ins.zip ((g.reach [e]).drop 1)), 0) := by unfold AigP.support; rw [if_pos c]
  rw [hsp]
  have ew : IntKind.i64.wrap (1 + (g.ins.length : Int)) = 1 + g.ins.length := by rw [wrap_small] <;> omega
  simp [c, ew]
  obtain ⟨A, hA⟩ : ∃ A, GObj.row false [fints g.ins, fands g.ands] = A := ⟨_, rfl⟩
  have hS : Rds (frz (fun i => decide (i = σ.length + 2)) (σ ++ [.row false [fints g.ins, fands g.ands], .row false [.int .i64 e], .row false [.int .i64 e]])) (RO (frz (fun i => decide (i = σ.length + 2)) (σ ++ [.row false [fints g.ins, fands g.ands], .row false [.int .i64 e], .row false [.int .i64 e]]))) [g.enc, .slice (σ.length + 2) 0 1 1 (some 1)] [g.enc, fints [e]] := by
    have hrow := frz_row (S := fun i => decide (i = σ.length + 2)) (σ := σ ++ [.row false [fints g.ins, fands g.ands], .row false [.int .i64 e], .row false [.int .i64 e]]) (i := σ.length + 2) (ro := false) (cs := [.int .i64 e]) (by simp) (by simp)
    exact .cons (.same _) (.cons (rd_one hrow fun ro cs h => by rw [hrow] at h; cases h; rfl) .nil)
  refine GCall.frz _ hS ?_
  refine aig_reached_ok hm (by simp) (fun x hx => AigP.all_has c hx) ?_
  obtain ⟨σ1, hσ1⟩ : ∃ σ1, frz (fun i => decide (i = σ.length + 2)) (σ ++ [.row false [fints g.ins, fands g.ands], .row false [.int .i64 e], .row false [.int .i64 e]]) = σ1 := ⟨_, rfl⟩
  have hB1 : σ1[σ.length]? = some (.row false [fints g.ins, fands g.ands]) := by rw [← hσ1, frz_off (by simp)]; simp
  have hF1 : Fr σ.length σ σ1 := ⟨by rw [← hσ1, frz_len]; simp, fun j hj => by rw [← hσ1, frz_off (by simp; omega), List.getElem?_append_left hj]⟩
  have hl1 : σ1.length = σ.length + 3 := by rw [← hσ1, frz_len]; simp
  have hld1 : gload (.load 1 false) [.ptr σ.length 0] σ1 = some (fints g.ins) := by rw [ld_at hB1]; rfl
  rw [hσ1]
  have hsl : gpure (.slice 1 true true false) [fbools (g.reach [e]), .int .i64 1, .int .i64 (1 + g.ins.length)] = some (fbools (((g.reach [e]).drop 1).take g.ins.length)) := by
    have e1 : (1 + (g.ins.length : Int)).toNat = 1 + g.ins.length := by omega
    simp only [gpure, gslice, if_true, gbm, Option.bind_some, gbh, gbl, gbound, List.length_map]
    rw [if_pos (by rw [hrl]; omega)]
    simp only [Option.bind_some]
    rw [if_pos (by omega)]
    simp only [Option.bind_some, e1]
    simp [List.map_drop, List.map_take]
  obtain ⟨rs, hrs⟩ : ∃ rs, ((g.reach [e]).drop 1).take g.ins.length = rs := ⟨_, rfl⟩
  have hrsl : rs.length = g.ins.length := by rw [← hrs]; simp; omega
  have hzip : g.ins.zip ((g.reach [e]).drop 1) = g.ins.zip rs := by
    rw [← hrs]
    apply List.ext_getElem?
    intro i
    by_cases hi : i < g.ins.length
    · have h1 : i < ((g.reach [e]).drop 1).length := by simp; omega
      rw [List.getElem?_eq_getElem (by simp; omega), List.getElem?_eq_getElem (by simp; omega)]
      simp
    · rw [List.getElem?_eq_none (by simp; omega), List.getElem?_eq_none (by simp; omega)]
  rw [hrs] at hsl
  rw [hzip]
  simp [hB1, hld1, hsl]
  refine gfor g.ins.length (fun i e σ' => Fr σ.length σ σ' ∧ σ'[σ.length]? = some (.row false [fints g.ins, fands g.ands]) ∧ ∃ s, Own (σ.length + 1) 1 eint σ' s (supp ((g.ins.zip rs).take i)) ∧ e = mkEnv 40 [(2, .ptr σ.length 0), (6, s), (22, fbools rs), (23, .int .i64 g.ins.length), (24, .int .i64 i)]) _ ?_ ⟨hF1, hB1, .nils, by simpa [supp] using Own.nil, rfl⟩ ?_
  · simp [mkEnv, List.replicate, hrsl]
  clear hS
  rintro i _ σ' hi ⟨hF, hB, s, hO, rfl⟩
  simp [mkEnv, List.replicate]
  have hld : gload (.load 1 false) [.ptr σ.length 0] σ' = some (fints g.ins) := by rw [ld_at hB]; rfl
  by_cases hlt : i < g.ins.length
  · obtain ⟨y, hy⟩ := nth_lt hlt
    have hy' := nth_get hy
    obtain ⟨b, hb⟩ := nth_lt (l := rs) (i := i) (by omega)
    have hb' := nth_get hb
    have htk := take_get (zip_get hy' hb')
    have es : IntKind.i64.wrap ((i : Int) + 1) = (i : Int) + 1 := by rw [wrap_small] <;> omega
    cases b with
    | false =>
      simp [hlt, hb, es]
      exact forK_go _ hlt (by simp [mkEnv, List.replicate]) ⟨hF, hB, s, by rw [htk, supp_push]; exact hO, rfl⟩
    | true =>
      have hal := get_dom hB
      have hsl2 : (supp ((g.ins.zip rs).take i)).length ≤ i := by
        unfold supp
        rw [List.length_map]
        refine Nat.le_trans (List.length_filter_le _ _) ?_
        simp; omega
      obtain ⟨s', σ2, q1, q2, q3, q4, q5, q6⟩ := hO.push (by_ := 8) y (fun _ => rfl) (by simp) (by omega) (by omega) (by decide)
      simp [hlt, hb, hld, hy, q1, es]
      exact forK_go _ hlt (by simp [mkEnv, List.replicate]) ⟨hF.trans (q3.mono (by omega)), (q3.get _ (by omega)).trans hB, s', by rw [htk, supp_push]; exact q2, rfl⟩
  · have : i = g.ins.length := by omega
    subst this
    rw [List.take_of_length_le (by simp; omega)] at hO
    simp
    exact ⟨hF, .tuple (.cons (hO.rd (fun _ => rfl) fun i hi => .inl (by omega)) (.cons (.same _) .nil))⟩
theorem ref_Support_ok {g : AigP} {e : Int} {σ : GS} {Post : DV → GS → Prop} (hs : g.Sm) (h : Post (.tuple [fints (g.support e).1, .int .i64 (g.support e).2]) σ) : GCall Tryz.prog F_skolemref06_Support [g.enc, .int .i64 e] σ Post := by
  refine GCall.pure (r := .tuple [fints (g.support e).1, .int .i64 (g.support e).2]) ?_ (by simp) h
  refine gc_skolemref06_Support ?_
  simp [G_skolemref06_Support, genv0, List.replicate]
  refine ref_Has_ok hs ?_
  by_cases c : g.all [e] = true
  rotate_left
  · simp [c]
    rw [show g.support e = ([], 2) by unfold AigP.support; rw [if_neg c]]
    exact .tuple (.cons (.nils 1) (.cons (.same _) .nil))
  have hm := AigP.all_may c
  have hnn := AigP.may_nodes hm
  have hn : g.nodes = 1 + g.ins.length + g.ands.length := rfl
  have hrl := g.reach_len [e]
  have hsp : g.support e = (supp (g.ins.zip ((g.reach [e]).drop 1)), 0) := by unfold AigP.support; rw [if_pos c]
  rw [hsp]
  simp [c]
  have hS : Rds (frz (fun i => decide (i = σ.length + 1)) (σ ++ [.row false [fints g.ins, fands g.ands], .row false [.int .i64 e]])) (RO (frz (fun i => decide (i = σ.length + 1)) (σ ++ [.row false [fints g.ins, fands g.ands], .row false [.int .i64 e]]))) [g.enc, .slice (σ.length + 1) 0 1 1 (some 1)] [g.enc, fints [e]] := by
    have hrow := frz_row (S := fun i => decide (i = σ.length + 1)) (σ := σ ++ [.row false [fints g.ins, fands g.ands], .row false [.int .i64 e]]) (i := σ.length + 1) (ro := false) (cs := [.int .i64 e]) (by simp) (by simp)
    exact .cons (.same _) (.cons (rd_one hrow fun ro cs h => by rw [hrow] at h; cases h; rfl) .nil)
  refine GCall.frz _ hS ?_
  refine ref_Reached_ok hm (by simp) (fun x hx => AigP.all_has c hx) ?_
  obtain ⟨σ1, hσ1⟩ : ∃ σ1, frz (fun i => decide (i = σ.length + 1)) (σ ++ [.row false [fints g.ins, fands g.ands], .row false [.int .i64 e]]) = σ1 := ⟨_, rfl⟩
  have hB1 : σ1[σ.length]? = some (.row false [fints g.ins, fands g.ands]) := by rw [← hσ1, frz_off (by simp)]; simp
  have hF1 : Fr σ.length σ σ1 := ⟨by rw [← hσ1, frz_len]; simp, fun j hj => by rw [← hσ1, frz_off (by simp; omega), List.getElem?_append_left hj]⟩
  rw [hσ1]
  obtain ⟨rs, hrs⟩ : ∃ rs, (g.reach [e]).drop 1 = rs := ⟨_, rfl⟩
  have hrsl : rs.length = g.ins.length + g.ands.length := by rw [← hrs]; simp; omega
  rw [hrs]
  simp
  refine gfor g.ins.length (fun i e' σ' => Fr σ.length σ σ' ∧ σ'[σ.length]? = some (.row false [fints g.ins, fands g.ands]) ∧ ∃ s, Own (σ.length + 1) 1 eint σ' s (supp ((g.ins.zip rs).take i)) ∧ e' = mkEnv 38 [(2, .ptr σ.length 0), (6, fbools (g.reach [e])), (7, s), (8, .int .i64 i)]) _ ?_ ⟨hF1, hB1, .nils, by simpa [supp] using Own.nil, rfl⟩ ?_
  · simp [mkEnv, List.replicate]
  clear hS
  rintro i _ σ' hi ⟨hF, hB, s, hO, rfl⟩
  simp [mkEnv, List.replicate]
  have hld : gload (.load 1 false) [.ptr σ.length 0] σ' = some (fints g.ins) := by rw [ld_at hB]; rfl
  by_cases hlt : i < g.ins.length
  · obtain ⟨y, hy⟩ := nth_lt hlt
    have hy' := nth_get hy
    obtain ⟨b, hb⟩ := nth_lt (l := g.reach [e]) (i := i + 1) (by omega)
    have hb' := nth_get hb
    have hbr : rs[i]? = some b := by rw [← hrs, List.getElem?_drop, Nat.add_comm]; exact hb'
    have htk := take_get (zip_get hy' hbr)
    have es : IntKind.i64.wrap ((i : Int) + 1) = (i : Int) + 1 := by rw [wrap_small] <;> omega
    have hge : (0 : Int) ≤ (i : Int) + 1 := by omega
    have htn : ((i : Int) + 1).toNat = i + 1 := by omega
    cases b with
    | false =>
      simp [hlt, hld, hb, es, hge, htn]
      exact forK_go _ hlt (by simp [mkEnv, List.replicate]) ⟨hF, hB, s, by rw [htk, supp_push]; exact hO, rfl⟩
    | true =>
      have hal := get_dom hB
      have hsl2 : (supp ((g.ins.zip rs).take i)).length ≤ i := by
        unfold supp
        rw [List.length_map]
        refine Nat.le_trans (List.length_filter_le _ _) ?_
        simp; omega
      obtain ⟨s', σ2, q1, q2, q3, q4, q5, q6⟩ := hO.push (by_ := 8) y (fun _ => rfl) (by simp) (by omega) (by omega) (by decide)
      simp [hlt, hld, hb, hy, q1, es, hge, htn]
      exact forK_go _ hlt (by simp [mkEnv, List.replicate]) ⟨hF.trans (q3.mono (by omega)), (q3.get _ (by omega)).trans hB, s', by rw [htk, supp_push]; exact q2, rfl⟩
  · have : i = g.ins.length := by omega
    subst this
    rw [List.take_of_length_le (by simp; omega)] at hO
    simp [hld]
    exact ⟨hF, .tuple (.cons (hO.rd (fun _ => rfl) fun i hi => .inl (by omega)) (.cons (.same _) .nil))⟩
/-- How many are true. -/
def cntB (l : List Bool) : Nat := (l.filter id).length
theorem cntB_push (l : List Bool) (b : Bool) : cntB (l ++ [b]) = if b then cntB l + 1 else cntB l := by cases b <;> simp [cntB]
theorem cntB_le (l : List Bool) : cntB l ≤ l.length := List.length_filter_le _ _
def AigP.size (g : AigP) (l : List Int) : Int × Int := if g.all l = true then (cntB ((g.reach l).drop (1 + g.ins.length)), 0) else (0, 2)
theorem aig_Size_ok {g : AigP} {l : List Int} {σ : GS} {Post : DV → GS → Prop} (hs : g.Sm) (hl : l.length < 2 ^ 50) (h : Post (.tuple [.int .i64 (g.size l).1, .int .i64 (g.size l).2]) σ) : GCall Tryz.prog F_aig_Size [g.enc, fints l] σ Post := by
  refine GCall.say (r := .tuple [.int .i64 (g.size l).1, .int .i64 (g.size l).2]) ?_ (by simp) h
  refine gc_aig_Size ?_
  simp [G_aig_Size, genv0, List.replicate]
  refine aig_all_ok hs (by omega) ?_
  by_cases c : g.all l = true
  rotate_left
  · simp [c]
    rw [show g.size l = (0, 2) by unfold AigP.size; rw [if_neg c]]
    simp
  have hm := AigP.all_may c
  have hnn := AigP.may_nodes hm
  have hn : g.nodes = 1 + g.ins.length + g.ands.length := rfl
  have hrl := g.reach_len l
  have hsp : g.size l = ((cntB ((g.reach l).drop (1 + g.ins.length)) : Int), 0) := by unfold AigP.size; rw [if_pos c]
  rw [hsp]
  have ew : IntKind.i64.wrap (1 + (g.ins.length : Int)) = 1 + g.ins.length := by rw [wrap_small] <;> omega
  simp [c, ew]
  refine aig_reached_ok hm hl (fun x hx => AigP.all_has c hx) ?_
  have hsl : gpure (.slice 1 true false false) [fbools (g.reach l), .int .i64 (1 + g.ins.length)] = some (fbools ((g.reach l).drop (1 + g.ins.length))) := by
    have e1 : (1 + (g.ins.length : Int)).toNat = 1 + g.ins.length := by omega
    simp only [gpure, gslice, if_true, gbm, Option.bind_some, gbh, gbl, gbound, List.length_map]
    rw [if_pos ⟨rfl, Nat.le_refl _⟩]
    simp only [Option.bind_some]
    rw [if_pos (by rw [hrl]; omega)]
    simp only [Option.bind_some, e1]
    rw [List.take_of_length_le (by simp)]
    simp [List.map_drop]
  obtain ⟨rs, hrs⟩ : ∃ rs, (g.reach l).drop (1 + g.ins.length) = rs := ⟨_, rfl⟩
  have hrsl : rs.length = g.ands.length := by rw [← hrs]; simp; omega
  rw [hrs] at hsl ⊢
  simp [hsl]
  refine gfor rs.length (fun i e σ' => σ' = σ ++ [.row false [fints g.ins, fands g.ands]] ∧ e = mkEnv 31 [(6, .int .i64 (cntB (rs.take i))), (20, fbools rs), (21, .int .i64 rs.length), (22, .int .i64 i)]) _ ?_ ⟨rfl, rfl⟩ ?_
  · simp [mkEnv, List.replicate, cntB]
  rintro i _ _ hi ⟨rfl, rfl⟩
  simp [mkEnv, List.replicate]
  by_cases hlt : i < rs.length
  · obtain ⟨b, hb⟩ := nth_lt hlt
    have htk := take_get (nth_get hb)
    have es : IntKind.i64.wrap ((i : Int) + 1) = (i : Int) + 1 := by rw [wrap_small] <;> omega
    have hcl := cntB_le (rs.take i)
    rw [List.length_take] at hcl
    have ec : IntKind.i64.wrap ((cntB (rs.take i) : Int) + 1) = ((cntB (rs.take i) + 1 : Nat) : Int) := wrap_suc (by omega)
    cases b with
    | false =>
      simp [hlt, hb, es]
      exact forK_go (mkEnv 31 [(6, .int .i64 (cntB (rs.take (i + 1)))), (20, fbools rs), (21, .int .i64 rs.length), (22, .int .i64 ((i + 1 : Nat) : Int))]) hlt (by simp [mkEnv, List.replicate, htk, cntB_push]) ⟨rfl, rfl⟩
    | true =>
      simp [hlt, hb, es, ec]
      exact forK_go (mkEnv 31 [(6, .int .i64 (cntB (rs.take (i + 1)))), (20, fbools rs), (21, .int .i64 rs.length), (22, .int .i64 ((i + 1 : Nat) : Int))]) hlt (by simp [mkEnv, List.replicate, htk, cntB_push]) ⟨rfl, rfl⟩
  · have : i = rs.length := by omega
    subst this
    simp
theorem ref_Size_ok {g : AigP} {l : List Int} {σ : GS} {Post : DV → GS → Prop} (hs : g.Sm) (hl : l.length < 2 ^ 50) (h : Post (.tuple [.int .i64 (g.size l).1, .int .i64 (g.size l).2]) σ) : GCall Tryz.prog F_skolemref06_Size [g.enc, fints l] σ Post := by
  refine GCall.say (r := .tuple [.int .i64 (g.size l).1, .int .i64 (g.size l).2]) ?_ (by simp) h
  refine gc_skolemref06_Size ?_
  simp [G_skolemref06_Size, genv0, List.replicate]
  refine ref_HasAll_ok hs (by omega) ?_
  by_cases c : g.all l = true
  rotate_left
  · simp [c]
    rw [show g.size l = (0, 2) by unfold AigP.size; rw [if_neg c]]
    simp
  have hm := AigP.all_may c
  have hnn := AigP.may_nodes hm
  have hn : g.nodes = 1 + g.ins.length + g.ands.length := rfl
  have hrl := g.reach_len l
  have hsp : g.size l = ((cntB ((g.reach l).drop (1 + g.ins.length)) : Int), 0) := by unfold AigP.size; rw [if_pos c]
  rw [hsp]
  have ew : IntKind.i64.wrap (1 + (g.ins.length : Int)) = 1 + g.ins.length := by rw [wrap_small] <;> omega
  simp [c]
  refine ref_Reached_ok hm hl (fun x hx => AigP.all_has c hx) ?_
  obtain ⟨rs, hrs⟩ : ∃ rs, (g.reach l).drop (1 + g.ins.length) = rs := ⟨_, rfl⟩
  have hrsl : rs.length = g.ands.length := by rw [← hrs]; simp; omega
  rw [hrs]
  simp
  refine gfor g.ands.length (fun i e σ' => σ' = σ ++ [.row false [fints g.ins, fands g.ands]] ∧ e = mkEnv 35 [(2, .ptr σ.length 0), (6, fbools (g.reach l)), (7, .int .i64 (cntB (rs.take i))), (8, .int .i64 i)]) _ ?_ ⟨rfl, rfl⟩ ?_
  · simp [mkEnv, List.replicate, cntB]
  rintro i _ _ hi ⟨rfl, rfl⟩
  simp [mkEnv, List.replicate]
  by_cases hlt : i < g.ands.length
  · obtain ⟨b, hb⟩ := nth_lt (l := g.reach l) (i := 1 + g.ins.length + i) (by omega)
    have hbr : rs[i]? = some b := by rw [← hrs, List.getElem?_drop]; exact nth_get hb
    have htk := take_get hbr
    have es : IntKind.i64.wrap ((i : Int) + 1) = (i : Int) + 1 := by rw [wrap_small] <;> omega
    have ew2 : IntKind.i64.wrap (1 + (g.ins.length : Int) + i) = 1 + g.ins.length + i := by rw [wrap_small] <;> omega
    have hge : (0 : Int) ≤ 1 + (g.ins.length : Int) + i := by omega
    have htn : (1 + (g.ins.length : Int) + i).toNat = 1 + g.ins.length + i := by omega
    have hcl := cntB_le (rs.take i)
    rw [List.length_take] at hcl
    have ec : IntKind.i64.wrap ((cntB (rs.take i) : Int) + 1) = ((cntB (rs.take i) + 1 : Nat) : Int) := wrap_suc (by omega)
    cases b with
    | false =>
      simp [hlt, ew, ew2, hge, htn, hb, es]
      exact forK_go (mkEnv 35 [(2, .ptr σ.length 0), (6, fbools (g.reach l)), (7, .int .i64 (cntB (rs.take (i + 1)))), (8, .int .i64 ((i + 1 : Nat) : Int))]) hlt (by simp [mkEnv, List.replicate, htk, cntB_push]) ⟨rfl, rfl⟩
    | true =>
      simp [hlt, ew, ew2, hge, htn, hb, es, ec]
      exact forK_go (mkEnv 35 [(2, .ptr σ.length 0), (6, fbools (g.reach l)), (7, .int .i64 (cntB (rs.take (i + 1)))), (8, .int .i64 ((i + 1 : Nat) : Int))]) hlt (by simp [mkEnv, List.replicate, htk, cntB_push]) ⟨rfl, rfl⟩
  · have : i = g.ands.length := by omega
    subst this
    rw [← hrsl, List.take_length]
    simp
/-- Could a maker have made these Ands, behind others? -/
def redOk : List (Int × Int) → List (Int × Int) → Bool
  | _, [] => true
  | pre, p :: l => !(decide (p.1 < 2) || decide (p.2 ≤ p.1) || decide (notE p.1 = p.2) || pre.contains p) && redOk (pre ++ [p]) l
def AigP.reduced (g : AigP) : Bool := redOk [] g.ands && g.may
theorem aig_Reduced_ok {g : AigP} {σ : GS} {Post : DV → GS → Prop} (hs : g.Sm) (hb : ∀ p ∈ g.ands, p.1 < 9223372036854775808) (h : Post (.bool g.reduced) σ) : GCall Tryz.prog F_aig_Reduced [g.enc] σ Post := by
  refine GCall.say (r := .bool g.reduced) ?_ rfl h
  have h2 := hs.ands
  refine gc_aig_Reduced ?_
  simp [G_aig_Reduced, genv0, List.replicate, galloc]
  refine gfor g.ands.length (fun i e σ' => Fr σ.length σ σ' ∧ σ'[σ.length]? = some (.row false [fints g.ins, fands g.ands]) ∧ (∃ l, MpO kpair σ' (σ.length + 1) l ∧ ∀ p, kget p l = if (g.ands.take i).contains p then some (.bool true) else none) ∧ redOk [] g.ands = redOk (g.ands.take i) (g.ands.drop i) ∧ e = mkEnv 42 [(1, .ptr σ.length 0), (3, .map (σ.length + 1)), (8, fands g.ands), (9, .int .i64 g.ands.length), (10, .int .i64 i)]) _ ?_ ⟨Fr.self _, by simp, ⟨[], ⟨by simp, ([], 0), ⟨rfl, by simp, by simp⟩, by simp [kenc]⟩, fun p => by simp [kget]⟩, by simp, rfl⟩ ?_
  · simp [mkEnv, List.replicate]
  rintro i _ σ' hi ⟨hF, hA, ⟨l, hM, hl⟩, hI, rfl⟩
  simp [mkEnv, List.replicate]
  by_cases hlt : i < g.ands.length
  · obtain ⟨p, hp⟩ := nth_lt hlt
    have hp' := nth_get hp
    have hbp := hb p (List.mem_of_getElem? hp')
    rw [drop_get hp'] at hI
    have es : IntKind.i64.wrap ((i : Int) + 1) = (i : Int) + 1 := by rw [wrap_small] <;> omega
    obtain ⟨X, hX⟩ : ∃ X, [GObj.row false [.int .i64 p.1, .int .i64 p.2]] = X := ⟨_, rfl⟩
    have hMX : MpO kpair (σ' ++ X) (σ.length + 1) l := hM.fit (List.getElem?_append_left hM.dom)
    have hpa : gload (.load 1 false) [.ptr σ'.length 0] (σ' ++ X) = some (.int .i64 p.1) := by rw [← hX]; simp
    have hpb : gload (.load 1 false) [.ptr σ'.length 1] (σ' ++ X) = some (.int .i64 p.2) := by rw [← hX]; simp
    have hpair : gload (.load 2 true) [.ptr σ'.length 0] (σ' ++ X) = some (.agg [.int .i64 p.1, .int .i64 p.2]) := by rw [← hX]; simp
    have hlk : gload (.lookup (.arr2 .i64) (.bool false) false) [.map (σ.length + 1), .agg [.int .i64 p.1, .int .i64 p.2]] (σ' ++ X) = _ := hMX.lookup (kt := .arr2 .i64) p (.bool false) false
    rw [hl] at hlk
    simp only [redOk] at hI
    obtain ⟨pre, hpre⟩ : ∃ pre, g.ands.take i = pre := ⟨_, rfl⟩
    rw [hpre] at hI hlk hl
    have bad : ∀ b : Bool, (decide (p.1 < 2) || decide (p.2 ≤ p.1) || decide (notE p.1 = p.2) || pre.contains p) = true → g.reduced = false := fun b hb => by
      unfold AigP.reduced; rw [hI, hb]; rfl
    simp [hlt, hp]
    rw [hX]
    by_cases c1 : p.1 < 2
    · simp [c1]
      first | exact ⟨hF.app _, (bad true (by simp [c1])).symm⟩ | exact ⟨hF.app _, bad true (by simp [c1])⟩
    simp [c1, hpa, hpb]
    by_cases c2 : p.2 ≤ p.1
    · simp [c2]
      first | exact ⟨hF.app _, (bad true (by simp [c2])).symm⟩ | exact ⟨hF.app _, bad true (by simp [c2])⟩
    have hx := bits_xor_one (e := p.1) (by omega) hbp
    simp [c2, hpa, hpb, hx]
    by_cases c3 : notE p.1 = p.2
    · simp [c3]
      first | exact ⟨hF.app _, (bad true (by simp [c3])).symm⟩ | exact ⟨hF.app _, bad true (by simp [c3])⟩
    simp [c3, hpair, hlk]
    by_cases c4 : pre.contains p = true
    · have c4' := c4
      simp at c4'
      simp [c4']
      first | exact ⟨hF.app _, (bad true (by simp [c4'])).symm⟩ | exact ⟨hF.app _, bad true (by simp [c4'])⟩
    · have c4' := c4
      simp at c4'
      obtain ⟨o, ho1, ho2⟩ := hMX.set (kt := .arr2 .i64) p (.bool true)
      replace ho1 : gimp (.mset (.arr2 .i64)) [.map (σ.length + 1), .agg [.int .i64 p.1, .int .i64 p.2], .bool true] (σ' ++ X) = _ := ho1
      simp [c4', hpair, ho1, es]
      refine forK_go _ hlt (by simp [mkEnv, List.replicate]) ⟨(hF.app _).set (by omega) _, ?_, ⟨_, ho2, fun q => ?_⟩, ?_, rfl⟩
      · rw [List.getElem?_set_ne (by omega)]; exact getE_append hA
      · rw [kget_set, take_get hp', hpre, hl]
        by_cases hq : q = p
        · subst hq; simp
        · simp [hq]
      · rw [hI, take_get hp', hpre]
        have : (decide (p.1 < 2) || decide (p.2 ≤ p.1) || decide (notE p.1 = p.2) || pre.contains p) = false := by
          rw [Bool.eq_false_iff.2 c4]; simp [c1, c2, c3]
        rw [this]; rfl
  · have : i = g.ands.length := by omega
    subst this
    rw [List.drop_length] at hI
    have hag : gload (.load 2 true) [.ptr σ.length 0] σ' = some g.enc := by rw [ld_agg hA]; rfl
    simp [hag]
    refine aig_May_ok hs ?_
    simp
    refine ⟨hF, ?_⟩
    unfold AigP.reduced
    rw [hI]; rfl
theorem ref_Reduced_ok {g : AigP} {σ : GS} {Post : DV → GS → Prop} (hs : g.Sm) (h : Post (.bool g.reduced) σ) : GCall Tryz.prog F_skolemref06_Reduced [g.enc] σ Post := by
  refine GCall.say (r := .bool g.reduced) ?_ rfl h
  have h2 := hs.ands
  refine gc_skolemref06_Reduced ?_
  simp [G_skolemref06_Reduced, genv0, List.replicate]
  refine ref_May_ok hs ?_
  by_cases hm : g.may = true
  rotate_left
  · simp [hm]
    unfold AigP.reduced; rw [Bool.eq_false_iff.2 hm]; simp
  have hnn := AigP.may_nodes hm
  have hn : g.nodes = 1 + g.ins.length + g.ands.length := rfl
  have hok : ∀ {i : Nat} {p : Int × Int}, g.ands[i]? = some p → _ := fun {i p} h => andsOk_get (AigP.may_ands hm) (i := i) (p := p) h
  have hands : andsOk (2 * (1 + g.ins.length)) g.ands = true := by have := AigP.may_ands hm; rwa [show (2 * ((1 + g.ins.length : Nat) : Int)) = 2 * (1 + (g.ins.length : Int)) by omega] at this
  simp [hm]
  refine gfor g.ands.length (fun i e σ' => σ' = σ ++ [.row false [fints g.ins, fands g.ands]] ∧ redOk [] g.ands = redOk (g.ands.take i) (g.ands.drop i) ∧ e = mkEnv 49 [(1, .ptr σ.length 0), (3, .int .i64 i)]) _ ?_ ⟨rfl, by simp, rfl⟩ ?_
  · simp [mkEnv, List.replicate]
  rintro i _ _ hi ⟨rfl, hI, rfl⟩
  simp [mkEnv, List.replicate]
  by_cases hlt : i < g.ands.length
  · obtain ⟨p, hp⟩ := nth_lt hlt
    have hp' := nth_get hp
    obtain ⟨p1, p2, p3, p4⟩ := hok hp'
    rw [drop_get hp'] at hI
    have es : IntKind.i64.wrap ((i : Int) + 1) = (i : Int) + 1 := by rw [wrap_small] <;> omega
    simp only [redOk] at hI
    obtain ⟨pre, hpre⟩ : ∃ pre, g.ands.take i = pre := ⟨_, rfl⟩
    rw [hpre] at hI
    have bad : (decide (p.1 < 2) || decide (p.2 ≤ p.1) || decide (notE p.1 = p.2) || pre.contains p) = true → g.reduced = false := fun hb => by
      unfold AigP.reduced; rw [hI, hb]; rfl
    simp [hlt, hp]
    by_cases c1 : p.1 < 2
    · simp [c1]
      first | exact (bad (by simp [c1])).symm | exact bad (by simp [c1])
    simp [c1]
    by_cases c2 : p.2 ≤ p.1
    · simp [c2]
      first | exact (bad (by simp [c2])).symm | exact bad (by simp [c2])
    simp [c2]
    refine ref_Not_ok p1 (by omega) ?_
    by_cases c3 : notE p.1 = p.2
    · simp [c3]
      first | exact (bad (by simp [c3])).symm | exact bad (by simp [c3])
    simp [c3]
    refine ref_find_ok hs hands p2 (by omega) ?_
    have hpe : ((p.1, p.2) : Int × Int) = p := rfl
    rw [hpe]
    by_cases c4 : pre.contains p = true
    · have hne : ¬ idxF (fun q => decide (q = p)) 0 g.ands = (i : Int) := fun e => by
        have hmem := List.contains_iff_mem.1 c4
        rw [← hpre] at hmem
        obtain ⟨j, hj⟩ := List.mem_iff_getElem?.1 hmem
        rw [List.getElem?_take] at hj
        split at hj
        · rename_i hji
          rcases idxF_cases (fun q => decide (q = p)) g.ands 0 with ⟨h1, _⟩ | ⟨k, x, h1, h3, h4, h5⟩
          · omega
          · rw [h1] at e
            have hk : k = i := by omega
            have := h5 j p (by omega) hj
            simp at this
        · cases hj
      simp [hne]
      first | exact (bad (by rw [c4]; simp)).symm | exact bad (by rw [c4]; simp)
    · have heq : idxF (fun q => decide (q = p)) 0 g.ands = (i : Int) := by
        rcases idxF_cases (fun q => decide (q = p)) g.ands 0 with ⟨h1, h3⟩ | ⟨k, x, h1, h3, h4, h5⟩
        · have := h3 p (List.mem_of_getElem? hp'); simp at this
        · simp at h4; subst h4
          rcases Nat.lt_trichotomy k i with hk | hk | hk
          · exfalso
            refine c4 (List.contains_iff_mem.2 ?_)
            rw [← hpre]
            exact List.mem_of_getElem? (i := k) (by rw [List.getElem?_take, if_pos hk]; exact h3)
          · rw [h1, hk]; omega
          · have := h5 i x hk hp'; simp at this
      simp [heq, es]
      refine forK_go _ hlt (by simp [mkEnv, List.replicate]) ⟨rfl, ?_, rfl⟩
      rw [hI, take_get hp', hpre]
      have : (decide (p.1 < 2) || decide (p.2 ≤ p.1) || decide (notE p.1 = p.2) || pre.contains p) = false := by
        rw [Bool.eq_false_iff.2 c4]; simp [c1, c2, c3]
      rw [this]; rfl
  · have : i = g.ands.length := by omega
    subst this
    rw [List.drop_length] at hI
    simp
    unfold AigP.reduced
    rw [hI, hm]; rfl
theorem equal_ok {xs ys : List Int} {σ : GS} {Post : DV → GS → Prop} (hl : xs.length < 2 ^ 60) (h : Post (.bool (decide (xs = ys))) σ) : GCall Tryz.prog F_slices_Equal_int_int [fints xs, fints ys] σ Post := by
  refine gc_slices_Equal_int_int ?_
  by_cases hlen : xs.length = ys.length
  rotate_left
  · have hne : xs ≠ ys := fun e => hlen (by rw [e])
    have hlen' : ¬ ((xs.length : Int) = ys.length) := by omega
    simp [G_slices_Equal_int_int, genv0, List.replicate, hlen']
    simpa [hne] using h
  simp [G_slices_Equal_int_int, genv0, List.replicate, hlen]
  refine gfor ys.length (fun i e σ' => σ' = σ ∧ (xs = ys ↔ xs.drop i = ys.drop i) ∧ e = mkEnv 26 [(0, fints xs), (1, fints ys), (12, .int .i64 ys.length), (13, .int .i64 i)]) _ ?_ ⟨rfl, by simp, rfl⟩ ?_
  · simp [mkEnv, List.replicate]
  rintro i _ _ hi ⟨rfl, hI, rfl⟩
  simp [mkEnv, List.replicate]
  by_cases hlt : i < ys.length
  · obtain ⟨x, hx⟩ := nth_lt (l := xs) (i := i) (by omega)
    obtain ⟨y, hy⟩ := nth_lt hlt
    rw [drop_get hx, drop_get hy, List.cons.injEq] at hI
    have es : IntKind.i64.wrap ((i : Int) + 1) = (i : Int) + 1 := by rw [wrap_small] <;> omega
    by_cases c : x = y
    · simp [hlt, hx, hy, c, es]
      exact forK_go _ hlt (by simp [mkEnv, List.replicate]) ⟨rfl, by rw [hI]; simp [c], rfl⟩
    · have hne : xs ≠ ys := fun e => c (hI.1 e).1
      simp [hlt, hx, hy, c]
      simpa [hne] using h
  · have : i = ys.length := by omega
    subst this
    have he : xs = ys := hI.2 (by rw [← hlen, List.drop_length, hlen, List.drop_length])
    simp
    simpa [he] using h
theorem equal2_ok {xs ys : List (Int × Int)} {σ : GS} {Post : DV → GS → Prop} (hl : xs.length < 2 ^ 60) (h : Post (.bool (decide (xs = ys))) σ) : GCall Tryz.prog F_slices_Equal__2_int__2_int [fands xs, fands ys] σ Post := by
  refine gc_slices_Equal__2_int__2_int ?_
  by_cases hlen : xs.length = ys.length
  rotate_left
  · have hne : xs ≠ ys := fun e => hlen (by rw [e])
    have hlen' : ¬ ((xs.length : Int) = ys.length) := by omega
    simp [G_slices_Equal__2_int__2_int, genv0, List.replicate, hlen']
    simpa [hne] using h
  simp [G_slices_Equal__2_int__2_int, genv0, List.replicate, hlen]
  refine gfor ys.length (fun i e σ' => σ' = σ ∧ (xs = ys ↔ xs.drop i = ys.drop i) ∧ e = mkEnv 26 [(0, fands xs), (1, fands ys), (12, .int .i64 ys.length), (13, .int .i64 i)]) _ ?_ ⟨rfl, by simp, rfl⟩ ?_
  · simp [mkEnv, List.replicate]
  rintro i _ _ hi ⟨rfl, hI, rfl⟩
  simp [mkEnv, List.replicate]
  by_cases hlt : i < ys.length
  · obtain ⟨p, hp⟩ := nth_lt (l := xs) (i := i) (by omega)
    obtain ⟨q, hq⟩ := nth_lt hlt
    rw [drop_get hp, drop_get hq, List.cons.injEq] at hI
    have es : IntKind.i64.wrap ((i : Int) + 1) = (i : Int) + 1 := by rw [wrap_small] <;> omega
    have hcmp : gbin .neq (.arr2 .i64) (.agg [.int .i64 p.1, .int .i64 p.2]) (.agg [.int .i64 q.1, .int .i64 q.2]) = some (.bool (!(p.1 == q.1 && p.2 == q.2))) := by simp [gbin, geq, eq2]
    by_cases c : p = q
    · have cc : (p.1 == q.1 && p.2 == q.2) = true := by simp [c]
      simp [hlt, hp, hq, hcmp, cc, es]
      exact forK_go _ hlt (by simp [mkEnv, List.replicate]) ⟨rfl, by rw [hI]; simp [c], rfl⟩
    · have hne : xs ≠ ys := fun e => c (hI.1 e).1
      have cc : (p.1 == q.1 && p.2 == q.2) = false := by
        rw [Bool.eq_false_iff]; intro hh; simp at hh; exact c (Prod.ext hh.1 hh.2)
      simp [hlt, hp, hq, hcmp, cc]
      simpa [hne] using h
  · have : i = ys.length := by omega
    subst this
    have he : xs = ys := hI.2 (by rw [← hlen, List.drop_length, hlen, List.drop_length])
    simp
    simpa [he] using h
theorem aig_Same_ok {g k : AigP} {σ : GS} {Post : DV → GS → Prop} (hs : g.Sm) (h : Post (.bool (decide (g.ins = k.ins ∧ g.ands = k.ands))) σ) : GCall Tryz.prog F_aig_Same [g.enc, k.enc] σ Post := by
  have h1 := hs.ins
  have h2 := hs.ands
  refine GCall.say (r := .bool (decide (g.ins = k.ins ∧ g.ands = k.ands))) ?_ rfl h
  refine gc_aig_Same ?_
  simp [G_aig_Same, genv0, List.replicate]
  refine equal_ok (by omega) ?_
  by_cases hi : g.ins = k.ins
  rotate_left
  · simp [hi]
  simp [hi]
  refine equal2_ok (by omega) ?_
  simp [hi]
theorem great_two {g k : AigP} {id : Nat} {cap : Option Nat} {σ : GS} {Post : DV → GS → Prop} (hr : σ[id]? = some (.row false (eaig g ++ eaig k))) (h : Post (.bool (g.great || k.great)) σ) : GCall Tryz.prog F_skolemlaw06_great [.slice id 0 2 2 cap] σ Post := by
  have hrd := Rd.slice (σ := σ) (ok := fun _ => True) (id := id) (off := 0) (sz := 2) (cap := cap) (es := [eaig g, eaig k]) trivial hr (by simp) (fun e he => by simp at he; rcases he with rfl | rfl <;> rfl) (by simp; exact Rds.refl _)
  refine GCall.borrow (args' := [.fsl 2 ([g, k].map eaig)]) (r := .bool (g.great || k.great)) (.cons hrd .nil) ?_ rfl ?_ h
  · have h1 : closedss (g.ins.map eint) = true := closed_fints g.ins
    have h2 : closedss (g.ands.map eand) = true := closed_fands g.ands
    have h3 : closedss (k.ins.map eint) = true := closed_fints k.ins
    have h4 : closedss (k.ands.map eand) = true := closed_fands k.ands
    simp only [closeds, DV.closed, List.map_cons, List.map_nil, closedss]
    rw [h1, h2, h3, h4]; rfl
  · exact great_ok (gs := [g, k]) (by simp) (by simp)
theorem support_len (g : AigP) (e : Int) : (g.support e).1.length ≤ g.ins.length := by
  unfold AigP.support
  split
  · unfold supp
    rw [List.length_map]
    refine Nat.le_trans (List.length_filter_le _ _) ?_
    simp; omega
  · simp
set_option maxHeartbeats 8000000 in
theorem mays_ok {a b : AigP} {l : List Int} {σ : GS} {Post : DV → GS → Prop} (h1 : a.ins.length < 2 ^ 47) (h2 : a.ands.length < 2 ^ 47) (h3 : b.ins.length < 2 ^ 47) (h4 : b.ands.length < 2 ^ 47) (hl : l.length < 2 ^ 47) (hb : ∀ p ∈ a.ands, p.1 < 9223372036854775808) (k : ∀ σ', Post (.bool true) σ') : GCall Tryz.prog F_skolemlaw06_AigMays [a.enc, b.enc, fints l] σ Post := by
  refine gc_skolemlaw06_AigMays ?_
  simp [G_skolemlaw06_AigMays, genv0, List.replicate, galloc, gfill, DV.cells, over, gzeros]
  refine great_two (g := a) (k := b) (by simp) ?_
  by_cases c1 : (a.great || b.great) = true
  · simp [c1]
    refine works_ok ?_
    simp
    exact k _
  have hs : a.Sm := ⟨by omega, by omega⟩
  have hsb : b.Sm := ⟨by omega, by omega⟩
  rw [Bool.eq_false_iff.2 c1]
  simp
  by_cases c2 : (100 : Int) < l.length
  · simp [c2]
    refine works_ok ?_
    simp
    exact k _
  simp [c2]
  have main : ∀ e : Int, True := fun _ => trivial
  by_cases c3 : 0 < l.length
  all_goals
    first
    | (obtain ⟨e, he⟩ := nth_lt c3
       simp [c3, he])
    | (have c3' : ¬ (0 : Int) < l.length := by omega
       obtain ⟨e, he⟩ : ∃ e : Int, e = 0 := ⟨0, rfl⟩
       simp [c3]
       rw [← he])
    obtain ⟨S, hS⟩ : ∃ S, a.support e = S := ⟨_, rfl⟩
    obtain ⟨Z, hZ⟩ : ∃ Z, a.size l = Z := ⟨_, rfl⟩
    refine aig_Support_ok hs ?_
    rw [hS]
    simp
    refine ref_Support_ok hs ?_
    rw [hS]
    simp
    refine aig_Size_ok hs (by omega) ?_
    rw [hZ]
    simp
    refine ref_Size_ok hs (by omega) ?_
    rw [hZ]
    simp
    refine aig_May_ok hs ?_
    simp
    refine ref_May_ok hs ?_
    simp
    refine aig_Reduced_ok hs hb ?_
    simp
    refine ref_Reduced_ok hs ?_
    simp
    refine aig_Has_ok hs ?_
    simp
    refine ref_Has_ok hs ?_
    simp
    refine aig_Same_ok hs ?_
    simp
    refine ref_Same_ok hs hsb ?_
    simp
    refine aig_Same_ok hs ?_
    simp
    refine ref_Ints_ok (by rw [← hS]; have := support_len a e; omega) ?_
    simp
    refine works_ok ?_
    simp
    exact k _
end Go.Gh
