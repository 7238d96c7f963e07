/-
  Proved: AigAgain: the cone of a cone is the same; its size and supports.
  Part 5 of 7. Conditions: none. A verified frame that runs compiled texts over a ghost heap, the contracts of the functions that the statement reaches, and the plain law.
-/
import Derived.Test.YtmlkkjkjigpjjaaXA4
import Derived.Test.YtmlkkjkjigpjjaaProg
import Derived.KernelRfl
namespace Go.Gh
open Go.Proofs
theorem seatfollows : Try.prog.follows .mixedOrders = true := by kernel_rfl
abbrev F_aig_Cone : Nat := 10
abbrev F_aig_Support : Nat := 14
abbrev F_aig_ToNet : Nat := 27
abbrev F_aig_all : Nat := 34
abbrev F_aig_variable : Nat := 50
abbrev F_circ_May : Nat := 58
abbrev F_slices_ContainsFunc_int_int : Nat := 59
abbrev F_aig_ToNet_1 : Nat := 60
abbrev F_aig_ToNet_2 : Nat := 61
abbrev F_aig_ToNet_3 : Nat := 63
abbrev F_circ_set_prefix : Nat := 80
abbrev F_circ_literals : Nat := 81
abbrev F_circ_May_1 : Nat := 82
abbrev F_circ_set_has : Nat := 83
abbrev F_circ_shaped : Nat := 84
abbrev F_circ_set_add : Nat := 85
noncomputable abbrev G_aig_ToNet : GFun := ⟨136, [(.cell 6 3 true), (.tmp 7)], (.seq (.region [⟨0, ⟨(some 3), none, (.new .box), [(.tmp 0)]⟩, []⟩, ⟨0, ⟨(some 6), none, (.new (.alloc [.nils, .nils, (.int .i64 0)])), []⟩, []⟩, ⟨0, ⟨(some 7), none, (.pure .id), [(.const (.int .i64 0))]⟩, []⟩]) (.seq (.region [⟨0, ⟨(some 8), none, (.new (.abig 65538 (.bool false))), []⟩, []⟩]) (.seq (.region [⟨0, ⟨(some 26), none, (.pure .id), [(.tmp 2)]⟩, []⟩, ⟨0, ⟨(some 27), none, (.pure (.build [(.int .i64 0), (.int .u8 0), .nils] [(0, 1), (1, 1)])), [(.const (.int .i64 65536)), (.const (.int .u8 1))]⟩, []⟩, ⟨0, ⟨(some 28), none, (.new (.bslice 3 [(.int .i64 0), (.int .u8 0), .nils] 1 [(0, 3)])), [(.tmp 27)]⟩, []⟩, ⟨0, ⟨(some 29), none, (.pure (.build [.nils, .nils, (.int .i64 0)] [(0, 1), (1, 1), (2, 1)])), [(.tmp 26), (.tmp 28), (.const (.int .i64 65536))]⟩, []⟩, ⟨0, ⟨(some 9), none, (.new (.alloc [.nils, .nils, (.int .i64 0)])), []⟩, []⟩, ⟨0, ⟨none, none, (.imp (.store 3)), [(.tmp 9), (.tmp 29)]⟩, []⟩]) (.seq (.seq (.region [⟨0, ⟨(some 30), none, (.pure .id), [(.tmp 2)]⟩, []⟩, ⟨0, ⟨(some 31), none, (.pure .len), [(.tmp 30)]⟩, []⟩, ⟨0, ⟨(some 32), none, (.pure .id), [(.const (.int .i64 0))]⟩, []⟩]) (.block 0 (.loop (.seq (.region [⟨0, ⟨(some 33), none, (.pure (.bin .lss .none)), [(.tmp 32), (.tmp 31)]⟩, []⟩]) (.seq (.cond (.tmp 33) .skip (.exit 0)) (.seq (.block 1 (.seq (.region [⟨0, ⟨(some 34), none, (.pure (.iaddr 2)), [(.tmp 30), (.tmp 32)]⟩, []⟩, ⟨0, ⟨(some 35), none, (.load (.load 2 true)), [(.tmp 34)]⟩, []⟩, ⟨0, ⟨(some 11), none, (.new (.alloc [(.bool false), .nils])), []⟩, []⟩, ⟨0, ⟨none, none, (.imp (.store 2)), [(.tmp 11), (.tmp 35)]⟩, []⟩]) (.seq (.region [⟨0, ⟨(some 36), none, (.pure (.faddr 1)), [(.tmp 11)]⟩, []⟩, ⟨0, ⟨(some 37), none, (.load (.load 1 false)), [(.tmp 36)]⟩, []⟩, ⟨0, ⟨(some 38), none, (.pure .len), [(.tmp 37)]⟩, []⟩, ⟨0, ⟨(some 39), none, (.pure .id), [(.const (.int .i64 0))]⟩, []⟩]) (.block 2 (.loop (.seq (.region [⟨0, ⟨(some 40), none, (.pure (.bin .lss .none)), [(.tmp 39), (.tmp 38)]⟩, []⟩]) (.seq (.cond (.tmp 40) .skip (.exit 2)) (.seq (.block 3 (.seq (.region [⟨0, ⟨(some 41), none, (.pure (.iaddr 1)), [(.tmp 37), (.tmp 39)]⟩, []⟩, ⟨0, ⟨(some 42), none, (.load (.load 1 false)), [(.tmp 41)]⟩, []⟩, ⟨0, ⟨(some 13), none, (.pure .id), [(.tmp 42)]⟩, []⟩]) (.seq (.seq (.region [⟨0, ⟨(some 43), none, (.pure .id), [(.tmp 13)]⟩, []⟩, ⟨0, ⟨(some 44), none, (.call F_aig_variable), [(.tmp 43)]⟩, []⟩, ⟨0, ⟨(some 45), none, (.pure (.un .not)), [(.tmp 44)]⟩, []⟩]) (.cond (.tmp 45) (.seq (.region [⟨0, ⟨(some 46), none, (.pure (.build [.nils, .nils, (.int .i64 0)] [])), []⟩, []⟩, ⟨0, ⟨none, none, (.imp (.store 3)), [(.tmp 6), (.tmp 46)]⟩, []⟩, ⟨0, ⟨(some 7), none, (.pure .id), [(.const (.int .i64 2))]⟩, []⟩]) .ret) .skip)) (.region [⟨0, ⟨(some 47), none, (.pure .id), [(.tmp 13)]⟩, []⟩, ⟨0, ⟨(some 48), none, (.pure (.iarr 65538 1)), [(.tmp 8), (.tmp 47)]⟩, []⟩, ⟨0, ⟨none, none, (.imp (.store 1)), [(.tmp 48), (.const (.bool true))]⟩, []⟩])))) (.region [⟨0, ⟨(some 49), none, (.pure (.bin .add .none)), [(.tmp 39), (.const (.int .i64 1))]⟩, []⟩, ⟨0, ⟨(some 39), none, (.pure .id), [(.tmp 49)]⟩, []⟩]))))))))) (.region [⟨0, ⟨(some 50), none, (.pure (.bin .add .none)), [(.tmp 32), (.const (.int .i64 1))]⟩, []⟩, ⟨0, ⟨(some 32), none, (.pure .id), [(.tmp 50)]⟩, []⟩]))))))) (.seq (.seq (.region [⟨0, ⟨(some 51), none, (.pure (.iarr 65538 1)), [(.tmp 8), (.const (.int .i64 65536))]⟩, []⟩, ⟨0, ⟨(some 52), none, (.load (.load 1 false)), [(.tmp 51)]⟩, []⟩]) (.cond (.tmp 52) (.region [⟨0, ⟨(some 53), none, (.pure (.faddr 1)), [(.tmp 9)]⟩, []⟩, ⟨0, ⟨none, none, (.imp (.store 1)), [(.tmp 53), (.const .nils)]⟩, []⟩, ⟨0, ⟨(some 54), none, (.pure (.faddr 2)), [(.tmp 9)]⟩, []⟩, ⟨0, ⟨none, none, (.imp (.store 1)), [(.tmp 54), (.const (.int .i64 65536))]⟩, []⟩]) .skip)) (.seq (.seq (.region [⟨0, ⟨(some 55), none, (.load (.load 2 true)), [(.tmp 3)]⟩, []⟩, ⟨0, ⟨(some 56), none, (.pure .id), [(.tmp 1)]⟩, []⟩, ⟨0, ⟨(some 57), none, (.new (.bslice 1 [(.int .i64 0)] 1 [(0, 1)])), [(.tmp 56)]⟩, []⟩, ⟨0, ⟨(some 58), none, (.call F_aig_all), [(.tmp 55), (.tmp 57)]⟩, []⟩, ⟨0, ⟨(some 59), none, (.pure (.un .not)), [(.tmp 58)]⟩, []⟩, ⟨0, ⟨(some 60), none, (.pure .id), [(.tmp 59)]⟩, []⟩, ⟨0, ⟨(some 61), (some (60, false)), (.load (.load 3 true)), [(.tmp 9)]⟩, []⟩, ⟨0, ⟨(some 62), (some (60, false)), (.call F_circ_May), [(.tmp 61)]⟩, []⟩, ⟨0, ⟨(some 63), (some (60, false)), (.pure (.un .not)), [(.tmp 62)]⟩, []⟩, ⟨0, ⟨(some 64), none, (.pure .pick), [(.tmp 60), (.const (.bool true)), (.tmp 63)]⟩, []⟩]) (.cond (.tmp 64) (.seq (.region [⟨0, ⟨(some 65), none, (.pure (.build [.nils, .nils, (.int .i64 0)] [])), []⟩, []⟩, ⟨0, ⟨none, none, (.imp (.store 3)), [(.tmp 6), (.tmp 65)]⟩, []⟩, ⟨0, ⟨(some 7), none, (.pure .id), [(.const (.int .i64 2))]⟩, []⟩]) .ret) .skip)) (.seq (.region [⟨0, ⟨(some 67), none, (.load (.load 2 true)), [(.tmp 3)]⟩, []⟩, ⟨0, ⟨(some 68), none, (.pure .id), [(.tmp 1)]⟩, []⟩, ⟨0, ⟨(some 69), none, (.new (.bslice 1 [(.int .i64 0)] 1 [(0, 1)])), [(.tmp 68)]⟩, []⟩, ⟨0, ⟨(some 70), none, (.call F_aig_Cone), [(.tmp 67), (.tmp 69)]⟩, []⟩, ⟨0, ⟨(some 66), none, (.pure .id), [(.tmp 70)]⟩, []⟩, ⟨0, ⟨(some 71), none, (.pure (.extract 0)), [(.tmp 66)]⟩, []⟩, ⟨0, ⟨(some 72), none, (.pure (.extract 1)), [(.tmp 66)]⟩, []⟩, ⟨0, ⟨(some 73), none, (.pure (.extract 2)), [(.tmp 66)]⟩, []⟩, ⟨0, ⟨(some 14), none, (.new (.alloc [.nils, .nils])), []⟩, []⟩, ⟨0, ⟨none, none, (.imp (.store 2)), [(.tmp 14), (.tmp 71)]⟩, []⟩, ⟨0, ⟨(some 15), none, (.pure .id), [(.tmp 72)]⟩, []⟩, ⟨0, ⟨(some 16), none, (.pure .id), [(.tmp 73)]⟩, []⟩]) (.seq (.region [⟨0, ⟨(some 75), none, (.load (.load 2 true)), [(.tmp 14)]⟩, []⟩, ⟨1, ⟨(some 76), none, (.pure .id), [(.tmp 15)]⟩, []⟩, ⟨2, ⟨(some 77), none, (.pure (.iaddr 1)), [(.tmp 76), (.const (.int .i64 0))]⟩, []⟩, ⟨3, ⟨(some 78), none, (.load (.load 1 false)), [(.tmp 77)]⟩, []⟩, ⟨4, ⟨(some 79), none, (.call F_aig_Support), [(.tmp 75), (.tmp 78)]⟩, []⟩, ⟨5, ⟨(some 74), none, (.pure .id), [(.tmp 79)]⟩, []⟩, ⟨6, ⟨(some 80), none, (.pure (.extract 0)), [(.tmp 74)]⟩, []⟩, ⟨7, ⟨(some 81), none, (.pure (.extract 1)), [(.tmp 74)]⟩, []⟩, ⟨8, ⟨(some 17), none, (.pure .id), [(.tmp 80)]⟩, []⟩, ⟨9, ⟨(some 18), none, (.pure .id), [(.tmp 81)]⟩, []⟩]) (.seq (.seq (.region [⟨0, ⟨(some 82), none, (.pure .id), [(.tmp 17)]⟩, []⟩, ⟨0, ⟨(some 83), none, (.pure (.mkfunc F_aig_ToNet_1 0)), [(.tmp 8)]⟩, []⟩, ⟨0, ⟨(some 84), none, (.call F_slices_ContainsFunc_int_int), [(.tmp 82), (.tmp 83)]⟩, []⟩]) (.cond (.tmp 84) (.seq (.region [⟨0, ⟨(some 85), none, (.pure (.build [.nils, .nils, (.int .i64 0)] [])), []⟩, []⟩, ⟨0, ⟨none, none, (.imp (.store 3)), [(.tmp 6), (.tmp 85)]⟩, []⟩, ⟨0, ⟨(some 7), none, (.pure .id), [(.const (.int .i64 6))]⟩, []⟩]) .ret) .skip)) (.seq (.region [⟨0, ⟨(some 86), none, (.pure .id), [(.tmp 2)]⟩, []⟩, ⟨0, ⟨(some 87), none, (.pure (.build [.nils, .nils, (.int .i64 0)] [(0, 1)])), [(.tmp 86)]⟩, []⟩, ⟨0, ⟨(some 19), none, (.new (.alloc [.nils, .nils, (.int .i64 0)])), []⟩, []⟩, ⟨0, ⟨none, none, (.imp (.store 3)), [(.tmp 19), (.tmp 87)]⟩, []⟩]) (.seq (.region [⟨0, ⟨(some 20), none, (.new (.alloc [(.int .i64 0)])), []⟩, []⟩, ⟨0, ⟨none, none, (.imp (.store 1)), [(.tmp 20), (.const (.int .i64 0))]⟩, []⟩]) (.seq (.region [⟨0, ⟨(some 88), none, (.pure (.mkfunc F_aig_ToNet_2 0)), [(.tmp 20), (.tmp 8), (.tmp 19)]⟩, []⟩, ⟨0, ⟨(some 21), none, (.pure .id), [(.tmp 88)]⟩, []⟩]) (.seq (.region [⟨0, ⟨(some 89), none, (.new (.bslice 1 [(.int .i64 0)] 1 [(0, 1)])), [(.const (.int .i64 0))]⟩, []⟩, ⟨0, ⟨(some 90), none, (.pure (.faddr 0)), [(.tmp 14)]⟩, []⟩, ⟨0, ⟨(some 91), none, (.load (.load 1 false)), [(.tmp 90)]⟩, []⟩, ⟨0, ⟨(some 92), none, (.imp (.append 1 8)), [(.tmp 89), (.tmp 91)]⟩, []⟩, ⟨0, ⟨(some 22), none, (.new (.alloc [.nils])), []⟩, []⟩, ⟨0, ⟨none, none, (.imp (.store 1)), [(.tmp 22), (.tmp 92)]⟩, []⟩]) (.seq (.region [⟨0, ⟨(some 93), none, (.pure (.mkfunc F_aig_ToNet_3 0)), [(.tmp 22)]⟩, []⟩, ⟨0, ⟨(some 23), none, (.pure .id), [(.tmp 93)]⟩, []⟩]) (.seq (.seq (.region [⟨0, ⟨(some 94), none, (.pure .id), [(.tmp 15)]⟩, []⟩, ⟨0, ⟨(some 95), none, (.pure (.iaddr 1)), [(.tmp 94), (.const (.int .i64 0))]⟩, []⟩, ⟨0, ⟨(some 96), none, (.load (.load 1 false)), [(.tmp 95)]⟩, []⟩, ⟨0, ⟨(some 97), none, (.pure (.bin .lss .none)), [(.tmp 96), (.const (.int .i64 2))]⟩, []⟩]) (.cond (.tmp 97) (.region [⟨0, ⟨(some 98), none, (.load (.load 1 false)), [(.tmp 22)]⟩, []⟩, ⟨1, ⟨(some 99), none, (.pure .id), [(.tmp 21)]⟩, []⟩, ⟨2, ⟨(some 100), none, .callv, [(.tmp 99), (.const .nils)]⟩, [⟨(some 98), none, (.load (.load 1 false)), [(.tmp 22)]⟩]⟩, ⟨3, ⟨(some 101), none, (.pure (.un .neg)), [(.tmp 100)]⟩, []⟩, ⟨4, ⟨(some 102), none, (.pure (.iaddr 1)), [(.tmp 98), (.const (.int .i64 0))]⟩, []⟩, ⟨5, ⟨none, none, (.imp (.store 1)), [(.tmp 102), (.tmp 101)]⟩, []⟩, ⟨6, ⟨(some 103), none, (.pure (.faddr 1)), [(.tmp 14)]⟩, []⟩, ⟨7, ⟨none, none, (.imp (.store 1)), [(.tmp 103), (.const .nils)]⟩, []⟩]) .skip)) (.seq (.seq (.region [⟨0, ⟨(some 104), none, (.pure (.faddr 1)), [(.tmp 14)]⟩, []⟩, ⟨0, ⟨(some 105), none, (.load (.load 1 false)), [(.tmp 104)]⟩, []⟩, ⟨0, ⟨(some 106), none, (.pure .len), [(.tmp 105)]⟩, []⟩, ⟨0, ⟨(some 107), none, (.pure .id), [(.const (.int .i64 0))]⟩, []⟩]) (.block 4 (.loop (.seq (.region [⟨0, ⟨(some 108), none, (.pure (.bin .lss .none)), [(.tmp 107), (.tmp 106)]⟩, []⟩]) (.seq (.cond (.tmp 108) .skip (.exit 4)) (.seq (.block 5 (.seq (.region [⟨0, ⟨(some 109), none, (.pure (.iaddr 2)), [(.tmp 105), (.tmp 107)]⟩, []⟩, ⟨0, ⟨(some 110), none, (.load (.load 2 true)), [(.tmp 109)]⟩, []⟩, ⟨0, ⟨(some 25), none, (.new (.alloc [(.int .i64 0), (.int .i64 0)])), []⟩, []⟩, ⟨0, ⟨none, none, (.imp (.store 2)), [(.tmp 25), (.tmp 110)]⟩, []⟩]) (.seq (.region [⟨0, ⟨(some 111), none, (.load (.load 1 false)), [(.tmp 22)]⟩, []⟩, ⟨1, ⟨(some 112), none, (.pure .id), [(.tmp 21)]⟩, []⟩, ⟨2, ⟨(some 113), none, (.pure .id), [(.tmp 23)]⟩, []⟩, ⟨3, ⟨(some 114), none, (.pure (.iarr 2 1)), [(.tmp 25), (.const (.int .i64 0))]⟩, []⟩, ⟨4, ⟨(some 115), none, (.load (.load 1 false)), [(.tmp 114)]⟩, []⟩, ⟨6, ⟨(some 117), none, (.pure .id), [(.tmp 23)]⟩, []⟩, ⟨7, ⟨(some 118), none, (.pure (.iarr 2 1)), [(.tmp 25), (.const (.int .i64 1))]⟩, []⟩, ⟨8, ⟨(some 119), none, (.load (.load 1 false)), [(.tmp 118)]⟩, []⟩, ⟨5, ⟨(some 116), none, .callv, [(.tmp 113), (.tmp 115)]⟩, [⟨(some 111), none, (.load (.load 1 false)), [(.tmp 22)]⟩, ⟨(some 119), none, (.load (.load 1 false)), [(.tmp 118)]⟩]⟩, ⟨9, ⟨(some 120), none, .callv, [(.tmp 117), (.tmp 119)]⟩, [⟨(some 111), none, (.load (.load 1 false)), [(.tmp 22)]⟩]⟩, ⟨10, ⟨(some 121), none, (.new (.bslice 1 [(.int .i64 0)] 2 [(0, 1), (1, 1)])), [(.tmp 116), (.tmp 120)]⟩, []⟩, ⟨11, ⟨(some 122), none, .callv, [(.tmp 112), (.tmp 121)]⟩, [⟨(some 111), none, (.load (.load 1 false)), [(.tmp 22)]⟩]⟩, ⟨12, ⟨(some 123), none, (.new (.bslice 1 [(.int .i64 0)] 1 [(0, 1)])), [(.tmp 122)]⟩, []⟩, ⟨13, ⟨(some 124), none, (.imp (.append 1 8)), [(.tmp 111), (.tmp 123)]⟩, []⟩, ⟨14, ⟨none, none, (.imp (.store 1)), [(.tmp 22), (.tmp 124)]⟩, []⟩]) (.seq (.region [⟨0, ⟨(some 125), none, (.load (.load 1 false)), [(.tmp 20)]⟩, []⟩, ⟨0, ⟨(some 126), none, (.pure (.bin .gtr .none)), [(.tmp 125), (.const (.int .i64 65536))]⟩, []⟩]) (.cond (.tmp 126) (.seq (.region [⟨0, ⟨(some 127), none, (.pure (.build [.nils, .nils, (.int .i64 0)] [])), []⟩, []⟩, ⟨0, ⟨none, none, (.imp (.store 3)), [(.tmp 6), (.tmp 127)]⟩, []⟩, ⟨0, ⟨(some 7), none, (.pure .id), [(.const (.int .i64 3))]⟩, []⟩]) .ret) .skip))))) (.region [⟨0, ⟨(some 128), none, (.pure (.bin .add .none)), [(.tmp 107), (.const (.int .i64 1))]⟩, []⟩, ⟨0, ⟨(some 107), none, (.pure .id), [(.tmp 128)]⟩, []⟩]))))))) (.seq (.region [⟨0, ⟨(some 129), none, (.pure .id), [(.tmp 23)]⟩, []⟩, ⟨0, ⟨(some 130), none, (.pure .id), [(.tmp 15)]⟩, []⟩, ⟨0, ⟨(some 131), none, (.pure (.iaddr 1)), [(.tmp 130), (.const (.int .i64 0))]⟩, []⟩, ⟨0, ⟨(some 132), none, (.load (.load 1 false)), [(.tmp 131)]⟩, []⟩, ⟨0, ⟨(some 133), none, .callv, [(.tmp 129), (.tmp 132)]⟩, []⟩, ⟨0, ⟨(some 134), none, (.pure (.faddr 2)), [(.tmp 19)]⟩, []⟩, ⟨0, ⟨none, none, (.imp (.store 1)), [(.tmp 134), (.tmp 133)]⟩, []⟩]) (.seq (.region [⟨0, ⟨(some 135), none, (.load (.load 3 true)), [(.tmp 19)]⟩, []⟩, ⟨0, ⟨none, none, (.imp (.store 3)), [(.tmp 6), (.tmp 135)]⟩, []⟩, ⟨0, ⟨(some 7), none, (.pure .id), [(.const (.int .i64 0))]⟩, []⟩]) .ret))))))))))))))))))⟩
theorem c_aig_ToNet : compF Try.prog Try.f27 = some G_aig_ToNet := by kernel_rfl
noncomputable abbrev G_circ_May : GFun := ⟨44, [(.tmp 2)], (.seq (.region [⟨0, ⟨(some 1), none, (.new .box), [(.tmp 0)]⟩, []⟩, ⟨0, ⟨(some 2), none, (.pure .id), [(.const (.bool false))]⟩, []⟩]) (.seq (.region [⟨0, ⟨(some 3), none, (.new (.abig 65537 (.bool false))), []⟩, []⟩]) (.seq (.seq (.region [⟨0, ⟨(some 7), none, (.pure (.faddr 0)), [(.tmp 1)]⟩, []⟩, ⟨0, ⟨(some 8), none, (.load (.load 1 false)), [(.tmp 7)]⟩, []⟩, ⟨0, ⟨(some 9), none, (.call F_circ_set_prefix), [(.tmp 3), (.tmp 8)]⟩, []⟩, ⟨0, ⟨(some 10), none, (.pure (.un .not)), [(.tmp 9)]⟩, []⟩, ⟨0, ⟨(some 11), none, (.pure .id), [(.tmp 10)]⟩, []⟩, ⟨0, ⟨(some 12), (some (11, false)), (.pure (.faddr 1)), [(.tmp 1)]⟩, []⟩, ⟨0, ⟨(some 13), (some (11, false)), (.load (.load 1 false)), [(.tmp 12)]⟩, []⟩, ⟨0, ⟨(some 14), (some (11, false)), (.call F_circ_literals), [(.tmp 13)]⟩, []⟩, ⟨0, ⟨(some 15), (some (11, false)), (.pure (.bin .gtr .none)), [(.tmp 14), (.const (.int .i64 200000))]⟩, []⟩, ⟨0, ⟨(some 16), none, (.pure .pick), [(.tmp 11), (.const (.bool true)), (.tmp 15)]⟩, []⟩]) (.cond (.tmp 16) (.seq (.region [⟨0, ⟨(some 2), none, (.pure .id), [(.const (.bool false))]⟩, []⟩]) .ret) .skip)) (.seq (.region [⟨0, ⟨(some 17), none, (.pure (.mkfunc F_circ_May_1 0)), [(.tmp 3)]⟩, []⟩, ⟨0, ⟨(some 4), none, (.pure .id), [(.tmp 17)]⟩, []⟩]) (.seq (.seq (.region [⟨0, ⟨(some 18), none, (.pure (.faddr 1)), [(.tmp 1)]⟩, []⟩, ⟨0, ⟨(some 19), none, (.load (.load 1 false)), [(.tmp 18)]⟩, []⟩, ⟨0, ⟨(some 20), none, (.pure .len), [(.tmp 19)]⟩, []⟩, ⟨0, ⟨(some 21), none, (.pure .id), [(.const (.int .i64 0))]⟩, []⟩]) (.block 0 (.loop (.seq (.region [⟨0, ⟨(some 22), none, (.pure (.bin .lss .none)), [(.tmp 21), (.tmp 20)]⟩, []⟩]) (.seq (.cond (.tmp 22) .skip (.exit 0)) (.seq (.block 1 (.seq (.region [⟨0, ⟨(some 23), none, (.pure (.iaddr 3)), [(.tmp 19), (.tmp 21)]⟩, []⟩, ⟨0, ⟨(some 24), none, (.load (.load 3 true)), [(.tmp 23)]⟩, []⟩, ⟨0, ⟨(some 6), none, (.new (.alloc [(.int .i64 0), (.int .u8 0), .nils])), []⟩, []⟩, ⟨0, ⟨none, none, (.imp (.store 3)), [(.tmp 6), (.tmp 24)]⟩, []⟩]) (.seq (.region [⟨0, ⟨(some 25), none, (.load (.load 3 true)), [(.tmp 6)]⟩, []⟩, ⟨0, ⟨(some 26), none, (.call F_circ_shaped), [(.tmp 25)]⟩, []⟩, ⟨0, ⟨(some 27), none, (.pure (.un .not)), [(.tmp 26)]⟩, []⟩, ⟨0, ⟨(some 28), none, (.pure .id), [(.tmp 27)]⟩, []⟩, ⟨0, ⟨(some 29), (some (28, false)), (.pure (.faddr 2)), [(.tmp 6)]⟩, []⟩, ⟨0, ⟨(some 30), (some (28, false)), (.load (.load 1 false)), [(.tmp 29)]⟩, []⟩, ⟨0, ⟨(some 31), (some (28, false)), (.pure .id), [(.tmp 4)]⟩, []⟩, ⟨0, ⟨(some 32), (some (28, false)), (.call F_slices_ContainsFunc_int_int), [(.tmp 30), (.tmp 31)]⟩, []⟩, ⟨0, ⟨(some 33), none, (.pure .pick), [(.tmp 28), (.const (.bool true)), (.tmp 32)]⟩, []⟩, ⟨0, ⟨(some 34), none, (.pure .id), [(.tmp 33)]⟩, []⟩, ⟨0, ⟨(some 35), (some (34, false)), (.pure (.faddr 0)), [(.tmp 6)]⟩, []⟩, ⟨0, ⟨(some 36), (some (34, false)), (.load (.load 1 false)), [(.tmp 35)]⟩, []⟩, ⟨0, ⟨(some 37), (some (34, false)), (.call F_circ_set_add), [(.tmp 3), (.tmp 36)]⟩, []⟩, ⟨0, ⟨(some 38), (some (34, false)), (.pure (.un .not)), [(.tmp 37)]⟩, []⟩, ⟨0, ⟨(some 39), none, (.pure .pick), [(.tmp 34), (.const (.bool true)), (.tmp 38)]⟩, []⟩]) (.cond (.tmp 39) (.seq (.region [⟨0, ⟨(some 2), none, (.pure .id), [(.const (.bool false))]⟩, []⟩]) .ret) .skip)))) (.region [⟨0, ⟨(some 40), none, (.pure (.bin .add .none)), [(.tmp 21), (.const (.int .i64 1))]⟩, []⟩, ⟨0, ⟨(some 21), none, (.pure .id), [(.tmp 40)]⟩, []⟩]))))))) (.seq (.region [⟨0, ⟨(some 41), none, (.pure (.faddr 2)), [(.tmp 1)]⟩, []⟩, ⟨0, ⟨(some 42), none, (.load (.load 1 false)), [(.tmp 41)]⟩, []⟩, ⟨0, ⟨(some 43), none, (.call F_circ_set_has), [(.tmp 3), (.tmp 42)]⟩, []⟩, ⟨0, ⟨(some 2), none, (.pure .id), [(.tmp 43)]⟩, []⟩]) .ret))))))⟩
theorem c_circ_May : compF Try.prog Try.f58 = some G_circ_May := by kernel_rfl
end Go.Gh
namespace Go.Gh
open Go.Proofs
abbrev F_aig_May : Nat := 20
abbrev F_aig_Compose : Nat := 26
abbrev F_aig_reached : Nat := 35
abbrev F_aig_Maker_and : Nat := 38
abbrev F_slices_Clone_int_int : Nat := 41
abbrev F_slices_Clone__2_int__2_int : Nat := 42
abbrev F_aig_maker : Nat := 43
abbrev F_aig_inputs : Nat := 44
abbrev F_aig_nodes : Nat := 45
abbrev F_aig_Maker_copied : Nat := 54
abbrev F_aig_Maker_own : Nat := 55
abbrev F_aig_Compose_1 : Nat := 56
abbrev F_aig_each : Nat := 57
abbrev F_aig_all_1 : Nat := 74
abbrev F_slices_Backward__2_int__2_int : Nat := 75
abbrev F_aig_Maker_copied_1 : Nat := 79
abbrev F_slices_IndexFunc_int_int : Nat := 86
abbrev F_slices_Backward__2_int__2_int_1 : Nat := 89
noncomputable abbrev G_aig_variable : GFun := ⟨9, [(.tmp 2)], (.seq (.region [⟨0, ⟨(some 2), none, (.pure .id), [(.const (.bool false))]⟩, []⟩]) (.seq (.region [⟨0, ⟨(some 3), none, (.pure .id), [(.tmp 0)]⟩, []⟩, ⟨0, ⟨(some 4), none, (.pure (.bin .geq .none)), [(.tmp 3), (.const (.int .i64 1))]⟩, []⟩, ⟨0, ⟨(some 5), none, (.pure .id), [(.tmp 4)]⟩, []⟩, ⟨0, ⟨(some 6), (some (5, true)), (.pure .id), [(.tmp 0)]⟩, []⟩, ⟨0, ⟨(some 7), (some (5, true)), (.pure (.bin .leq .none)), [(.tmp 6), (.const (.int .i64 65536))]⟩, []⟩, ⟨0, ⟨(some 8), none, (.pure .pick), [(.tmp 5), (.tmp 7), (.const (.bool false))]⟩, []⟩, ⟨0, ⟨(some 2), none, (.pure .id), [(.tmp 8)]⟩, []⟩]) .ret))⟩
theorem c_aig_variable : compF Try.prog Try.f50 = some G_aig_variable := by kernel_rfl
theorem gc_aig_variable {args : List DV} {σ : GS} {Post : DV → GS → Prop} (h : @exB Try.prog ⟨G_aig_variable.body⟩ (genv0 args G_aig_variable.ntmps) σ ⟨@gretB G_aig_variable.results ⟨Post⟩⟩) : GCall Try.prog F_aig_variable args σ Post := gcall_ofB seatfollows Try.func50 (by kernel_rfl) c_aig_variable h
noncomputable abbrev G_aig_inputs : GFun := ⟨22, [(.tmp 2)], (.seq (.region [⟨0, ⟨(some 2), none, (.pure .id), [(.const (.bool false))]⟩, []⟩]) (.seq (.region [⟨0, ⟨(some 3), none, (.pure .id), [(.const (.int .i64 0))]⟩, []⟩]) (.seq (.seq (.region [⟨0, ⟨(some 6), none, (.pure .id), [(.tmp 0)]⟩, []⟩, ⟨0, ⟨(some 7), none, (.pure .len), [(.tmp 6)]⟩, []⟩, ⟨0, ⟨(some 8), none, (.pure .id), [(.const (.int .i64 0))]⟩, []⟩]) (.block 0 (.loop (.seq (.region [⟨0, ⟨(some 9), none, (.pure (.bin .lss .none)), [(.tmp 8), (.tmp 7)]⟩, []⟩]) (.seq (.cond (.tmp 9) .skip (.exit 0)) (.seq (.block 1 (.seq (.region [⟨0, ⟨(some 10), none, (.pure (.iaddr 1)), [(.tmp 6), (.tmp 8)]⟩, []⟩, ⟨0, ⟨(some 11), none, (.load (.load 1 false)), [(.tmp 10)]⟩, []⟩, ⟨0, ⟨(some 5), none, (.pure .id), [(.tmp 11)]⟩, []⟩]) (.seq (.seq (.region [⟨0, ⟨(some 12), none, (.pure .id), [(.tmp 5)]⟩, []⟩, ⟨0, ⟨(some 13), none, (.call F_aig_variable), [(.tmp 12)]⟩, []⟩, ⟨0, ⟨(some 14), none, (.pure (.un .not)), [(.tmp 13)]⟩, []⟩, ⟨0, ⟨(some 15), none, (.pure .id), [(.tmp 14)]⟩, []⟩, ⟨0, ⟨(some 16), (some (15, false)), (.pure .id), [(.tmp 5)]⟩, []⟩, ⟨0, ⟨(some 17), (some (15, false)), (.pure .id), [(.tmp 3)]⟩, []⟩, ⟨0, ⟨(some 18), (some (15, false)), (.pure (.bin .leq .none)), [(.tmp 16), (.tmp 17)]⟩, []⟩, ⟨0, ⟨(some 19), none, (.pure .pick), [(.tmp 15), (.const (.bool true)), (.tmp 18)]⟩, []⟩]) (.cond (.tmp 19) (.seq (.region [⟨0, ⟨(some 2), none, (.pure .id), [(.const (.bool false))]⟩, []⟩]) .ret) .skip)) (.region [⟨0, ⟨(some 20), none, (.pure .id), [(.tmp 5)]⟩, []⟩, ⟨0, ⟨(some 3), none, (.pure .id), [(.tmp 20)]⟩, []⟩])))) (.region [⟨0, ⟨(some 21), none, (.pure (.bin .add .none)), [(.tmp 8), (.const (.int .i64 1))]⟩, []⟩, ⟨0, ⟨(some 8), none, (.pure .id), [(.tmp 21)]⟩, []⟩]))))))) (.seq (.region [⟨0, ⟨(some 2), none, (.pure .id), [(.const (.bool true))]⟩, []⟩]) .ret))))⟩
theorem c_aig_inputs : compF Try.prog Try.f44 = some G_aig_inputs := by kernel_rfl
theorem gc_aig_inputs {args : List DV} {σ : GS} {Post : DV → GS → Prop} (h : @exB Try.prog ⟨G_aig_inputs.body⟩ (genv0 args G_aig_inputs.ntmps) σ ⟨@gretB G_aig_inputs.results ⟨Post⟩⟩) : GCall Try.prog F_aig_inputs args σ Post := gcall_ofB seatfollows Try.func44 (by kernel_rfl) c_aig_inputs h
noncomputable abbrev G_aig_nodes : GFun := ⟨11, [(.tmp 2)], (.seq (.region [⟨0, ⟨(some 1), none, (.new .box), [(.tmp 0)]⟩, []⟩, ⟨0, ⟨(some 2), none, (.pure .id), [(.const (.int .i64 0))]⟩, []⟩]) (.seq (.region [⟨0, ⟨(some 3), none, (.pure (.faddr 0)), [(.tmp 1)]⟩, []⟩, ⟨0, ⟨(some 4), none, (.load (.load 1 false)), [(.tmp 3)]⟩, []⟩, ⟨0, ⟨(some 5), none, (.pure .len), [(.tmp 4)]⟩, []⟩, ⟨0, ⟨(some 6), none, (.pure (.bin .add .none)), [(.const (.int .i64 1)), (.tmp 5)]⟩, []⟩, ⟨0, ⟨(some 7), none, (.pure (.faddr 1)), [(.tmp 1)]⟩, []⟩, ⟨0, ⟨(some 8), none, (.load (.load 1 false)), [(.tmp 7)]⟩, []⟩, ⟨0, ⟨(some 9), none, (.pure .len), [(.tmp 8)]⟩, []⟩, ⟨0, ⟨(some 10), none, (.pure (.bin .add .none)), [(.tmp 6), (.tmp 9)]⟩, []⟩, ⟨0, ⟨(some 2), none, (.pure .id), [(.tmp 10)]⟩, []⟩]) .ret))⟩
theorem c_aig_nodes : compF Try.prog Try.f45 = some G_aig_nodes := by kernel_rfl
theorem gc_aig_nodes {args : List DV} {σ : GS} {Post : DV → GS → Prop} (h : @exB Try.prog ⟨G_aig_nodes.body⟩ (genv0 args G_aig_nodes.ntmps) σ ⟨@gretB G_aig_nodes.results ⟨Post⟩⟩) : GCall Try.prog F_aig_nodes args σ Post := gcall_ofB seatfollows Try.func45 (by kernel_rfl) c_aig_nodes h
noncomputable abbrev G_aig_May : GFun := ⟨46, [(.tmp 2)], (.seq (.region [⟨0, ⟨(some 1), none, (.new .box), [(.tmp 0)]⟩, []⟩, ⟨0, ⟨(some 2), none, (.pure .id), [(.const (.bool false))]⟩, []⟩]) (.seq (.seq (.region [⟨0, ⟨(some 6), none, (.pure (.faddr 0)), [(.tmp 1)]⟩, []⟩, ⟨0, ⟨(some 7), none, (.load (.load 1 false)), [(.tmp 6)]⟩, []⟩, ⟨0, ⟨(some 8), none, (.call F_aig_inputs), [(.tmp 7)]⟩, []⟩, ⟨0, ⟨(some 9), none, (.pure (.un .not)), [(.tmp 8)]⟩, []⟩, ⟨0, ⟨(some 10), none, (.pure .id), [(.tmp 9)]⟩, []⟩, ⟨0, ⟨(some 11), (some (10, false)), (.load (.load 2 true)), [(.tmp 1)]⟩, []⟩, ⟨0, ⟨(some 12), (some (10, false)), (.call F_aig_nodes), [(.tmp 11)]⟩, []⟩, ⟨0, ⟨(some 13), (some (10, false)), (.pure (.bin .gtr .none)), [(.tmp 12), (.const (.int .i64 200000))]⟩, []⟩, ⟨0, ⟨(some 14), none, (.pure .pick), [(.tmp 10), (.const (.bool true)), (.tmp 13)]⟩, []⟩]) (.cond (.tmp 14) (.seq (.region [⟨0, ⟨(some 2), none, (.pure .id), [(.const (.bool false))]⟩, []⟩]) .ret) .skip)) (.seq (.seq (.region [⟨0, ⟨(some 15), none, (.pure (.faddr 1)), [(.tmp 1)]⟩, []⟩, ⟨0, ⟨(some 16), none, (.load (.load 1 false)), [(.tmp 15)]⟩, []⟩, ⟨0, ⟨(some 17), none, (.pure .len), [(.tmp 16)]⟩, []⟩, ⟨0, ⟨(some 18), none, (.pure .id), [(.const (.int .i64 0))]⟩, []⟩]) (.block 0 (.loop (.seq (.region [⟨0, ⟨(some 19), none, (.pure (.bin .lss .none)), [(.tmp 18), (.tmp 17)]⟩, []⟩]) (.seq (.cond (.tmp 19) .skip (.exit 0)) (.seq (.block 1 (.seq (.region [⟨0, ⟨(some 20), none, (.pure .id), [(.tmp 18)]⟩, []⟩, ⟨0, ⟨(some 21), none, (.pure (.iaddr 2)), [(.tmp 16), (.tmp 18)]⟩, []⟩, ⟨0, ⟨(some 22), none, (.load (.load 2 true)), [(.tmp 21)]⟩, []⟩, ⟨0, ⟨(some 4), none, (.new (.alloc [(.int .i64 0), (.int .i64 0)])), []⟩, []⟩, ⟨0, ⟨(some 3), none, (.pure .id), [(.tmp 20)]⟩, []⟩, ⟨0, ⟨none, none, (.imp (.store 2)), [(.tmp 4), (.tmp 22)]⟩, []⟩]) (.seq (.region [⟨0, ⟨(some 23), none, (.pure (.faddr 0)), [(.tmp 1)]⟩, []⟩, ⟨0, ⟨(some 24), none, (.load (.load 1 false)), [(.tmp 23)]⟩, []⟩, ⟨0, ⟨(some 25), none, (.pure .len), [(.tmp 24)]⟩, []⟩, ⟨0, ⟨(some 26), none, (.pure (.bin .add .none)), [(.const (.int .i64 1)), (.tmp 25)]⟩, []⟩, ⟨0, ⟨(some 27), none, (.pure .id), [(.tmp 3)]⟩, []⟩, ⟨0, ⟨(some 28), none, (.pure (.bin .add .none)), [(.tmp 26), (.tmp 27)]⟩, []⟩, ⟨0, ⟨(some 29), none, (.pure (.bin .mul .none)), [(.const (.int .i64 2)), (.tmp 28)]⟩, []⟩, ⟨0, ⟨(some 5), none, (.pure .id), [(.tmp 29)]⟩, []⟩]) (.seq (.region [⟨0, ⟨(some 30), none, (.pure (.iarr 2 1)), [(.tmp 4), (.const (.int .i64 0))]⟩, []⟩, ⟨0, ⟨(some 31), none, (.load (.load 1 false)), [(.tmp 30)]⟩, []⟩, ⟨0, ⟨(some 32), none, (.pure (.iarr 2 1)), [(.tmp 4), (.const (.int .i64 1))]⟩, []⟩, ⟨0, ⟨(some 33), none, (.load (.load 1 false)), [(.tmp 32)]⟩, []⟩, ⟨0, ⟨(some 34), none, (.pure .mn), [(.tmp 31), (.tmp 33)]⟩, []⟩, ⟨0, ⟨(some 35), none, (.pure (.bin .lss .none)), [(.tmp 34), (.const (.int .i64 0))]⟩, []⟩, ⟨0, ⟨(some 36), none, (.pure .id), [(.tmp 35)]⟩, []⟩, ⟨0, ⟨(some 37), (some (36, false)), (.pure (.iarr 2 1)), [(.tmp 4), (.const (.int .i64 0))]⟩, []⟩, ⟨0, ⟨(some 38), (some (36, false)), (.load (.load 1 false)), [(.tmp 37)]⟩, []⟩, ⟨0, ⟨(some 39), (some (36, false)), (.pure (.iarr 2 1)), [(.tmp 4), (.const (.int .i64 1))]⟩, []⟩, ⟨0, ⟨(some 40), (some (36, false)), (.load (.load 1 false)), [(.tmp 39)]⟩, []⟩, ⟨0, ⟨(some 41), (some (36, false)), (.pure .mx), [(.tmp 38), (.tmp 40)]⟩, []⟩, ⟨0, ⟨(some 42), (some (36, false)), (.pure .id), [(.tmp 5)]⟩, []⟩, ⟨0, ⟨(some 43), (some (36, false)), (.pure (.bin .geq .none)), [(.tmp 41), (.tmp 42)]⟩, []⟩, ⟨0, ⟨(some 44), none, (.pure .pick), [(.tmp 36), (.const (.bool true)), (.tmp 43)]⟩, []⟩]) (.cond (.tmp 44) (.seq (.region [⟨0, ⟨(some 2), none, (.pure .id), [(.const (.bool false))]⟩, []⟩]) .ret) .skip))))) (.region [⟨0, ⟨(some 45), none, (.pure (.bin .add .none)), [(.tmp 18), (.const (.int .i64 1))]⟩, []⟩, ⟨0, ⟨(some 18), none, (.pure .id), [(.tmp 45)]⟩, []⟩]))))))) (.seq (.region [⟨0, ⟨(some 2), none, (.pure .id), [(.const (.bool true))]⟩, []⟩]) .ret))))⟩
theorem c_aig_May : compF Try.prog Try.f20 = some G_aig_May := by kernel_rfl
theorem gc_aig_May {args : List DV} {σ : GS} {Post : DV → GS → Prop} (h : @exB Try.prog ⟨G_aig_May.body⟩ (genv0 args G_aig_May.ntmps) σ ⟨@gretB G_aig_May.results ⟨Post⟩⟩) : GCall Try.prog F_aig_May args σ Post := gcall_ofB seatfollows Try.func20 (by kernel_rfl) c_aig_May h
noncomputable abbrev G_aig_all : GFun := ⟨18, [(.tmp 4)], (.seq (.region [⟨0, ⟨(some 2), none, (.new .box), [(.tmp 0)]⟩, []⟩, ⟨0, ⟨(some 4), none, (.pure .id), [(.const (.bool false))]⟩, []⟩]) (.seq (.region [⟨0, ⟨(some 6), none, (.load (.load 2 true)), [(.tmp 2)]⟩, []⟩, ⟨0, ⟨(some 7), none, (.call F_aig_nodes), [(.tmp 6)]⟩, []⟩, ⟨0, ⟨(some 8), none, (.pure (.bin .mul .none)), [(.const (.int .i64 2)), (.tmp 7)]⟩, []⟩, ⟨0, ⟨(some 9), none, (.pure (.bin .sub .none)), [(.tmp 8), (.const (.int .i64 1))]⟩, []⟩, ⟨0, ⟨(some 5), none, (.new (.alloc [(.int .i64 0)])), []⟩, []⟩, ⟨0, ⟨none, none, (.imp (.store 1)), [(.tmp 5), (.tmp 9)]⟩, []⟩]) (.seq (.region [⟨0, ⟨(some 10), none, (.load (.load 2 true)), [(.tmp 2)]⟩, []⟩, ⟨0, ⟨(some 11), none, (.call F_aig_May), [(.tmp 10)]⟩, []⟩, ⟨0, ⟨(some 12), none, (.pure .id), [(.tmp 11)]⟩, []⟩, ⟨0, ⟨(some 13), (some (12, true)), (.pure .id), [(.tmp 1)]⟩, []⟩, ⟨0, ⟨(some 14), (some (12, true)), (.pure (.mkfunc F_aig_all_1 0)), [(.tmp 5)]⟩, []⟩, ⟨0, ⟨(some 15), (some (12, true)), (.call F_slices_ContainsFunc_int_int), [(.tmp 13), (.tmp 14)]⟩, []⟩, ⟨0, ⟨(some 16), (some (12, true)), (.pure (.un .not)), [(.tmp 15)]⟩, []⟩, ⟨0, ⟨(some 17), none, (.pure .pick), [(.tmp 12), (.tmp 16), (.const (.bool false))]⟩, []⟩, ⟨0, ⟨(some 4), none, (.pure .id), [(.tmp 17)]⟩, []⟩]) .ret)))⟩
theorem c_aig_all : compF Try.prog Try.f34 = some G_aig_all := by kernel_rfl
theorem gc_aig_all {args : List DV} {σ : GS} {Post : DV → GS → Prop} (h : @exB Try.prog ⟨G_aig_all.body⟩ (genv0 args G_aig_all.ntmps) σ ⟨@gretB G_aig_all.results ⟨Post⟩⟩) : GCall Try.prog F_aig_all args σ Post := gcall_ofB seatfollows Try.func34 (by kernel_rfl) c_aig_all h
noncomputable abbrev G_aig_all_1 : GFun := ⟨11, [(.tmp 3)], (.seq (.region [⟨0, ⟨(some 3), none, (.pure .id), [(.const (.bool false))]⟩, []⟩]) (.seq (.region [⟨0, ⟨(some 4), none, (.pure .id), [(.tmp 0)]⟩, []⟩, ⟨0, ⟨(some 5), none, (.pure (.bin .lss .none)), [(.tmp 4), (.const (.int .i64 0))]⟩, []⟩, ⟨0, ⟨(some 6), none, (.pure .id), [(.tmp 5)]⟩, []⟩, ⟨0, ⟨(some 7), (some (6, false)), (.pure .id), [(.tmp 0)]⟩, []⟩, ⟨0, ⟨(some 8), (some (6, false)), (.load (.load 1 false)), [(.tmp 1)]⟩, []⟩, ⟨0, ⟨(some 9), (some (6, false)), (.pure (.bin .gtr .none)), [(.tmp 7), (.tmp 8)]⟩, []⟩, ⟨0, ⟨(some 10), none, (.pure .pick), [(.tmp 6), (.const (.bool true)), (.tmp 9)]⟩, []⟩, ⟨0, ⟨(some 3), none, (.pure .id), [(.tmp 10)]⟩, []⟩]) .ret))⟩
theorem c_aig_all_1 : compF Try.prog Try.f74 = some G_aig_all_1 := by kernel_rfl
theorem gc_aig_all_1 {args : List DV} {σ : GS} {Post : DV → GS → Prop} (h : @exB Try.prog ⟨G_aig_all_1.body⟩ (genv0 args G_aig_all_1.ntmps) σ ⟨@gretB G_aig_all_1.results ⟨Post⟩⟩) : GCall Try.prog F_aig_all_1 args σ Post := gcall_ofB seatfollows Try.func74 (by kernel_rfl) c_aig_all_1 h
noncomputable abbrev G_slices_IndexFunc_int_int : GFun := ⟨19, [(.tmp 4)], (.seq (.region [⟨0, ⟨(some 4), none, (.pure .id), [(.const (.int .i64 0))]⟩, []⟩]) (.seq (.seq (.region [⟨0, ⟨(some 6), none, (.pure .id), [(.tmp 0)]⟩, []⟩, ⟨0, ⟨(some 7), none, (.pure .len), [(.tmp 6)]⟩, []⟩, ⟨0, ⟨(some 8), none, (.pure .id), [(.const (.int .i64 0))]⟩, []⟩]) (.block 0 (.loop (.seq (.region [⟨0, ⟨(some 9), none, (.pure (.bin .lss .none)), [(.tmp 8), (.tmp 7)]⟩, []⟩]) (.seq (.cond (.tmp 9) .skip (.exit 0)) (.seq (.block 1 (.seq (.region [⟨0, ⟨(some 10), none, (.pure .id), [(.tmp 8)]⟩, []⟩, ⟨0, ⟨(some 5), none, (.pure .id), [(.tmp 10)]⟩, []⟩]) (.seq (.region [⟨0, ⟨(some 11), none, (.pure .id), [(.tmp 1)]⟩, []⟩, ⟨0, ⟨(some 12), none, (.pure .id), [(.tmp 0)]⟩, []⟩, ⟨0, ⟨(some 13), none, (.pure .id), [(.tmp 5)]⟩, []⟩, ⟨0, ⟨(some 14), none, (.pure (.iaddr 1)), [(.tmp 12), (.tmp 13)]⟩, []⟩, ⟨0, ⟨(some 15), none, (.load (.load 1 false)), [(.tmp 14)]⟩, []⟩, ⟨0, ⟨(some 16), none, .callv, [(.tmp 11), (.tmp 15)]⟩, []⟩]) (.cond (.tmp 16) (.seq (.region [⟨0, ⟨(some 17), none, (.pure .id), [(.tmp 5)]⟩, []⟩, ⟨0, ⟨(some 4), none, (.pure .id), [(.tmp 17)]⟩, []⟩]) .ret) .skip)))) (.region [⟨0, ⟨(some 18), none, (.pure (.bin .add .none)), [(.tmp 8), (.const (.int .i64 1))]⟩, []⟩, ⟨0, ⟨(some 8), none, (.pure .id), [(.tmp 18)]⟩, []⟩]))))))) (.seq (.region [⟨0, ⟨(some 4), none, (.pure .id), [(.const (.int .i64 (-1)))]⟩, []⟩]) .ret)))⟩
theorem c_slices_IndexFunc_int_int : compF Try.prog Try.f86 = some G_slices_IndexFunc_int_int := by kernel_rfl
theorem gc_slices_IndexFunc_int_int {args : List DV} {σ : GS} {Post : DV → GS → Prop} (h : @exB Try.prog ⟨G_slices_IndexFunc_int_int.body⟩ (genv0 args G_slices_IndexFunc_int_int.ntmps) σ ⟨@gretB G_slices_IndexFunc_int_int.results ⟨Post⟩⟩) : GCall Try.prog F_slices_IndexFunc_int_int args σ Post := gcall_ofB seatfollows Try.func86 (by kernel_rfl) c_slices_IndexFunc_int_int h
noncomputable abbrev G_slices_ContainsFunc_int_int : GFun := ⟨9, [(.tmp 4)], (.seq (.region [⟨0, ⟨(some 4), none, (.pure .id), [(.const (.bool false))]⟩, []⟩]) (.seq (.region [⟨0, ⟨(some 5), none, (.pure .id), [(.tmp 0)]⟩, []⟩, ⟨0, ⟨(some 6), none, (.pure .id), [(.tmp 1)]⟩, []⟩, ⟨0, ⟨(some 7), none, (.call F_slices_IndexFunc_int_int), [(.tmp 5), (.tmp 6)]⟩, []⟩, ⟨0, ⟨(some 8), none, (.pure (.bin .geq .none)), [(.tmp 7), (.const (.int .i64 0))]⟩, []⟩, ⟨0, ⟨(some 4), none, (.pure .id), [(.tmp 8)]⟩, []⟩]) .ret))⟩
theorem c_slices_ContainsFunc_int_int : compF Try.prog Try.f59 = some G_slices_ContainsFunc_int_int := by kernel_rfl
theorem gc_slices_ContainsFunc_int_int {args : List DV} {σ : GS} {Post : DV → GS → Prop} (h : @exB Try.prog ⟨G_slices_ContainsFunc_int_int.body⟩ (genv0 args G_slices_ContainsFunc_int_int.ntmps) σ ⟨@gretB G_slices_ContainsFunc_int_int.results ⟨Post⟩⟩) : GCall Try.prog F_slices_ContainsFunc_int_int args σ Post := gcall_ofB seatfollows Try.func59 (by kernel_rfl) c_slices_ContainsFunc_int_int h
noncomputable abbrev G_slices_Clone_int_int : GFun := ⟨8, [(.tmp 2)], (.seq (.region [⟨0, ⟨(some 2), none, (.pure .id), [(.const .nils)]⟩, []⟩]) (.seq (.seq (.region [⟨0, ⟨(some 3), none, (.pure .id), [(.tmp 0)]⟩, []⟩, ⟨0, ⟨(some 4), none, (.eqn false), [(.tmp 3), (.const .nils)]⟩, []⟩]) (.cond (.tmp 4) (.seq (.region [⟨0, ⟨(some 2), none, (.pure .id), [(.const .nils)]⟩, []⟩]) .ret) .skip)) (.seq (.region [⟨0, ⟨(some 5), none, (.new (.bslice 1 [(.int .i64 0)] 0 [])), []⟩, []⟩, ⟨0, ⟨(some 6), none, (.pure .id), [(.tmp 0)]⟩, []⟩, ⟨0, ⟨(some 7), none, (.imp (.append 1 8)), [(.tmp 5), (.tmp 6)]⟩, []⟩, ⟨0, ⟨(some 2), none, (.pure .id), [(.tmp 7)]⟩, []⟩]) .ret)))⟩
theorem c_slices_Clone_int_int : compF Try.prog Try.f41 = some G_slices_Clone_int_int := by kernel_rfl
theorem gc_slices_Clone_int_int {args : List DV} {σ : GS} {Post : DV → GS → Prop} (h : @exB Try.prog ⟨G_slices_Clone_int_int.body⟩ (genv0 args G_slices_Clone_int_int.ntmps) σ ⟨@gretB G_slices_Clone_int_int.results ⟨Post⟩⟩) : GCall Try.prog F_slices_Clone_int_int args σ Post := gcall_ofB seatfollows Try.func41 (by kernel_rfl) c_slices_Clone_int_int h
noncomputable abbrev G_slices_Clone__2_int__2_int : GFun := ⟨8, [(.tmp 2)], (.seq (.region [⟨0, ⟨(some 2), none, (.pure .id), [(.const .nils)]⟩, []⟩]) (.seq (.seq (.region [⟨0, ⟨(some 3), none, (.pure .id), [(.tmp 0)]⟩, []⟩, ⟨0, ⟨(some 4), none, (.eqn false), [(.tmp 3), (.const .nils)]⟩, []⟩]) (.cond (.tmp 4) (.seq (.region [⟨0, ⟨(some 2), none, (.pure .id), [(.const .nils)]⟩, []⟩]) .ret) .skip)) (.seq (.region [⟨0, ⟨(some 5), none, (.new (.bslice 2 [(.int .i64 0), (.int .i64 0)] 0 [])), []⟩, []⟩, ⟨0, ⟨(some 6), none, (.pure .id), [(.tmp 0)]⟩, []⟩, ⟨0, ⟨(some 7), none, (.imp (.append 2 16)), [(.tmp 5), (.tmp 6)]⟩, []⟩, ⟨0, ⟨(some 2), none, (.pure .id), [(.tmp 7)]⟩, []⟩]) .ret)))⟩
theorem c_slices_Clone__2_int__2_int : compF Try.prog Try.f42 = some G_slices_Clone__2_int__2_int := by kernel_rfl
theorem gc_slices_Clone__2_int__2_int {args : List DV} {σ : GS} {Post : DV → GS → Prop} (h : @exB Try.prog ⟨G_slices_Clone__2_int__2_int.body⟩ (genv0 args G_slices_Clone__2_int__2_int.ntmps) σ ⟨@gretB G_slices_Clone__2_int__2_int.results ⟨Post⟩⟩) : GCall Try.prog F_slices_Clone__2_int__2_int args σ Post := gcall_ofB seatfollows Try.func42 (by kernel_rfl) c_slices_Clone__2_int__2_int h
noncomputable abbrev G_aig_maker : GFun := ⟨74, [(.tmp 2)], (.seq (.region [⟨0, ⟨(some 1), none, (.new .box), [(.tmp 0)]⟩, []⟩, ⟨0, ⟨(some 2), none, (.pure .id), [(.const .nilp)]⟩, []⟩]) (.seq (.region [⟨0, ⟨(some 10), none, (.new .mmap), []⟩, []⟩, ⟨0, ⟨(some 11), none, (.new .mmap), []⟩, []⟩, ⟨0, ⟨(some 12), none, (.pure (.build [(.bool false), .nils, .nils, .nilmap, .nilmap, (.bool false)] [(0, 1), (3, 1), (4, 1)])), [(.const (.bool true)), (.tmp 10), (.tmp 11)]⟩, []⟩, ⟨0, ⟨(some 13), none, (.new .box), [(.tmp 12)]⟩, []⟩, ⟨0, ⟨(some 3), none, (.pure .id), [(.tmp 13)]⟩, []⟩]) (.seq (.region [⟨0, ⟨(some 14), none, (.pure .id), [(.tmp 3)]⟩, []⟩, ⟨1, ⟨(some 15), none, (.pure (.faddr 0)), [(.tmp 1)]⟩, []⟩, ⟨2, ⟨(some 16), none, (.load (.load 1 false)), [(.tmp 15)]⟩, []⟩, ⟨4, ⟨(some 18), none, (.pure (.faddr 1)), [(.tmp 1)]⟩, []⟩, ⟨5, ⟨(some 19), none, (.load (.load 1 false)), [(.tmp 18)]⟩, []⟩, ⟨3, ⟨(some 17), none, (.call F_slices_Clone_int_int), [(.tmp 16)]⟩, [⟨(some 19), none, (.load (.load 1 false)), [(.tmp 18)]⟩]⟩, ⟨6, ⟨(some 20), none, (.call F_slices_Clone__2_int__2_int), [(.tmp 19)]⟩, []⟩, ⟨7, ⟨(some 21), none, (.pure (.build [.nils, .nils] [(0, 1), (1, 1)])), [(.tmp 17), (.tmp 20)]⟩, []⟩, ⟨8, ⟨(some 22), none, (.pure .nilck), [(.tmp 14)]⟩, []⟩, ⟨9, ⟨(some 23), none, (.pure (.faddr 1)), [(.tmp 22)]⟩, []⟩, ⟨10, ⟨none, none, (.imp (.store 2)), [(.tmp 23), (.tmp 21)]⟩, []⟩]) (.seq (.seq (.region [⟨0, ⟨(some 24), none, (.pure (.faddr 0)), [(.tmp 1)]⟩, []⟩, ⟨0, ⟨(some 25), none, (.load (.load 1 false)), [(.tmp 24)]⟩, []⟩, ⟨0, ⟨(some 26), none, (.pure .len), [(.tmp 25)]⟩, []⟩, ⟨0, ⟨(some 27), none, (.pure .id), [(.const (.int .i64 0))]⟩, []⟩]) (.block 0 (.loop (.seq (.region [⟨0, ⟨(some 28), none, (.pure (.bin .lss .none)), [(.tmp 27), (.tmp 26)]⟩, []⟩]) (.seq (.cond (.tmp 28) .skip (.exit 0)) (.seq (.block 1 (.seq (.region [⟨0, ⟨(some 29), none, (.pure .id), [(.tmp 27)]⟩, []⟩, ⟨0, ⟨(some 30), none, (.pure (.iaddr 1)), [(.tmp 25), (.tmp 27)]⟩, []⟩, ⟨0, ⟨(some 31), none, (.load (.load 1 false)), [(.tmp 30)]⟩, []⟩, ⟨0, ⟨(some 4), none, (.pure .id), [(.tmp 29)]⟩, []⟩, ⟨0, ⟨(some 5), none, (.pure .id), [(.tmp 31)]⟩, []⟩]) (.region [⟨0, ⟨(some 32), none, (.pure .id), [(.tmp 3)]⟩, []⟩, ⟨0, ⟨(some 33), none, (.pure .nilck), [(.tmp 32)]⟩, []⟩, ⟨0, ⟨(some 34), none, (.pure (.faddr 4)), [(.tmp 33)]⟩, []⟩, ⟨0, ⟨(some 35), none, (.load (.load 1 false)), [(.tmp 34)]⟩, []⟩, ⟨0, ⟨(some 36), none, (.pure .id), [(.tmp 5)]⟩, []⟩, ⟨0, ⟨(some 37), none, (.pure .id), [(.tmp 4)]⟩, []⟩, ⟨0, ⟨(some 38), none, (.pure (.bin .add .none)), [(.tmp 37), (.const (.int .i64 1))]⟩, []⟩, ⟨0, ⟨(some 39), none, (.pure (.bin .mul .none)), [(.const (.int .i64 2)), (.tmp 38)]⟩, []⟩, ⟨0, ⟨none, none, (.imp (.mset (.int .i64))), [(.tmp 35), (.tmp 36), (.tmp 39)]⟩, []⟩]))) (.region [⟨0, ⟨(some 40), none, (.pure (.bin .add .none)), [(.tmp 27), (.const (.int .i64 1))]⟩, []⟩, ⟨0, ⟨(some 27), none, (.pure .id), [(.tmp 40)]⟩, []⟩]))))))) (.seq (.seq (.region [⟨0, ⟨(some 41), none, (.pure (.faddr 1)), [(.tmp 1)]⟩, []⟩, ⟨0, ⟨(some 42), none, (.load (.load 1 false)), [(.tmp 41)]⟩, []⟩, ⟨0, ⟨(some 43), none, (.pure .len), [(.tmp 42)]⟩, []⟩, ⟨0, ⟨(some 44), none, (.pure .id), [(.const (.int .i64 0))]⟩, []⟩]) (.block 2 (.loop (.seq (.region [⟨0, ⟨(some 45), none, (.pure (.bin .lss .none)), [(.tmp 44), (.tmp 43)]⟩, []⟩]) (.seq (.cond (.tmp 45) .skip (.exit 2)) (.seq (.block 3 (.seq (.region [⟨0, ⟨(some 46), none, (.pure .id), [(.tmp 44)]⟩, []⟩, ⟨0, ⟨(some 47), none, (.pure (.iaddr 2)), [(.tmp 42), (.tmp 44)]⟩, []⟩, ⟨0, ⟨(some 48), none, (.load (.load 2 true)), [(.tmp 47)]⟩, []⟩, ⟨0, ⟨(some 7), none, (.new (.alloc [(.int .i64 0), (.int .i64 0)])), []⟩, []⟩, ⟨0, ⟨(some 6), none, (.pure .id), [(.tmp 46)]⟩, []⟩, ⟨0, ⟨none, none, (.imp (.store 2)), [(.tmp 7), (.tmp 48)]⟩, []⟩]) (.seq (.region [⟨0, ⟨(some 50), none, (.pure .id), [(.tmp 3)]⟩, []⟩, ⟨1, ⟨(some 51), none, (.pure .nilck), [(.tmp 50)]⟩, []⟩, ⟨2, ⟨(some 52), none, (.pure (.faddr 3)), [(.tmp 51)]⟩, []⟩, ⟨3, ⟨(some 53), none, (.load (.load 1 false)), [(.tmp 52)]⟩, []⟩, ⟨4, ⟨(some 54), none, (.load (.load 2 true)), [(.tmp 7)]⟩, []⟩, ⟨5, ⟨(some 55), none, (.load (.lookup (.arr2 .i64) (.int .i64 0) true)), [(.tmp 53), (.tmp 54)]⟩, []⟩, ⟨6, ⟨(some 49), none, (.pure .id), [(.tmp 55)]⟩, []⟩, ⟨7, ⟨(some 56), none, (.pure (.extract 0)), [(.tmp 49)]⟩, []⟩, ⟨8, ⟨(some 57), none, (.pure (.extract 1)), [(.tmp 49)]⟩, []⟩, ⟨9, ⟨(some 8), none, (.pure .id), [(.tmp 56)]⟩, []⟩, ⟨10, ⟨(some 9), none, (.pure .id), [(.tmp 57)]⟩, []⟩]) (.seq (.region [⟨0, ⟨(some 58), none, (.pure .id), [(.tmp 9)]⟩, []⟩, ⟨0, ⟨(some 59), none, (.pure (.un .not)), [(.tmp 58)]⟩, []⟩]) (.cond (.tmp 59) (.region [⟨0, ⟨(some 60), none, (.pure .id), [(.tmp 3)]⟩, []⟩, ⟨1, ⟨(some 61), none, (.pure .nilck), [(.tmp 60)]⟩, []⟩, ⟨2, ⟨(some 62), none, (.pure (.faddr 3)), [(.tmp 61)]⟩, []⟩, ⟨3, ⟨(some 63), none, (.load (.load 1 false)), [(.tmp 62)]⟩, []⟩, ⟨4, ⟨(some 64), none, (.load (.load 2 true)), [(.tmp 7)]⟩, []⟩, ⟨5, ⟨(some 65), none, (.pure (.faddr 0)), [(.tmp 1)]⟩, []⟩, ⟨6, ⟨(some 66), none, (.load (.load 1 false)), [(.tmp 65)]⟩, []⟩, ⟨7, ⟨(some 67), none, (.pure .len), [(.tmp 66)]⟩, []⟩, ⟨8, ⟨(some 68), none, (.pure (.bin .add .none)), [(.const (.int .i64 1)), (.tmp 67)]⟩, []⟩, ⟨9, ⟨(some 69), none, (.pure .id), [(.tmp 6)]⟩, []⟩, ⟨10, ⟨(some 70), none, (.pure (.bin .add .none)), [(.tmp 68), (.tmp 69)]⟩, []⟩, ⟨11, ⟨(some 71), none, (.pure (.bin .mul .none)), [(.const (.int .i64 2)), (.tmp 70)]⟩, []⟩, ⟨12, ⟨none, none, (.imp (.mset (.arr2 .i64))), [(.tmp 63), (.tmp 64), (.tmp 71)]⟩, []⟩]) .skip))))) (.region [⟨0, ⟨(some 72), none, (.pure (.bin .add .none)), [(.tmp 44), (.const (.int .i64 1))]⟩, []⟩, ⟨0, ⟨(some 44), none, (.pure .id), [(.tmp 72)]⟩, []⟩]))))))) (.seq (.region [⟨0, ⟨(some 73), none, (.pure .id), [(.tmp 3)]⟩, []⟩, ⟨0, ⟨(some 2), none, (.pure .id), [(.tmp 73)]⟩, []⟩]) .ret))))))⟩
theorem c_aig_maker : compF Try.prog Try.f43 = some G_aig_maker := by kernel_rfl
theorem gc_aig_maker {args : List DV} {σ : GS} {Post : DV → GS → Prop} (h : @exB Try.prog ⟨G_aig_maker.body⟩ (genv0 args G_aig_maker.ntmps) σ ⟨@gretB G_aig_maker.results ⟨Post⟩⟩) : GCall Try.prog F_aig_maker args σ Post := gcall_ofB seatfollows Try.func43 (by kernel_rfl) c_aig_maker h
noncomputable abbrev G_aig_Maker_and : GFun := ⟨80, [(.tmp 6)], (.seq (.region [⟨0, ⟨(some 6), none, (.pure .id), [(.const (.int .i64 0))]⟩, []⟩]) (.seq (.region [⟨0, ⟨(some 9), none, (.pure .id), [(.tmp 1)]⟩, []⟩, ⟨0, ⟨(some 10), none, (.pure .id), [(.tmp 2)]⟩, []⟩, ⟨0, ⟨(some 11), none, (.pure .mn), [(.tmp 9), (.tmp 10)]⟩, []⟩, ⟨0, ⟨(some 12), none, (.pure .id), [(.tmp 1)]⟩, []⟩, ⟨0, ⟨(some 13), none, (.pure .id), [(.tmp 2)]⟩, []⟩, ⟨0, ⟨(some 14), none, (.pure .mx), [(.tmp 12), (.tmp 13)]⟩, []⟩, ⟨0, ⟨(some 1), none, (.pure .id), [(.tmp 11)]⟩, []⟩, ⟨0, ⟨(some 2), none, (.pure .id), [(.tmp 14)]⟩, []⟩]) (.seq (.block 0 (.seq (.seq (.region [⟨0, ⟨(some 16), none, (.pure .id), [(.tmp 1)]⟩, []⟩, ⟨0, ⟨(some 17), none, (.pure (.bin .eql .none)), [(.tmp 16), (.const (.int .i64 0))]⟩, []⟩, ⟨0, ⟨(some 15), none, (.pure .id), [(.tmp 17)]⟩, []⟩]) (.cond (.tmp 15) .skip (.region [⟨0, ⟨(some 18), none, (.pure .id), [(.tmp 1)]⟩, []⟩, ⟨0, ⟨(some 19), none, (.pure (.bin .xor .none)), [(.tmp 18), (.const (.int .i64 1))]⟩, []⟩, ⟨0, ⟨(some 20), none, (.pure .id), [(.tmp 2)]⟩, []⟩, ⟨0, ⟨(some 21), none, (.pure (.bin .eql .none)), [(.tmp 19), (.tmp 20)]⟩, []⟩, ⟨0, ⟨(some 15), none, (.pure .id), [(.tmp 21)]⟩, []⟩]))) (.cond (.tmp 15) (.seq (.region [⟨0, ⟨(some 6), none, (.pure .id), [(.const (.int .i64 0))]⟩, []⟩]) .ret) (.seq (.seq (.region [⟨0, ⟨(some 23), none, (.pure .id), [(.tmp 1)]⟩, []⟩, ⟨0, ⟨(some 24), none, (.pure (.bin .eql .none)), [(.tmp 23), (.const (.int .i64 1))]⟩, []⟩, ⟨0, ⟨(some 22), none, (.pure .id), [(.tmp 24)]⟩, []⟩]) (.cond (.tmp 22) .skip (.region [⟨0, ⟨(some 25), none, (.pure .id), [(.tmp 1)]⟩, []⟩, ⟨0, ⟨(some 26), none, (.pure .id), [(.tmp 2)]⟩, []⟩, ⟨0, ⟨(some 27), none, (.pure (.bin .eql .none)), [(.tmp 25), (.tmp 26)]⟩, []⟩, ⟨0, ⟨(some 22), none, (.pure .id), [(.tmp 27)]⟩, []⟩]))) (.cond (.tmp 22) (.seq (.region [⟨0, ⟨(some 28), none, (.pure .id), [(.tmp 2)]⟩, []⟩, ⟨0, ⟨(some 6), none, (.pure .id), [(.tmp 28)]⟩, []⟩]) .ret) .skip))))) (.seq (.region [⟨0, ⟨(some 30), none, (.pure .id), [(.tmp 0)]⟩, []⟩, ⟨0, ⟨(some 31), none, (.pure .nilck), [(.tmp 30)]⟩, []⟩, ⟨0, ⟨(some 32), none, (.pure (.faddr 3)), [(.tmp 31)]⟩, []⟩, ⟨0, ⟨(some 33), none, (.load (.load 1 false)), [(.tmp 32)]⟩, []⟩, ⟨0, ⟨(some 34), none, (.pure .id), [(.tmp 1)]⟩, []⟩, ⟨0, ⟨(some 35), none, (.pure .id), [(.tmp 2)]⟩, []⟩, ⟨0, ⟨(some 36), none, (.pure (.build [(.int .i64 0), (.int .i64 0)] [(0, 1), (1, 1)])), [(.tmp 34), (.tmp 35)]⟩, []⟩, ⟨0, ⟨(some 37), none, (.load (.lookup (.arr2 .i64) (.int .i64 0) true)), [(.tmp 33), (.tmp 36)]⟩, []⟩, ⟨0, ⟨(some 29), none, (.pure .id), [(.tmp 37)]⟩, []⟩, ⟨0, ⟨(some 38), none, (.pure (.extract 0)), [(.tmp 29)]⟩, []⟩, ⟨0, ⟨(some 39), none, (.pure (.extract 1)), [(.tmp 29)]⟩, []⟩, ⟨0, ⟨(some 7), none, (.pure .id), [(.tmp 38)]⟩, []⟩, ⟨0, ⟨(some 8), none, (.pure .id), [(.tmp 39)]⟩, []⟩]) (.seq (.seq (.region [⟨0, ⟨(some 40), none, (.pure .id), [(.tmp 8)]⟩, []⟩]) (.cond (.tmp 40) (.seq (.region [⟨0, ⟨(some 41), none, (.pure .id), [(.tmp 7)]⟩, []⟩, ⟨0, ⟨(some 6), none, (.pure .id), [(.tmp 41)]⟩, []⟩]) .ret) .skip)) (.seq (.seq (.region [⟨0, ⟨(some 42), none, (.pure .id), [(.tmp 0)]⟩, []⟩, ⟨0, ⟨(some 43), none, (.pure .nilck), [(.tmp 42)]⟩, []⟩, ⟨0, ⟨(some 44), none, (.pure (.faddr 1)), [(.tmp 43)]⟩, []⟩, ⟨0, ⟨(some 45), none, (.load (.load 2 true)), [(.tmp 44)]⟩, []⟩, ⟨0, ⟨(some 46), none, (.call F_aig_nodes), [(.tmp 45)]⟩, []⟩, ⟨0, ⟨(some 47), none, (.pure (.bin .geq .none)), [(.tmp 46), (.const (.int .i64 200000))]⟩, []⟩]) (.cond (.tmp 47) (.seq (.region [⟨0, ⟨(some 48), none, (.pure .id), [(.tmp 0)]⟩, []⟩, ⟨0, ⟨(some 49), none, (.pure .nilck), [(.tmp 48)]⟩, []⟩, ⟨0, ⟨(some 50), none, (.pure (.faddr 5)), [(.tmp 49)]⟩, []⟩, ⟨0, ⟨none, none, (.imp (.store 1)), [(.tmp 50), (.const (.bool true))]⟩, []⟩]) (.seq (.region [⟨0, ⟨(some 6), none, (.pure .id), [(.const (.int .i64 0))]⟩, []⟩]) .ret)) .skip)) (.seq (.region [⟨0, ⟨(some 51), none, (.pure .id), [(.tmp 0)]⟩, []⟩, ⟨0, ⟨(some 52), none, (.pure .nilck), [(.tmp 51)]⟩, []⟩, ⟨0, ⟨(some 53), none, (.pure (.faddr 1)), [(.tmp 52)]⟩, []⟩, ⟨0, ⟨(some 54), none, (.load (.load 2 true)), [(.tmp 53)]⟩, []⟩, ⟨0, ⟨(some 55), none, (.call F_aig_nodes), [(.tmp 54)]⟩, []⟩, ⟨0, ⟨(some 56), none, (.pure (.bin .mul .none)), [(.const (.int .i64 2)), (.tmp 55)]⟩, []⟩, ⟨0, ⟨(some 7), none, (.pure .id), [(.tmp 56)]⟩, []⟩]) (.seq (.region [⟨0, ⟨(some 57), none, (.pure .id), [(.tmp 0)]⟩, []⟩, ⟨0, ⟨(some 58), none, (.pure .id), [(.tmp 0)]⟩, []⟩, ⟨0, ⟨(some 59), none, (.pure .nilck), [(.tmp 58)]⟩, []⟩, ⟨0, ⟨(some 60), none, (.pure (.faddr 1)), [(.tmp 59)]⟩, []⟩, ⟨0, ⟨(some 61), none, (.pure (.faddr 1)), [(.tmp 60)]⟩, []⟩, ⟨0, ⟨(some 62), none, (.load (.load 1 false)), [(.tmp 61)]⟩, []⟩, ⟨0, ⟨(some 63), none, (.pure .id), [(.tmp 1)]⟩, []⟩, ⟨0, ⟨(some 64), none, (.pure .id), [(.tmp 2)]⟩, []⟩, ⟨0, ⟨(some 65), none, (.pure (.build [(.int .i64 0), (.int .i64 0)] [(0, 1), (1, 1)])), [(.tmp 63), (.tmp 64)]⟩, []⟩, ⟨0, ⟨(some 66), none, (.new (.bslice 2 [(.int .i64 0), (.int .i64 0)] 1 [(0, 2)])), [(.tmp 65)]⟩, []⟩, ⟨0, ⟨(some 67), none, (.imp (.append 2 16)), [(.tmp 62), (.tmp 66)]⟩, []⟩, ⟨0, ⟨(some 68), none, (.pure .nilck), [(.tmp 57)]⟩, []⟩, ⟨0, ⟨(some 69), none, (.pure (.faddr 1)), [(.tmp 68)]⟩, []⟩, ⟨0, ⟨(some 70), none, (.pure (.faddr 1)), [(.tmp 69)]⟩, []⟩, ⟨0, ⟨none, none, (.imp (.store 1)), [(.tmp 70), (.tmp 67)]⟩, []⟩]) (.seq (.region [⟨0, ⟨(some 71), none, (.pure .id), [(.tmp 0)]⟩, []⟩, ⟨0, ⟨(some 72), none, (.pure .nilck), [(.tmp 71)]⟩, []⟩, ⟨0, ⟨(some 73), none, (.pure (.faddr 3)), [(.tmp 72)]⟩, []⟩, ⟨0, ⟨(some 74), none, (.load (.load 1 false)), [(.tmp 73)]⟩, []⟩, ⟨0, ⟨(some 75), none, (.pure .id), [(.tmp 1)]⟩, []⟩, ⟨0, ⟨(some 76), none, (.pure .id), [(.tmp 2)]⟩, []⟩, ⟨0, ⟨(some 77), none, (.pure (.build [(.int .i64 0), (.int .i64 0)] [(0, 1), (1, 1)])), [(.tmp 75), (.tmp 76)]⟩, []⟩, ⟨0, ⟨(some 78), none, (.pure .id), [(.tmp 7)]⟩, []⟩, ⟨0, ⟨none, none, (.imp (.mset (.arr2 .i64))), [(.tmp 74), (.tmp 77), (.tmp 78)]⟩, []⟩]) (.seq (.region [⟨0, ⟨(some 79), none, (.pure .id), [(.tmp 7)]⟩, []⟩, ⟨0, ⟨(some 6), none, (.pure .id), [(.tmp 79)]⟩, []⟩]) .ret))))))))))⟩
theorem c_aig_Maker_and : compF Try.prog Try.f38 = some G_aig_Maker_and := by kernel_rfl
theorem gc_aig_Maker_and {args : List DV} {σ : GS} {Post : DV → GS → Prop} (h : @exB Try.prog ⟨G_aig_Maker_and.body⟩ (genv0 args G_aig_Maker_and.ntmps) σ ⟨@gretB G_aig_Maker_and.results ⟨Post⟩⟩) : GCall Try.prog F_aig_Maker_and args σ Post := gcall_ofB seatfollows Try.func38 (by kernel_rfl) c_aig_Maker_and h
noncomputable abbrev G_aig_Maker_own : GFun := ⟨11, [(.tmp 4)], (.seq (.region [⟨0, ⟨(some 4), none, (.pure .id), [(.const (.int .i64 0))]⟩, []⟩]) (.seq (.region [⟨0, ⟨(some 5), none, (.pure .id), [(.tmp 0)]⟩, []⟩, ⟨0, ⟨(some 6), none, (.pure .nilck), [(.tmp 5)]⟩, []⟩, ⟨0, ⟨(some 7), none, (.pure (.faddr 4)), [(.tmp 6)]⟩, []⟩, ⟨0, ⟨(some 8), none, (.load (.load 1 false)), [(.tmp 7)]⟩, []⟩, ⟨0, ⟨(some 9), none, (.pure .id), [(.tmp 1)]⟩, []⟩, ⟨0, ⟨(some 10), none, (.load (.lookup (.int .i64) (.int .i64 0) false)), [(.tmp 8), (.tmp 9)]⟩, []⟩, ⟨0, ⟨(some 4), none, (.pure .id), [(.tmp 10)]⟩, []⟩]) .ret))⟩
theorem c_aig_Maker_own : compF Try.prog Try.f55 = some G_aig_Maker_own := by kernel_rfl
theorem gc_aig_Maker_own {args : List DV} {σ : GS} {Post : DV → GS → Prop} (h : @exB Try.prog ⟨G_aig_Maker_own.body⟩ (genv0 args G_aig_Maker_own.ntmps) σ ⟨@gretB G_aig_Maker_own.results ⟨Post⟩⟩) : GCall Try.prog F_aig_Maker_own args σ Post := gcall_ofB seatfollows Try.func55 (by kernel_rfl) c_aig_Maker_own h
noncomputable abbrev G_aig_reached : GFun := ⟨51, [(.tmp 4)], (.seq (.region [⟨0, ⟨(some 2), none, (.new .box), [(.tmp 0)]⟩, []⟩, ⟨0, ⟨(some 4), none, (.pure .id), [(.const .nils)]⟩, []⟩]) (.seq (.region [⟨0, ⟨(some 11), none, (.load (.load 2 true)), [(.tmp 2)]⟩, []⟩, ⟨0, ⟨(some 12), none, (.call F_aig_nodes), [(.tmp 11)]⟩, []⟩, ⟨0, ⟨(some 13), none, (.new (.mslice 1 1 [(.bool false)])), [(.tmp 12), (.tmp 12)]⟩, []⟩, ⟨0, ⟨(some 5), none, (.new (.alloc [.nils])), []⟩, []⟩, ⟨0, ⟨none, none, (.imp (.store 1)), [(.tmp 5), (.tmp 13)]⟩, []⟩]) (.seq (.seq (.region [⟨0, ⟨(some 14), none, (.pure .id), [(.tmp 1)]⟩, []⟩, ⟨0, ⟨(some 15), none, (.pure .len), [(.tmp 14)]⟩, []⟩, ⟨0, ⟨(some 16), none, (.pure .id), [(.const (.int .i64 0))]⟩, []⟩]) (.block 0 (.loop (.seq (.region [⟨0, ⟨(some 17), none, (.pure (.bin .lss .none)), [(.tmp 16), (.tmp 15)]⟩, []⟩]) (.seq (.cond (.tmp 17) .skip (.exit 0)) (.seq (.block 1 (.seq (.region [⟨0, ⟨(some 18), none, (.pure (.iaddr 1)), [(.tmp 14), (.tmp 16)]⟩, []⟩, ⟨0, ⟨(some 19), none, (.load (.load 1 false)), [(.tmp 18)]⟩, []⟩, ⟨0, ⟨(some 7), none, (.pure .id), [(.tmp 19)]⟩, []⟩]) (.region [⟨0, ⟨(some 20), none, (.load (.load 1 false)), [(.tmp 5)]⟩, []⟩, ⟨0, ⟨(some 21), none, (.pure .id), [(.tmp 7)]⟩, []⟩, ⟨0, ⟨(some 22), none, (.pure (.bin .shr .none)), [(.tmp 21), (.const (.int .u64 1))]⟩, []⟩, ⟨0, ⟨(some 23), none, (.pure (.iaddr 1)), [(.tmp 20), (.tmp 22)]⟩, []⟩, ⟨0, ⟨none, none, (.imp (.store 1)), [(.tmp 23), (.const (.bool true))]⟩, []⟩]))) (.region [⟨0, ⟨(some 24), none, (.pure (.bin .add .none)), [(.tmp 16), (.const (.int .i64 1))]⟩, []⟩, ⟨0, ⟨(some 16), none, (.pure .id), [(.tmp 24)]⟩, []⟩]))))))) (.seq (.region [⟨0, ⟨(some 25), none, (.pure (.faddr 0)), [(.tmp 2)]⟩, []⟩, ⟨0, ⟨(some 26), none, (.load (.load 1 false)), [(.tmp 25)]⟩, []⟩, ⟨0, ⟨(some 27), none, (.pure .len), [(.tmp 26)]⟩, []⟩, ⟨0, ⟨(some 28), none, (.pure (.bin .add .none)), [(.const (.int .i64 1)), (.tmp 27)]⟩, []⟩, ⟨0, ⟨(some 8), none, (.new (.alloc [(.int .i64 0)])), []⟩, []⟩, ⟨0, ⟨none, none, (.imp (.store 1)), [(.tmp 8), (.tmp 28)]⟩, []⟩]) (.seq (.seq (.region [⟨0, ⟨(some 29), none, (.pure (.faddr 1)), [(.tmp 2)]⟩, []⟩, ⟨0, ⟨(some 30), none, (.load (.load 1 false)), [(.tmp 29)]⟩, []⟩, ⟨0, ⟨(some 31), none, (.call F_slices_Backward__2_int__2_int), [(.tmp 30)]⟩, []⟩]) (.block 2 (.rangeF (.tmp 31) [32, 33] (rngA Try.f35 0) (rngB Try.f35 0)))) (.seq (.region [⟨0, ⟨(some 50), none, (.load (.load 1 false)), [(.tmp 5)]⟩, []⟩, ⟨0, ⟨(some 4), none, (.pure .id), [(.tmp 50)]⟩, []⟩]) .ret))))))⟩
theorem c_aig_reached : compF Try.prog Try.f35 = some G_aig_reached := by kernel_rfl
theorem gc_aig_reached {args : List DV} {σ : GS} {Post : DV → GS → Prop} (h : @exB Try.prog ⟨G_aig_reached.body⟩ (genv0 args G_aig_reached.ntmps) σ ⟨@gretB G_aig_reached.results ⟨Post⟩⟩) : GCall Try.prog F_aig_reached args σ Post := gcall_ofB seatfollows Try.func35 (by kernel_rfl) c_aig_reached h
noncomputable abbrev GA_aig_reached_0 : GCode := (.seq (.region [⟨0, ⟨(some 9), none, (.pure .id), [(.tmp 32)]⟩, []⟩]) (.region [⟨0, ⟨(some 10), none, (.new (.alloc [(.int .i64 0), (.int .i64 0)])), []⟩, []⟩, ⟨0, ⟨none, none, (.imp (.store 2)), [(.tmp 10), (.tmp 33)]⟩, []⟩]))
theorem ca_aig_reached_0 : comp Try.prog (rngA Try.f35 0) = some GA_aig_reached_0 := by kernel_rfl
noncomputable abbrev GB_aig_reached_0 : GCode := (.block 3 (.seq (.region [⟨0, ⟨(some 34), none, (.load (.load 1 false)), [(.tmp 5)]⟩, []⟩, ⟨0, ⟨(some 35), none, (.load (.load 1 false)), [(.tmp 8)]⟩, []⟩, ⟨0, ⟨(some 36), none, (.pure .id), [(.tmp 9)]⟩, []⟩, ⟨0, ⟨(some 37), none, (.pure (.bin .add .none)), [(.tmp 35), (.tmp 36)]⟩, []⟩, ⟨0, ⟨(some 38), none, (.pure (.iaddr 1)), [(.tmp 34), (.tmp 37)]⟩, []⟩, ⟨0, ⟨(some 39), none, (.load (.load 1 false)), [(.tmp 38)]⟩, []⟩]) (.cond (.tmp 39) (.region [⟨0, ⟨(some 40), none, (.load (.load 1 false)), [(.tmp 5)]⟩, []⟩, ⟨1, ⟨(some 41), none, (.pure (.iarr 2 1)), [(.tmp 10), (.const (.int .i64 0))]⟩, []⟩, ⟨2, ⟨(some 42), none, (.load (.load 1 false)), [(.tmp 41)]⟩, []⟩, ⟨3, ⟨(some 43), none, (.pure (.bin .shr .none)), [(.tmp 42), (.const (.int .u64 1))]⟩, []⟩, ⟨4, ⟨(some 44), none, (.load (.load 1 false)), [(.tmp 5)]⟩, []⟩, ⟨5, ⟨(some 45), none, (.pure (.iarr 2 1)), [(.tmp 10), (.const (.int .i64 1))]⟩, []⟩, ⟨6, ⟨(some 46), none, (.load (.load 1 false)), [(.tmp 45)]⟩, []⟩, ⟨7, ⟨(some 47), none, (.pure (.bin .shr .none)), [(.tmp 46), (.const (.int .u64 1))]⟩, []⟩, ⟨8, ⟨(some 48), none, (.pure (.iaddr 1)), [(.tmp 40), (.tmp 43)]⟩, []⟩, ⟨9, ⟨none, none, (.imp (.store 1)), [(.tmp 48), (.const (.bool true))]⟩, [⟨(some 44), none, (.load (.load 1 false)), [(.tmp 5)]⟩, ⟨(some 46), none, (.load (.load 1 false)), [(.tmp 45)]⟩]⟩, ⟨10, ⟨(some 49), none, (.pure (.iaddr 1)), [(.tmp 44), (.tmp 47)]⟩, []⟩, ⟨11, ⟨none, none, (.imp (.store 1)), [(.tmp 49), (.const (.bool true))]⟩, []⟩]) .skip)))
theorem cb_aig_reached_0 : comp Try.prog (rngB Try.f35 0) = some GB_aig_reached_0 := by kernel_rfl
noncomputable abbrev G_slices_Backward__2_int__2_int : GFun := ⟨4, [(.tmp 2)], (.seq (.region [⟨0, ⟨(some 1), none, (.new .box), [(.tmp 0)]⟩, []⟩, ⟨0, ⟨(some 2), none, (.pure .id), [(.const .nilf)]⟩, []⟩]) (.seq (.region [⟨0, ⟨(some 3), none, (.pure (.mkfunc F_slices_Backward__2_int__2_int_1 0)), [(.tmp 1)]⟩, []⟩, ⟨0, ⟨(some 2), none, (.pure .id), [(.tmp 3)]⟩, []⟩]) .ret))⟩
theorem c_slices_Backward__2_int__2_int : compF Try.prog Try.f75 = some G_slices_Backward__2_int__2_int := by kernel_rfl
theorem gc_slices_Backward__2_int__2_int {args : List DV} {σ : GS} {Post : DV → GS → Prop} (h : @exB Try.prog ⟨G_slices_Backward__2_int__2_int.body⟩ (genv0 args G_slices_Backward__2_int__2_int.ntmps) σ ⟨@gretB G_slices_Backward__2_int__2_int.results ⟨Post⟩⟩) : GCall Try.prog F_slices_Backward__2_int__2_int args σ Post := gcall_ofB seatfollows Try.func75 (by kernel_rfl) c_slices_Backward__2_int__2_int h
noncomputable abbrev G_slices_Backward__2_int__2_int_1 : GFun := ⟨19, [], (.seq (.region [⟨0, ⟨(some 4), none, (.load (.load 1 false)), [(.tmp 1)]⟩, []⟩, ⟨0, ⟨(some 5), none, (.pure .len), [(.tmp 4)]⟩, []⟩, ⟨0, ⟨(some 6), none, (.pure (.bin .sub .none)), [(.tmp 5), (.const (.int .i64 1))]⟩, []⟩, ⟨0, ⟨(some 3), none, (.pure .id), [(.tmp 6)]⟩, []⟩]) (.block 0 (.loop (.seq (.seq (.region [⟨0, ⟨(some 7), none, (.pure .id), [(.tmp 3)]⟩, []⟩, ⟨0, ⟨(some 8), none, (.pure (.bin .geq .none)), [(.tmp 7), (.const (.int .i64 0))]⟩, []⟩]) (.cond (.tmp 8) .skip (.exit 0))) (.seq (.block 1 (.seq (.region [⟨0, ⟨(some 11), none, (.pure .id), [(.tmp 0)]⟩, []⟩, ⟨0, ⟨(some 12), none, (.pure .id), [(.tmp 3)]⟩, []⟩, ⟨0, ⟨(some 13), none, (.load (.load 1 false)), [(.tmp 1)]⟩, []⟩, ⟨0, ⟨(some 14), none, (.pure .id), [(.tmp 3)]⟩, []⟩, ⟨0, ⟨(some 15), none, (.pure (.iaddr 2)), [(.tmp 13), (.tmp 14)]⟩, []⟩, ⟨0, ⟨(some 16), none, (.load (.load 2 true)), [(.tmp 15)]⟩, []⟩, ⟨0, ⟨(some 17), none, .callv, [(.tmp 11), (.tmp 12), (.tmp 16)]⟩, []⟩, ⟨0, ⟨(some 18), none, (.pure (.un .not)), [(.tmp 17)]⟩, []⟩]) (.cond (.tmp 18) .ret .skip))) (.region [⟨0, ⟨(some 9), none, (.pure .id), [(.tmp 3)]⟩, []⟩, ⟨0, ⟨(some 10), none, (.pure (.bin .sub .none)), [(.tmp 9), (.const (.int .i64 1))]⟩, []⟩, ⟨0, ⟨(some 3), none, (.pure .id), [(.tmp 10)]⟩, []⟩]))))))⟩
theorem c_slices_Backward__2_int__2_int_1 : compF Try.prog Try.f89 = some G_slices_Backward__2_int__2_int_1 := by kernel_rfl
theorem gc_slices_Backward__2_int__2_int_1 {args : List DV} {σ : GS} {Post : DV → GS → Prop} (h : @exB Try.prog ⟨G_slices_Backward__2_int__2_int_1.body⟩ (genv0 args G_slices_Backward__2_int__2_int_1.ntmps) σ ⟨@gretB G_slices_Backward__2_int__2_int_1.results ⟨Post⟩⟩) : GCall Try.prog F_slices_Backward__2_int__2_int_1 args σ Post := gcall_ofB seatfollows Try.func89 (by kernel_rfl) c_slices_Backward__2_int__2_int_1 h
noncomputable abbrev G_aig_Maker_copied : GFun := ⟨80, [(.tmp 8)], (.seq (.region [⟨0, ⟨(some 5), none, (.new .box), [(.tmp 1)]⟩, []⟩, ⟨0, ⟨(some 8), none, (.pure .id), [(.const .nilf)]⟩, []⟩]) (.seq (.region [⟨0, ⟨(some 17), none, (.load (.load 2 true)), [(.tmp 5)]⟩, []⟩, ⟨0, ⟨(some 18), none, (.pure .id), [(.tmp 2)]⟩, []⟩, ⟨0, ⟨(some 19), none, (.call F_aig_reached), [(.tmp 17), (.tmp 18)]⟩, []⟩, ⟨0, ⟨(some 9), none, (.pure .id), [(.tmp 19)]⟩, []⟩]) (.seq (.region [⟨0, ⟨(some 20), none, (.load (.load 2 true)), [(.tmp 5)]⟩, []⟩, ⟨0, ⟨(some 21), none, (.call F_aig_nodes), [(.tmp 20)]⟩, []⟩, ⟨0, ⟨(some 22), none, (.new (.mslice 1 8 [(.int .i64 0)])), [(.tmp 21), (.tmp 21)]⟩, []⟩, ⟨0, ⟨(some 10), none, (.new (.alloc [.nils])), []⟩, []⟩, ⟨0, ⟨none, none, (.imp (.store 1)), [(.tmp 10), (.tmp 22)]⟩, []⟩]) (.seq (.region [⟨0, ⟨(some 23), none, (.pure (.mkfunc F_aig_Maker_copied_1 0)), [(.tmp 10)]⟩, []⟩, ⟨0, ⟨(some 11), none, (.pure .id), [(.tmp 23)]⟩, []⟩]) (.seq (.seq (.region [⟨0, ⟨(some 24), none, (.pure (.faddr 0)), [(.tmp 5)]⟩, []⟩, ⟨0, ⟨(some 25), none, (.load (.load 1 false)), [(.tmp 24)]⟩, []⟩, ⟨0, ⟨(some 26), none, (.pure .len), [(.tmp 25)]⟩, []⟩, ⟨0, ⟨(some 27), none, (.pure .id), [(.const (.int .i64 0))]⟩, []⟩]) (.block 0 (.loop (.seq (.region [⟨0, ⟨(some 28), none, (.pure (.bin .lss .none)), [(.tmp 27), (.tmp 26)]⟩, []⟩]) (.seq (.cond (.tmp 28) .skip (.exit 0)) (.seq (.block 1 (.seq (.region [⟨0, ⟨(some 29), none, (.pure .id), [(.tmp 27)]⟩, []⟩, ⟨0, ⟨(some 30), none, (.pure (.iaddr 1)), [(.tmp 25), (.tmp 27)]⟩, []⟩, ⟨0, ⟨(some 31), none, (.load (.load 1 false)), [(.tmp 30)]⟩, []⟩, ⟨0, ⟨(some 12), none, (.pure .id), [(.tmp 29)]⟩, []⟩, ⟨0, ⟨(some 13), none, (.pure .id), [(.tmp 31)]⟩, []⟩]) (.seq (.region [⟨0, ⟨(some 32), none, (.pure .id), [(.tmp 9)]⟩, []⟩, ⟨0, ⟨(some 33), none, (.pure .id), [(.tmp 12)]⟩, []⟩, ⟨0, ⟨(some 34), none, (.pure (.bin .add .none)), [(.tmp 33), (.const (.int .i64 1))]⟩, []⟩, ⟨0, ⟨(some 35), none, (.pure (.iaddr 1)), [(.tmp 32), (.tmp 34)]⟩, []⟩, ⟨0, ⟨(some 36), none, (.load (.load 1 false)), [(.tmp 35)]⟩, []⟩]) (.cond (.tmp 36) (.region [⟨0, ⟨(some 37), none, (.load (.load 1 false)), [(.tmp 10)]⟩, []⟩, ⟨1, ⟨(some 38), none, (.pure .id), [(.tmp 12)]⟩, []⟩, ⟨2, ⟨(some 39), none, (.pure (.bin .add .none)), [(.tmp 38), (.const (.int .i64 1))]⟩, []⟩, ⟨3, ⟨(some 40), none, (.pure .id), [(.tmp 3)]⟩, []⟩, ⟨4, ⟨(some 41), none, (.pure .id), [(.tmp 13)]⟩, []⟩, ⟨5, ⟨(some 42), none, .callv, [(.tmp 40), (.tmp 41)]⟩, [⟨(some 37), none, (.load (.load 1 false)), [(.tmp 10)]⟩]⟩, ⟨6, ⟨(some 43), none, (.pure (.iaddr 1)), [(.tmp 37), (.tmp 39)]⟩, []⟩, ⟨7, ⟨none, none, (.imp (.store 1)), [(.tmp 43), (.tmp 42)]⟩, []⟩]) .skip)))) (.region [⟨0, ⟨(some 44), none, (.pure (.bin .add .none)), [(.tmp 27), (.const (.int .i64 1))]⟩, []⟩, ⟨0, ⟨(some 27), none, (.pure .id), [(.tmp 44)]⟩, []⟩]))))))) (.seq (.region [⟨0, ⟨(some 45), none, (.pure (.faddr 0)), [(.tmp 5)]⟩, []⟩, ⟨0, ⟨(some 46), none, (.load (.load 1 false)), [(.tmp 45)]⟩, []⟩, ⟨0, ⟨(some 47), none, (.pure .len), [(.tmp 46)]⟩, []⟩, ⟨0, ⟨(some 48), none, (.pure (.bin .add .none)), [(.const (.int .i64 1)), (.tmp 47)]⟩, []⟩, ⟨0, ⟨(some 14), none, (.pure .id), [(.tmp 48)]⟩, []⟩]) (.seq (.seq (.region [⟨0, ⟨(some 49), none, (.pure (.faddr 1)), [(.tmp 5)]⟩, []⟩, ⟨0, ⟨(some 50), none, (.load (.load 1 false)), [(.tmp 49)]⟩, []⟩, ⟨0, ⟨(some 51), none, (.pure .len), [(.tmp 50)]⟩, []⟩, ⟨0, ⟨(some 52), none, (.pure .id), [(.const (.int .i64 0))]⟩, []⟩]) (.block 2 (.loop (.seq (.region [⟨0, ⟨(some 53), none, (.pure (.bin .lss .none)), [(.tmp 52), (.tmp 51)]⟩, []⟩]) (.seq (.cond (.tmp 53) .skip (.exit 2)) (.seq (.block 3 (.seq (.region [⟨0, ⟨(some 54), none, (.pure .id), [(.tmp 52)]⟩, []⟩, ⟨0, ⟨(some 55), none, (.pure (.iaddr 2)), [(.tmp 50), (.tmp 52)]⟩, []⟩, ⟨0, ⟨(some 56), none, (.load (.load 2 true)), [(.tmp 55)]⟩, []⟩, ⟨0, ⟨(some 16), none, (.new (.alloc [(.int .i64 0), (.int .i64 0)])), []⟩, []⟩, ⟨0, ⟨(some 15), none, (.pure .id), [(.tmp 54)]⟩, []⟩, ⟨0, ⟨none, none, (.imp (.store 2)), [(.tmp 16), (.tmp 56)]⟩, []⟩]) (.seq (.region [⟨0, ⟨(some 57), none, (.pure .id), [(.tmp 9)]⟩, []⟩, ⟨0, ⟨(some 58), none, (.pure .id), [(.tmp 14)]⟩, []⟩, ⟨0, ⟨(some 59), none, (.pure .id), [(.tmp 15)]⟩, []⟩, ⟨0, ⟨(some 60), none, (.pure (.bin .add .none)), [(.tmp 58), (.tmp 59)]⟩, []⟩, ⟨0, ⟨(some 61), none, (.pure (.iaddr 1)), [(.tmp 57), (.tmp 60)]⟩, []⟩, ⟨0, ⟨(some 62), none, (.load (.load 1 false)), [(.tmp 61)]⟩, []⟩]) (.cond (.tmp 62) (.region [⟨0, ⟨(some 63), none, (.load (.load 1 false)), [(.tmp 10)]⟩, []⟩, ⟨1, ⟨(some 64), none, (.pure .id), [(.tmp 14)]⟩, []⟩, ⟨2, ⟨(some 65), none, (.pure .id), [(.tmp 15)]⟩, []⟩, ⟨3, ⟨(some 66), none, (.pure (.bin .add .none)), [(.tmp 64), (.tmp 65)]⟩, []⟩, ⟨4, ⟨(some 67), none, (.pure .id), [(.tmp 0)]⟩, []⟩, ⟨5, ⟨(some 68), none, (.pure .id), [(.tmp 11)]⟩, []⟩, ⟨6, ⟨(some 69), none, (.pure (.iarr 2 1)), [(.tmp 16), (.const (.int .i64 0))]⟩, []⟩, ⟨7, ⟨(some 70), none, (.load (.load 1 false)), [(.tmp 69)]⟩, []⟩, ⟨9, ⟨(some 72), none, (.pure .id), [(.tmp 11)]⟩, []⟩, ⟨10, ⟨(some 73), none, (.pure (.iarr 2 1)), [(.tmp 16), (.const (.int .i64 1))]⟩, []⟩, ⟨11, ⟨(some 74), none, (.load (.load 1 false)), [(.tmp 73)]⟩, []⟩, ⟨8, ⟨(some 71), none, .callv, [(.tmp 68), (.tmp 70)]⟩, [⟨(some 63), none, (.load (.load 1 false)), [(.tmp 10)]⟩, ⟨(some 74), none, (.load (.load 1 false)), [(.tmp 73)]⟩]⟩, ⟨12, ⟨(some 75), none, .callv, [(.tmp 72), (.tmp 74)]⟩, [⟨(some 63), none, (.load (.load 1 false)), [(.tmp 10)]⟩]⟩, ⟨13, ⟨(some 76), none, (.call F_aig_Maker_and), [(.tmp 67), (.tmp 71), (.tmp 75)]⟩, [⟨(some 63), none, (.load (.load 1 false)), [(.tmp 10)]⟩]⟩, ⟨14, ⟨(some 77), none, (.pure (.iaddr 1)), [(.tmp 63), (.tmp 66)]⟩, []⟩, ⟨15, ⟨none, none, (.imp (.store 1)), [(.tmp 77), (.tmp 76)]⟩, []⟩]) .skip)))) (.region [⟨0, ⟨(some 78), none, (.pure (.bin .add .none)), [(.tmp 52), (.const (.int .i64 1))]⟩, []⟩, ⟨0, ⟨(some 52), none, (.pure .id), [(.tmp 78)]⟩, []⟩]))))))) (.seq (.region [⟨0, ⟨(some 79), none, (.pure .id), [(.tmp 11)]⟩, []⟩, ⟨0, ⟨(some 8), none, (.pure .id), [(.tmp 79)]⟩, []⟩]) .ret))))))))⟩
theorem c_aig_Maker_copied : compF Try.prog Try.f54 = some G_aig_Maker_copied := by kernel_rfl
theorem gc_aig_Maker_copied {args : List DV} {σ : GS} {Post : DV → GS → Prop} (h : @exB Try.prog ⟨G_aig_Maker_copied.body⟩ (genv0 args G_aig_Maker_copied.ntmps) σ ⟨@gretB G_aig_Maker_copied.results ⟨Post⟩⟩) : GCall Try.prog F_aig_Maker_copied args σ Post := gcall_ofB seatfollows Try.func54 (by kernel_rfl) c_aig_Maker_copied h
noncomputable abbrev G_aig_Maker_copied_1 : GFun := ⟨12, [(.tmp 3)], (.seq (.region [⟨0, ⟨(some 3), none, (.pure .id), [(.const (.int .i64 0))]⟩, []⟩]) (.seq (.region [⟨0, ⟨(some 4), none, (.load (.load 1 false)), [(.tmp 1)]⟩, []⟩, ⟨0, ⟨(some 5), none, (.pure .id), [(.tmp 0)]⟩, []⟩, ⟨0, ⟨(some 6), none, (.pure (.bin .shr .none)), [(.tmp 5), (.const (.int .u64 1))]⟩, []⟩, ⟨0, ⟨(some 7), none, (.pure (.iaddr 1)), [(.tmp 4), (.tmp 6)]⟩, []⟩, ⟨0, ⟨(some 8), none, (.load (.load 1 false)), [(.tmp 7)]⟩, []⟩, ⟨0, ⟨(some 9), none, (.pure .id), [(.tmp 0)]⟩, []⟩, ⟨0, ⟨(some 10), none, (.pure (.bin .and .none)), [(.tmp 9), (.const (.int .i64 1))]⟩, []⟩, ⟨0, ⟨(some 11), none, (.pure (.bin .xor .none)), [(.tmp 8), (.tmp 10)]⟩, []⟩, ⟨0, ⟨(some 3), none, (.pure .id), [(.tmp 11)]⟩, []⟩]) .ret))⟩
theorem c_aig_Maker_copied_1 : compF Try.prog Try.f79 = some G_aig_Maker_copied_1 := by kernel_rfl
theorem gc_aig_Maker_copied_1 {args : List DV} {σ : GS} {Post : DV → GS → Prop} (h : @exB Try.prog ⟨G_aig_Maker_copied_1.body⟩ (genv0 args G_aig_Maker_copied_1.ntmps) σ ⟨@gretB G_aig_Maker_copied_1.results ⟨Post⟩⟩) : GCall Try.prog F_aig_Maker_copied_1 args σ Post := gcall_ofB seatfollows Try.func79 (by kernel_rfl) c_aig_Maker_copied_1 h
noncomputable abbrev G_aig_each : GFun := ⟨22, [(.tmp 4)], (.seq (.region [⟨0, ⟨(some 4), none, (.pure .id), [(.const .nils)]⟩, []⟩]) (.seq (.region [⟨0, ⟨(some 5), none, (.pure .id), [(.const .nils)]⟩, []⟩]) (.seq (.seq (.region [⟨0, ⟨(some 8), none, (.pure .id), [(.tmp 0)]⟩, []⟩, ⟨0, ⟨(some 9), none, (.pure .len), [(.tmp 8)]⟩, []⟩, ⟨0, ⟨(some 10), none, (.pure .id), [(.const (.int .i64 0))]⟩, []⟩]) (.block 0 (.loop (.seq (.region [⟨0, ⟨(some 11), none, (.pure (.bin .lss .none)), [(.tmp 10), (.tmp 9)]⟩, []⟩]) (.seq (.cond (.tmp 11) .skip (.exit 0)) (.seq (.block 1 (.seq (.region [⟨0, ⟨(some 12), none, (.pure (.iaddr 1)), [(.tmp 8), (.tmp 10)]⟩, []⟩, ⟨0, ⟨(some 13), none, (.load (.load 1 false)), [(.tmp 12)]⟩, []⟩, ⟨0, ⟨(some 7), none, (.pure .id), [(.tmp 13)]⟩, []⟩]) (.region [⟨0, ⟨(some 14), none, (.pure .id), [(.tmp 5)]⟩, []⟩, ⟨0, ⟨(some 15), none, (.pure .id), [(.tmp 1)]⟩, []⟩, ⟨0, ⟨(some 16), none, (.pure .id), [(.tmp 7)]⟩, []⟩, ⟨0, ⟨(some 17), none, .callv, [(.tmp 15), (.tmp 16)]⟩, []⟩, ⟨0, ⟨(some 18), none, (.new (.bslice 1 [(.int .i64 0)] 1 [(0, 1)])), [(.tmp 17)]⟩, []⟩, ⟨0, ⟨(some 19), none, (.imp (.append 1 8)), [(.tmp 14), (.tmp 18)]⟩, []⟩, ⟨0, ⟨(some 5), none, (.pure .id), [(.tmp 19)]⟩, []⟩]))) (.region [⟨0, ⟨(some 20), none, (.pure (.bin .add .none)), [(.tmp 10), (.const (.int .i64 1))]⟩, []⟩, ⟨0, ⟨(some 10), none, (.pure .id), [(.tmp 20)]⟩, []⟩]))))))) (.seq (.region [⟨0, ⟨(some 21), none, (.pure .id), [(.tmp 5)]⟩, []⟩, ⟨0, ⟨(some 4), none, (.pure .id), [(.tmp 21)]⟩, []⟩]) .ret))))⟩
theorem c_aig_each : compF Try.prog Try.f57 = some G_aig_each := by kernel_rfl
theorem gc_aig_each {args : List DV} {σ : GS} {Post : DV → GS → Prop} (h : @exB Try.prog ⟨G_aig_each.body⟩ (genv0 args G_aig_each.ntmps) σ ⟨@gretB G_aig_each.results ⟨Post⟩⟩) : GCall Try.prog F_aig_each args σ Post := gcall_ofB seatfollows Try.func57 (by kernel_rfl) c_aig_each h
noncomputable abbrev G_aig_Compose : GFun := ⟨117, [(.cell 6 2 true), (.tmp 7), (.tmp 8)], (.seq (.region [⟨0, ⟨(some 3), none, (.new .box), [(.tmp 0)]⟩, []⟩, ⟨0, ⟨(some 6), none, (.new (.alloc [.nils, .nils])), []⟩, []⟩, ⟨0, ⟨(some 7), none, (.pure .id), [(.const .nils)]⟩, []⟩, ⟨0, ⟨(some 8), none, (.pure .id), [(.const (.int .i64 0))]⟩, []⟩]) (.seq (.region [⟨0, ⟨(some 22), none, (.new .mmap), []⟩, []⟩, ⟨0, ⟨(some 9), none, (.new (.alloc [.nilmap])), []⟩, []⟩, ⟨0, ⟨none, none, (.imp (.store 1)), [(.tmp 9), (.tmp 22)]⟩, []⟩]) (.seq (.region [⟨0, ⟨(some 10), none, (.pure .id), [(.const .nils)]⟩, []⟩]) (.seq (.seq (.region [⟨0, ⟨(some 23), none, (.pure .id), [(.tmp 2)]⟩, []⟩, ⟨0, ⟨(some 24), none, (.pure .len), [(.tmp 23)]⟩, []⟩, ⟨0, ⟨(some 25), none, (.pure .id), [(.const (.int .i64 0))]⟩, []⟩]) (.block 0 (.loop (.seq (.region [⟨0, ⟨(some 26), none, (.pure (.bin .lss .none)), [(.tmp 25), (.tmp 24)]⟩, []⟩]) (.seq (.cond (.tmp 26) .skip (.exit 0)) (.seq (.block 1 (.seq (.region [⟨0, ⟨(some 27), none, (.pure (.iaddr 2)), [(.tmp 23), (.tmp 25)]⟩, []⟩, ⟨0, ⟨(some 28), none, (.load (.load 2 true)), [(.tmp 27)]⟩, []⟩, ⟨0, ⟨(some 12), none, (.new (.alloc [(.int .i64 0), (.int .i64 0)])), []⟩, []⟩, ⟨0, ⟨none, none, (.imp (.store 2)), [(.tmp 12), (.tmp 28)]⟩, []⟩]) (.seq (.seq (.region [⟨0, ⟨(some 30), none, (.load (.load 1 false)), [(.tmp 9)]⟩, []⟩, ⟨0, ⟨(some 31), none, (.pure (.faddr 0)), [(.tmp 12)]⟩, []⟩, ⟨0, ⟨(some 32), none, (.load (.load 1 false)), [(.tmp 31)]⟩, []⟩, ⟨0, ⟨(some 33), none, (.load (.lookup (.int .i64) (.int .i64 0) true)), [(.tmp 30), (.tmp 32)]⟩, []⟩, ⟨0, ⟨(some 29), none, (.pure .id), [(.tmp 33)]⟩, []⟩, ⟨0, ⟨(some 34), none, (.pure (.extract 0)), [(.tmp 29)]⟩, []⟩, ⟨0, ⟨(some 35), none, (.pure (.extract 1)), [(.tmp 29)]⟩, []⟩, ⟨0, ⟨(some 13), none, (.pure .id), [(.tmp 34)]⟩, []⟩, ⟨0, ⟨(some 14), none, (.pure .id), [(.tmp 35)]⟩, []⟩]) (.seq (.region [⟨0, ⟨(some 36), none, (.pure .id), [(.tmp 14)]⟩, []⟩]) (.cond (.tmp 36) (.seq (.region [⟨0, ⟨(some 37), none, (.pure (.build [.nils, .nils] [])), []⟩, []⟩, ⟨0, ⟨none, none, (.imp (.store 2)), [(.tmp 6), (.tmp 37)]⟩, []⟩, ⟨0, ⟨(some 7), none, (.pure .id), [(.const .nils)]⟩, []⟩, ⟨0, ⟨(some 8), none, (.pure .id), [(.const (.int .i64 2))]⟩, []⟩]) .ret) .skip))) (.seq (.region [⟨0, ⟨(some 38), none, (.load (.load 1 false)), [(.tmp 9)]⟩, []⟩, ⟨0, ⟨(some 39), none, (.pure (.faddr 0)), [(.tmp 12)]⟩, []⟩, ⟨0, ⟨(some 40), none, (.load (.load 1 false)), [(.tmp 39)]⟩, []⟩, ⟨0, ⟨(some 41), none, (.pure (.faddr 1)), [(.tmp 12)]⟩, []⟩, ⟨0, ⟨(some 42), none, (.load (.load 1 false)), [(.tmp 41)]⟩, []⟩, ⟨0, ⟨none, none, (.imp (.mset (.int .i64))), [(.tmp 38), (.tmp 40), (.tmp 42)]⟩, []⟩]) (.region [⟨0, ⟨(some 43), none, (.pure .id), [(.tmp 10)]⟩, []⟩, ⟨0, ⟨(some 44), none, (.pure (.faddr 1)), [(.tmp 12)]⟩, []⟩, ⟨0, ⟨(some 45), none, (.load (.load 1 false)), [(.tmp 44)]⟩, []⟩, ⟨0, ⟨(some 46), none, (.new (.bslice 1 [(.int .i64 0)] 1 [(0, 1)])), [(.tmp 45)]⟩, []⟩, ⟨0, ⟨(some 47), none, (.imp (.append 1 8)), [(.tmp 43), (.tmp 46)]⟩, []⟩, ⟨0, ⟨(some 10), none, (.pure .id), [(.tmp 47)]⟩, []⟩]))))) (.region [⟨0, ⟨(some 48), none, (.pure (.bin .add .none)), [(.tmp 25), (.const (.int .i64 1))]⟩, []⟩, ⟨0, ⟨(some 25), none, (.pure .id), [(.tmp 48)]⟩, []⟩]))))))) (.seq (.seq (.region [⟨0, ⟨(some 49), none, (.load (.load 2 true)), [(.tmp 3)]⟩, []⟩, ⟨0, ⟨(some 50), none, (.pure .id), [(.tmp 1)]⟩, []⟩, ⟨0, ⟨(some 51), none, (.call F_aig_all), [(.tmp 49), (.tmp 50)]⟩, []⟩, ⟨0, ⟨(some 52), none, (.pure (.un .not)), [(.tmp 51)]⟩, []⟩, ⟨0, ⟨(some 53), none, (.pure .id), [(.tmp 52)]⟩, []⟩, ⟨0, ⟨(some 54), (some (53, false)), (.load (.load 2 true)), [(.tmp 3)]⟩, []⟩, ⟨0, ⟨(some 55), (some (53, false)), (.pure .id), [(.tmp 10)]⟩, []⟩, ⟨0, ⟨(some 56), (some (53, false)), (.call F_aig_all), [(.tmp 54), (.tmp 55)]⟩, []⟩, ⟨0, ⟨(some 57), (some (53, false)), (.pure (.un .not)), [(.tmp 56)]⟩, []⟩, ⟨0, ⟨(some 58), none, (.pure .pick), [(.tmp 53), (.const (.bool true)), (.tmp 57)]⟩, []⟩]) (.cond (.tmp 58) (.seq (.region [⟨0, ⟨(some 59), none, (.pure (.build [.nils, .nils] [])), []⟩, []⟩, ⟨0, ⟨none, none, (.imp (.store 2)), [(.tmp 6), (.tmp 59)]⟩, []⟩, ⟨0, ⟨(some 7), none, (.pure .id), [(.const .nils)]⟩, []⟩, ⟨0, ⟨(some 8), none, (.pure .id), [(.const (.int .i64 2))]⟩, []⟩]) .ret) .skip)) (.seq (.region [⟨0, ⟨(some 60), none, (.pure (.faddr 0)), [(.tmp 3)]⟩, []⟩, ⟨0, ⟨(some 61), none, (.load (.load 1 false)), [(.tmp 60)]⟩, []⟩, ⟨0, ⟨(some 62), none, (.pure (.build [.nils, .nils] [(0, 1)])), [(.tmp 61)]⟩, []⟩, ⟨0, ⟨(some 63), none, (.call F_aig_maker), [(.tmp 62)]⟩, []⟩, ⟨0, ⟨(some 15), none, (.new (.alloc [.nilp])), []⟩, []⟩, ⟨0, ⟨none, none, (.imp (.store 1)), [(.tmp 15), (.tmp 63)]⟩, []⟩]) (.seq (.seq (.region [⟨0, ⟨(some 64), none, (.load (.load 1 false)), [(.tmp 9)]⟩, []⟩, ⟨0, ⟨(some 65), none, (.imp .mrange), [(.tmp 64)]⟩, []⟩]) (.block 2 (.loop (.seq (.region [⟨0, ⟨(some 66), none, .mnext, [(.tmp 65)]⟩, []⟩, ⟨0, ⟨(some 67), none, (.pure (.extract 0)), [(.tmp 66)]⟩, []⟩]) (.seq (.cond (.tmp 67) .skip (.exit 2)) (.block 3 (.seq (.region [⟨0, ⟨(some 68), none, (.load .entry), [(.tmp 65)]⟩, []⟩, ⟨0, ⟨(some 69), none, (.pure (.extract 0)), [(.tmp 68)]⟩, []⟩, ⟨0, ⟨(some 16), none, (.pure .id), [(.tmp 69)]⟩, []⟩]) (.seq (.region [⟨0, ⟨(some 71), none, (.load (.load 1 false)), [(.tmp 15)]⟩, []⟩, ⟨0, ⟨(some 72), none, (.pure .nilck), [(.tmp 71)]⟩, []⟩, ⟨0, ⟨(some 73), none, (.pure (.faddr 4)), [(.tmp 72)]⟩, []⟩, ⟨0, ⟨(some 74), none, (.load (.load 1 false)), [(.tmp 73)]⟩, []⟩, ⟨0, ⟨(some 75), none, (.pure .id), [(.tmp 16)]⟩, []⟩, ⟨0, ⟨(some 76), none, (.load (.lookup (.int .i64) (.int .i64 0) true)), [(.tmp 74), (.tmp 75)]⟩, []⟩, ⟨0, ⟨(some 70), none, (.pure .id), [(.tmp 76)]⟩, []⟩, ⟨0, ⟨(some 77), none, (.pure (.extract 0)), [(.tmp 70)]⟩, []⟩, ⟨0, ⟨(some 78), none, (.pure (.extract 1)), [(.tmp 70)]⟩, []⟩, ⟨0, ⟨(some 17), none, (.pure .id), [(.tmp 77)]⟩, []⟩, ⟨0, ⟨(some 18), none, (.pure .id), [(.tmp 78)]⟩, []⟩]) (.seq (.region [⟨0, ⟨(some 79), none, (.pure .id), [(.tmp 18)]⟩, []⟩, ⟨0, ⟨(some 80), none, (.pure (.un .not)), [(.tmp 79)]⟩, []⟩]) (.cond (.tmp 80) (.seq (.region [⟨0, ⟨(some 81), none, (.pure (.build [.nils, .nils] [])), []⟩, []⟩, ⟨0, ⟨none, none, (.imp (.store 2)), [(.tmp 6), (.tmp 81)]⟩, []⟩, ⟨0, ⟨(some 7), none, (.pure .id), [(.const .nils)]⟩, []⟩, ⟨0, ⟨(some 8), none, (.pure .id), [(.const (.int .i64 6))]⟩, []⟩]) .ret) .skip)))))))))) (.seq (.region [⟨0, ⟨(some 82), none, (.load (.load 1 false)), [(.tmp 15)]⟩, []⟩, ⟨0, ⟨(some 83), none, (.load (.load 2 true)), [(.tmp 3)]⟩, []⟩, ⟨0, ⟨(some 84), none, (.pure .id), [(.tmp 10)]⟩, []⟩, ⟨0, ⟨(some 85), none, (.load (.load 1 false)), [(.tmp 15)]⟩, []⟩, ⟨0, ⟨(some 86), none, (.pure (.mkfunc F_aig_Maker_own 1)), [(.tmp 85)]⟩, []⟩, ⟨0, ⟨(some 87), none, (.call F_aig_Maker_copied), [(.tmp 82), (.tmp 83), (.tmp 84), (.tmp 86)]⟩, []⟩, ⟨0, ⟨(some 19), none, (.pure .id), [(.tmp 87)]⟩, []⟩]) (.seq (.seq (.region [⟨0, ⟨(some 88), none, (.load (.load 1 false)), [(.tmp 9)]⟩, []⟩, ⟨0, ⟨(some 89), none, (.imp .mrange), [(.tmp 88)]⟩, []⟩]) (.block 4 (.loop (.seq (.region [⟨0, ⟨(some 90), none, .mnext, [(.tmp 89)]⟩, []⟩, ⟨0, ⟨(some 91), none, (.pure (.extract 0)), [(.tmp 90)]⟩, []⟩]) (.seq (.cond (.tmp 91) .skip (.exit 4)) (.block 5 (.seq (.region [⟨0, ⟨(some 92), none, (.load .entry), [(.tmp 89)]⟩, []⟩, ⟨0, ⟨(some 93), none, (.pure (.extract 0)), [(.tmp 92)]⟩, []⟩, ⟨0, ⟨(some 94), none, (.pure (.extract 1)), [(.tmp 92)]⟩, []⟩, ⟨0, ⟨(some 20), none, (.pure .id), [(.tmp 93)]⟩, []⟩, ⟨0, ⟨(some 21), none, (.pure .id), [(.tmp 94)]⟩, []⟩]) (.region [⟨0, ⟨(some 95), none, (.load (.load 1 false)), [(.tmp 9)]⟩, []⟩, ⟨1, ⟨(some 96), none, (.pure .id), [(.tmp 20)]⟩, []⟩, ⟨2, ⟨(some 97), none, (.pure .id), [(.tmp 19)]⟩, []⟩, ⟨3, ⟨(some 98), none, (.pure .id), [(.tmp 21)]⟩, []⟩, ⟨4, ⟨(some 99), none, .callv, [(.tmp 97), (.tmp 98)]⟩, [⟨(some 95), none, (.load (.load 1 false)), [(.tmp 9)]⟩]⟩, ⟨5, ⟨none, none, (.imp (.mset (.int .i64))), [(.tmp 95), (.tmp 96), (.tmp 99)]⟩, []⟩])))))))) (.seq (.region [⟨0, ⟨(some 100), none, (.load (.load 1 false)), [(.tmp 15)]⟩, []⟩, ⟨0, ⟨(some 101), none, (.load (.load 2 true)), [(.tmp 3)]⟩, []⟩, ⟨0, ⟨(some 102), none, (.pure .id), [(.tmp 1)]⟩, []⟩, ⟨0, ⟨(some 103), none, (.pure (.mkfunc F_aig_Compose_1 0)), [(.tmp 9), (.tmp 15)]⟩, []⟩, ⟨0, ⟨(some 104), none, (.call F_aig_Maker_copied), [(.tmp 100), (.tmp 101), (.tmp 102), (.tmp 103)]⟩, []⟩, ⟨0, ⟨(some 19), none, (.pure .id), [(.tmp 104)]⟩, []⟩]) (.seq (.seq (.region [⟨0, ⟨(some 105), none, (.load (.load 1 false)), [(.tmp 15)]⟩, []⟩, ⟨0, ⟨(some 106), none, (.pure .nilck), [(.tmp 105)]⟩, []⟩, ⟨0, ⟨(some 107), none, (.pure (.faddr 5)), [(.tmp 106)]⟩, []⟩, ⟨0, ⟨(some 108), none, (.load (.load 1 false)), [(.tmp 107)]⟩, []⟩]) (.cond (.tmp 108) (.seq (.region [⟨0, ⟨(some 109), none, (.pure (.build [.nils, .nils] [])), []⟩, []⟩, ⟨0, ⟨none, none, (.imp (.store 2)), [(.tmp 6), (.tmp 109)]⟩, []⟩, ⟨0, ⟨(some 7), none, (.pure .id), [(.const .nils)]⟩, []⟩, ⟨0, ⟨(some 8), none, (.pure .id), [(.const (.int .i64 3))]⟩, []⟩]) .ret) .skip)) (.seq (.region [⟨0, ⟨(some 110), none, (.load (.load 1 false)), [(.tmp 15)]⟩, []⟩, ⟨1, ⟨(some 111), none, (.pure .nilck), [(.tmp 110)]⟩, []⟩, ⟨2, ⟨(some 112), none, (.pure (.faddr 1)), [(.tmp 111)]⟩, []⟩, ⟨3, ⟨(some 113), none, (.load (.load 2 true)), [(.tmp 112)]⟩, []⟩, ⟨4, ⟨(some 114), none, (.pure .id), [(.tmp 1)]⟩, []⟩, ⟨5, ⟨(some 115), none, (.pure .id), [(.tmp 19)]⟩, []⟩, ⟨6, ⟨(some 116), none, (.call F_aig_each), [(.tmp 114), (.tmp 115)]⟩, [⟨(some 110), none, (.load (.load 1 false)), [(.tmp 15)]⟩, ⟨(some 113), none, (.load (.load 2 true)), [(.tmp 112)]⟩]⟩, ⟨7, ⟨none, none, (.imp (.store 2)), [(.tmp 6), (.tmp 113)]⟩, []⟩, ⟨8, ⟨(some 7), none, (.pure .id), [(.tmp 116)]⟩, []⟩, ⟨9, ⟨(some 8), none, (.pure .id), [(.const (.int .i64 0))]⟩, []⟩]) .ret))))))))))))⟩
theorem c_aig_Compose : compF Try.prog Try.f26 = some G_aig_Compose := by kernel_rfl
theorem gc_aig_Compose {args : List DV} {σ : GS} {Post : DV → GS → Prop} (h : @exB Try.prog ⟨G_aig_Compose.body⟩ (genv0 args G_aig_Compose.ntmps) σ ⟨@gretB G_aig_Compose.results ⟨Post⟩⟩) : GCall Try.prog F_aig_Compose args σ Post := gcall_ofB seatfollows Try.func26 (by kernel_rfl) c_aig_Compose h
noncomputable abbrev G_aig_Compose_1 : GFun := ⟨18, [(.tmp 4)], (.seq (.region [⟨0, ⟨(some 4), none, (.pure .id), [(.const (.int .i64 0))]⟩, []⟩]) (.seq (.seq (.region [⟨0, ⟨(some 8), none, (.load (.load 1 false)), [(.tmp 1)]⟩, []⟩, ⟨0, ⟨(some 9), none, (.pure .id), [(.tmp 0)]⟩, []⟩, ⟨0, ⟨(some 10), none, (.load (.lookup (.int .i64) (.int .i64 0) true)), [(.tmp 8), (.tmp 9)]⟩, []⟩, ⟨0, ⟨(some 7), none, (.pure .id), [(.tmp 10)]⟩, []⟩, ⟨0, ⟨(some 11), none, (.pure (.extract 0)), [(.tmp 7)]⟩, []⟩, ⟨0, ⟨(some 12), none, (.pure (.extract 1)), [(.tmp 7)]⟩, []⟩, ⟨0, ⟨(some 5), none, (.pure .id), [(.tmp 11)]⟩, []⟩, ⟨0, ⟨(some 6), none, (.pure .id), [(.tmp 12)]⟩, []⟩]) (.seq (.region [⟨0, ⟨(some 13), none, (.pure .id), [(.tmp 6)]⟩, []⟩]) (.cond (.tmp 13) (.seq (.region [⟨0, ⟨(some 14), none, (.pure .id), [(.tmp 5)]⟩, []⟩, ⟨0, ⟨(some 4), none, (.pure .id), [(.tmp 14)]⟩, []⟩]) .ret) .skip))) (.seq (.region [⟨0, ⟨(some 15), none, (.load (.load 1 false)), [(.tmp 2)]⟩, []⟩, ⟨0, ⟨(some 16), none, (.pure .id), [(.tmp 0)]⟩, []⟩, ⟨0, ⟨(some 17), none, (.call F_aig_Maker_own), [(.tmp 15), (.tmp 16)]⟩, []⟩, ⟨0, ⟨(some 4), none, (.pure .id), [(.tmp 17)]⟩, []⟩]) .ret)))⟩
theorem c_aig_Compose_1 : compF Try.prog Try.f56 = some G_aig_Compose_1 := by kernel_rfl
theorem gc_aig_Compose_1 {args : List DV} {σ : GS} {Post : DV → GS → Prop} (h : @exB Try.prog ⟨G_aig_Compose_1.body⟩ (genv0 args G_aig_Compose_1.ntmps) σ ⟨@gretB G_aig_Compose_1.results ⟨Post⟩⟩) : GCall Try.prog F_aig_Compose_1 args σ Post := gcall_ofB seatfollows Try.func56 (by kernel_rfl) c_aig_Compose_1 h
noncomputable abbrev G_aig_Cone : GFun := ⟨13, [(.cell 4 2 true), (.tmp 5), (.tmp 6)], (.seq (.region [⟨0, ⟨(some 2), none, (.new .box), [(.tmp 0)]⟩, []⟩, ⟨0, ⟨(some 4), none, (.new (.alloc [.nils, .nils])), []⟩, []⟩, ⟨0, ⟨(some 5), none, (.pure .id), [(.const .nils)]⟩, []⟩, ⟨0, ⟨(some 6), none, (.pure .id), [(.const (.int .i64 0))]⟩, []⟩]) (.seq (.region [⟨0, ⟨(some 7), none, (.load (.load 2 true)), [(.tmp 2)]⟩, []⟩, ⟨0, ⟨(some 8), none, (.pure .id), [(.tmp 1)]⟩, []⟩, ⟨0, ⟨(some 9), none, (.call F_aig_Compose), [(.tmp 7), (.tmp 8), (.const .nils)]⟩, []⟩, ⟨0, ⟨(some 10), none, (.pure (.extract 0)), [(.tmp 9)]⟩, []⟩, ⟨0, ⟨(some 11), none, (.pure (.extract 1)), [(.tmp 9)]⟩, []⟩, ⟨0, ⟨(some 12), none, (.pure (.extract 2)), [(.tmp 9)]⟩, []⟩, ⟨0, ⟨none, none, (.imp (.store 2)), [(.tmp 4), (.tmp 10)]⟩, []⟩, ⟨0, ⟨(some 5), none, (.pure .id), [(.tmp 11)]⟩, []⟩, ⟨0, ⟨(some 6), none, (.pure .id), [(.tmp 12)]⟩, []⟩]) .ret))⟩
theorem c_aig_Cone : compF Try.prog Try.f10 = some G_aig_Cone := by kernel_rfl
theorem gc_aig_Cone {args : List DV} {σ : GS} {Post : DV → GS → Prop} (h : @exB Try.prog ⟨G_aig_Cone.body⟩ (genv0 args G_aig_Cone.ntmps) σ ⟨@gretB G_aig_Cone.results ⟨Post⟩⟩) : GCall Try.prog F_aig_Cone args σ Post := gcall_ofB seatfollows Try.func10 (by kernel_rfl) c_aig_Cone h
end Go.Gh
namespace Go.Gh
open Go.RowKit Go.Proofs
set_option linter.unusedVariables false
set_option linter.unusedSimpArgs false
theorem aig_variable_ok {v : Int} {σ : GS} {Post : DV → GS → Prop} (h : Post (.bool (isVar v)) σ) : GCall Try.prog F_aig_variable [.int .i64 v] σ Post := by
  refine gc_aig_variable ?_
  by_cases h1 : 1 ≤ v <;> simp [G_aig_variable, genv0, List.replicate, h1] <;> simpa [isVar, h1] using h
theorem aig_inputs_ok {ins : List Int} {σ : GS} {Post : DV → GS → Prop} (hl : ins.length < 2 ^ 50) (h : Post (.bool (insOk 0 ins)) σ) : GCall Try.prog F_aig_inputs [fints ins] σ Post := by
  refine gc_aig_inputs ?_
  simp [G_aig_inputs, genv0, List.replicate]
  refine gfor ins.length (fun i e σ' => σ' = σ ∧ ∃ last, insOk 0 ins = insOk last (ins.drop i) ∧ e = mkEnv 22 [(3, .int .i64 last), (6, fints ins), (7, .int .i64 ins.length), (8, .int .i64 i)]) _ ?_ ⟨rfl, 0, by simp, rfl⟩ ?_
  · simp [mkEnv, List.replicate]
  rintro i _ _ hi ⟨rfl, last, hI, rfl⟩
  simp [mkEnv, List.replicate]
  by_cases hlt : i < ins.length
  · obtain ⟨y, hy⟩ := nth_lt hlt
    rw [drop_get hy] at hI
    simp [hlt, hy]
    refine aig_variable_ok ?_
    by_cases h1 : isVar y = true
    · by_cases h2 : y ≤ last
      · have h3 : ¬ last < y := by omega
        simp [h1, h2]
        simpa [hI, insOk, h3] using h
      · have h3 : last < y := by omega
        simp [h1, h2, wrap_suc (show i < _ by omega)]
        exact forK_go _ hlt (by simp [mkEnv, List.replicate]) ⟨rfl, y, by simp [hI, insOk, h1, h3], rfl⟩
    · simp [h1]
      simpa [hI, insOk, h1] using h
  · have : i = ins.length := by omega
    subst this
    simp
    simpa [hI, insOk] using h
theorem aig_nodes_ok {g : AigP} {σ : GS} {Post : DV → GS → Prop} (hs : g.Sm) (h : Post (.int .i64 g.nodes) σ) : GCall Try.prog F_aig_nodes [g.enc] σ Post := by
  have h1 := hs.ins
  have h2 := hs.ands
  refine GCall.say (r := .int .i64 g.nodes) ?_ rfl h
  refine gc_aig_nodes ?_
  simp [G_aig_nodes, genv0, List.replicate]
  have e1 : IntKind.i64.wrap (1 + (g.ins.length : Int)) = 1 + g.ins.length := by rw [wrap_small] <;> omega
  rw [e1, wrap_small] <;> first | (simp [AigP.nodes]; done) | omega
theorem aig_May_ok {g : AigP} {σ : GS} {Post : DV → GS → Prop} (hs : g.Sm) (h : Post (.bool g.may) σ) : GCall Try.prog F_aig_May [g.enc] σ Post := by
  have h1 := hs.ins
  have h2 := hs.ands
  refine GCall.say (r := .bool g.may) ?_ rfl h
  refine gc_aig_May ?_
  simp [G_aig_May, genv0, List.replicate]
  refine aig_inputs_ok h1 ?_
  by_cases g1 : insOk 0 g.ins = true
  · simp [g1]
    refine aig_nodes_ok hs ?_
    by_cases g2 : (200000 : Int) < g.nodes
    · have : ¬ g.nodes ≤ 200000 := by omega
      simp [g2, AigP.may, this]
    · have g2' : g.nodes ≤ 200000 := by omega
      simp [g2]
      refine gfor g.ands.length (fun i e σ' => (∃ τ, σ' = σ ++ .row false [fints g.ins, fands g.ands] :: τ) ∧ g.may = andsOk (2 * (1 + g.ins.length + i)) (g.ands.drop i) ∧ e = mkEnv 46 [(1, .ptr σ.length 0), (16, fands g.ands), (17, .int .i64 g.ands.length), (18, .int .i64 i)]) _ ?_ ⟨⟨_, rfl⟩, by simp [AigP.may, g1, g2'], rfl⟩ ?_
      · simp [mkEnv, List.replicate]
      rintro i _ _ hi ⟨⟨τ, rfl⟩, hI, rfl⟩
      simp [mkEnv, List.replicate]
      by_cases hlt : i < g.ands.length
      · obtain ⟨p, hp⟩ := nth_lt hlt
        rw [drop_get hp] at hI
        have e1 : IntKind.i64.wrap (1 + (g.ins.length : Int)) = 1 + g.ins.length := by rw [wrap_small] <;> omega
        have e2 : IntKind.i64.wrap (1 + (g.ins.length : Int) + i) = 1 + g.ins.length + i := by rw [wrap_small] <;> omega
        have e3 : IntKind.i64.wrap (2 * (1 + (g.ins.length : Int) + i)) = 2 * (1 + g.ins.length + i) := by rw [wrap_small] <;> omega
        have hb : ∀ b : Bool, g.may = b → Post (.bool b) σ := fun b hb => hb ▸ h
        by_cases a1 : min p.1 p.2 < 0
        · have : (decide (0 ≤ p.1) && decide (0 ≤ p.2)) = false := by simp; omega
          simp [hlt, hp, a1]
          simpa [andsOk, this] using hI.symm
        · by_cases a2 : 2 * (1 + (g.ins.length : Int) + i) ≤ max p.1 p.2
          · have : (decide (p.1 < 2 * (1 + (g.ins.length : Int) + i)) && decide (p.2 < 2 * (1 + (g.ins.length : Int) + i))) = false := by simp; omega
            simp [hlt, hp, a1, e1, e2, e3, a2]
            rw [hI]
            simp only [andsOk, Bool.and_assoc]
            rw [← Bool.and_assoc (decide (p.1 < _)), this]
            simp
          · have h5 : 0 ≤ p.1 ∧ 0 ≤ p.2 ∧ p.1 < 2 * (1 + (g.ins.length : Int) + i) ∧ p.2 < 2 * (1 + (g.ins.length : Int) + i) := by omega
            simp [hlt, hp, a1, e1, e2, e3, a2, wrap_suc (show i < _ by omega)]
            refine forK_go _ hlt (by simp [mkEnv, List.replicate]) ⟨⟨_, rfl⟩, ?_, rfl⟩
            rw [hI]
            simp [andsOk, h5]
            congr 1
      · have : i = g.ands.length := by omega
        subst this
        simp
        simpa [andsOk] using hI
  · simp [g1, AigP.may]
theorem idx_func_ok {f : FuncId} {pre caps : List DV} {xs : List Int} {p : Int → Bool} {σ : GS} {Post : DV → GS → Prop} (hl : xs.length < 2 ^ 60)
    (hf : ∀ x ∈ xs, ∀ K : DV → GS → Prop, K (.bool (p x)) σ → GCall Try.prog f (pre ++ .int .i64 x :: caps) σ K) (h : Post (.int .i64 (idxF p 0 xs)) σ) :
    GCall Try.prog F_slices_IndexFunc_int_int [fints xs, .func f pre caps] σ Post := by
  refine gc_slices_IndexFunc_int_int ?_
  simp [G_slices_IndexFunc_int_int, genv0, List.replicate]
  refine gfor xs.length (fun i e σ' => σ' = σ ∧ idxF p 0 xs = idxF p i (xs.drop i) ∧ e = mkEnv 19 [(0, fints xs), (1, .func f pre caps), (7, .int .i64 xs.length), (8, .int .i64 i)]) _ ?_ ⟨rfl, by simp, rfl⟩ ?_
  · simp [mkEnv, List.replicate]
  rintro i _ _ hi ⟨rfl, hI, rfl⟩
  simp [mkEnv, List.replicate]
  by_cases hlt : i < xs.length
  · obtain ⟨y, hy⟩ := nth_lt hlt
    rw [drop_get hy] at hI
    simp [hlt, hy]
    refine hf y (List.mem_of_getElem? hy) _ ?_
    by_cases h1 : p y = true
    · simp [h1]
      simpa [hI, idxF, h1] using h
    · simp [h1, wrap_suc (show i < _ by omega)]
      exact forK_go _ hlt (by simp [mkEnv, List.replicate]) ⟨rfl, by simp [hI, idxF, h1], rfl⟩
  · have : i = xs.length := by omega
    subst this
    simp
    simpa [hI, idxF] using h
theorem contains_func_ok {f : FuncId} {pre caps : List DV} {xs : List Int} {p : Int → Bool} {σ : GS} {Post : DV → GS → Prop} (hl : xs.length < 2 ^ 60)
    (hf : ∀ x ∈ xs, ∀ K : DV → GS → Prop, K (.bool (p x)) σ → GCall Try.prog f (pre ++ .int .i64 x :: caps) σ K) (h : Post (.bool (xs.any p)) σ) :
    GCall Try.prog F_slices_ContainsFunc_int_int [fints xs, .func f pre caps] σ Post := by
  refine gc_slices_ContainsFunc_int_int ?_
  simp [G_slices_ContainsFunc_int_int, genv0, List.replicate]
  refine idx_func_ok hl hf ?_
  simp [idxF_any]
  exact h
theorem aig_all_1_ok {e last : Int} {id : Nat} {ro : Bool} {σ : GS} {Post : DV → GS → Prop} (hb : gload (.load 1 false) [.ptr id 0] σ = some (.int .i64 last)) (h : Post (.bool (decide (e < 0) || decide (last < e))) σ) : GCall Try.prog F_aig_all_1 [.int .i64 e, .ptr id 0] σ Post := by
  refine gc_aig_all_1 ?_
  by_cases h1 : e < 0
  · simp [G_aig_all_1, genv0, List.replicate, h1]
    simpa [h1] using h
  · simp [G_aig_all_1, genv0, List.replicate, h1, hb]
    simpa [h1] using h
theorem aig_all_ok {g : AigP} {l : List Int} {σ : GS} {Post : DV → GS → Prop} (hs : g.Sm) (hl : l.length < 2 ^ 60) (h : Post (.bool (g.all l)) σ) : GCall Try.prog F_aig_all [g.enc, fints l] σ Post := by
  have h1 := hs.ins
  have h2 := hs.ands
  refine GCall.say (r := .bool (g.all l)) ?_ rfl h
  refine gc_aig_all ?_
  simp [G_aig_all, genv0, List.replicate]
  refine aig_nodes_ok hs ?_
  have hn : g.nodes = 1 + g.ins.length + g.ands.length := rfl
  have e1 : IntKind.i64.wrap (2 * (g.nodes : Int)) = 2 * g.nodes := by rw [wrap_small] <;> omega
  have e2 : IntKind.i64.wrap (2 * (g.nodes : Int) - 1) = 2 * g.nodes - 1 := by rw [wrap_small] <;> omega
  simp [e1, e2]
  refine aig_May_ok hs ?_
  by_cases hm : g.may = true
  · simp [hm]
    refine contains_func_ok hl (p := fun e => decide (e < 0) || decide (2 * (g.nodes : Int) - 1 < e)) (fun x hx K hK => aig_all_1_ok (last := 2 * (g.nodes : Int) - 1) (ro := false) (by simp) hK) ?_
    simp
    rw [AigP.all, hm]
    simp only [Bool.true_and]
    congr 1
    rw [Bool.eq_iff_iff]
    simp [List.all_eq_true, AigP.has]
    constructor
    · rintro ⟨x, hx, hh⟩; exact ⟨x, hx, by omega⟩
    · rintro ⟨x, hx, hh⟩; exact ⟨x, hx, by omega⟩
  · simp [hm]
    simp [AigP.all, hm]
end Go.Gh
namespace Go.Gh
open Go.RowKit Go.Proofs
set_option linter.unusedVariables false
set_option linter.unusedSimpArgs false
theorem Own.other {α : Type} {n sz : Nat} {enc : α → List DV} {σ σ' : GS} {s : DV} {xs : List α} (h : Own n sz enc σ s xs) (hf : ∀ i, s.has i → σ'[i]? = σ[i]?) : Own n sz enc σ' s xs := h.fit hf
@[simp] theorem fill_pair (z0 z1 : DV) (k j : IntKind) (a b : Int) : gfill [(0, 1), (1, 1)] [z0, z1] [.int k a, .int j b] = some [.int k a, .int j b] := by simp [gfill, DV.cells, over]
/-- A maker in the heap, its parts named; nothing is said of its maps yet. -/
structure MkC (n : Nat) (σ : GS) (id : Nat) (m : Mk) (si sa : DV) (at_ in_ : Nat) (la : List ((Int × Int) × DV)) (li : List (Int × DV)) : Prop where
  ge : n ≤ id
  row : σ[id]? = some (.row false [.bool true, si, sa, .map at_, .map in_, .bool m.full])
  ins : Own n 1 eint σ si m.ins
  ands : Own n 2 eand σ sa m.ands
  atm : MpO kpair σ at_ la
  inm : MpO kint σ in_ li
  at_ge : n ≤ at_
  in_ge : n ≤ in_
  ne : at_ ≠ in_
  si_id : ¬ si.has id
  sa_id : ¬ sa.has id
  si_sa : ∀ i, si.has i → ¬ sa.has i
/-- A maker in the heap, its parts named. -/
structure MkR (n : Nat) (σ : GS) (id : Nat) (m : Mk) (si sa : DV) (at_ in_ : Nat) (la : List ((Int × Int) × DV)) (li : List (Int × DV)) : Prop extends MkC n σ id m si sa at_ in_ la li where
  ats : ∀ p, kget p la = if 0 ≤ m.at p.1 p.2 then some (kint (2 * (1 + m.ins.length + m.at p.1 p.2))) else none
  ins_ : ∀ v, kget v li = if 0 ≤ edgeOf m.ins v then some (kint (edgeOf m.ins v)) else none
/-- A maker in the heap, from object n on. -/
def MkO (n : Nat) (σ : GS) (id : Nat) (m : Mk) : Prop := ∃ si sa at_ in_ la li, MkR n σ id m si sa at_ in_ la li
/-- What belongs to a maker. -/
def Ft (σ : GS) (id i : Nat) : Prop := i = id ∨ ∃ b si sa at_ in_ f, σ[id]? = some (.row false [b, si, sa, .map at_, .map in_, f]) ∧ (i = at_ ∨ i = in_ ∨ si.has i ∨ sa.has i)
/-- A maker was changed, and nothing else. -/
structure Stp (σ : GS) (id : Nat) (σ' : GS) : Prop where
  len : σ.length ≤ σ'.length
  get : ∀ i, i < σ.length → ¬ Ft σ id i → σ'[i]? = σ[i]?
  ft : ∀ i, i < σ.length → ¬ Ft σ id i → ¬ Ft σ' id i
theorem Stp.refl (σ : GS) (id : Nat) : Stp σ id σ := ⟨Nat.le_refl _, fun _ _ _ => rfl, fun _ _ h => h⟩
theorem Stp.trans {a b c : GS} {id : Nat} (h : Stp a id b) (k : Stp b id c) : Stp a id c :=
  ⟨Nat.le_trans h.len k.len, fun i hi hf => (k.get i (by have := h.len; omega) (h.ft i hi hf)).trans (h.get i hi hf), fun i hi hf => k.ft i (by have := h.len; omega) (h.ft i hi hf)⟩
section
variable {n id at_ in_ : Nat} {σ σ' : GS} {m : Mk} {si sa : DV} {la : List ((Int × Int) × DV)} {li : List (Int × DV)}
theorem MkC.ft (h : MkC n σ id m si sa at_ in_ la li) (i : Nat) : Ft σ id i ↔ i = id ∨ i = at_ ∨ i = in_ ∨ si.has i ∨ sa.has i := by
  unfold Ft
  constructor
  · rintro (h1 | ⟨b, si', sa', at', in', f, h1, h2⟩)
    · exact .inl h1
    · rw [h.row] at h1; cases h1; exact .inr h2
  · rintro (h1 | h2)
    · exact .inl h1
    · exact .inr ⟨_, _, _, _, _, _, h.row, h2⟩
theorem MkC.dom (h : MkC n σ id m si sa at_ in_ la li) {i : Nat} (hi : Ft σ id i) : i < σ.length ∧ n ≤ i := by
  rcases (h.ft i).1 hi with rfl | rfl | rfl | h1 | h1
  · exact ⟨get_dom h.row, h.ge⟩
  · exact ⟨h.atm.dom, h.at_ge⟩
  · exact ⟨h.inm.dom, h.in_ge⟩
  · exact ⟨h.ins.has_lt h1, h.ins.has_ge h1⟩
  · exact ⟨h.ands.has_lt h1, h.ands.has_ge h1⟩
/-- Other objects may change. -/
theorem MkC.fit (h : MkC n σ id m si sa at_ in_ la li) (k : ∀ i, Ft σ id i → σ'[i]? = σ[i]?) : MkC n σ' id m si sa at_ in_ la li := by
  have k' : ∀ i, (i = id ∨ i = at_ ∨ i = in_ ∨ si.has i ∨ sa.has i) → σ'[i]? = σ[i]? := fun i hi => k i ((h.ft i).2 hi)
  exact ⟨h.ge, (k' id (.inl rfl)).trans h.row, h.ins.fit fun i hi => k' i (.inr (.inr (.inr (.inl hi)))), h.ands.fit fun i hi => k' i (.inr (.inr (.inr (.inr hi)))), h.atm.fit (k' _ (.inr (.inl rfl))), h.inm.fit (k' _ (.inr (.inr (.inl rfl)))), h.at_ge, h.in_ge, h.ne, h.si_id, h.sa_id, h.si_sa⟩
theorem MkR.fit (h : MkR n σ id m si sa at_ in_ la li) (k : ∀ i, Ft σ id i → σ'[i]? = σ[i]?) : MkR n σ' id m si sa at_ in_ la li := ⟨h.toMkC.fit k, h.ats, h.ins_⟩
theorem MpO.not_has {κ : Type} [DecidableEq κ] {ek : κ → DV} {l : List (κ × DV)} {α : Type} {sz : Nat} {enc : α → List DV} {s : DV} {xs : List α} {j : Nat} (h : MpO ek σ j l) (k : Own n sz enc σ s xs) : ¬ s.has j := fun hh => by
  obtain ⟨_, _, _, _, rfl⟩ := hh
  rcases k with ⟨h1, _⟩ | ⟨_, _, _, _, h1, h2, _⟩
  · cases h1
  · cases h1; obtain ⟨_, st, _, h3⟩ := h; rw [h2] at h3; cases h3
theorem MkC.at_id (h : MkC n σ id m si sa at_ in_ la li) : at_ ≠ id := fun e => by obtain ⟨_, st, _, h1⟩ := h.atm; rw [e, h.row] at h1; cases h1
theorem MkC.in_id (h : MkC n σ id m si sa at_ in_ la li) : in_ ≠ id := fun e => by obtain ⟨_, st, _, h1⟩ := h.inm; rw [e, h.row] at h1; cases h1
/-- A map of a maker is written. -/
theorem MkC.set_at (h : MkC n σ id m si sa at_ in_ la li) {o : GObj} {la' : List ((Int × Int) × DV)} (k : MpO kpair (σ.set at_ o) at_ la') : MkC n (σ.set at_ o) id m si sa at_ in_ la' li := by
  have hne : ∀ i, i ≠ at_ → (σ.set at_ o)[i]? = σ[i]? := fun i hi => List.getElem?_set_ne (Ne.symm hi)
  exact ⟨h.ge, (hne _ h.at_id.symm).trans h.row, h.ins.fit fun i hi => hne _ fun e => h.atm.not_has h.ins (e ▸ hi), h.ands.fit fun i hi => hne _ fun e => h.atm.not_has h.ands (e ▸ hi), k, h.inm.fit (hne _ h.ne.symm), h.at_ge, h.in_ge, h.ne, h.si_id, h.sa_id, h.si_sa⟩
theorem MkC.set_in (h : MkC n σ id m si sa at_ in_ la li) {o : GObj} {li' : List (Int × DV)} (k : MpO kint (σ.set in_ o) in_ li') : MkC n (σ.set in_ o) id m si sa at_ in_ la li' := by
  have hne : ∀ i, i ≠ in_ → (σ.set in_ o)[i]? = σ[i]? := fun i hi => List.getElem?_set_ne (Ne.symm hi)
  exact ⟨h.ge, (hne _ h.in_id.symm).trans h.row, h.ins.fit fun i hi => hne _ fun e => h.inm.not_has h.ins (e ▸ hi), h.ands.fit fun i hi => hne _ fun e => h.inm.not_has h.ands (e ▸ hi), h.atm.fit (hne _ h.ne), k, h.at_ge, h.in_ge, h.ne, h.si_id, h.sa_id, h.si_sa⟩
end
theorem MkO.fit {n id : Nat} {σ σ' : GS} {m : Mk} (h : MkO n σ id m) (k : ∀ i, Ft σ id i → σ'[i]? = σ[i]?) : MkO n σ' id m := by
  obtain ⟨si, sa, at_, in_, la, li, h⟩ := h
  exact ⟨_, _, _, _, _, _, h.fit k⟩
theorem MkO.dom {n id : Nat} {σ : GS} {m : Mk} (h : MkO n σ id m) {i : Nat} (hi : Ft σ id i) : i < σ.length ∧ n ≤ i := by
  obtain ⟨si, sa, at_, in_, la, li, h⟩ := h
  exact h.dom hi
theorem MkO.keep {n id : Nat} {σ σ' : GS} {m : Mk} (h : MkO n σ id m) (k : ∀ i, i < σ.length → σ'[i]? = σ[i]?) : MkO n σ' id m := h.fit fun i hi => k i (h.dom hi).1
theorem MkO.app {n id : Nat} {σ : GS} {m : Mk} (h : MkO n σ id m) (τ : GS) : MkO n (σ ++ τ) id m := h.keep fun i hi => List.getElem?_append_left hi
/-- What does not belong to a maker stays so. -/
theorem MkO.ft_eq {n id : Nat} {σ σ' : GS} {m : Mk} (h : MkO n σ id m) (k : σ'[id]? = σ[id]?) (i : Nat) : Ft σ' id i ↔ Ft σ id i := by
  unfold Ft; rw [k]
theorem MkO.stp {n id : Nat} {σ σ' : GS} {m : Mk} (h : MkO n σ id m) (hl : σ.length ≤ σ'.length) (k : ∀ i, i < σ.length → σ'[i]? = σ[i]?) : Stp σ id σ' := by
  refine ⟨hl, fun i hi _ => k i hi, fun i hi hf => ?_⟩
  rwa [h.ft_eq (k id (h.dom (.inl rfl)).1)]
/-- The parts of a maker, as a frozen graph. -/
theorem MkR.rd {n id at_ in_ : Nat} {σ : GS} {m : Mk} {si sa : DV} {la : List ((Int × Int) × DV)} {li : List (Int × DV)} (h : MkR n σ id m si sa at_ in_ la li) (ok : Nat → Prop) (hok : ∀ i, n ≤ i → ok i) : Rd σ ok (.agg [si, sa]) (AigP.enc ⟨m.ins, m.ands⟩) :=
  .agg (.cons (h.ins.rd (fun _ => rfl) hok) (.cons (h.ands.rd (fun _ => rfl) hok) .nil))
theorem nodes_live {n id at_ in_ : Nat} {σ : GS} {m : Mk} {si sa : DV} {la : List ((Int × Int) × DV)} {li : List (Int × DV)} {Post : DV → GS → Prop} (h : MkR n σ id m si sa at_ in_ la li) (hs : m.n < 2 ^ 40) (k : Post (.int .i64 m.n) σ) : GCall Try.prog F_aig_nodes [.agg [si, sa]] σ Post := by
  refine GCall.borrow (args' := [AigP.enc ⟨m.ins, m.ands⟩]) (r := .int .i64 m.n) (.cons (h.rd _ fun _ _ => trivial) .nil) (by simp) rfl ?_ k
  have hn : m.n = 1 + m.ins.length + m.ands.length := rfl
  exact aig_nodes_ok (g := ⟨m.ins, m.ands⟩) ⟨by show m.ins.length < _; omega, by show m.ands.length < _; omega⟩ rfl
theorem Mk.at_push (m : Mk) {a b : Int} (h : ¬ 0 ≤ m.at a b) (p : Int × Int) (f : Bool) :
    (Mk.mk m.ins (m.ands ++ [(a, b)]) f).at p.1 p.2 = if p = (a, b) then (m.ands.length : Int) else m.at p.1 p.2 := by
  unfold Mk.at at h ⊢
  rw [idxF_append]
  obtain ⟨x, y⟩ := p
  by_cases hp : (x, y) = (a, b)
  · cases hp
    rw [if_neg h, if_pos rfl]
    simp [idxF]
  · rw [if_neg hp]
    split
    · rfl
    · rename_i h1
      rw [idxF_neg h1]
      simp only [idxF]
      rw [if_neg (by simp; intro h1 h2; exact hp (by rw [h1, h2]))]
theorem aig_and_ok {n id : Nat} {m : Mk} {a b : Int} {σ : GS} {Post : DV → GS → Prop} (hm : MkO n σ id m) (ha0 : 0 ≤ a) (ha1 : a < 2 ^ 60) (hb0 : 0 ≤ b) (hb1 : b < 2 ^ 60) (hsz : m.n < 2 ^ 40)
    (k : ∀ σ', MkO n σ' id (m.conj a b).2 → Stp σ id σ' → Post (.int .i64 (m.conj a b).1) σ') : GCall Try.prog F_aig_Maker_and [.ptr id 0, .int .i64 a, .int .i64 b] σ Post := by
  have hm0 := hm
  obtain ⟨si, sa, at_, in_, la, li, h⟩ := hm
  have hid := get_dom h.row
  have hnn : n ≤ σ.length := by have := h.ge; omega
  have hxor := bits_xor_one (e := min a b) (by omega) (by omega)
  have hrow : ∀ j, gload (.load 1 false) [.ptr id j] σ = [DV.bool true, si, sa, .map at_, .map in_, .bool m.full][j]? := fun j => ld_at h.row
  have hagg : gload (.load 2 true) [.ptr id 1] σ = some (.agg [si, sa]) := by rw [ld_agg h.row]; rfl
  have hlk : gload (.lookup (.arr2 .i64) (.int .i64 0) true) [.map at_, .agg [.int .i64 (min a b), .int .i64 (max a b)]] σ = _ := h.atm.lookup (kt := .arr2 .i64) (min a b, max a b) (.int .i64 0) true
  rw [h.ats] at hlk
  have hmn : (m.n : Int) = 1 + m.ins.length + m.ands.length := by unfold Mk.n; omega
  refine gc_aig_Maker_and ?_
  simp [G_aig_Maker_and, genv0, List.replicate]
  by_cases c1 : min a b = 0
  · have e : m.conj a b = (0, m) := by unfold Mk.conj; rw [if_pos (.inl c1)]
    rw [e] at k
    simp [c1]
    exact k σ hm0 (.refl _ _)
  simp [c1, hxor]
  by_cases c2 : notE (min a b) = max a b
  · have e : m.conj a b = (0, m) := by unfold Mk.conj; rw [if_pos (.inr c2)]
    rw [e] at k
    simp [c2]
    exact k σ hm0 (.refl _ _)
  simp [c2]
  by_cases c3 : min a b = 1
  · have e : m.conj a b = (max a b, m) := by unfold Mk.conj; rw [if_neg (by simp [c1, c2]), if_pos (.inl c3)]
    rw [e] at k
    simp [c3]
    exact k σ hm0 (.refl _ _)
  simp [c3]
  by_cases c4 : min a b = max a b
  · have e : m.conj a b = (max a b, m) := by unfold Mk.conj; rw [if_neg (by simp [c1, c2]), if_pos (.inr c4)]
    rw [e] at k
    simp [c4]
    exact k σ hm0 (.refl _ _)
  simp [c4, hrow, hlk]
  by_cases c5 : 0 ≤ m.at (min a b) (max a b)
  · have e : m.conj a b = (2 * (1 + m.ins.length + m.at (min a b) (max a b)), m) := by unfold Mk.conj; rw [if_neg (by simp [c1, c2]), if_neg (by simp [c3, c4]), if_pos c5]
    rw [e] at k
    simp [c5]
    exact k σ hm0 (.refl _ _)
  simp [c5, hagg]
  refine nodes_live h hsz ?_
  by_cases c6 : 200000 ≤ m.n
  · have e : m.conj a b = (0, { m with full := true }) := by unfold Mk.conj; rw [if_neg (by simp [c1, c2]), if_neg (by simp [c3, c4]), if_neg c5, if_pos c6]
    rw [e] at k
    have hst : gimp (.store 1) [.ptr id 5, .bool true] σ = some (.tuple [], σ.set id (.row false [.bool true, si, sa, .map at_, .map in_, .bool true])) := by simp [gimp, h.row, DV.cells, over]
    have c6' : (200000 : Int) ≤ m.n := by omega
    simp [c6', hst]
    have hR : MkR n (σ.set id (.row false [.bool true, si, sa, .map at_, .map in_, .bool true])) id { m with full := true } si sa at_ in_ la li := by
      have hne : ∀ i, i ≠ id → (σ.set id (GObj.row false [.bool true, si, sa, .map at_, .map in_, .bool true]))[i]? = σ[i]? := fun i hi => List.getElem?_set_ne (Ne.symm hi)
      refine ⟨⟨h.ge, by rw [List.getElem?_set_self hid], h.ins.fit fun i hi => hne i fun e => h.si_id (e ▸ hi), h.ands.fit fun i hi => hne i fun e => h.sa_id (e ▸ hi), h.atm.fit (hne _ fun e => ?_), h.inm.fit (hne _ fun e => ?_), h.at_ge, h.in_ge, h.ne, h.si_id, h.sa_id, h.si_sa⟩, h.ats, h.ins_⟩
      · obtain ⟨_, st, _, h1⟩ := h.atm; rw [e, h.row] at h1; cases h1
      · obtain ⟨_, st, _, h1⟩ := h.inm; rw [e, h.row] at h1; cases h1
    refine k _ ⟨_, _, _, _, _, _, hR⟩ ⟨by simp, fun i hi hf => List.getElem?_set_ne fun e => hf (.inl e.symm), fun i hi hf hf' => hf ?_⟩
    exact (h.ft i).2 ((hR.ft i).1 hf')
  have c6' : ¬ (200000 : Int) ≤ m.n := by omega
  simp [c6', hagg]
  refine nodes_live h hsz ?_
  have ew : IntKind.i64.wrap (2 * (m.n : Int)) = 2 * m.n := by rw [wrap_small] <;> omega
  obtain ⟨s', σ1, q1, q2, q3, q4, q5, q6⟩ := h.ands.push (by_ := 16) (min a b, max a b) (fun _ => rfl) (by simp) hnn (by omega) (by decide)
  have hk1 : ∀ i, i < σ.length → ¬ sa.has i → σ1[i]? = σ[i]? := q5
  have hrow1 : σ1[id]? = some (.row false [.bool true, si, sa, .map at_, .map in_, .bool m.full]) := (hk1 id hid h.sa_id).trans h.row
  have hs'id : ¬ s'.has id := fun hh => by rcases q6 id hh with h1 | h1; exact h.sa_id h1; omega
  have hat1 : MpO kpair σ1 at_ la := h.atm.fit (hk1 _ h.atm.dom fun hh => by
    obtain ⟨_, _, _, _, rfl⟩ := hh
    rcases h.ands with ⟨h1, _⟩ | ⟨_, _, _, _, h1, h2, _⟩
    · cases h1
    · cases h1; obtain ⟨_, st, _, h3⟩ := h.atm; rw [h2] at h3; cases h3)
  have hin1 : MpO kint σ1 in_ li := h.inm.fit (hk1 _ h.inm.dom fun hh => by
    obtain ⟨_, _, _, _, rfl⟩ := hh
    rcases h.ands with ⟨h1, _⟩ | ⟨_, _, _, _, h1, h2, _⟩
    · cases h1
    · cases h1; obtain ⟨_, st, _, h3⟩ := h.inm; rw [h2] at h3; cases h3)
  have hst : gimp (.store 1) [.ptr id 2, s'] σ1 = some (.tuple [], σ1.set id (.row false [.bool true, si, s', .map at_, .map in_, .bool m.full])) := by
    simp [gimp, hrow1, cells_of_flat q2.flat, over, q2.flat]
  obtain ⟨σ2, hσ2⟩ : ∃ σ2, σ1.set id (.row false [.bool true, si, s', .map at_, .map in_, .bool m.full]) = σ2 := ⟨_, rfl⟩
  rw [hσ2] at hst
  have hne2 : ∀ i, i ≠ id → σ2[i]? = σ1[i]? := fun i hi => by rw [← hσ2]; exact List.getElem?_set_ne (Ne.symm hi)
  have hrow2 : σ2[id]? = some (.row false [.bool true, si, s', .map at_, .map in_, .bool m.full]) := by rw [← hσ2, List.getElem?_set_self (by omega)]
  have hat_id : at_ ≠ id := fun e => by obtain ⟨_, st, _, h1⟩ := h.atm; rw [e, h.row] at h1; cases h1
  have hin_id : in_ ≠ id := fun e => by obtain ⟨_, st, _, h1⟩ := h.inm; rw [e, h.row] at h1; cases h1
  have hat2 : MpO kpair σ2 at_ la := hat1.fit (hne2 _ hat_id)
  have hl2 : gload (.load 1 false) [.ptr id 3] σ2 = some (.map at_) := ld_at hrow2
  obtain ⟨o, ho1, ho2⟩ := hat2.set (kt := .arr2 .i64) (min a b, max a b) (.int .i64 (2 * m.n))
  replace ho1 : gimp (.mset (.arr2 .i64)) [.map at_, .agg [.int .i64 (min a b), .int .i64 (max a b)], .int .i64 (2 * m.n)] σ2 = _ := ho1
  simp [hrow, ew, q1, hst, hl2, ho1]
  have e : m.conj a b = (2 * (m.n : Int), { m with ands := m.ands ++ [(min a b, max a b)] }) := by unfold Mk.conj; rw [if_neg (by simp [c1, c2]), if_neg (by simp [c3, c4]), if_neg c5, if_neg c6]
  rw [e] at k
  have hne3 : ∀ i, i ≠ at_ → (σ2.set at_ o)[i]? = σ2[i]? := fun i hi => List.getElem?_set_ne (Ne.symm hi)
  have hat_lt := h.atm.dom
  have hin_lt := h.inm.dom
  have hR : MkR n (σ2.set at_ o) id { m with ands := m.ands ++ [(min a b, max a b)] } si s' at_ in_ (kset (min a b, max a b) (.int .i64 (2 * m.n)) la) li := by
    have hs'at : ¬ s'.has at_ := fun hh => by
      obtain ⟨_, _, _, _, rfl⟩ := hh
      rcases q2 with ⟨h1, _⟩ | ⟨_, _, _, _, h1, h2, _⟩
      · cases h1
      · cases h1; obtain ⟨_, st, _, h3⟩ := hat1; rw [h2] at h3; cases h3
    have hsiat : ∀ i, si.has i → i ≠ at_ := fun i hh e => by
      subst e
      obtain ⟨_, _, _, _, rfl⟩ := hh
      rcases h.ins with ⟨h1, _⟩ | ⟨_, _, _, _, h1, h2, _⟩
      · cases h1
      · cases h1; obtain ⟨_, st, _, h3⟩ := h.atm; rw [h2] at h3; cases h3
    refine ⟨⟨h.ge, by rw [hne3 _ hat_id.symm, hrow2], h.ins.fit fun i hi => ?_, q2.fit fun i hi => ?_, ho2, hin1.fit ?_, h.at_ge, h.in_ge, h.ne, h.si_id, hs'id, fun i hi hi' => ?_⟩, fun p => ?_, h.ins_⟩
    · rw [hne3 _ (hsiat i hi), hne2 _ (fun e => h.si_id (e ▸ hi)), hk1 _ (h.ins.has_lt hi) (h.si_sa i hi)]
    · rw [hne3 _ (fun e => hs'at (e ▸ hi)), hne2 _ (fun e => hs'id (e ▸ hi))]
    · rw [hne3 _ h.ne.symm, hne2 _ hin_id]
    · rcases q6 i hi' with h1 | h1
      · exact h.si_sa i hi h1
      · have := h.ins.has_lt hi; omega
    · rw [kget_set, Mk.at_push m c5, h.ats]
      by_cases hp : p = (min a b, max a b)
      · rw [if_pos hp, if_pos hp, if_pos (by omega)]
        show some (kint (2 * (m.n : Int))) = some (kint (2 * (1 + (m.ins.length : Int) + m.ands.length)))
        rw [hmn]
      · rw [if_neg hp, if_neg hp]
  refine k _ ⟨_, _, _, _, _, _, hR⟩ ⟨?_, fun i hi hf => ?_, fun i hi hf hf' => hf ?_⟩
  · have : σ2.length = σ1.length := by rw [← hσ2]; simp
    simp; omega
  · have hnf := fun hh => hf ((h.ft i).2 hh)
    rw [hne3 _ (fun e => hnf (.inr (.inl e))), hne2 _ (fun e => hnf (.inl e)), hk1 _ hi (fun hh => hnf (.inr (.inr (.inr (.inr hh)))))]
  · refine (h.ft i).2 ?_
    rcases (hR.ft i).1 hf' with h1 | h1 | h1 | h1 | h1
    · exact .inl h1
    · exact .inr (.inl h1)
    · exact .inr (.inr (.inl h1))
    · exact .inr (.inr (.inr (.inl h1)))
    · rcases q6 i h1 with h2 | h2
      · exact .inr (.inr (.inr (.inr h2)))
      · omega
end Go.Gh
namespace Go.Gh
open Go.RowKit Go.Proofs
set_option linter.unusedVariables false
set_option linter.unusedSimpArgs false
@[simp] theorem ga_b0 (sz : Nat) (z : List DV) : galloc (.bslice sz z 0 []) [] = some (.row false (gzeros z 0), fun id => .slice id 0 0 sz (some 0)) := by simp [galloc, gfill]
/-- A slice's capacity, where it is known, holds its length. -/
def CapOk (s : DV) : Prop := ∀ a b n z c, s = .slice a b n z (some c) → n ≤ c
theorem append_cap {sz by_ : Nat} {s x v : DV} {σ σ' : GS} (h : gappend sz by_ s x σ = some (v, σ')) (hs : CapOk s) : CapOk v := by
  unfold gappend at h
  repeat' (split at h)
  all_goals first | (cases h; done) | skip
  all_goals
    cases h
    first
    | exact hs
    | (intro a b n z c e; cases e; done)
    | (intro a b n z c e; cases e; assumption)
theorem clone_ok {s : DV} {xs : List Int} {n : Nat} {σ : GS} {Post : DV → GS → Prop} (hq : nilq s ≠ []) (hn : true ∈ nilq s → xs = []) (hr : ∀ τ, gread 1 s (σ ++ τ) = some (xs.flatMap eint)) (hg : glen s = xs.length) (hl : xs.length < 2 ^ 43) (hnn : n ≤ σ.length)
    (k : ∀ s' σ', Own n 1 eint σ' s' xs → Fr σ.length σ σ' → (∀ i, s'.has i → σ.length ≤ i) → CapOk s' → Post s' σ') : GCall Try.prog F_slices_Clone_int_int [s] σ Post := by
  refine gc_slices_Clone_int_int ?_
  simp [G_slices_Clone_int_int, genv0, List.replicate]
  refine eqn_any hq fun b hb => ?_
  cases b with
  | true =>
    have := hn hb
    subst this
    simp
    exact k .nils σ .nil (.refl (Nat.le_refl _)) (fun i ⟨_, _, _, _, e⟩ => by cases e) (fun _ _ _ _ _ e => by cases e)
  | false =>
    have h0 : Own σ.length 1 eint (σ ++ [.row false (gzeros [.int .i64 0] 0)]) (.slice σ.length 0 0 1 (some 0)) ([] : List Int) := .inr ⟨σ.length, some 0, [], Nat.le_refl _, by simp, by simp [gzeros], fun c hc => by cases hc; simp⟩
    obtain ⟨s', σ', q1, q2, q3, q4, q5, q6, _⟩ := h0.append (by_ := 8) (ys := xs) (x := s) (fun _ => rfl) (hr _) hg (fun y _ => by simp) (by simp) (by simp; omega) (by decide)
    simp [q1]
    refine k s' σ' (by simpa using q2.weaken hnn) (((Fr.refl (Nat.le_refl _)).app _).trans q3) (fun i hi => ?_) (append_cap (sz := 1) (by_ := 8) (s := .slice σ.length 0 0 1 (some 0)) q1 (fun _ _ _ _ _ e => by cases e; exact Nat.le_refl _))
    exact q2.has_ge hi
theorem clone_frz {xs : List Int} {n : Nat} {σ : GS} {Post : DV → GS → Prop} (hl : xs.length < 2 ^ 43) (hnn : n ≤ σ.length)
    (k : ∀ s' σ', Own n 1 eint σ' s' xs → Fr σ.length σ σ' → (∀ i, s'.has i → σ.length ≤ i) → CapOk s' → Post s' σ') : GCall Try.prog F_slices_Clone_int_int [fints xs] σ Post := by
  refine clone_ok ?_ ?_ (fun τ => ?_) (by simp [glen]) hl hnn k
  · simp only [nilq]; split <;> simp
  · simp only [nilq, List.length_map]; intro h; split at h
    · simp at h
    · exact List.length_eq_zero_iff.1 (by omega)
  · simp [gread, flatMap_flatten]
theorem clone2_ok {s : DV} {xs : List (Int × Int)} {n : Nat} {σ : GS} {Post : DV → GS → Prop} (hq : nilq s ≠ []) (hn : true ∈ nilq s → xs = []) (hr : ∀ τ, gread 2 s (σ ++ τ) = some (xs.flatMap eand)) (hg : glen s = xs.length) (hl : xs.length < 2 ^ 42) (hnn : n ≤ σ.length)
    (k : ∀ s' σ', Own n 2 eand σ' s' xs → Fr σ.length σ σ' → (∀ i, s'.has i → σ.length ≤ i) → Post s' σ') : GCall Try.prog F_slices_Clone__2_int__2_int [s] σ Post := by
  refine gc_slices_Clone__2_int__2_int ?_
  simp [G_slices_Clone__2_int__2_int, genv0, List.replicate]
  refine eqn_any hq fun b hb => ?_
  cases b with
  | true =>
    have := hn hb
    subst this
    simp
    exact k .nils σ .nil (.refl (Nat.le_refl _)) (fun i ⟨_, _, _, _, e⟩ => by cases e)
  | false =>
    have h0 : Own σ.length 2 eand (σ ++ [.row false (gzeros [.int .i64 0, .int .i64 0] 0)]) (.slice σ.length 0 0 2 (some 0)) ([] : List (Int × Int)) := .inr ⟨σ.length, some 0, [], Nat.le_refl _, by simp, by simp [gzeros], fun c hc => by cases hc; simp⟩
    obtain ⟨s', σ', q1, q2, q3, q4, q5, q6, _⟩ := h0.append (by_ := 16) (ys := xs) (x := s) (fun _ => rfl) (hr _) hg (fun y _ => by simp) (by simp) (by simp; omega) (by decide)
    simp [q1]
    refine k s' σ' (by simpa using q2.weaken hnn) (((Fr.refl (Nat.le_refl _)).app _).trans q3) (fun i hi => ?_)
    exact q2.has_ge hi
theorem clone2_frz {xs : List (Int × Int)} {n : Nat} {σ : GS} {Post : DV → GS → Prop} (hl : xs.length < 2 ^ 42) (hnn : n ≤ σ.length)
    (k : ∀ s' σ', Own n 2 eand σ' s' xs → Fr σ.length σ σ' → (∀ i, s'.has i → σ.length ≤ i) → Post s' σ') : GCall Try.prog F_slices_Clone__2_int__2_int [fands xs] σ Post := by
  refine clone2_ok ?_ ?_ (fun τ => ?_) (by simp [glen]) hl hnn k
  · simp only [nilq]; split <;> simp
  · simp only [nilq, List.length_map]; intro h; split at h
    · simp at h
    · exact List.length_eq_zero_iff.1 (by omega)
  · simp [gread, flatMap_flatten]
theorem edgeOf_push (l : List Int) (y v : Int) : edgeOf (l ++ [y]) v = if 0 ≤ edgeOf l v then edgeOf l v else if v = y then 2 * ((l.length : Int) + 1) else -1 := by
  unfold edgeOf
  rw [idxF_append]
  by_cases h : 0 ≤ idxF (fun x => decide (x = v)) 0 l
  · simp only [h, if_true]
    rw [if_pos (by omega)]
  · simp only [h, if_false]
    rw [if_neg (show ¬ (0 : Int) ≤ -1 by omega)]
    by_cases hv : v = y
    · subst hv; simp [idxF]
    · simp [idxF, hv, Ne.symm hv]
theorem edgeOf_none {l : List Int} {v : Int} : ¬ 0 ≤ edgeOf l v ↔ v ∉ l := by
  unfold edgeOf
  rcases idxF_cases (fun x => decide (x = v)) l 0 with ⟨h1, h2⟩ | ⟨i, x, h1, h2, h3, _⟩
  · rw [h1]
    constructor
    · intro _ hv; have := h2 v hv; simp at this
    · intro _; simp
  · rw [h1]
    simp at h3
    subst h3
    constructor
    · intro h; split at h <;> omega
    · intro h; exact absurd (List.mem_of_getElem? h2) h
theorem insOk_lt : ∀ {l : List Int} {s : Int}, insOk s l = true → ∀ x ∈ l, s < x
  | y :: l, s, h, x, hx => by
    simp only [insOk, Bool.and_eq_true, decide_eq_true_eq] at h
    rcases List.mem_cons.1 hx with rfl | hx
    · exact h.1.2
    · have := insOk_lt h.2 x hx; omega
theorem insOk_nodup : ∀ {l : List Int} {s : Int}, insOk s l = true → l.Nodup
  | [], _, _ => by simp
  | y :: l, s, h => by
    simp only [insOk, Bool.and_eq_true, decide_eq_true_eq] at h
    rw [List.nodup_cons]
    exact ⟨fun hm => by have := insOk_lt h.2 y hm; omega, insOk_nodup h.2⟩
theorem nodup_take {l : List Int} (h : l.Nodup) {i : Nat} {y : Int} (hy : l[i]? = some y) : y ∉ l.take i := by
  intro hm
  obtain ⟨j, hj⟩ := List.mem_iff_getElem?.1 hm
  rw [List.getElem?_take] at hj
  split at hj
  · rename_i hlt
    have h1 := (List.getElem?_eq_some_iff.1 hj)
    have h2 := (List.getElem?_eq_some_iff.1 hy)
    obtain ⟨a1, a2⟩ := h1; obtain ⟨b1, b2⟩ := h2
    have := (List.getElem_inj h (h₀ := a1) (h₁ := b1)).1 (a2.trans b2.symm)
    omega
  · cases hj
theorem nth_get {α : Type} {l : List α} {i : Nat} {x : α} (h : nth l i = some x) : l[i]? = some x := h
theorem fill_flat2 {z0 z1 a b : DV} (ha : a.flat = true) (hb : b.flat = true) : gfill [(0, 1), (1, 1)] [z0, z1] [a, b] = some [a, b] := by simp [gfill, cells_of_flat ha, cells_of_flat hb, over]
theorem aig_maker_ok {g : AigP} {σ : GS} {Post : DV → GS → Prop} (hs1 : g.ins.length < 2 ^ 40) (hs2 : g.ands.length < 2 ^ 40) (hnd : g.ins.Nodup)
    (k : ∀ σ', MkO σ.length σ' (σ.length + 3) ⟨g.ins, g.ands, false⟩ → Fr σ.length σ σ' → Post (.ptr (σ.length + 3) 0) σ') : GCall Try.prog F_aig_maker [g.enc] σ Post := by
  refine gc_aig_maker ?_
  simp [G_aig_maker, genv0, List.replicate, galloc, gfill, DV.cells, over]
  refine clone_frz (n := σ.length) (by omega) (by simp) fun s1 σ1 a1 a2 a3 _ => ?_
  have e1 : ∀ j, j < 4 → (gload (.load 1 false) [.ptr (σ.length + 0) j] σ1 = gload (.load 1 false) [.ptr (σ.length + 0) j] σ1) := fun _ _ => rfl
  simp at a2 a3
  have hB1 : σ1[σ.length]? = some (.row false [fints g.ins, fands g.ands]) := by rw [a2.get _ (by omega)]; simp
  have hat1 : σ1[σ.length + 1]? = some (.mp [] ([], 0)) := by rw [a2.get _ (by omega)]; simp
  have hin1 : σ1[σ.length + 2]? = some (.mp [] ([], 0)) := by rw [a2.get _ (by omega)]; simp
  have hm1 : σ1[σ.length + 3]? = some (.row false [.bool true, .nils, .nils, .map (σ.length + 1), .map (σ.length + 2), .bool false]) := by rw [a2.get _ (by omega)]; simp
  have hl1 : σ.length + 4 ≤ σ1.length := a2.len
  have hre : gload (.load 1 false) [.ptr σ.length 0] σ1 = some (fints g.ins) := by rw [ld_at hB1]; rfl
  have hre1 : gload (.load 1 false) [.ptr σ.length 1] σ1 = some (fands g.ands) := by rw [ld_at hB1]; rfl
  simp [hre, hre1]
  refine clone2_frz (n := σ.length) (by omega) (by omega) fun s2 σ2 b1 b2 b3 => ?_
  have keep2 : ∀ i, i < σ.length + 4 → σ2[i]? = σ1[i]? := fun i hi => b2.get i (by omega)
  have hl2 := b2.len
  have hB2 := (keep2 _ (by omega)).trans hB1
  have hm2 := (keep2 _ (by omega)).trans hm1
  have a1' : Own σ.length 1 eint σ2 s1 g.ins := a1.fr b2
  obtain ⟨σ3, hσ3⟩ : ∃ σ3, σ2.set (σ.length + 3) (.row false [.bool true, s1, s2, .map (σ.length + 1), .map (σ.length + 2), .bool false]) = σ3 := ⟨_, rfl⟩
  have hst : gimp (.store 2) [.ptr (σ.length + 3) 1, .agg [s1, s2]] σ2 = some (.tuple [], σ3) := by
    rw [← hσ3]; simp [gimp, hm2, DV.cells, over, a1.flat, b1.flat]
  have hne3 : ∀ i, i ≠ σ.length + 3 → σ3[i]? = σ2[i]? := fun i hi => by rw [← hσ3]; exact List.getElem?_set_ne (Ne.symm hi)
  have hl3 : σ3.length = σ2.length := by rw [← hσ3]; simp
  have hB3 := (hne3 _ (by omega)).trans hB2
  have hF3 : Fr σ.length σ σ3 := ⟨by omega, fun i hi => by rw [hne3 _ (by omega), keep2 _ (by omega), a2.get _ (by omega), List.getElem?_append_left hi]⟩
  have hC3 : MkC σ.length σ3 (σ.length + 3) ⟨g.ins, g.ands, false⟩ s1 s2 (σ.length + 1) (σ.length + 2) [] [] := by
    refine ⟨by omega, by rw [← hσ3, List.getElem?_set_self (by omega)], a1'.fit fun i hi => hne3 _ ?_, b1.fit fun i hi => hne3 _ ?_, ⟨by simp, ([], 0), ⟨rfl, by simp, by simp⟩, ?_⟩, ⟨by simp, ([], 0), ⟨rfl, by simp, by simp⟩, ?_⟩, by omega, by omega, by omega, fun hi => ?_, fun hi => ?_, fun i hi hi2 => ?_⟩
    · have := a3 i hi; omega
    · have := b3 i hi; omega
    · rw [hne3 _ (by omega), keep2 _ (by omega), hat1]; rfl
    · rw [hne3 _ (by omega), keep2 _ (by omega), hin1]; rfl
    · have := a3 _ hi; omega
    · have := b3 _ hi; omega
    · have := a1.has_lt hi; have := b3 i hi2; omega
  have hldB : gload (.load 1 false) [.ptr σ.length 0] σ3 = some (fints g.ins) := by rw [ld_at hB3]; rfl
  simp [hst, hldB, fill_flat2 a1.flat b1.flat]
  refine gfor g.ins.length (fun i e σ' => (∃ li, MkC σ.length σ' (σ.length + 3) ⟨g.ins, g.ands, false⟩ s1 s2 (σ.length + 1) (σ.length + 2) [] li ∧ (∀ v, kget v li = if 0 ≤ edgeOf (g.ins.take i) v then some (kint (edgeOf (g.ins.take i) v)) else none)) ∧ σ'[σ.length]? = some (.row false [fints g.ins, fands g.ands]) ∧ Fr σ.length σ σ' ∧ e = mkEnv 74 [(1, .ptr σ.length 0), (3, .ptr (σ.length + 3) 0), (25, fints g.ins), (26, .int .i64 g.ins.length), (27, .int .i64 i)]) _ ?_ ⟨⟨[], hC3, fun v => by simp [kget, edgeOf, idxF]⟩, hB3, hF3, rfl⟩ ?_
  · simp [mkEnv, List.replicate]
  clear hst hldB hC3 hF3 hB3 hl3 hne3 hσ3 hm2 hB2 keep2 hl2 a1' hre hre1 hl1 hm1 hin1 hat1 hB1 e1
  rintro i _ σ' hi ⟨⟨li, hC, hli⟩, hB, hF, rfl⟩
  simp [mkEnv, List.replicate]
  by_cases hlt : i < g.ins.length
  · obtain ⟨y, hy⟩ := nth_lt hlt
    have hy' := nth_get hy
    have hfld : gload (.load 1 false) [.ptr (σ.length + 3) 4] σ' = some (.map (σ.length + 2)) := ld_at hC.row
    have ew : IntKind.i64.wrap (2 * ((i : Int) + 1)) = 2 * ((i : Int) + 1) := by rw [wrap_small] <;> omega
    obtain ⟨o, ho1, ho2⟩ := hC.inm.set (kt := .int .i64) y (.int .i64 (2 * ((i : Int) + 1)))
    replace ho1 : gimp (.mset (.int .i64)) [.map (σ.length + 2), .int .i64 y, .int .i64 (2 * ((i : Int) + 1))] σ' = _ := ho1
    have es : IntKind.i64.wrap ((i : Int) + 1) = (i : Int) + 1 := by rw [wrap_small] <;> omega
    simp [hlt, hy, hfld, es, ew, ho1]
    refine forK_go _ hlt (by simp [mkEnv, List.replicate]) ⟨⟨_, hC.set_in ho2, fun v => ?_⟩, ?_, ?_, rfl⟩
    · rw [kget_set, take_get hy', edgeOf_push, hli]
      have hno := nodup_take hnd hy'
      by_cases hv : v = y
      · subst hv
        rw [if_pos rfl, if_neg (edgeOf_none.2 hno), if_pos rfl, if_pos (by omega), List.length_take, Nat.min_eq_left (Nat.le_of_lt hlt)]
      · rw [if_neg hv]
        by_cases h1 : 0 ≤ edgeOf (g.ins.take i) v
        · simp [h1]
        · simp [h1, hv]
    · rw [List.getElem?_set_ne (by omega)]; exact hB
    · exact hF.set (by omega) _
  · have : i = g.ins.length := by omega
    subst this
    rw [List.take_length] at hli
    have hldB : gload (.load 1 false) [.ptr σ.length 1] σ' = some (fands g.ands) := by rw [ld_at hB]; rfl
    simp [hldB]
    refine gfor g.ands.length (fun i e σ' => (∃ la, MkC σ.length σ' (σ.length + 3) ⟨g.ins, g.ands, false⟩ s1 s2 (σ.length + 1) (σ.length + 2) la li ∧ (∀ p, kget p la = if 0 ≤ (Mk.mk g.ins (g.ands.take i) false).at p.1 p.2 then some (kint (2 * (1 + g.ins.length + (Mk.mk g.ins (g.ands.take i) false).at p.1 p.2))) else none)) ∧ σ'[σ.length]? = some (.row false [fints g.ins, fands g.ands]) ∧ Fr σ.length σ σ' ∧ e = mkEnv 74 [(1, .ptr σ.length 0), (3, .ptr (σ.length + 3) 0), (42, fands g.ands), (43, .int .i64 g.ands.length), (44, .int .i64 i)]) _ ?_ ⟨⟨[], hC, fun p => by simp [kget, Mk.at, idxF]⟩, hB, hF, rfl⟩ ?_
    · simp [mkEnv, List.replicate]
    clear hC hB hF hldB hlt hi σ'
    rintro i _ σ' hi ⟨⟨la, hC, hla⟩, hB, hF, rfl⟩
    simp [mkEnv, List.replicate]
    by_cases hlt : i < g.ands.length
    · obtain ⟨p, hp⟩ := nth_lt hlt
      have hp' := nth_get hp
      obtain ⟨X, hX⟩ : ∃ X, [GObj.row false [.int .i64 p.1, .int .i64 p.2]] = X := ⟨_, rfl⟩
      have hC' : MkC σ.length (σ' ++ X) (σ.length + 3) ⟨g.ins, g.ands, false⟩ s1 s2 (σ.length + 1) (σ.length + 2) la li := hC.fit fun i hi => List.getElem?_append_left (hC.dom hi).1
      have hfld : gload (.load 1 false) [.ptr (σ.length + 3) 3] (σ' ++ X) = some (.map (σ.length + 1)) := ld_at hC'.row
      have hlk : gload (.lookup (.arr2 .i64) (.int .i64 0) true) [.map (σ.length + 1), .agg [.int .i64 p.1, .int .i64 p.2]] (σ' ++ X) = _ := hC'.atm.lookup (kt := .arr2 .i64) p (.int .i64 0) true
      rw [hla] at hlk
      have hB' : (σ' ++ X)[σ.length]? = some (.row false [fints g.ins, fands g.ands]) := getE_append hB
      have hldB : gload (.load 1 false) [.ptr σ.length 0] (σ' ++ X) = some (fints g.ins) := by rw [ld_at hB']; rfl
      have hpair : gload (.load 2 true) [.ptr σ'.length 0] (σ' ++ X) = some (.agg [.int .i64 p.1, .int .i64 p.2]) := by rw [← hX]; simp
      have es : IntKind.i64.wrap ((i : Int) + 1) = (i : Int) + 1 := by rw [wrap_small] <;> omega
      simp [hlt, hp]
      rw [hX]
      by_cases c : 0 ≤ (Mk.mk g.ins (g.ands.take i) false).at p.1 p.2
      · simp [hfld, hlk, hpair, c, es]
        refine forK_go _ hlt (by simp [mkEnv, List.replicate]) ⟨⟨la, hC', fun q => ?_⟩, hB', hF.app _, rfl⟩
        have hsame : (Mk.mk g.ins (g.ands.take (i + 1)) false).at q.1 q.2 = (Mk.mk g.ins (g.ands.take i) false).at q.1 q.2 := by
          unfold Mk.at
          simp only [take_get hp']
          rw [idxF_append]
          split
          · rfl
          · rename_i h1
            have hq : ¬ p = (q.1, q.2) := fun e => h1 (by subst e; exact c)
            rw [idxF_neg h1]
            simp [idxF, hq]
        rw [hsame, hla]
      · have e1 : IntKind.i64.wrap (1 + (g.ins.length : Int)) = 1 + g.ins.length := by rw [wrap_small] <;> omega
        have e2 : IntKind.i64.wrap (1 + (g.ins.length : Int) + i) = 1 + g.ins.length + i := by rw [wrap_small] <;> omega
        have e3 : IntKind.i64.wrap (2 * (1 + (g.ins.length : Int) + i)) = 2 * (1 + g.ins.length + i) := by rw [wrap_small] <;> omega
        obtain ⟨o, ho1, ho2⟩ := hC'.atm.set (kt := .arr2 .i64) p (.int .i64 (2 * (1 + g.ins.length + i)))
        replace ho1 : gimp (.mset (.arr2 .i64)) [.map (σ.length + 1), .agg [.int .i64 p.1, .int .i64 p.2], .int .i64 (2 * (1 + g.ins.length + i))] (σ' ++ X) = _ := ho1
        simp [hfld, hlk, hpair, c, hldB, e1, e2, e3, ho1, es]
        refine forK_go _ hlt (by simp [mkEnv, List.replicate]) ⟨⟨_, hC'.set_at ho2, fun q => ?_⟩, ?_, ?_, rfl⟩
        · have hpush := Mk.at_push (Mk.mk g.ins (g.ands.take i) false) c q false
          simp only at hpush
          rw [kget_set, take_get hp', hpush, hla]
          have hpp : (p.1, p.2) = p := rfl
          rw [hpp]
          by_cases hq : q = p
          · rw [if_pos hq, if_pos hq, List.length_take, Nat.min_eq_left (Nat.le_of_lt hlt), if_pos (by omega)]
          · rw [if_neg hq, if_neg hq]
        · rw [List.getElem?_set_ne (by omega)]; exact hB'
        · exact (hF.app _).set (by omega) _
    · have : i = g.ands.length := by omega
      subst this
      rw [List.take_length] at hla
      simp
      exact k _ ⟨_, _, _, _, _, _, hC, hla, hli⟩ hF
theorem aig_own_ok {n id : Nat} {m : Mk} {v : Int} {σ : GS} {Post : DV → GS → Prop} (hm : MkO n σ id m) (k : Post (.int .i64 (max (edgeOf m.ins v) 0)) σ) : GCall Try.prog F_aig_Maker_own [.ptr id 0, .int .i64 v] σ Post := by
  obtain ⟨si, sa, at_, in_, la, li, h⟩ := hm
  refine gc_aig_Maker_own ?_
  have hfld : gload (.load 1 false) [.ptr id 4] σ = some (.map in_) := ld_at h.row
  have hlk : gload (.lookup (.int .i64) (.int .i64 0) false) [.map in_, .int .i64 v] σ = _ := h.inm.lookup (kt := .int .i64) v (.int .i64 0) false
  rw [h.ins_] at hlk
  by_cases c : 0 ≤ edgeOf m.ins v
  · rw [if_pos c] at hlk
    rw [Int.max_eq_left c] at k
    simp [G_aig_Maker_own, genv0, List.replicate, hfld, hlk]
    exact k
  · rw [if_neg c] at hlk
    rw [Int.max_eq_right (by omega)] at k
    simp [G_aig_Maker_own, genv0, List.replicate, hfld, hlk]
    exact k
end Go.Gh
namespace Go.Gh
open Go.RowKit Go.Proofs
set_option linter.unusedVariables false
set_option linter.unusedSimpArgs false
theorem mslice_bools {n : Nat} (h : n < 2 ^ 40) (k j : IntKind) : galloc (.mslice 1 1 [.bool false]) [.int k (n : Int), .int j (n : Int)] = some (.row false (bools (List.replicate n false)), fun id => .slice id 0 n 1 (some n)) := by
  simp only [galloc]
  rw [if_pos (by omega)]
  simp [gzeros, bools]
theorem mslice_ints {n : Nat} (h : n < 2 ^ 40) (k j : IntKind) : galloc (.mslice 1 8 [.int .i64 0]) [.int k (n : Int), .int j (n : Int)] = some (.row false (ints (List.replicate n 0)), fun id => .slice id 0 n 1 (some n)) := by
  simp only [galloc]
  rw [if_pos (by omega)]
  simp [gzeros, ints]
/-- An index that is a half. -/
theorem iaddr_half {id n : Nat} {e : Int} {k : IntKind} {cap : Option Nat} (h0 : 0 ≤ e) (h1 : e < 2 * n) : gpure (.iaddr 1) [.slice id 0 n 1 cap, .int k (e / 2)] = some (.ptr id (e / 2).toNat) := by
  have := iaddr_own (id := id) (n := n) (sz := 1) (i := (e / 2).toNat) (k := k) (cap := cap) (by omega)
  rw [show (((e / 2).toNat : Nat) : Int) = e / 2 by omega] at this
  simpa using this
theorem backward_ok {l : List (Int × Int)} {σ : GS} {Post : DV → GS → Prop} (k : Post (.func F_slices_Backward__2_int__2_int_1 [] [.fptr [fands l]]) σ) : GCall Try.prog F_slices_Backward__2_int__2_int [fands l] σ Post := by
  refine GCall.pure (r := .func F_slices_Backward__2_int__2_int_1 [] [.fptr [fands l]]) ?_ (by have := closed_fands l; simp [DV.closed, closeds] at this ⊢; exact this) k
  refine gc_slices_Backward__2_int__2_int ?_
  simp [G_slices_Backward__2_int__2_int, genv0, List.replicate]
  exact .func .nil (.cons (.ptr (id := σ.length) (off := 0) (ro := false) (cs := [fands l]) (.inl (Nat.le_refl _)) (by simp) (.cons (.same _) .nil)) .nil)
theorem back1_ok {l : List (Int × Int)} {L : Nat} {σ : GS} {Post : DV → GS → Prop} (hl : l.length < 2 ^ 50) (I : Nat → GS → Prop) (h0 : I l.length σ)
    (hr : ∀ i p σ', l[i]? = some p → I (i + 1) σ' → GRound Try.prog L [.int .i64 i, kpair p] σ' fun v σ'' => v = .bool true ∧ I i σ'')
    (k : ∀ σ', I 0 σ' → Post (.tuple []) σ') : GCall Try.prog F_slices_Backward__2_int__2_int_1 [.yield L, .fptr [fands l]] σ Post := by
  refine gc_slices_Backward__2_int__2_int_1 ?_
  have ew : ∀ i : Nat, i ≤ l.length → IntKind.i64.wrap ((i : Int) - 1) = (i : Int) - 1 := fun i hi => by rw [wrap_small] <;> omega
  simp [G_slices_Backward__2_int__2_int_1, genv0, List.replicate, ew]
  refine gwhile (mkEnv 19 [(0, .yield L), (1, .fptr [fands l]), (3, .int .i64 ((l.length : Int) - 1))]) l.length (fun n e σ' => n ≤ l.length ∧ I n σ' ∧ e = mkEnv 19 [(0, .yield L), (1, .fptr [fands l]), (3, .int .i64 ((n : Int) - 1))]) ?_ ⟨Nat.le_refl _, h0, rfl⟩ ?_
  · simp [mkEnv, List.replicate]
  rintro n _ σ' ⟨hn, hI, rfl⟩
  simp [mkEnv, List.replicate]
  cases n with
  | zero =>
    simp
    exact k σ' hI
  | succ i =>
    obtain ⟨p, hp⟩ := nth_lt (l := l) (i := i) (by omega)
    have h1 : (0 : Int) ≤ ((i + 1 : Nat) : Int) - 1 := by omega
    have e1 : (((i + 1 : Nat) : Int) - 1) = i := by omega
    have e2 := ew i (by omega)
    have h2 : (1 : Int) ≤ (i : Int) + 1 := by omega
    have e3 : (i : Int) + 1 - 1 = i := by omega
    simp [h2, e3, hp]
    refine (hr i p σ' hp hI).mono ?_
    rintro v σ'' ⟨rfl, hI'⟩
    simp [e2]
    exact whK_go i _ (by omega) (by simp [mkEnv, List.replicate]) ⟨by omega, hI', rfl⟩
theorem set_tail {α : Type} (l τ : List α) (k : Nat) (x : α) : (l ++ τ).set (l.length + k) x = l ++ τ.set k x := by rw [List.set_append_right _ _ (by omega)]; simp
theorem rangeB_intro {P : Program} {bf : FuncId} {first caps : List DV} {env : Env} {σ : GS} {c : Bx (List Tmp × Code × Code)} {k : Bx (Exit → Env → GS → Prop)} (h : GCall P bf (first ++ [.yield σ.length] ++ caps) (σ ++ [.loop (lgR env c.val.1 c.val.2.1 c.val.2.2)]) fun _ σ' => grange σ.length env k.val σ') : @rangeB P (.func bf first caps) env σ c k := h
theorem grange_normal {id : Nat} {env e0 : Env} {ps : List Tmp} {a b : Code} {Q : Exit → Env → GS → Prop} {σ : GS} (h : σ[id]? = some (.loop (lgR e0 ps a b))) (k : Q .normal env (σ.set id (.loop ⟨e0, ps, a, b, .exhausted, none⟩))) : grange id env Q σ := ⟨_, h, by simp [lgR], k⟩
@[simp] theorem asgK_normal (P : Program) (id : Nat) (b : Bx GCode) (Post : Bx (DV → GS → Prop)) (env : Env) (σ : GS) : @asgK P id b Post .normal env σ = ∃ lg1, σ[id]? = some (.loop lg1) ∧ lg1.st = .ready ∧ @exB P b env (σ.set id (.loop { lg1 with st := .busy })) ⟨@roundK id Post⟩ := by simp [asgK]
theorem reached_round {σ : GS} {n base : Nat} {ands : List (Int × Int)} {A : GObj} {env : Env} {m : List Bool} {τ : GS} {i : Nat} {p : Int × Int} {Post : DV → GS → Prop}
    (hlen : env.length = 51) (h5 : env[5]? = some (.ptr (σ.length + 2) 0)) (h8 : env[8]? = some (.ptr (σ.length + 3) 0)) (hm : m.length = n) (hn : n < 2 ^ 40) (hi : base + i < n) (hp : ands[i]? = some p) (p1 : 0 ≤ p.1) (p2 : 0 ≤ p.2) (q1 : p.1 < 2 * n) (q2 : p.2 < 2 * n)
    (k : ∀ τ', Post (.bool true) (σ ++ (A :: .row false (bools (rcStep base ands m i)) :: .row false [.slice (σ.length + 1) 0 n 1 (some n)] :: .row false [.int .i64 base] :: .loop (lgR env [32, 33] (rngA Try.f35 0) (rngB Try.f35 0)) :: τ'))) :
    GRound Try.prog (σ.length + 4) [.int .i64 i, kpair p] (σ ++ (A :: .row false (bools m) :: .row false [.slice (σ.length + 1) 0 n 1 (some n)] :: .row false [.int .i64 base] :: .loop (lgR env [32, 33] (rngA Try.f35 0) (rngB Try.f35 0)) :: τ)) Post := by
  have hg : ands.getD i (0, 0) = p := by rw [List.getD_eq_getElem?_getD, hp]; rfl
  have ew : IntKind.i64.wrap ((base : Int) + i) = ((base + i : Nat) : Int) := by rw [wrap_small] <;> omega
  obtain ⟨b, hb⟩ := nth_lt (l := m) (i := base + i) (by omega)
  have hb' : m[base + i]? = some b := hb
  have hia := iaddr_own (id := σ.length + 1) (n := n) (sz := 1) (i := base + i) (k := .i64) (cap := some n) hi
  have hi1 := iaddr_half (id := σ.length + 1) (n := n) (e := p.1) (k := .i64) (cap := some n) p1 (by omega)
  have hi2 := iaddr_half (id := σ.length + 1) (n := n) (e := p.2) (k := .i64) (cap := some n) p2 (by omega)
  simp at hia
  refine round_of (env := env) (ps := [32, 33]) (a := rngA Try.f35 0) (b := rngB Try.f35 0) seatfollows (by simp) ca_aig_reached_0 cb_aig_reached_0 rfl ?_
  have hgd : m.getD (base + i) false = b := by rw [List.getD_eq_getElem?_getD, hb']; rfl
  have h5' : ∀ h, env[5]'h = .ptr (σ.length + 2) 0 := fun h => by rw [List.getElem?_eq_getElem h] at h5; exact Option.some.inj h5
  have h8' : ∀ h, env[8]'h = .ptr (σ.length + 3) 0 := fun h => by rw [List.getElem?_eq_getElem h] at h8; exact Option.some.inj h8
  simp [GA_aig_reached_0, GB_aig_reached_0, putAll, List.getElem?_set, hlen, h5', h8', lgR, ew, hia, hb']
  cases b with
  | false =>
    simp
    refine roundK_normal (e0 := env) (ps := [32, 33]) (a := rngA Try.f35 0) (b := rngB Try.f35 0) (by simp) ?_
    rw [set_tail]
    have e : rcStep base ands m i = m := by unfold rcStep; rw [hgd]; rfl
    rw [e] at k
    simpa [lgR] using k _
  | true =>
    have s1 : (p.1 / 2).toNat < m.length := by omega
    have s2 : (p.2 / 2).toNat < m.length := by omega
    simp [List.getElem?_set, hlen, h5', h8', -gb_shr, shr_one p1, shr_one p2, hi1, hi2, s1, s2]
    refine roundK_normal (e0 := env) (ps := [32, 33]) (a := rngA Try.f35 0) (b := rngB Try.f35 0) (by simp) ?_
    rw [set_tail]
    have e : rcStep base ands m i = (m.set (p.1 / 2).toNat true).set (p.2 / 2).toNat true := by unfold rcStep; rw [hgd, hg]; rfl
    rw [e] at k
    simpa [List.map_set, lgR] using k _
theorem marks_cons (e : Int) (l : List Int) (m : List Bool) : marks m (e :: l) = marks (m.set (e / 2).toNat true) l := rfl
theorem aig_reached_ok {g : AigP} {l : List Int} {σ : GS} {Post : DV → GS → Prop} (hm : g.may = true) (hl : l.length < 2 ^ 50) (he : ∀ e ∈ l, 0 ≤ e ∧ e < 2 * g.nodes) (h : Post (fbools (g.reach l)) σ) : GCall Try.prog F_aig_reached [g.enc, fints l] σ Post := by
  have hnn := AigP.may_nodes hm
  have hn : g.nodes = 1 + g.ins.length + g.ands.length := rfl
  have hs : g.Sm := ⟨by omega, by omega⟩
  have hok : ∀ {i : Nat} {p : Int × Int}, g.ands[i]? = some p → _ := fun {i p} h => andsOk_get (AigP.may_ands hm) (i := i) (p := p) h
  obtain ⟨n, hne⟩ : ∃ n, g.nodes = n := ⟨_, rfl⟩
  obtain ⟨base, hbase⟩ : ∃ b, 1 + g.ins.length = b := ⟨_, rfl⟩
  refine GCall.pure (r := fbools (g.reach l)) ?_ (by simp) h
  refine gc_aig_reached ?_
  simp [G_aig_reached, genv0, List.replicate]
  refine aig_nodes_ok hs ?_
  rw [hne] at he ⊢
  simp [mslice_bools (show n < 2 ^ 40 by omega)]
  have hr0 : List.replicate n (DV.bool false) = bools (List.replicate n false) := by simp [bools]
  rw [hr0]
  obtain ⟨A, hA⟩ : ∃ A, GObj.row false [fints g.ins, fands g.ands] = A := ⟨_, rfl⟩
  obtain ⟨B, hB⟩ : ∃ B, GObj.row false [.slice (σ.length + 1) 0 n 1 (some n)] = B := ⟨_, rfl⟩
  rw [hA, hB]
  refine gfor l.length (fun i e σ' => (∃ m, σ' = σ ++ (A :: .row false (bools m) :: B :: []) ∧ m.length = n ∧ marks m (l.drop i) = marks (List.replicate n false) l) ∧ e = mkEnv 51 [(2, .ptr σ.length 0), (5, .ptr (σ.length + 2) 0), (14, fints l), (15, .int .i64 l.length), (16, .int .i64 i)]) _ ?_ ⟨⟨List.replicate n false, by simp, by simp, rfl⟩, rfl⟩ ?_
  · simp [mkEnv, List.replicate]
  rintro i _ _ hi ⟨⟨m, rfl, hml, hI⟩, rfl⟩
  simp [mkEnv, List.replicate]
  by_cases hlt : i < l.length
  · obtain ⟨y, hy⟩ := nth_lt hlt
    have hy' := nth_get hy
    obtain ⟨y0, y1⟩ := he y (List.mem_of_getElem? hy')
    have hi1 := iaddr_half (id := σ.length + 1) (n := n) (e := y) (k := .i64) (cap := some n) y0 (by omega)
    have s1 : (y / 2).toNat < m.length := by omega
    rw [drop_get hy', marks_cons] at hI
    have es : IntKind.i64.wrap ((i : Int) + 1) = (i : Int) + 1 := by rw [wrap_small] <;> omega
    simp [hlt, hy, ← hB, -gb_shr, shr_one y0, hi1, s1, es]
    exact forK_go _ hlt (by simp [mkEnv, List.replicate]) ⟨⟨_, by simp [List.map_set, hB], by simp [hml], hI⟩, rfl⟩
  · have : i = l.length := by omega
    subst this
    rw [List.drop_length] at hI
    have hI' : m = marks (List.replicate n false) l := hI
    have e1 : IntKind.i64.wrap (1 + (g.ins.length : Int)) = ((base : Nat) : Int) := by rw [wrap_small] <;> omega
    have hld : ∀ τ, gload (.load 1 false) [.ptr σ.length 0] (σ ++ A :: τ) = some (fints g.ins) := fun τ => by simp [← hA]
    have hld1 : ∀ τ, gload (.load 1 false) [.ptr σ.length 1] (σ ++ A :: τ) = some (fands g.ands) := fun τ => by simp [← hA]
    simp [hld, hld1, e1]
    refine backward_ok ?_
    simp
    refine rangeB_intro ?_
    simp
    have hfin : rcDown base g.ands g.ands.length m = g.reach l := by rw [hI']; unfold AigP.reach; rw [hbase, hne]
    refine back1_ok (by omega) (fun i σ' => ∃ env m τ, env.length = 51 ∧ env[5]? = some (DV.ptr (σ.length + 2) 0) ∧ env[8]? = some (DV.ptr (σ.length + 3) 0) ∧ σ' = σ ++ (A :: .row false (bools m) :: B :: .row false [.int .i64 base] :: .loop (lgR env [32, 33] (rngA Try.f35 0) (rngB Try.f35 0)) :: τ) ∧ m.length = n ∧ rcDown base g.ands i m = g.reach l) ⟨_, m, [], ?_, ?_, ?_, rfl, hml, hfin⟩ ?_ ?_
    · simp
    · simp
    · simp
    · rintro i p _ hp ⟨env, m', τ, k1, k2, k3, rfl, k4, k5⟩
      obtain ⟨p1, p2, p3, p4⟩ := hok hp
      have hlt := get_dom hp
      rw [← hB]
      refine reached_round k1 k2 k3 k4 (by omega) (by omega) hp p1 p2 (by omega) (by omega) fun τ' => ⟨rfl, env, rcStep base g.ands m' i, τ', k1, k2, k3, rfl, by rw [rcStep_len, k4], k5⟩
    · rintro _ ⟨env, m', τ, k1, k2, k3, rfl, k4, k5⟩
      have k5' : m' = g.reach l := k5
      subst k5'
      refine grange_normal (e0 := env) (ps := [32, 33]) (a := rngA Try.f35 0) (b := rngB Try.f35 0) (by simp) ?_
      rw [set_tail]
      simp [← hB]
      subst k4
      exact rd_bools (ro := false) (by simp) (.inl (by omega))
end Go.Gh
namespace Go.Gh
open Go.RowKit Go.Proofs
set_option linter.unusedVariables false
set_option linter.unusedSimpArgs false
theorem each_ok {f : FuncId} {pre caps : List DV} {l : List Int} {c : Int → Int} {σ : GS} {Post : DV → GS → Prop} (hl : l.length < 2 ^ 40)
    (hf : ∀ x ∈ l, ∀ (σ' : GS) (K : DV → GS → Prop), K (.int .i64 (c x)) σ' → GCall Try.prog f (pre ++ .int .i64 x :: caps) σ' K) (h : Post (fints (l.map c)) σ) : GCall Try.prog F_aig_each [fints l, .func f pre caps] σ Post := by
  refine GCall.pure (r := fints (l.map c)) ?_ (by simp) h
  refine gc_aig_each ?_
  simp [G_aig_each, genv0, List.replicate]
  refine gfor l.length (fun i e σ' => Fr σ.length σ σ' ∧ ∃ s, Own σ.length 1 eint σ' s ((l.take i).map c) ∧ e = mkEnv 22 [(1, .func f pre caps), (5, s), (8, fints l), (9, .int .i64 l.length), (10, .int .i64 i)]) _ ?_ ⟨.rfl', .nils, .nil, rfl⟩ ?_
  · simp [mkEnv, List.replicate]
  rintro i _ σ' hi ⟨hF, s, hs, rfl⟩
  simp [mkEnv, List.replicate]
  by_cases hlt : i < l.length
  · obtain ⟨y, hy⟩ := nth_lt hlt
    have hy' := nth_get hy
    simp [hlt, hy]
    refine hf y (List.mem_of_getElem? hy') σ' _ ?_
    obtain ⟨s', σ1, q1, q2, q3, q4, q5, q6⟩ := hs.push (by_ := 8) (c y) (fun _ => rfl) (by simp) hF.len (by simp; omega) (by decide)
    have es : IntKind.i64.wrap ((i : Int) + 1) = (i : Int) + 1 := by rw [wrap_small] <;> omega
    simp [q1, es]
    exact forK_go _ hlt (by simp [mkEnv, List.replicate]) ⟨hF.trans q3, s', by simpa [take_get hy'] using q2, rfl⟩
  · have : i = l.length := by omega
    subst this
    rw [List.take_length] at hs
    simp
    exact ⟨hF, hs.rd (fun _ => rfl) okN⟩
theorem aig_of_ok {T : List Int} {e : Int} {σ : GS} {Post : DV → GS → Prop} (h0 : 0 ≤ e) (h1 : e < 2 * T.length) (hl : T.length < 2 ^ 50) (hT : ∀ t ∈ T, 0 ≤ t ∧ t < 2 ^ 60) (h : Post (.int .i64 (imgE T e)) σ) : GCall Try.prog F_aig_Maker_copied_1 [.int .i64 e, .fptr [fints T]] σ Post := by
  refine gc_aig_Maker_copied_1 ?_
  obtain ⟨t, ht⟩ := nth_lt (l := T) (i := (e / 2).toNat) (by omega)
  have ht' := nth_get ht
  obtain ⟨t0, t1⟩ := hT t (List.mem_of_getElem? ht')
  have hb := bits_xor_bit (e := t) (b := e) t0 (by omega)
  have h2 : 0 ≤ e / 2 := by omega
  have hi : imgE T e = turnE t e := by unfold imgE; rw [List.getD_eq_getElem?_getD, ht']; rfl
  rw [hi] at h
  simp [G_aig_Maker_copied_1, genv0, List.replicate, -gb_shr, shr_one h0, bits_and_one h0 (by omega), h2, ht, hb]
  exact h
theorem aig_of_live {T : List Int} {e : Int} {bid tid : Nat} {cap : Option Nat} {σ : GS} {Post : DV → GS → Prop} (hb : σ[bid]? = some (.row false [.slice tid 0 T.length 1 cap])) (ht : σ[tid]? = some (.row false (ints T))) (h0 : 0 ≤ e) (h1 : e < 2 * T.length) (hl : T.length < 2 ^ 50) (hT : ∀ t ∈ T, 0 ≤ t ∧ t < 2 ^ 60) (h : Post (.int .i64 (imgE T e)) σ) : GCall Try.prog F_aig_Maker_copied_1 [.int .i64 e, .ptr bid 0] σ Post :=
  GCall.borrow (args' := [.int .i64 e, .fptr [fints T]]) (.cons (.same _) (.cons (.ptr (off := 0) trivial hb (.cons (rd_ints ht trivial) .nil)) .nil)) (by have := closed_fints T; simp [closeds, DV.closed] at this ⊢; exact this) rfl (aig_of_ok h0 h1 hl hT rfl) h
/-- The images of inputs, those of unreached ones 0. -/
def insL (iv : Int → Int) (r : List Bool) : Nat → List Int → List Int
  | _, [] => []
  | k, v :: l => (if r.getD k false = true then iv v else 0) :: insL iv r (k + 1) l
theorem insL_len (iv : Int → Int) (r : List Bool) : ∀ (k : Nat) (l : List Int), (insL iv r k l).length = l.length
  | _, [] => rfl
  | k, v :: l => by simp [insL, insL_len iv r (k + 1) l]
theorem insL_push (iv : Int → Int) (r : List Bool) (y : Int) : ∀ (k : Nat) (l : List Int), insL iv r k (l ++ [y]) = insL iv r k l ++ [if r.getD (k + l.length) false = true then iv y else 0]
  | k, [] => rfl
  | k, v :: l => by simp only [List.cons_append, insL, insL_push iv r y (k + 1) l, List.length_cons, show k + 1 + l.length = k + (l.length + 1) by omega]
theorem insL_get (iv : Int → Int) (r : List Bool) : ∀ (l : List Int) (k i : Nat), r.getD (k + i) false = true → (insL iv r k l)[i]? = (l.map iv)[i]?
  | [], k, i, _ => rfl
  | v :: l, k, 0, h => by
    have h' : r.getD k false = true := h
    simp only [insL, if_pos h']; rfl
  | v :: l, k, i + 1, h => by
    have := insL_get iv r l (k + 1) i (by rw [show k + 1 + i = k + (i + 1) by omega]; exact h)
    simpa [insL] using this
theorem insL_agr (iv : Int → Int) (r : List Bool) (l : List Int) : Agr r (0 :: insL iv r 1 l) (0 :: l.map iv) := by
  refine ⟨by simp [insL_len], fun j hj => ?_⟩
  cases j with
  | zero => rfl
  | succ j =>
    have := insL_get iv r l 1 j (by rw [Nat.add_comm]; exact hj)
    simpa using this
theorem insL_mem {iv : Int → Int} {r : List Bool} {P : Int → Prop} (h0 : P 0) : ∀ {l : List Int} {k : Nat}, (∀ v ∈ l, P (iv v)) → ∀ t ∈ insL iv r k l, P t
  | [], _, _, t, ht => by cases ht
  | v :: l, k, h, t, ht => by
    simp only [insL, List.mem_cons] at ht
    rcases ht with rfl | ht
    · split
      · exact h v List.mem_cons_self
      · exact h0
    · exact insL_mem h0 (fun v hv => h v (List.mem_cons_of_mem _ hv)) t ht
/-- The state of copying: the box of the graph, the images, their box, the maker. -/
structure CpSt (n0 : Nat) (σ σ' : GS) (id : Nat) (g : AigP) (n : Nat) (T : List Int) (m : Mk) : Prop where
  box : σ'[σ.length]? = some (.row false [fints g.ins, fands g.ands])
  row : σ'[σ.length + 1]? = some (.row false (ints T))
  tob : σ'[σ.length + 2]? = some (.row false [.slice (σ.length + 1) 0 n 1 (some n)])
  mak : MkO n0 σ' id m
  stp : Stp σ id σ'
  nf : ∀ j, j < 3 → ¬ Ft σ' id (σ.length + j)
  tl : T.length = n
theorem CpSt.app {n0 id n : Nat} {σ σ' : GS} {g : AigP} {T : List Int} {m : Mk} (h : CpSt n0 σ σ' id g n T m) (τ : GS) : CpSt n0 σ (σ' ++ τ) id g n T m := by
  have hid := (h.mak.dom (.inl rfl)).1
  have e : (σ' ++ τ)[id]? = σ'[id]? := List.getElem?_append_left hid
  exact ⟨getE_append h.box, getE_append h.row, getE_append h.tob, h.mak.app τ, h.stp.trans (h.mak.stp (by simp) fun i hi => List.getElem?_append_left hi), fun j hj => by rw [h.mak.ft_eq e]; exact h.nf j hj, h.tl⟩
theorem CpSt.step {n0 id n : Nat} {σ σ' σ2 : GS} {g : AigP} {T : List Int} {m m' : Mk} (h : CpSt n0 σ σ' id g n T m) (hm : MkO n0 σ2 id m') (hs : Stp σ' id σ2) : CpSt n0 σ σ2 id g n T m' := by
  have hk : ∀ j o, j < 3 → σ'[σ.length + j]? = some o → σ2[σ.length + j]? = some o := fun j o hj ho => (hs.get _ (get_dom ho) (h.nf j hj)).trans ho
  exact ⟨hk 0 _ (by omega) h.box, hk 1 _ (by omega) h.row, hk 2 _ (by omega) h.tob, hm, h.stp.trans hs, fun j hj => hs.ft _ (by have := get_dom h.tob; omega) (h.nf j hj), h.tl⟩
theorem CpSt.set {n0 id n : Nat} {σ σ' : GS} {g : AigP} {T : List Int} {m : Mk} (h : CpSt n0 σ σ' id g n T m) (i : Nat) (x : Int) : CpSt n0 σ (σ'.set (σ.length + 1) (.row false (ints (T.set i x)))) id g n (T.set i x) m := by
  have hne : ∀ j, j ≠ σ.length + 1 → (σ'.set (σ.length + 1) (.row false (ints (T.set i x))))[j]? = σ'[j]? := fun j hj => List.getElem?_set_ne (Ne.symm hj)
  have hfne : ∀ j, Ft σ' id j → j ≠ σ.length + 1 := fun j hj e => h.nf 1 (by omega) (e ▸ hj)
  have hid := hne id (hfne id (.inl rfl))
  exact ⟨(hne _ (by omega)).trans h.box, List.getElem?_set_self (get_dom h.row), (hne _ (by omega)).trans h.tob, h.mak.fit fun j hj => hne j (hfne j hj), ⟨by simpa using h.stp.len, fun i hi hf => (hne i (by omega)).trans (h.stp.get i hi hf), fun i hi hf => by rw [h.mak.ft_eq hid]; exact h.stp.ft i hi hf⟩, fun j hj => by rw [h.mak.ft_eq hid]; exact h.nf j hj, by simp [h.tl]⟩
theorem imgE_app {T U : List Int} {e : Int} (h : (e / 2).toNat < T.length) : imgE (T ++ U) e = imgE T e := by
  unfold imgE; rw [List.getD_eq_getElem?_getD, List.getElem?_append_left h, ← List.getD_eq_getElem?_getD]
theorem set_mid {α : Type} {a r : List α} {x y : α} {i : Nat} (h : i = a.length) : (a ++ x :: r).set i y = a ++ y :: r := by
  subst h; rw [List.set_append_right _ _ (Nat.le_refl _)]; simp
theorem aig_copied_ok {n0 id : Nat} {m : Mk} {g : AigP} {l : List Int} {fi : FuncId} {pre caps : List DV} {iv : Int → Int} {σ : GS} {Post : DV → GS → Prop} (hmk : MkO n0 σ id m) (hn0 : n0 ≤ σ.length) (hmok : m.ok) (hms : m.n < 2 ^ 30) (hm : g.may = true) (hl : l.length < 2 ^ 50) (he : ∀ e ∈ l, 0 ≤ e ∧ e < 2 * g.nodes)
    (hf : ∀ v ∈ g.ins, ∀ σ', (∀ j, j < σ.length → σ'[j]? = σ[j]?) → ∀ K : DV → GS → Prop, K (.int .i64 (iv v)) σ' → GCall Try.prog fi (pre ++ .int .i64 v :: caps) σ' K) (hiv : ∀ v ∈ g.ins, 0 ≤ iv v ∧ iv v < 2 * m.n)
    (k : ∀ σ' T, MkO n0 σ' id (m.copy g (g.reach l) (0 :: g.ins.map iv)).2 → Stp σ id σ' → Agr (g.reach l) T (m.copy g (g.reach l) (0 :: g.ins.map iv)).1 → (∀ t ∈ T, 0 ≤ t ∧ t < 2 * (m.copy g (g.reach l) (0 :: g.ins.map iv)).2.n) → Post (.func F_aig_Maker_copied_1 [] [.fptr [fints T]]) σ') :
    GCall Try.prog F_aig_Maker_copied [.ptr id 0, g.enc, fints l, .func fi pre caps] σ Post := by
  have hnn := AigP.may_nodes hm
  have hn : g.nodes = 1 + g.ins.length + g.ands.length := rfl
  have hs : g.Sm := ⟨by omega, by omega⟩
  have hok : ∀ {i : Nat} {p : Int × Int}, g.ands[i]? = some p → _ := fun {i p} h => andsOk_get (AigP.may_ands hm) (i := i) (p := p) h
  have hrl := g.reach_len l
  obtain ⟨r, hr⟩ : ∃ r, g.reach l = r := ⟨_, rfl⟩
  rw [hr] at hrl
  have hidl := (hmk.dom (.inl rfl)).1
  have hpos : 0 < (m.n : Int) := by unfold Mk.n; omega
  obtain ⟨n, hne⟩ : ∃ n, g.nodes = n := ⟨_, rfl⟩
  rw [hne] at hrl
  refine GCall.out (GCall.mono (Post := fun v σ' => ∃ T, CpSt n0 σ σ' id g n T (m.copy g r (0 :: insL iv r 1 g.ins)).2 ∧ T = (m.copy g r (0 :: insL iv r 1 g.ins)).1 ∧ v = .func F_aig_Maker_copied_1 [] [.ptr (σ.length + 2) 0]) ?_ ?_)
  rotate_left
  · rintro v σ' ⟨T, hC, hT, rfl⟩
    obtain ⟨hagr2, hagr⟩ := Mk.copy_agr (m := m) (l := l) hm (insL_agr iv (g.reach l) g.ins)
    rw [hr] at hagr2 hagr
    have hS : ∀ i, Ft σ' id i → (fun i => decide (i = σ.length + 1 ∨ i = σ.length + 2)) i = false := fun i hi => by
      have h1 : i ≠ σ.length + 1 := fun e => hC.nf 1 (by omega) (e ▸ hi)
      have h2 : i ≠ σ.length + 2 := fun e => hC.nf 2 (by omega) (e ▸ hi)
      simp [h1, h2]
    refine ⟨fun i => decide (i = σ.length + 1 ∨ i = σ.length + 2), .func F_aig_Maker_copied_1 [] [.fptr [fints T]], ?_, k _ T ?_ ?_ ?_ ?_⟩
    · refine .func .nil (.cons (.ptr (id := σ.length + 2) (off := 0) (ro := true) (cs := [.slice (σ.length + 1) 0 n 1 (some n)]) ?_ (frz_row hC.tob (by simp)) (.cons ?_ .nil)) .nil)
      · intro ro cs h; rw [frz_row hC.tob (by simp)] at h; cases h; rfl
      · have hrow := frz_row (S := fun i => decide (i = σ.length + 1 ∨ i = σ.length + 2)) hC.row (by simp)
        have := rd_ints (ok := RO (frz (fun i => decide (i = σ.length + 1 ∨ i = σ.length + 2)) σ')) (cap := some n) hrow (fun ro cs h => by rw [hrow] at h; cases h; rfl)
        rw [hC.tl] at this
        exact this
    · rw [hr, ← hagr2]
      exact hC.mak.fit fun i hi => frz_off (hS i hi)
    · refine ⟨by rw [frz_len]; exact hC.stp.len, fun i hi hf => ?_, fun i hi hf => ?_⟩
      · rw [frz_off (by simp; omega)]; exact hC.stp.get i hi hf
      · rw [hC.mak.ft_eq (frz_off (hS id (.inl rfl)))]; exact hC.stp.ft i hi hf
    · rw [hr, hT]; exact hagr
    · rw [hr, ← hagr2, hT]
      refine (cpFold_ok _ (s := (0 :: insL iv r 1 g.ins, m)) ⟨fun t ht => ?_, hmok⟩).to
      simp only [List.mem_cons] at ht
      rcases ht with rfl | ht
      · show (0 : Int) ≤ 0 ∧ (0 : Int) < 2 * (m.n : Int); omega
      · exact insL_mem (P := fun t => 0 ≤ t ∧ t < 2 * (m.n : Int)) (by omega) hiv t ht
  refine gc_aig_Maker_copied ?_
  simp [G_aig_Maker_copied, genv0, List.replicate]
  refine aig_reached_ok hm hl he ?_
  simp
  refine aig_nodes_ok hs ?_
  rw [hr, hne]
  simp [mslice_ints (show n < 2 ^ 40 by omega)]
  have hr0 : List.replicate n (DV.int .i64 0) = ints (List.replicate n 0) := by simp [ints]
  rw [hr0]
  obtain ⟨A, hA⟩ : ∃ A, GObj.row false [fints g.ins, fands g.ands] = A := ⟨_, rfl⟩
  obtain ⟨B, hB⟩ : ∃ B, GObj.row false [.slice (σ.length + 1) 0 n 1 (some n)] = B := ⟨_, rfl⟩
  have hldA : ∀ τ, gload (.load 1 false) [.ptr σ.length 0] (σ ++ A :: τ) = some (fints g.ins) := fun τ => by simp [← hA]
  rw [hA, hB]
  simp [hldA]
  refine gfor g.ins.length (fun i e σ' => (∃ z, σ' = σ ++ (A :: .row false (ints (0 :: insL iv r 1 (g.ins.take i) ++ z)) :: B :: []) ∧ 1 + i + z.length = n ∧ ∀ t ∈ z, t = 0) ∧ e = mkEnv 80 [(0, .ptr id 0), (3, .func fi pre caps), (5, .ptr σ.length 0), (9, fbools r), (10, .ptr (σ.length + 2) 0), (11, .func F_aig_Maker_copied_1 [] [.ptr (σ.length + 2) 0]), (25, fints g.ins), (26, .int .i64 g.ins.length), (27, .int .i64 i)]) _ ?_ ⟨⟨List.replicate (n - 1) 0, ?_, by simp; omega, fun t ht => List.eq_of_mem_replicate ht⟩, rfl⟩ ?_
  · simp [mkEnv, List.replicate]
  · obtain ⟨q, rfl⟩ : ∃ q, n = q + 1 := ⟨n - 1, by omega⟩
    simp [insL, List.replicate_succ]
  rintro i _ _ hi ⟨⟨z, rfl, hzl, hz⟩, rfl⟩
  simp [mkEnv, List.replicate]
  by_cases hlt : i < g.ins.length
  · obtain ⟨y, hy⟩ := nth_lt hlt
    have hy' := nth_get hy
    have es : IntKind.i64.wrap ((i : Int) + 1) = (i : Int) + 1 := by rw [wrap_small] <;> omega
    obtain ⟨b, hb⟩ := nth_lt (l := r) (i := i + 1) (by omega)
    have hb' := nth_get hb
    have hgd : r.getD (1 + (g.ins.take i).length) false = b := by rw [List.length_take, Nat.min_eq_left (Nat.le_of_lt hlt), List.getD_eq_getElem?_getD, Nat.add_comm, hb']; rfl
    have hge : (0 : Int) ≤ (i : Int) + 1 := by omega
    have htn : ((i : Int) + 1).toNat = i + 1 := by omega
    have hil : (0 :: insL iv r 1 (g.ins.take i)).length = i + 1 := by simp [insL_len]; omega
    cases z with
    | nil => simp at hzl; omega
    | cons z0 z =>
    have hz0 : z0 = 0 := hz z0 List.mem_cons_self
    subst hz0
    simp at hzl
    cases b with
    | false =>
      simp [hlt, hy, es, hge, htn, hb]
      refine forK_go _ hlt (by simp [mkEnv, List.replicate]) ⟨⟨z, ?_, by omega, fun t ht => hz t (List.mem_cons_of_mem _ ht)⟩, rfl⟩
      rw [take_get hy', insL_push, hgd]
      simp
    | true =>
      have hia := iaddr_own (id := σ.length + 1) (n := n) (sz := 1) (i := i + 1) (k := .i64) (cap := some n) (by omega)
      simp only [Nat.mul_one, Int.natCast_add, Int.natCast_one] at hia
      simp [hlt, hy, es, hge, htn, hb, ← hB]
      refine hf y (List.mem_of_getElem? hy') _ (fun j hj => List.getElem?_append_left hj) _ ?_
      have hst : ∀ τ : GS, gimp (.store 1) [.ptr (σ.length + 1) (i + 1), .int .i64 (iv y)] (σ ++ (A :: .row false (.int .i64 0 :: (List.map (DV.int .i64) (insL iv r 1 (g.ins.take i)) ++ .int .i64 0 :: List.map (DV.int .i64) z)) :: τ)) = some (.tuple [], σ ++ (A :: .row false (.int .i64 0 :: (List.map (DV.int .i64) (insL iv r 1 (g.ins.take i)) ++ .int .i64 (iv y) :: List.map (DV.int .i64) z)) :: τ)) := fun τ => by
        have hl2 : (insL iv r 1 (g.ins.take i)).length = i := by simp [insL_len]; omega
        simp [hl2]
      simp at hst
      simp [hia, es, hst]
      refine forK_go _ hlt (by simp [mkEnv, List.replicate]) ⟨⟨z, ?_, by omega, fun t ht => hz t (List.mem_cons_of_mem _ ht)⟩, rfl⟩
      rw [take_get hy', insL_push, hgd]
      simp [← hB]
  · have : i = g.ins.length := by omega
    subst this
    rw [List.take_length]
    have ew : IntKind.i64.wrap (1 + (g.ins.length : Int)) = 1 + g.ins.length := by rw [wrap_small] <;> omega
    have hldA1 : ∀ τ, gload (.load 1 false) [.ptr σ.length 1] (σ ++ A :: τ) = some (fands g.ands) := fun τ => by simp [← hA]
    simp [hldA, hldA1, ew]
    have hC0 : CpSt n0 σ (σ ++ (A :: .row false (ints (0 :: insL iv r 1 g.ins ++ z)) :: B :: [])) id g n (0 :: insL iv r 1 g.ins ++ z) m := by
      have e0 : (σ ++ (A :: .row false (ints (0 :: insL iv r 1 g.ins ++ z)) :: B :: []))[id]? = σ[id]? := List.getElem?_append_left hidl
      refine ⟨by simp [← hA], by simp, by simp [← hB], hmk.app _, hmk.stp (by simp) fun i hi => List.getElem?_append_left hi, fun j hj hf' => ?_, by simp [insL_len]; omega⟩
      rw [hmk.ft_eq e0] at hf'
      have := (hmk.dom hf').1; omega
    simp at hC0
    obtain ⟨xs, hxs⟩ : ∃ xs, g.ands.zip (r.drop (1 + g.ins.length)) = xs := ⟨_, rfl⟩
    obtain ⟨s0, hs0⟩ : ∃ s0, ((0 :: insL iv r 1 g.ins, m) : List Int × Mk) = s0 := ⟨_, rfl⟩
    have hcp0 : CpOk s0 := by
      rw [← hs0]
      refine ⟨fun t ht => ?_, hmok⟩
      simp only [List.mem_cons] at ht
      rcases ht with rfl | ht
      · show (0 : Int) ≤ 0 ∧ (0 : Int) < 2 * (m.n : Int); omega
      · exact insL_mem (P := fun t => 0 ≤ t ∧ t < 2 * (m.n : Int)) (by omega) hiv t ht
    have hl0 : s0.1.length = 1 + g.ins.length := by rw [← hs0]; simp [insL_len]; omega
    have hn0' : s0.2.n = m.n := by rw [← hs0]
    refine gfor g.ands.length (fun i e σ' => (∃ z, CpSt n0 σ σ' id g n (((xs.take i).foldl cpStep s0).1 ++ z) ((xs.take i).foldl cpStep s0).2 ∧ ∀ t ∈ z, t = 0) ∧ e = mkEnv 80 [(0, .ptr id 0), (9, fbools r), (10, .ptr (σ.length + 2) 0), (11, .func F_aig_Maker_copied_1 [] [.ptr (σ.length + 2) 0]), (14, .int .i64 (1 + g.ins.length)), (50, fands g.ands), (51, .int .i64 g.ands.length), (52, .int .i64 i)]) _ ?_ ⟨⟨z, by simpa [← hs0] using hC0, hz⟩, rfl⟩ ?_
    · simp [mkEnv, List.replicate]
    clear hC0 hldA hldA1 hzl hz z hlt hi
    rintro i _ σ' hi ⟨⟨z, hC, hz⟩, rfl⟩
    simp [mkEnv, List.replicate]
    have hxl : xs.length = g.ands.length := by rw [← hxs]; simp; omega
    by_cases hlt : i < g.ands.length
    · obtain ⟨p, hp⟩ := nth_lt hlt
      have hp' := nth_get hp
      obtain ⟨p1, p2, p3, p4⟩ := hok hp'
      have es : IntKind.i64.wrap ((i : Int) + 1) = (i : Int) + 1 := by rw [wrap_small] <;> omega
      have ew2 : IntKind.i64.wrap (1 + (g.ins.length : Int) + i) = 1 + g.ins.length + i := by rw [wrap_small] <;> omega
      have hge : (0 : Int) ≤ 1 + (g.ins.length : Int) + i := by omega
      have htn : (1 + (g.ins.length : Int) + i).toNat = 1 + g.ins.length + i := by omega
      obtain ⟨b, hb⟩ := nth_lt (l := r) (i := 1 + g.ins.length + i) (by omega)
      have hb' := nth_get hb
      have hx : xs[i]? = some (p, b) := by rw [← hxs, List.getElem?_zip_eq_some, List.getElem?_drop]; exact ⟨hp', hb'⟩
      have htk := take_get hx
      have hfold : (xs.take (i + 1)).foldl cpStep s0 = cpStep ((xs.take i).foldl cpStep s0) (p, b) := by rw [htk, List.foldl_append]; rfl
      have hcp := cpFold_ok (xs.take i) hcp0
      have hcl := cpFold_len (xs.take i) s0
      have hcn := (cpFold_n (xs.take i) s0).2
      rw [List.length_take, Nat.min_eq_left (by omega)] at hcl hcn
      obtain ⟨s, hss⟩ : ∃ s, (xs.take i).foldl cpStep s0 = s := ⟨_, rfl⟩
      rw [hss] at hC hfold hcp hcl hcn
      have hMpos : 0 < (s.2.n : Int) := by unfold Mk.n; omega
      obtain ⟨X, hX⟩ : ∃ X, [GObj.row false [.int .i64 p.1, .int .i64 p.2]] = X := ⟨_, rfl⟩
      have hCX := hC.app X
      have hzl := hC.tl
      rw [List.length_append] at hzl
      cases z with
      | nil => simp at hzl; omega
      | cons z0 z =>
      have hz0 : z0 = 0 := hz z0 List.mem_cons_self
      subst hz0
      simp at hzl
      have hTr : ∀ t ∈ s.1 ++ 0 :: z, 0 ≤ t ∧ t < 2 ^ 60 := fun t ht => by
        rcases List.mem_append.1 ht with ht | ht
        · have := hcp.to t ht; omega
        · have : t = 0 := hz t ht
          omega
      have htlen : (s.1 ++ 0 :: z).length = n := by simp; omega
      have hldt : gload (.load 1 false) [.ptr (σ.length + 2) 0] (σ' ++ X) = some (.slice (σ.length + 1) 0 n 1 (some n)) := by rw [ld_at hCX.tob]; rfl
      have hpa : gload (.load 1 false) [.ptr σ'.length 0] (σ' ++ X) = some (.int .i64 p.1) := by rw [← hX]; simp
      have hpb : gload (.load 1 false) [.ptr σ'.length 1] (σ' ++ X) = some (.int .i64 p.2) := by rw [← hX]; simp
      cases b with
      | false =>
        simp [hlt, hp, ew2, hge, htn, hb, es]
        rw [hX]
        refine forK_go _ hlt (by simp [mkEnv, List.replicate]) ⟨⟨z, ?_, fun t ht => hz t (List.mem_cons_of_mem _ ht)⟩, rfl⟩
        rw [hfold]
        simpa [cpStep] using hCX
      | true =>
        have r1 := imgE_range hMpos hcp.to p.1
        have r2 := imgE_range hMpos hcp.to p.2
        have him : ∀ e : Int, 0 ≤ e → e < 2 * (1 + g.ins.length) + 2 * i → imgE (s.1 ++ 0 :: z) e = imgE s.1 e := fun e h0 h1 => imgE_app (by omega)
        simp [hlt, hp, ew2, hge, htn, hb, es]
        rw [hX]
        simp [hldt, hpa, hpb]
        have htob : (σ' ++ X)[σ.length + 2]? = some (.row false [.slice (σ.length + 1) 0 (s.1 ++ 0 :: z).length 1 (some n)]) := by rw [htlen]; exact hCX.tob
        refine aig_of_live htob hCX.row p1 (by omega) (by omega) hTr ?_
        rw [him _ p1 (by omega)]
        simp
        refine aig_of_live htob hCX.row p2 (by omega) (by omega) hTr ?_
        rw [him _ p2 (by omega)]
        simp
        refine aig_and_ok hCX.mak r1.1 (by omega) r2.1 (by omega) (by omega) fun σ2 hm2 hst2 => ?_
        have hC2 := hCX.step hm2 hst2
        have hldt2 : gload (.load 1 false) [.ptr (σ.length + 2) 0] σ2 = some (.slice (σ.length + 1) 0 n 1 (some n)) := by rw [ld_at hC2.tob]; rfl
        have hia := iaddr_own (id := σ.length + 1) (n := n) (sz := 1) (i := 1 + g.ins.length + i) (k := .i64) (cap := some n) (by omega)
        rw [show (((1 + g.ins.length + i : Nat)) : Int) = 1 + (g.ins.length : Int) + i by omega, Nat.mul_one] at hia
        have hsto := store_int (b := (s.2.conj (imgE s.1 p.1) (imgE s.1 p.2)).1) hC2.row (i := 1 + g.ins.length + i) (by omega)
        have hCS := hC2.set (1 + g.ins.length + i) (s.2.conj (imgE s.1 p.1) (imgE s.1 p.2)).1
        rw [set_mid (show 1 + g.ins.length + i = s.1.length by omega)] at hsto hCS
        simp [hldt, hldt2, ew2, hia, hsto, es]
        refine forK_go _ hlt (by simp [mkEnv, List.replicate]) ⟨⟨z, ?_, fun t ht => hz t (List.mem_cons_of_mem _ ht)⟩, rfl⟩
        rw [hfold]
        simpa [cpStep] using hCS
    · have : i = g.ands.length := by omega
      subst this
      rw [← hxl, List.take_length] at hC
      have hzl := hC.tl
      have hcl := cpFold_len xs s0
      rw [List.length_append] at hzl
      have hze : z = [] := List.length_eq_zero_iff.1 (by omega)
      subst hze
      rw [List.append_nil] at hC
      simp
      have hco : m.copy g r (0 :: insL iv r 1 g.ins) = xs.foldl cpStep s0 := by unfold Mk.copy; rw [hxs, hs0]
      rw [hco]
      exact hC
end Go.Gh
namespace Go.Gh
open Go.RowKit Go.Proofs
set_option linter.unusedVariables false
set_option linter.unusedSimpArgs false
set_option maxRecDepth 100000
@[simp] theorem gres_c3 (env : Env) (σ : GS) (t u x : Tmp) (n : Nat) (b : Bool) : gresL env σ [.cell t n b, .tmp u, .tmp x] = (gload (.load n b) [env[t]?.getD (.tuple [])] σ).map fun v => [v, env[u]?.getD (.tuple []), env[x]?.getD (.tuple [])] := by
  simp only [gresL, gres1, garg]
  cases gload (.load n b) [env[t]?.getD (.tuple [])] σ <;> rfl
@[simp] theorem fill_nil (z : List DV) : gfill [] z [] = some z := rfl
@[simp] theorem fill_fsl (z0 z1 : DV) (sz : Nat) (es : List (List DV)) : gfill [(0, 1)] [z0, z1] [.fsl sz es] = some [.fsl sz es, z1] := by simp [gfill, DV.cells, over]
theorem frz_none (σ : GS) : frz (fun _ => false) σ = σ := by
  apply List.ext_getElem?
  intro i
  rw [frz_off rfl]
/-- Arguments that read as others. -/
theorem GCall.reads {P : Program} {f : FuncId} {args args' : List DV} {σ : GS} {Post : DV → GS → Prop} (ha : Rds σ (RO σ) args args') (h : GCall P f args' σ Post) : GCall P f args σ Post := by
  refine GCall.frz (fun _ => false) (args' := args') ?_ ?_
  · rw [frz_none]; exact ha
  · rw [frz_none]; exact h
theorem Own.rdF {α : Type} {n sz : Nat} {enc : α → List DV} {σ : GS} {s : DV} {xs : List α} (h : Own n sz enc σ s xs) (hc : ∀ x, (enc x).length = sz) : Rd (Go.Gh.frz (fun i => s.idOf == some i) σ) (RO (Go.Gh.frz (fun i => s.idOf == some i) σ)) s (.fsl sz (xs.map enc)) := by
  rcases h with ⟨rfl, rfl⟩ | ⟨id, cap, rest, h1, rfl, h3, h4⟩
  · exact .nils sz
  · have hrow := frz_row (S := fun i => (DV.slice id 0 xs.length sz cap).idOf == some i) h3 (by simp)
    have hl : (xs.flatMap enc ++ rest).length = xs.length * sz + rest.length := by rw [List.length_append, flatMap_len hc]
    have := Rd.slice (σ := Go.Gh.frz (fun i => (DV.slice id 0 xs.length sz cap).idOf == some i) σ) (ok := RO _) (id := id) (off := 0) (sz := sz) (cap := cap) (es := xs.map enc) (fun ro cs h => by rw [hrow] at h; cases h; rfl) hrow (by rw [hl, List.length_map]; omega) (fun e he => by obtain ⟨x, _, rfl⟩ := List.mem_map.1 he; exact hc x) (by
      have hf := flatMap_len hc xs
      simp only [List.drop_zero, List.length_map, flatMap_flatten]
      rw [← hf, List.take_left]
      exact Rds.refl _)
    simpa using this
theorem Own.idOf_has {α : Type} {n sz : Nat} {enc : α → List DV} {σ : GS} {s : DV} {xs : List α} (h : Own n sz enc σ s xs) {i : Nat} (hi : ¬ s.has i) : (s.idOf == some i) = false := by
  rcases h with ⟨rfl, rfl⟩ | ⟨id, cap, rest, h1, rfl, h3, h4⟩
  · rfl
  · simp
    rintro rfl
    exact hi ⟨_, _, _, _, rfl⟩
theorem all_live {g : AigP} {l : List Int} {n : Nat} {s : DV} {σ : GS} {Post : DV → GS → Prop} (hs : g.Sm) (hl : l.length < 2 ^ 60) (h : Own n 1 eint σ s l) (k : Post (.bool (g.all l)) σ) : GCall Try.prog F_aig_all [g.enc, s] σ Post :=
  GCall.borrow (args' := [g.enc, fints l]) (.cons (.same _) (.cons (h.rd (fun _ => rfl) fun _ _ => trivial) .nil)) (by simp) rfl (aig_all_ok hs hl rfl) k
/-- The pairs of a map of numbers. -/
def ents (l : List (Int × Int)) : List (Int × DV) := l.map fun o => (o.1, kint o.2)
theorem ents_keys (l : List (Int × Int)) : (ents l).map (·.1) = l.map (·.1) := by simp [ents, Function.comp_def]
abbrev GOut.enc (o : GOut) : DV := .tuple [o.g.enc, fints o.l, .int .i64 o.e]
@[simp] theorem closed_gout (o : GOut) : (GOut.enc o).closed = true := by simp
/-- What comes back with an error. -/
theorem rd_err (σ : GS) (ok : Nat → Prop) (e : Int) : Rd σ ok (.tuple [.agg [.nils, .nils], .nils, .int .i64 e]) (GOut.enc (.err e)) :=
  .tuple (.cons (.agg (.cons (.nils 1) (.cons (.nils 2) .nil))) (.cons (.nils 1) (.cons (.same _) .nil)))
theorem kget_out (f : Int → Int) (v : Int) : ∀ l : List (Int × Int), kget v (l.map fun o => (o.1, kint (f o.2))) = (outOf l v).map fun e => kint (f e)
  | [] => rfl
  | o :: l => by
    have ih := kget_out f v l
    unfold outOf at ih ⊢
    simp only [List.map_cons, kget, List.find?_cons]
    by_cases h : v = o.1
    · subst h; simp
    · have : (decide (o.1 = v)) = false := by simpa using fun e => h e.symm
      rw [if_neg h, this]; exact ih
theorem outOf_mem {l : List (Int × Int)} {v e : Int} (h : outOf l v = some e) : e ∈ l.map (·.2) := by
  unfold outOf at h
  obtain ⟨o, ho, rfl⟩ := Option.map_eq_some_iff.1 h
  exact List.mem_map.2 ⟨o, List.mem_of_find?_eq_some ho, rfl⟩
theorem Mk.copy_len {m : Mk} {g : AigP} {l : List Int} {T : List Int} (hT : T.length = 1 + g.ins.length) : (m.copy g (g.reach l) T).1.length = g.nodes := by
  unfold Mk.copy
  rw [cpFold_len, List.length_zip, List.length_drop, AigP.reach_len, hT]
  simp [AigP.nodes]
theorem Mk.copy_n {m : Mk} {g : AigP} {r : List Bool} {T : List Int} : m.n ≤ (m.copy g r T).2.n ∧ (m.copy g r T).2.n ≤ m.n + g.ands.length := by
  have := cpFold_n (g.ands.zip (r.drop (1 + g.ins.length))) (T, m)
  unfold Mk.copy
  rw [List.length_zip] at this
  refine ⟨this.1, Nat.le_trans this.2 ?_⟩
  show m.n + _ ≤ _
  omega
theorem Mk.copy_ins {m : Mk} {g : AigP} {r : List Bool} {T : List Int} : (m.copy g r T).2.ins = m.ins := by unfold Mk.copy; rw [cpFold_ins]
theorem Mk.copy_ok {m : Mk} {g : AigP} {r : List Bool} {T : List Int} (hm : m.ok) (hT : ∀ t ∈ T, 0 ≤ t ∧ t < 2 * m.n) : CpOk (m.copy g r T) := cpFold_ok _ ⟨hT, hm⟩
theorem edgeOf_lt (l : List Int) (v : Int) : edgeOf l v < 2 * (1 + l.length) := by
  unfold edgeOf
  have := idxF_lt (p := fun x => decide (x = v)) (l := l) (k := 0)
  split <;> omega
theorem edgeOf_pos {l : List Int} {v : Int} (h : v ∈ l) : 0 ≤ edgeOf l v := by
  rcases Classical.em (0 ≤ edgeOf l v) with h' | h'
  · exact h'
  · exact absurd h (edgeOf_none.1 h')
/-- The pairs of the map while its values are exchanged. -/
def mixed (f : Int → Int) (l : List (Int × Int)) (st seen : List Nat) : List (Int × DV) := (l.zip st).map fun p => (p.1.1, kint (if p.2 ∈ seen then f p.1.2 else p.1.2))
theorem mixed_get {f : Int → Int} {l : List (Int × Int)} {st seen : List Nat} {i : Nat} {k : Int} {v : DV} {b : Nat} (h : (mixed f l st seen)[i]? = some (k, v)) (hb : st[i]? = some b) (hn : b ∉ seen) : ∃ o, l[i]? = some o ∧ k = o.1 ∧ v = kint o.2 := by
  unfold mixed at h
  rw [List.getElem?_map, Option.map_eq_some_iff] at h
  obtain ⟨p, hp, he⟩ := h
  obtain ⟨h1, h2⟩ := List.getElem?_zip_eq_some.1 hp
  rw [hb] at h2
  have : p.2 = b := (Option.some.inj h2).symm
  refine ⟨p.1, h1, ?_⟩
  simp only [Prod.mk.injEq] at he
  rw [this, if_neg hn] at he
  exact ⟨he.1.symm, he.2.symm⟩
theorem mixed_set {f : Int → Int} {l : List (Int × Int)} {st seen : List Nat} (hnd : st.Nodup) {i : Nat} {o : Int × Int} {b : Nat} (ho : l[i]? = some o) (hb : st[i]? = some b) : (mixed f l st seen).set i (o.1, kint (f o.2)) = mixed f l st (seen ++ [b]) := by
  apply List.ext_getElem?
  intro j
  unfold mixed
  rw [List.getElem?_set]
  simp only [List.length_map, List.getElem?_map]
  by_cases hij : i = j
  · subst hij
    have hz := zip_get ho hb
    rw [if_pos rfl, if_pos (List.getElem?_eq_some_iff.1 hz).1, hz]
    simp
  · rw [if_neg hij]
    cases hz : (l.zip st)[j]? with
    | none => rfl
    | some p =>
      obtain ⟨h1, h2⟩ := List.getElem?_zip_eq_some.1 hz
      have hne : p.2 ≠ b := fun e => by
        rw [e] at h2
        obtain ⟨a1, a2⟩ := List.getElem?_eq_some_iff.1 hb
        obtain ⟨b1, b2⟩ := List.getElem?_eq_some_iff.1 h2
        exact hij ((List.getElem_inj hnd (h₀ := a1) (h₁ := b1)).1 (a2.trans b2.symm))
      simp [hne]
theorem mixed_nil {f : Int → Int} {l : List (Int × Int)} {st : List Nat} (h : st.length = l.length) : mixed f l st [] = ents l := by
  unfold mixed ents
  simp only [List.not_mem_nil, if_false]
  rw [show (fun p : (Int × Int) × Nat => (p.1.1, kint p.1.2)) = (fun o : Int × Int => (o.1, kint o.2)) ∘ Prod.fst from rfl, ← List.map_map, List.map_fst_zip (by omega)]
theorem mixed_all {f : Int → Int} {l : List (Int × Int)} {st seen : List Nat} (h : st.length = l.length) (hs : ∀ b ∈ st, b ∈ seen) : mixed f l st seen = l.map fun o => (o.1, kint (f o.2)) := by
  unfold mixed
  have : (l.zip st).map (fun p => (p.1.1, kint (if p.2 ∈ seen then f p.1.2 else p.1.2))) = (l.zip st).map ((fun o : Int × Int => (o.1, kint (f o.2))) ∘ Prod.fst) := by
    apply List.map_congr_left
    rintro ⟨o, b⟩ hp
    have hb : b ∈ st := (List.of_mem_zip hp).2
    simp [hs b hb]
  rw [this, ← List.map_map, List.map_fst_zip (by omega)]
theorem aig_Compose_1_ok {v : Int} {id to bx mid n0 : Nat} {m : Mk} {E : List (Int × DV)} {out : Int → Option Int} {σ : GS} {Post : DV → GS → Prop} (h1 : σ[id]? = some (.row false [.map to])) (h2 : MpO kint σ to E) (h3 : σ[bx]? = some (.row false [.ptr mid 0])) (h4 : MkO n0 σ mid m)
    (hE : kget v E = (out v).map kint) (h : Post (.int .i64 (match out v with | some e => e | none => max (edgeOf m.ins v) 0)) σ) : GCall Try.prog F_aig_Compose_1 [.int .i64 v, .ptr id 0, .ptr bx 0] σ Post := by
  refine gc_aig_Compose_1 ?_
  have hl1 : gload (.load 1 false) [.ptr id 0] σ = some (.map to) := by rw [ld_at h1]; rfl
  have hl3 : gload (.load 1 false) [.ptr bx 0] σ = some (.ptr mid 0) := by rw [ld_at h3]; rfl
  have hlk : gload (.lookup (.int .i64) (.int .i64 0) true) [.map to, .int .i64 v] σ = _ := h2.lookup (kt := .int .i64) v (.int .i64 0) true
  rw [hE] at hlk
  cases ho : out v with
  | some e =>
    simp [ho] at hlk h
    simp [G_aig_Compose_1, genv0, List.replicate, hl1, hlk]
    exact h
  | none =>
    simp [ho] at hlk h
    simp [G_aig_Compose_1, genv0, List.replicate, hl1, hlk, hl3]
    exact aig_own_ok h4 (by simpa using h)
set_option maxHeartbeats 2000000 in
theorem aig_Compose_ok {g : AigP} {l : List Int} {by_ : List (Int × Int)} {σ : GS} {Post : DV → GS → Prop} (hs : g.Sm) (hl : l.length < 2 ^ 40) (hb : by_.length < 2 ^ 40) (h : Post (GOut.enc (g.compose l by_)) σ) : GCall Try.prog F_aig_Compose [g.enc, fints l, fands by_] σ Post := by
  refine GCall.pure (r := GOut.enc (g.compose l by_)) ?_ (closed_gout _) h
  refine gc_aig_Compose ?_
  simp [G_aig_Compose, genv0, List.replicate, galloc]
  refine gfor by_.length (fun i e σ' => ∃ s, e = mkEnv 117 [(1, fints l), (3, .ptr σ.length 0), (6, .ptr (σ.length + 1) 0), (9, .ptr (σ.length + 3) 0), (10, s), (23, fands by_), (24, .int .i64 by_.length), (25, .int .i64 i)] ∧
      σ'[σ.length]? = some (.row false [fints g.ins, fands g.ands]) ∧ σ'[σ.length + 1]? = some (.row false [.nils, .nils]) ∧ σ'[σ.length + 3]? = some (.row false [.map (σ.length + 2)]) ∧ MpO kint σ' (σ.length + 2) (ents (by_.take i)) ∧ Own (σ.length + 4) 1 eint σ' s ((by_.take i).map (·.2)) ∧ Fr σ.length σ σ' ∧ ((by_.take i).map (·.1)).Nodup) _ ?_ ⟨.nils, rfl, by simp, by simp, by simp, ⟨by simp [ents], ([], 0), ⟨rfl, by simp, by simp⟩, by simp [ents, kenc]⟩, .nil, Fr.self _, by simp⟩ ?_
  · simp [mkEnv, List.replicate]
  rintro i _ σ' hi ⟨s, rfl, hA, hC, hD, hM, hO, hF, hnd⟩
  have hlen : σ.length + 4 ≤ σ'.length := by have := get_dom hD; omega
  have hldA : gload (.load 2 true) [.ptr σ.length 0] σ' = some g.enc := by rw [ld_agg hA]; rfl
  have hldA0 : gload (.load 1 false) [.ptr σ.length 0] σ' = some (fints g.ins) := by rw [ld_at hA]; rfl
  have hldD : gload (.load 1 false) [.ptr (σ.length + 3) 0] σ' = some (.map (σ.length + 2)) := by rw [ld_at hD]; rfl
  have herr : gimp (.store 2) [.ptr (σ.length + 1) 0, .agg [.nils, .nils]] σ' = some (.tuple [], σ'.set (σ.length + 1) (.row false [.nils, .nils])) := by simp [gimp, hC, over]
  have hldC : gload (.load 2 true) [.ptr (σ.length + 1) 0] (σ'.set (σ.length + 1) (.row false [.nils, .nils])) = some (.agg [.nils, .nils]) := by
    rw [ld_agg (List.getElem?_set_self (by omega))]; rfl
  have hFe : Fr σ.length σ (σ'.set (σ.length + 1) (.row false [.nils, .nils])) := hF.set (by omega) _
  simp [mkEnv, List.replicate]
  by_cases hlt : i < by_.length
  · obtain ⟨p, hp⟩ := nth_lt hlt
    have hp' := nth_get hp
    have es : IntKind.i64.wrap ((i : Int) + 1) = (i : Int) + 1 := by rw [wrap_small] <;> omega
    obtain ⟨X, hX⟩ : ∃ X, [GObj.row false [.int .i64 p.1, .int .i64 p.2]] = X := ⟨_, rfl⟩
    have hMX : MpO kint (σ' ++ X) (σ.length + 2) (ents (by_.take i)) := hM.fit (List.getElem?_append_left (by omega))
    have hlk : gload (.lookup (.int .i64) (.int .i64 0) true) [.map (σ.length + 2), .int .i64 p.1] (σ' ++ X) = _ := hMX.lookup (kt := .int .i64) p.1 (.int .i64 0) true
    have hldDX : gload (.load 1 false) [.ptr (σ.length + 3) 0] (σ' ++ X) = some (.map (σ.length + 2)) := by rw [ld_at (getE_append hD)]; rfl
    have hpa : gload (.load 1 false) [.ptr σ'.length 0] (σ' ++ X) = some (.int .i64 p.1) := by rw [← hX]; simp
    have hpb : gload (.load 1 false) [.ptr σ'.length 1] (σ' ++ X) = some (.int .i64 p.2) := by rw [← hX]; simp
    simp [hlt, hp]
    rw [hX]
    by_cases hk : p.1 ∈ (by_.take i).map (·.1)
    · have hkg : ∃ v, kget p.1 (ents (by_.take i)) = some v := by
        cases hh : kget p.1 (ents (by_.take i)) with
        | none => rw [kget_none, ents_keys] at hh; exact absurd hk hh
        | some v => exact ⟨v, rfl⟩
      obtain ⟨v, hv⟩ := hkg
      rw [hv] at hlk
      have hCX := getE_append (τ := X) hC
      have herrX : gimp (.store 2) [.ptr (σ.length + 1) 0, .agg [.nils, .nils]] (σ' ++ X) = some (.tuple [], (σ' ++ X).set (σ.length + 1) (.row false [.nils, .nils])) := by simp [gimp, hCX, over]
      have hldCX : gload (.load 2 true) [.ptr (σ.length + 1) 0] ((σ' ++ X).set (σ.length + 1) (.row false [.nils, .nils])) = some (.agg [.nils, .nils]) := by
        rw [ld_agg (List.getElem?_set_self (by simp; omega))]; rfl
      simp [hldDX, hpa, hlk, herrX, hldCX]
      refine ⟨(hF.app X).set (by omega) _, ?_⟩
      have hbad : ¬ (by_.map (·.1)).Nodup := fun hn => by
        have e : by_.map (·.1) = (by_.take i).map (·.1) ++ p.1 :: (by_.drop (i + 1)).map (·.1) := by rw [← List.map_cons (f := fun x : Int × Int => x.1), ← drop_get hp', ← List.map_append, List.take_append_drop]
        rw [e, List.nodup_append] at hn
        exact hn.2.2 p.1 hk p.1 (by simp) rfl
      have : g.compose l by_ = .err 2 := by unfold AigP.compose; rw [if_neg (by simp [hbad])]
      rw [this]
      exact rd_err _ _ _
    · have hkn : kget p.1 (ents (by_.take i)) = none := by rw [kget_none, ents_keys]; exact hk
      rw [hkn] at hlk
      obtain ⟨o, ho1, ho2⟩ := hMX.set (kt := .int .i64) p.1 (.int .i64 p.2)
      replace ho1 : gimp (.mset (.int .i64)) [.map (σ.length + 2), .int .i64 p.1, .int .i64 p.2] (σ' ++ X) = _ := ho1
      obtain ⟨σ2, hσ2⟩ : ∃ σ2, (σ' ++ X).set (σ.length + 2) o = σ2 := ⟨_, rfl⟩
      rw [hσ2] at ho1 ho2
      have hne2 : ∀ j, j ≠ σ.length + 2 → σ2[j]? = (σ' ++ X)[j]? := fun j hj => by rw [← hσ2]; exact List.getElem?_set_ne (Ne.symm hj)
      have hl2 : σ2.length = σ'.length + X.length := by rw [← hσ2]; simp
      have hpb2 : gload (.load 1 false) [.ptr σ'.length 1] σ2 = some (.int .i64 p.2) := by
        have : σ2[σ'.length]? = some (.row false [.int .i64 p.1, .int .i64 p.2]) := by rw [hne2 _ (by omega), ← hX]; simp
        rw [ld_at this]; rfl
      have hge : ∀ j, s.has j → σ.length + 4 ≤ j := fun j hj => hO.has_ge hj
      have hO2 : Own (σ.length + 4) 1 eint σ2 s ((by_.take i).map (·.2)) := hO.fit fun j hj => by
        rw [hne2 _ (by have := hge j hj; omega), List.getElem?_append_left (hO.has_lt hj)]
      obtain ⟨s', σ3, q1, q2, q3, q4, q5, q6⟩ := hO2.push (by_ := 8) p.2 (fun _ => rfl) (by simp) (by omega) (by simp; omega) (by decide)
      simp [hldDX, hpa, hpb, hlk, ho1, hpb2, q1, es]
      have hkeep : ∀ j, j < σ.length + 4 → j ≠ σ.length + 2 → σ3[j]? = σ'[j]? := fun j hj hj2 => by
        rw [q5 j (by omega) (fun hh => by have := hge j hh; omega), hne2 _ hj2, List.getElem?_append_left (by omega)]
      refine forK_go _ hlt (by simp [mkEnv, List.replicate]) ⟨s', rfl, (hkeep _ (by omega) (by omega)).trans hA, (hkeep _ (by omega) (by omega)).trans hC, (hkeep _ (by omega) (by omega)).trans hD, ?_, ?_, ⟨by omega, fun j hj => (hkeep j (by omega) (by omega)).trans (hF.get j hj)⟩, ?_⟩
      · rw [take_get hp']
        have e : ents (by_.take i ++ [p]) = kset p.1 (.int .i64 p.2) (ents (by_.take i)) := by
          rw [kset_new (by rw [ents_keys]; exact hk)]; simp [ents]
        rw [e]
        exact ho2.fit (q5 _ (by omega) (fun hh => by have := hge _ hh; omega))
      · rw [take_get hp']; simpa using q2
      · rw [take_get hp', List.map_append, List.nodup_append]
        refine ⟨hnd, by simp, fun a ha b hb => ?_⟩
        simp at hb; subst hb; exact fun e => hk (e ▸ ha)
  · have : i = by_.length := by omega
    subst this
    rw [List.take_length] at hM hO hnd
    simp [hldA]
    refine aig_all_ok hs (by omega) ?_
    by_cases c1 : g.all l = true
    rotate_left
    · have : g.compose l by_ = .err 2 := by unfold AigP.compose; rw [if_neg (by simp [c1])]
      rw [this]
      simp [c1, herr, hldC]
      exact ⟨hFe, rd_err _ _ _⟩
    simp [c1, hldA]
    refine all_live hs (by simp; omega) hO ?_
    by_cases c2 : g.all (by_.map (·.2)) = true
    rotate_left
    · have : g.compose l by_ = .err 2 := by unfold AigP.compose; rw [if_neg (by simp [c2])]
      rw [this]
      simp [c2, herr, hldC]
      exact ⟨hFe, rd_err _ _ _⟩
    simp [c2, hldA0]
    have hmay := AigP.all_may c1
    have hnn := AigP.may_nodes hmay
    have hgn : g.nodes = 1 + g.ins.length + g.ands.length := rfl
    have hins := AigP.may_ins hmay
    have hnd' : g.ins.Nodup := insOk_nodup hins
    refine GCall.reads (args' := [AigP.enc ⟨g.ins, []⟩]) (.cons (.agg (.cons (.same _) (.cons (.nils 2) .nil))) .nil) ?_
    refine aig_maker_ok (g := ⟨g.ins, []⟩) (by show g.ins.length < _; omega) (by simp) hnd' fun σ1 hm1 hF1 => ?_
    obtain ⟨st, hMA⟩ := hM.a
    have hl1 := hF1.len
    obtain ⟨mid, hmid⟩ : ∃ mid, σ'.length + 3 = mid := ⟨_, rfl⟩
    rw [hmid] at hm1 ⊢
    have hmidl : mid < σ1.length := (hm1.dom (.inl rfl)).1
    have hA1 := (hF1.get _ (by omega)).trans hA
    have hC1 := (hF1.get _ (by omega)).trans hC
    have hD1 := (hF1.get _ (by omega)).trans hD
    have hMA1 := hMA.fit (hF1.get (σ.length + 2) (by omega))
    have hO1 : Own (σ.length + 4) 1 eint σ1 s (by_.map (·.2)) := hO.fr hF1
    have hF01 : Fr σ.length σ σ1 := hF.trans (hF1.mono (by omega))
    have hOlt : ∀ j, s.has j → j < σ'.length := fun j hj => hO.has_lt hj
    clear hM hO hF hA hC hD hMA hldA hldA0 hldD herr hldC hFe hi hlt hF1
    have hFe1 : ∀ τ, Fr σ.length σ ((σ1 ++ τ).set (σ.length + 1) (.row false [.nils, .nils])) := fun τ => (hF01.app τ).set (by omega) _
    have hD1τ : ∀ τ, gload (.load 1 false) [.ptr (σ.length + 3) 0] (σ1 ++ τ) = some (.map (σ.length + 2)) := fun τ => by rw [ld_at (getE_append hD1)]; rfl
    have hA1τ : ∀ τ, gload (.load 2 true) [.ptr σ.length 0] (σ1 ++ τ) = some g.enc := fun τ => by rw [ld_agg (getE_append hA1)]; rfl
    have hmr : gimp .mrange [.map (σ.length + 2)] (σ1 ++ [.row false [.ptr mid 0]]) = some (.ptr (σ1.length + 1) 0, σ1 ++ [.row false [.ptr mid 0], .it (some (σ.length + 2)) st.2 [] st.2]) := by
      have := mrange_ok (hMA1.fit (σ' := σ1 ++ [.row false [.ptr mid 0]]) (List.getElem?_append_left (by omega)))
      simpa using this
    have herrτ : ∀ τ, gimp (.store 2) [.ptr (σ.length + 1) 0, .agg [.nils, .nils]] (σ1 ++ τ) = some (.tuple [], (σ1 ++ τ).set (σ.length + 1) (.row false [.nils, .nils])) := fun τ => by simp [gimp, getE_append hC1, over]
    have hldCτ : ∀ τ, gload (.load 2 true) [.ptr (σ.length + 1) 0] ((σ1 ++ τ).set (σ.length + 1) (.row false [.nils, .nils])) = some (.agg [.nils, .nils]) := fun τ => by
      rw [ld_agg (List.getElem?_set_self (by simp; omega))]; rfl
    simp [hD1τ, hmr]
    refine gwhile (mkEnv 117 [(1, fints l), (3, .ptr σ.length 0), (6, .ptr (σ.length + 1) 0), (9, .ptr (σ.length + 3) 0), (10, s), (15, .ptr σ1.length 0), (65, .ptr (σ1.length + 1) 0)]) (unseen st.1 []) (fun n e σ2 => ∃ seen, n = unseen st.1 seen ∧ e = mkEnv 117 [(1, fints l), (3, .ptr σ.length 0), (6, .ptr (σ.length + 1) 0), (9, .ptr (σ.length + 3) 0), (10, s), (15, .ptr σ1.length 0), (65, .ptr (σ1.length + 1) 0)] ∧
        σ2 = σ1 ++ [.row false [.ptr mid 0], .it (some (σ.length + 2)) st.2 seen st.2] ∧ ∀ (i : Nat) (o : Int × Int) (b : Nat), by_[i]? = some o → st.1[i]? = some b → b ∈ seen → o.1 ∈ g.ins) ?_ ⟨[], rfl, rfl, rfl, fun i o b _ _ hb => by cases hb⟩ ?_
    · simp [mkEnv, List.replicate]
    rintro n _ _ ⟨seen, rfl, rfl, rfl, hseen⟩
    simp [mkEnv, List.replicate]
    refine next_ok (hMA1.fit (List.getElem?_append_left (by omega))) (seen := seen) (by simp) (fun hall => ?_) (fun i k v b hk hb hnb => ?_)
    rotate_left
    · -- a key
      simp only [ents, List.getElem?_map, Option.map_eq_some_iff] at hk
      obtain ⟨o, ho, hko⟩ := hk
      cases hko
      have hMAτ := hMA1.fit (σ' := σ1 ++ [.row false [.ptr mid 0], .it (some (σ.length + 2)) st.2 (seen ++ [b]) st.2]) (List.getElem?_append_left (by omega))
      have hent := entry_ok (i := i) (k := o.1) (v := kint o.2) (b := b) (seen := seen) hMAτ (it := σ1.length + 1) (by simp) (by simp [ents, ho]) hb
      have hm1τ := hm1.app [.row false [.ptr mid 0], .it (some (σ.length + 2)) st.2 (seen ++ [b]) st.2]
      obtain ⟨si, sa, at_, in_, la, li, hR⟩ := hm1τ
      have hfld : gload (.load 1 false) [.ptr mid 4] (σ1 ++ [.row false [.ptr mid 0], .it (some (σ.length + 2)) st.2 (seen ++ [b]) st.2]) = some (.map in_) := ld_at hR.row
      have hlk : gload (.lookup (.int .i64) (.int .i64 0) true) [.map in_, .int .i64 o.1] (σ1 ++ [.row false [.ptr mid 0], .it (some (σ.length + 2)) st.2 (seen ++ [b]) st.2]) = _ := hR.inm.lookup (kt := .int .i64) o.1 (.int .i64 0) true
      rw [hR.ins_] at hlk
      simp [set_tail]
      by_cases hin : o.1 ∈ g.ins
      · have hpos : 0 ≤ edgeOf g.ins o.1 := by
          rcases Classical.em (0 ≤ edgeOf g.ins o.1) with h' | h'
          · exact h'
          · exact absurd hin (edgeOf_none.1 h')
        simp [hpos] at hlk
        simp [hent, hfld, hlk]
        refine whK_go (unseen st.1 (seen ++ [b])) _ (unseen_lt (List.mem_of_getElem? hb) hnb) ?_ ⟨seen ++ [b], rfl, rfl, rfl, fun j o' b' hj hb' hm => ?_⟩
        · simp [mkEnv, List.replicate]
        · rcases List.mem_append.1 hm with hm | hm
          · exact hseen j o' b' hj hb' hm
          · simp at hm; subst hm
            have h1 := List.getElem?_eq_some_iff.1 hb
            have h2 := List.getElem?_eq_some_iff.1 hb'
            obtain ⟨a1, a2⟩ := h1; obtain ⟨b1, b2⟩ := h2
            have := (List.getElem_inj hMA1.ok.nodup (h₀ := a1) (h₁ := b1)).1 (a2.trans b2.symm)
            subst this
            rw [ho] at hj; cases hj; exact hin
      · have hneg : ¬ 0 ≤ edgeOf g.ins o.1 := edgeOf_none.2 hin
        simp [hneg] at hlk
        simp [hent, hfld, hlk, herrτ, hldCτ]
        have : g.compose l by_ = .err 6 := by
          unfold AigP.compose
          rw [if_pos (by simp [hnd, c1, c2]), if_neg]
          intro hall
          exact hin (by simpa using List.all_eq_true.1 hall o (List.mem_of_getElem? ho))
        rw [this]
        exact ⟨hFe1 _, rd_err _ _ _⟩
    · -- all keys are inputs
      have hkeys : ∀ o ∈ by_, o.1 ∈ g.ins := fun o ho => by
        obtain ⟨i, hi⟩ := List.mem_iff_getElem?.1 ho
        have hil := get_dom hi
        obtain ⟨b, hb⟩ := get_lt (xs := st.1) (i := i) (by rw [hMA1.ok.len]; simpa [ents] using hil)
        exact hseen i o b hi hb (hall b (List.mem_of_getElem? hb))
      clear hseen hall
      obtain ⟨σ2, hσ2⟩ : ∃ σ2, σ1 ++ [.row false [.ptr mid 0], .it (some (σ.length + 2)) st.2 seen st.2] = σ2 := ⟨_, rfl⟩
      have hl2 : σ2.length = σ1.length + 2 := by rw [← hσ2]; simp
      have hk2 : ∀ j, j < σ1.length → σ2[j]? = σ1[j]? := fun j hj => by rw [← hσ2]; exact List.getElem?_append_left hj
      have hbx2 : σ2[σ1.length]? = some (.row false [.ptr mid 0]) := by rw [← hσ2]; simp
      have hldbx : gload (.load 1 false) [.ptr σ1.length 0] σ2 = some (.ptr mid 0) := by rw [ld_at hbx2]; rfl
      have hA2 := (hk2 _ (by omega)).trans hA1
      have hldA2 : gload (.load 2 true) [.ptr σ.length 0] σ2 = some g.enc := by rw [ld_agg hA2]; rfl
      have hm2 : MkO σ'.length σ2 mid ⟨g.ins, [], false⟩ := hm1.keep hk2
      have hO2 : Own (σ.length + 4) 1 eint σ2 s (by_.map (·.2)) := hO1.fit fun j hj => hk2 j (hO1.has_lt hj)
      rw [hσ2]
      simp [hldbx, hldA2]
      have hoff : ∀ j, ¬ s.has j → (frz (fun i => s.idOf == some i) σ2)[j]? = σ2[j]? := fun j hj => frz_off (hO1.idOf_has hj)
      have hl3 : (frz (fun i => s.idOf == some i) σ2).length = σ1.length + 2 := by rw [frz_len, hl2]
      refine GCall.frz (fun i => s.idOf == some i) (args' := [.ptr mid 0, g.enc, fints (by_.map (·.2)), .func F_aig_Maker_own [.ptr mid 0] []]) (.cons (.same _) (.cons (.same _) (.cons (hO2.rdF fun _ => rfl) (.cons (.same _) .nil)))) ?_
      obtain ⟨σ3, hσ3⟩ : ∃ σ3, frz (fun i => s.idOf == some i) σ2 = σ3 := ⟨_, rfl⟩
      rw [hσ3] at hoff hl3 ⊢
      have hft3 : ∀ j, Ft σ2 mid j → ¬ s.has j := fun j hj hh => by have := (hm2.dom hj).2; have := hOlt j hh; omega
      have hm3 : MkO σ'.length σ3 mid ⟨g.ins, [], false⟩ := hm2.fit fun j hj => hoff j (hft3 j hj)
      have hms : (Mk.mk g.ins [] false).n = 1 + g.ins.length := by simp [Mk.n]
      have hb3 : ∀ j, j < σ.length + 4 → σ3[j]? = σ1[j]? := fun j hj => (hoff j fun hh => by have := hO1.has_ge hh; omega).trans (hk2 j (by omega))
      have hbx3 : σ3[σ1.length]? = some (.row false [.ptr mid 0]) := (hoff _ fun hh => by have := hOlt _ hh; omega).trans hbx2
      have hnf3 : ∀ j, j < σ.length + 4 → ¬ Ft σ3 mid j := fun j hj hf => by have := (hm3.dom hf).2; omega
      have hnfb : ¬ Ft σ3 mid σ1.length := fun hf => by
        rw [hm2.ft_eq (hoff mid (hft3 mid (.inl rfl))), hm1.ft_eq (hk2 mid hmidl)] at hf
        have := (hm1.dom hf).1; omega
      have hiv : ∀ v ∈ g.ins, 0 ≤ max (edgeOf g.ins v) 0 ∧ max (edgeOf g.ins v) 0 < 2 * ((Mk.mk g.ins [] false).n : Int) := fun v hv => by
        have := edgeOf_lt g.ins v; rw [hms]; omega
      have hiveq : (g.ins.map fun v => max (edgeOf g.ins v) 0) = g.ins.map (edgeOf g.ins) := List.map_congr_left fun v hv => Int.max_eq_left (edgeOf_pos hv)
      refine aig_copied_ok (iv := fun v => max (edgeOf g.ins v) 0) hm3 (by omega) (by simp [Mk.ok, andsOk]) (by rw [hms]; omega) hmay (by simp; omega) (fun e he => AigP.all_has c2 he) (fun v hv σ' hk K hK => aig_own_ok (hm3.keep hk) hK) hiv fun σ4 T1 hm4 hst4 hag4 hT4 => ?_
      rw [hiveq] at hm4 hag4 hT4
      obtain ⟨c, hc⟩ : ∃ c, (Mk.mk g.ins [] false).copy g (g.reach (by_.map (·.2))) (0 :: g.ins.map (edgeOf g.ins)) = c := ⟨_, rfl⟩
      have hcl : c.1.length = g.nodes := by rw [← hc]; exact Mk.copy_len (by simp; omega)
      have hcn : (Mk.mk g.ins [] false).n ≤ c.2.n ∧ c.2.n ≤ (Mk.mk g.ins [] false).n + g.ands.length := by rw [← hc]; exact Mk.copy_n
      have hci : c.2.ins = g.ins := by rw [← hc]; exact Mk.copy_ins
      have hcok : CpOk c := by
        rw [← hc]
        refine Mk.copy_ok (by simp [Mk.ok, andsOk]) fun t ht => ?_
        simp only [List.mem_cons, List.mem_map] at ht
        rcases ht with rfl | ⟨v, hv, rfl⟩
        · rw [hms]; omega
        · have := edgeOf_lt g.ins v; have := edgeOf_pos hv; rw [hms]; omega
      rw [hc] at hm4 hag4 hT4
      rw [hms] at hcn
      have hT1l : T1.length = g.nodes := by rw [hag4.len, hcl]
      have hT1b : ∀ t ∈ T1, 0 ≤ t ∧ t < 2 ^ 60 := fun t ht => by have := hT4 t ht; omega
      have hl4 : σ1.length + 2 ≤ σ4.length := by have := hst4.len; omega
      have hb4 : ∀ j, j < σ.length + 4 → σ4[j]? = σ1[j]? := fun j hj => (hst4.get j (by omega) (hnf3 j hj)).trans (hb3 j hj)
      have hbx4 : σ4[σ1.length]? = some (.row false [.ptr mid 0]) := (hst4.get _ (by omega) hnfb).trans hbx3
      have hnf4 : ∀ j, j < σ.length + 4 → ¬ Ft σ4 mid j := fun j hj => hst4.ft j (by omega) (hnf3 j hj)
      have hnfb4 : ¬ Ft σ4 mid σ1.length := hst4.ft _ (by omega) hnfb
      have hA4 := (hb4 σ.length (by omega)).trans hA1
      have hC4 := (hb4 (σ.length + 1) (by omega)).trans hC1
      have hD4 := (hb4 (σ.length + 3) (by omega)).trans hD1
      have hMA4 := hMA1.fit (hb4 (σ.length + 2) (by omega))
      have hF4 : Fr σ.length σ σ4 := ⟨by omega, fun j hj => (hb4 j (by omega)).trans (hF01.get j hj)⟩
      clear hb3 hbx3 hnf3 hnfb hst4 hiv hiveq hoff hl3 hft3 hm3 hσ3 hO2 hm2 hA2 hldA2 hldbx hbx2 hk2 hl2 hσ2 hmr hldCτ herrτ hFe1 hD1τ hA1τ hO1 hOlt
      have hldD4 : gload (.load 1 false) [.ptr (σ.length + 3) 0] σ4 = some (.map (σ.length + 2)) := by rw [ld_at hD4]; rfl
      simp [hldD4, mrange_ok hMA4]
      have hstl : st.1.length = by_.length := by rw [hMA1.ok.len]; simp [ents]
      refine gwhile (mkEnv 117 [(1, fints l), (3, .ptr σ.length 0), (6, .ptr (σ.length + 1) 0), (9, .ptr (σ.length + 3) 0), (15, .ptr σ1.length 0), (19, .func F_aig_Maker_copied_1 [] [.fptr [fints T1]]), (89, .ptr σ4.length 0)]) (unseen st.1 []) (fun n e σ5 => ∃ seen, n = unseen st.1 seen ∧ e = mkEnv 117 [(1, fints l), (3, .ptr σ.length 0), (6, .ptr (σ.length + 1) 0), (9, .ptr (σ.length + 3) 0), (15, .ptr σ1.length 0), (19, .func F_aig_Maker_copied_1 [] [.fptr [fints T1]]), (89, .ptr σ4.length 0)] ∧
          MpA kint σ5 (σ.length + 2) (mixed (imgE T1) by_ st.1 seen) st ∧ σ5[σ4.length]? = some (.it (some (σ.length + 2)) st.2 seen st.2) ∧ (∀ j, j < σ4.length → j ≠ σ.length + 2 → σ5[j]? = σ4[j]?) ∧ σ5.length = σ4.length + 1) ?_ ⟨[], rfl, rfl, ?_, by simp, fun j hj _ => List.getElem?_append_left hj, by simp⟩ ?_
      · simp [mkEnv, List.replicate]
      · rw [mixed_nil hstl]; exact hMA4.fit (List.getElem?_append_left (by omega))
      clear seen
      rintro n _ σ5 ⟨seen, rfl, rfl, hM5, hit5, hk5, hl5⟩
      simp [mkEnv, List.replicate]
      refine next_ok hM5 hit5 (fun hall => ?_) (fun i k v b hk hb hnb => ?_)
      rotate_left
      · obtain ⟨o, ho, rfl, rfl⟩ := mixed_get hk hb hnb
        obtain ⟨σ6, hσ6⟩ : ∃ σ6, σ5.set σ4.length (.it (some (σ.length + 2)) st.2 (seen ++ [b]) st.2) = σ6 := ⟨_, rfl⟩
        have hne6 : ∀ j, j ≠ σ4.length → σ6[j]? = σ5[j]? := fun j hj => by rw [← hσ6]; exact List.getElem?_set_ne (Ne.symm hj)
        have hl6 : σ6.length = σ4.length + 1 := by rw [← hσ6]; simpa using hl5
        have hit6 : σ6[σ4.length]? = some (.it (some (σ.length + 2)) st.2 (seen ++ [b]) st.2) := by rw [← hσ6, List.getElem?_set_self (by omega)]
        have hM6 := hM5.fit (hne6 _ (by omega))
        have hent := entry_ok hM6 hit6 hk hb
        have hD6 : σ6[σ.length + 3]? = some (.row false [.map (σ.length + 2)]) := (hne6 _ (by omega)).trans ((hk5 _ (by omega) (by omega)).trans hD4)
        have hldD6 : gload (.load 1 false) [.ptr (σ.length + 3) 0] σ6 = some (.map (σ.length + 2)) := by rw [ld_at hD6]; rfl
        obtain ⟨e0, e1⟩ := AigP.all_has c2 (List.mem_map.2 ⟨o, List.mem_of_getElem? ho, rfl⟩)
        obtain ⟨hs1, hs2⟩ := hM6.set (kt := .int .i64) hk (kint (imgE T1 o.2))
        rw [mixed_set hM5.ok.nodup ho hb] at hs1 hs2
        rw [hσ6]
        simp [hent, hldD6]
        refine aig_of_ok e0 (by omega) (by omega) hT1b ?_
        simp [hldD6, hs1]
        refine whK_go (unseen st.1 (seen ++ [b])) _ (unseen_lt (List.mem_of_getElem? hb) hnb) ?_ ⟨seen ++ [b], rfl, rfl, hs2, ?_, fun j hj hj2 => ?_, by simp [hl6]⟩
        · simp [mkEnv, List.replicate]
        · rw [List.getElem?_set_ne (by omega)]; exact hit6
        · rw [List.getElem?_set_ne (by omega), hne6 _ (by omega)]; exact hk5 j hj hj2
      · rw [mixed_all hstl hall] at hM5
        have hb5 : ∀ j, j < σ4.length → j ≠ σ.length + 2 → σ5[j]? = σ4[j]? := hk5
        have hA5 := (hb5 _ (by omega) (by omega)).trans hA4
        have hC5 := (hb5 _ (by omega) (by omega)).trans hC4
        have hD5 := (hb5 _ (by omega) (by omega)).trans hD4
        have hbx5 := (hb5 _ (by omega) (by omega)).trans hbx4
        have hm5 : MkO σ'.length σ5 mid c.2 := hm4.fit fun j hj => hb5 j (hm4.dom hj).1 fun e => hnf4 (σ.length + 2) (by omega) (e ▸ hj)
        have hmid4 := (hm4.dom (.inl rfl)).1
        have hmidne : mid ≠ σ.length + 2 := by omega
        have hft5 : ∀ j, Ft σ5 mid j ↔ Ft σ4 mid j := fun j => hm4.ft_eq (hb5 mid hmid4 hmidne) j
        have hF5 : Fr σ.length σ σ5 := ⟨by omega, fun j hj => (hb5 j (by omega) (by omega)).trans (hF4.get j hj)⟩
        have hldbx : gload (.load 1 false) [.ptr σ1.length 0] σ5 = some (.ptr mid 0) := by rw [ld_at hbx5]; rfl
        have hldA5 : gload (.load 2 true) [.ptr σ.length 0] σ5 = some g.enc := by rw [ld_agg hA5]; rfl
        simp [hldbx, hldA5]
        obtain ⟨out, hout⟩ : ∃ out : Int → Option Int, out = fun v => (outOf by_ v).map (imgE T1) := ⟨_, rfl⟩
        have hkg : ∀ v, kget v (by_.map fun o => (o.1, kint (imgE T1 o.2))) = (out v).map kint := fun v => by rw [kget_out, hout]; simp [Function.comp_def]
        have hcpos : 0 < (c.2.n : Int) := by omega
        have hiv : ∀ v ∈ g.ins, 0 ≤ (match out v with | some e => e | none => max (edgeOf c.2.ins v) 0) ∧ (match out v with | some e => e | none => max (edgeOf c.2.ins v) 0) < 2 * (c.2.n : Int) := fun v hv => by
          cases ho : out v with
          | some e =>
            rw [hout] at ho
            obtain ⟨x, hx, rfl⟩ := Option.map_eq_some_iff.1 ho
            exact imgE_range hcpos hT4 x
          | none =>
            have := edgeOf_lt g.ins v
            rw [hci]; simp only; omega
        have hiveq : (g.ins.map fun v => (match out v with | some e => e | none => max (edgeOf c.2.ins v) 0)) = g.ins.map fun v => match outOf by_ v with | some e => imgE c.1 e | none => edgeOf g.ins v := by
          refine List.map_congr_left fun v hv => ?_
          rw [hout, hci]
          cases ho : outOf by_ v with
          | some e =>
            have he := outOf_mem ho
            obtain ⟨e0, e1⟩ := AigP.all_has c2 he
            simp only [ho, Option.map_some]
            exact hag4.img (AigP.reach_edge he e0 e1)
          | none =>
            simp only [ho, Option.map_none]
            exact Int.max_eq_left (edgeOf_pos hv)
        refine aig_copied_ok (pre := []) (iv := fun v => match out v with | some e => e | none => max (edgeOf c.2.ins v) 0) hm5 (by omega) hcok.ok (by omega) hmay (by omega) (fun e he => AigP.all_has c1 he) (fun v hv σ' hk K hK => ?_) hiv fun σ7 T2 hm7 hst7 hag7 hT7 => ?_
        · exact aig_Compose_1_ok (out := out) ((hk _ (by omega)).trans hD5) (hM5.o.fit (hk _ (by omega))) ((hk _ (by omega)).trans hbx5) (hm5.keep hk) (hkg v) hK
        · rw [hiveq] at hm7 hag7 hT7
          obtain ⟨d, hd⟩ : ∃ d, c.2.copy g (g.reach l) (0 :: g.ins.map fun v => match outOf by_ v with | some e => imgE c.1 e | none => edgeOf g.ins v) = d := ⟨_, rfl⟩
          rw [hd] at hm7 hag7 hT7
          have hb7 : ∀ j, j < σ5.length → ¬ Ft σ4 mid j → σ7[j]? = σ5[j]? := fun j hj hf => hst7.get j hj fun h => hf ((hft5 j).1 h)
          have hl7 := hst7.len
          have hbx7 := (hb7 _ (by omega) hnfb4).trans hbx5
          have hC7 := (hb7 _ (by omega) (hnf4 _ (by omega))).trans hC5
          have hF7 : Fr σ.length σ σ7 := ⟨by omega, fun j hj => (hb7 j (by omega) (hnf4 _ (by omega))).trans (hF5.get j hj)⟩
          have hldbx7 : gload (.load 1 false) [.ptr σ1.length 0] σ7 = some (.ptr mid 0) := by rw [ld_at hbx7]; rfl
          have hspec : g.compose l by_ = if d.2.full then .err 3 else ⟨d.2.graph, l.map (imgE d.1), 0⟩ := by
            rw [← hd, ← hc]
            unfold AigP.compose
            rw [if_pos (by simp [hnd, c1, c2]), if_pos (by simpa using hkeys)]
            rfl
          rw [hspec]
          obtain ⟨si, sa, at_, in_, la, li, hR⟩ := hm7
          have hfull : gload (.load 1 false) [.ptr mid 5] σ7 = some (.bool d.2.full) := ld_at hR.row
          have hgr : gload (.load 2 true) [.ptr mid 1] σ7 = some (.agg [si, sa]) := by rw [ld_agg hR.row]; rfl
          simp [hldbx7, hfull]
          cases hfu : d.2.full with
          | true =>
            have herr : gimp (.store 2) [.ptr (σ.length + 1) 0, .agg [.nils, .nils]] σ7 = some (.tuple [], σ7.set (σ.length + 1) (.row false [.nils, .nils])) := by simp [gimp, hC7, over]
            have hldC : gload (.load 2 true) [.ptr (σ.length + 1) 0] (σ7.set (σ.length + 1) (.row false [.nils, .nils])) = some (.agg [.nils, .nils]) := by
              rw [ld_agg (List.getElem?_set_self (by omega))]; rfl
            simp [herr, hldC]
            exact ⟨hF7.set (by omega) _, rd_err _ _ _⟩
          | false =>
            simp [hldbx7, hgr]
            have hT2l : T2.length = g.nodes := by rw [hag7.len, ← hd]; exact Mk.copy_len (by simp; omega)
            have hdn : d.2.n ≤ c.2.n + g.ands.length := by rw [← hd]; exact Mk.copy_n.2
            refine each_ok (pre := []) (c := imgE T2) hl (fun x hx σ' K hK => ?_) ?_
            · obtain ⟨x0, x1⟩ := AigP.all_has c1 hx
              exact aig_of_ok x0 (by omega) (by omega) (fun t ht => by have := hT7 t ht; omega) hK
            · have hst : gimp (.store 2) [.ptr (σ.length + 1) 0, .agg [si, sa]] σ7 = some (.tuple [], σ7.set (σ.length + 1) (.row false [si, sa])) := by simp [gimp, hC7, over, hR.ins.flat, hR.ands.flat]
              have hldC : gload (.load 2 true) [.ptr (σ.length + 1) 0] (σ7.set (σ.length + 1) (.row false [si, sa])) = some (.agg [si, sa]) := by
                rw [ld_agg (List.getElem?_set_self (by omega))]; rfl
              have hmapeq : l.map (imgE T2) = l.map (imgE d.1) := List.map_congr_left fun e he => by
                obtain ⟨e0, e1⟩ := AigP.all_has c1 he
                exact hag7.img (AigP.reach_edge he e0 e1)
              simp [hldbx7, hgr, hst, hldC, hmapeq]
              refine ⟨hF7.set (by omega) _, ?_⟩
              have hR' : MkR σ'.length (σ7.set (σ.length + 1) (.row false [si, sa])) mid d.2 si sa at_ in_ la li := hR.fit fun j hj => List.getElem?_set_ne fun e => by have := (hR.dom hj).2; omega
              exact .tuple (.cons (hR'.rd _ fun i hi => .inl (by omega)) (.cons (.same _) (.cons (.same _) .nil)))
end Go.Gh
namespace Go.Gh
open Go.RowKit Go.Proofs
set_option linter.unusedVariables false
set_option linter.unusedSimpArgs false
set_option maxRecDepth 100000
theorem aig_Cone_ok {g : AigP} {l : List Int} {σ : GS} {Post : DV → GS → Prop} (hs : g.Sm) (hl : l.length < 2 ^ 40) (h : Post (GOut.enc (g.compose l [])) σ) : GCall Try.prog F_aig_Cone [g.enc, fints l] σ Post := by
  refine GCall.pure (r := GOut.enc (g.compose l [])) ?_ (closed_gout _) h
  refine gc_aig_Cone ?_
  simp [G_aig_Cone, genv0, List.replicate]
  refine GCall.reads (args' := [g.enc, fints l, fands []]) (.cons (.same _) (.cons (.same _) (.cons (.nils 2) .nil))) ?_
  refine aig_Compose_ok hs hl (by simp) ?_
  simp
  exact .same _
theorem gabs_pos {x : Int} (h : isVar x = true) : gabs x = x := by
  simp only [isVar, Bool.and_eq_true, decide_eq_true_eq] at h
  unfold gabs; rw [if_neg (by omega)]
theorem gabs_negvar {v : Int} (h : isVar v = true) : gabs (-v) = v := by
  simp only [isVar, Bool.and_eq_true, decide_eq_true_eq] at h
  unfold gabs; rw [if_pos (by omega), Int.neg_neg, wrap_small] <;> omega
end Go.Gh
namespace Go.Gh
open Go.Proofs
abbrev F_skolemlaw06_great : Nat := 5
abbrev F_skolemref06_Nodes : Nat := 9
abbrev F_skolemref06_Same : Nat := 12
abbrev F_skolemref05_Ints : Nat := 13
abbrev F_skolemref06_May : Nat := 29
abbrev F_skolemref06_Not : Nat := 30
abbrev F_skolemref06_find : Nat := 31
abbrev F_skolemref06_Inputs : Nat := 64
noncomputable abbrev G_skolemref06_May : GFun := ⟨52, [(.tmp 2)], (.seq (.region [⟨0, ⟨(some 1), none, (.new .box), [(.tmp 0)]⟩, []⟩, ⟨0, ⟨(some 2), none, (.pure .id), [(.const (.bool false))]⟩, []⟩]) (.seq (.seq (.region [⟨0, ⟨(some 6), none, (.pure (.faddr 0)), [(.tmp 1)]⟩, []⟩, ⟨0, ⟨(some 7), none, (.load (.load 1 false)), [(.tmp 6)]⟩, []⟩, ⟨0, ⟨(some 8), none, (.call F_skolemref06_Inputs), [(.tmp 7)]⟩, []⟩, ⟨0, ⟨(some 9), none, (.pure (.un .not)), [(.tmp 8)]⟩, []⟩, ⟨0, ⟨(some 10), none, (.pure .id), [(.tmp 9)]⟩, []⟩, ⟨0, ⟨(some 11), (some (10, false)), (.load (.load 2 true)), [(.tmp 1)]⟩, []⟩, ⟨0, ⟨(some 12), (some (10, false)), (.call F_skolemref06_Nodes), [(.tmp 11)]⟩, []⟩, ⟨0, ⟨(some 13), (some (10, false)), (.pure (.bin .gtr .none)), [(.tmp 12), (.const (.int .i64 200000))]⟩, []⟩, ⟨0, ⟨(some 14), none, (.pure .pick), [(.tmp 10), (.const (.bool true)), (.tmp 13)]⟩, []⟩]) (.cond (.tmp 14) (.seq (.region [⟨0, ⟨(some 2), none, (.pure .id), [(.const (.bool false))]⟩, []⟩]) .ret) .skip)) (.seq (.seq (.region [⟨0, ⟨(some 3), none, (.pure .id), [(.const (.int .i64 0))]⟩, []⟩]) (.block 0 (.loop (.seq (.seq (.region [⟨0, ⟨(some 15), none, (.pure .id), [(.tmp 3)]⟩, []⟩, ⟨0, ⟨(some 16), none, (.pure (.faddr 1)), [(.tmp 1)]⟩, []⟩, ⟨0, ⟨(some 17), none, (.load (.load 1 false)), [(.tmp 16)]⟩, []⟩, ⟨0, ⟨(some 18), none, (.pure .len), [(.tmp 17)]⟩, []⟩, ⟨0, ⟨(some 19), none, (.pure (.bin .lss .none)), [(.tmp 15), (.tmp 18)]⟩, []⟩]) (.cond (.tmp 19) .skip (.exit 0))) (.seq (.block 1 (.seq (.region [⟨0, ⟨(some 22), none, (.pure (.faddr 0)), [(.tmp 1)]⟩, []⟩, ⟨0, ⟨(some 23), none, (.load (.load 1 false)), [(.tmp 22)]⟩, []⟩, ⟨0, ⟨(some 24), none, (.pure .len), [(.tmp 23)]⟩, []⟩, ⟨0, ⟨(some 25), none, (.pure (.bin .add .none)), [(.const (.int .i64 1)), (.tmp 24)]⟩, []⟩, ⟨0, ⟨(some 26), none, (.pure .id), [(.tmp 3)]⟩, []⟩, ⟨0, ⟨(some 27), none, (.pure (.bin .add .none)), [(.tmp 25), (.tmp 26)]⟩, []⟩, ⟨0, ⟨(some 28), none, (.pure (.bin .mul .none)), [(.const (.int .i64 2)), (.tmp 27)]⟩, []⟩, ⟨0, ⟨(some 4), none, (.pure .id), [(.tmp 28)]⟩, []⟩]) (.seq (.region [⟨0, ⟨(some 5), none, (.pure .id), [(.const (.int .i64 0))]⟩, []⟩]) (.block 2 (.loop (.seq (.seq (.region [⟨0, ⟨(some 29), none, (.pure .id), [(.tmp 5)]⟩, []⟩, ⟨0, ⟨(some 30), none, (.pure (.bin .lss .none)), [(.tmp 29), (.const (.int .i64 2))]⟩, []⟩]) (.cond (.tmp 30) .skip (.exit 2))) (.seq (.block 3 (.seq (.region [⟨0, ⟨(some 33), none, (.pure (.faddr 1)), [(.tmp 1)]⟩, []⟩, ⟨0, ⟨(some 34), none, (.load (.load 1 false)), [(.tmp 33)]⟩, []⟩, ⟨0, ⟨(some 35), none, (.pure .id), [(.tmp 3)]⟩, []⟩, ⟨0, ⟨(some 36), none, (.pure .id), [(.tmp 5)]⟩, []⟩, ⟨0, ⟨(some 37), none, (.pure (.iaddr 2)), [(.tmp 34), (.tmp 35)]⟩, []⟩, ⟨0, ⟨(some 38), none, (.pure (.iarr 2 1)), [(.tmp 37), (.tmp 36)]⟩, []⟩, ⟨0, ⟨(some 39), none, (.load (.load 1 false)), [(.tmp 38)]⟩, []⟩, ⟨0, ⟨(some 40), none, (.pure (.bin .lss .none)), [(.tmp 39), (.const (.int .i64 0))]⟩, []⟩, ⟨0, ⟨(some 41), none, (.pure .id), [(.tmp 40)]⟩, []⟩, ⟨0, ⟨(some 42), (some (41, false)), (.pure (.faddr 1)), [(.tmp 1)]⟩, []⟩, ⟨0, ⟨(some 43), (some (41, false)), (.load (.load 1 false)), [(.tmp 42)]⟩, []⟩, ⟨0, ⟨(some 44), (some (41, false)), (.pure .id), [(.tmp 3)]⟩, []⟩, ⟨0, ⟨(some 45), (some (41, false)), (.pure .id), [(.tmp 5)]⟩, []⟩, ⟨0, ⟨(some 46), (some (41, false)), (.pure (.iaddr 2)), [(.tmp 43), (.tmp 44)]⟩, []⟩, ⟨0, ⟨(some 47), (some (41, false)), (.pure (.iarr 2 1)), [(.tmp 46), (.tmp 45)]⟩, []⟩, ⟨0, ⟨(some 48), (some (41, false)), (.load (.load 1 false)), [(.tmp 47)]⟩, []⟩, ⟨0, ⟨(some 49), (some (41, false)), (.pure .id), [(.tmp 4)]⟩, []⟩, ⟨0, ⟨(some 50), (some (41, false)), (.pure (.bin .geq .none)), [(.tmp 48), (.tmp 49)]⟩, []⟩, ⟨0, ⟨(some 51), none, (.pure .pick), [(.tmp 41), (.const (.bool true)), (.tmp 50)]⟩, []⟩]) (.cond (.tmp 51) (.seq (.region [⟨0, ⟨(some 2), none, (.pure .id), [(.const (.bool false))]⟩, []⟩]) .ret) .skip))) (.region [⟨0, ⟨(some 31), none, (.pure .id), [(.tmp 5)]⟩, []⟩, ⟨0, ⟨(some 32), none, (.pure (.bin .add .none)), [(.tmp 31), (.const (.int .i64 1))]⟩, []⟩, ⟨0, ⟨(some 5), none, (.pure .id), [(.tmp 32)]⟩, []⟩])))))))) (.region [⟨0, ⟨(some 20), none, (.pure .id), [(.tmp 3)]⟩, []⟩, ⟨0, ⟨(some 21), none, (.pure (.bin .add .none)), [(.tmp 20), (.const (.int .i64 1))]⟩, []⟩, ⟨0, ⟨(some 3), none, (.pure .id), [(.tmp 21)]⟩, []⟩])))))) (.seq (.region [⟨0, ⟨(some 2), none, (.pure .id), [(.const (.bool true))]⟩, []⟩]) .ret))))⟩
theorem c_skolemref06_May : compF Try.prog Try.f29 = some G_skolemref06_May := by kernel_rfl
theorem gc_skolemref06_May {args : List DV} {σ : GS} {Post : DV → GS → Prop} (h : @exB Try.prog ⟨G_skolemref06_May.body⟩ (genv0 args G_skolemref06_May.ntmps) σ ⟨@gretB G_skolemref06_May.results ⟨Post⟩⟩) : GCall Try.prog F_skolemref06_May args σ Post := gcall_ofB seatfollows Try.func29 (by kernel_rfl) c_skolemref06_May h
noncomputable abbrev G_skolemref06_Inputs : GFun := ⟨38, [(.tmp 2)], (.seq (.region [⟨0, ⟨(some 2), none, (.pure .id), [(.const (.bool false))]⟩, []⟩]) (.seq (.seq (.region [⟨0, ⟨(some 3), none, (.pure .id), [(.const (.int .i64 0))]⟩, []⟩]) (.block 0 (.loop (.seq (.seq (.region [⟨0, ⟨(some 4), none, (.pure .id), [(.tmp 3)]⟩, []⟩, ⟨0, ⟨(some 5), none, (.pure .id), [(.tmp 0)]⟩, []⟩, ⟨0, ⟨(some 6), none, (.pure .len), [(.tmp 5)]⟩, []⟩, ⟨0, ⟨(some 7), none, (.pure (.bin .lss .none)), [(.tmp 4), (.tmp 6)]⟩, []⟩]) (.cond (.tmp 7) .skip (.exit 0))) (.seq (.block 1 (.seq (.region [⟨0, ⟨(some 10), none, (.pure .id), [(.tmp 0)]⟩, []⟩, ⟨1, ⟨(some 11), none, (.pure .id), [(.tmp 3)]⟩, []⟩, ⟨2, ⟨(some 12), none, (.pure (.iaddr 1)), [(.tmp 10), (.tmp 11)]⟩, []⟩, ⟨3, ⟨(some 13), none, (.load (.load 1 false)), [(.tmp 12)]⟩, []⟩, ⟨4, ⟨(some 14), none, (.pure (.bin .lss .none)), [(.tmp 13), (.const (.int .i64 1))]⟩, []⟩, ⟨5, ⟨(some 15), none, (.pure .id), [(.tmp 14)]⟩, []⟩, ⟨6, ⟨(some 16), (some (15, false)), (.pure .id), [(.tmp 0)]⟩, []⟩, ⟨7, ⟨(some 17), (some (15, false)), (.pure .id), [(.tmp 3)]⟩, []⟩, ⟨8, ⟨(some 18), (some (15, false)), (.pure (.iaddr 1)), [(.tmp 16), (.tmp 17)]⟩, []⟩, ⟨9, ⟨(some 19), (some (15, false)), (.load (.load 1 false)), [(.tmp 18)]⟩, []⟩, ⟨10, ⟨(some 20), (some (15, false)), (.pure (.bin .gtr .none)), [(.tmp 19), (.const (.int .i64 65536))]⟩, []⟩, ⟨11, ⟨(some 21), none, (.pure .pick), [(.tmp 15), (.const (.bool true)), (.tmp 20)]⟩, []⟩, ⟨12, ⟨(some 22), none, (.pure .id), [(.tmp 21)]⟩, []⟩, ⟨13, ⟨(some 23), (some (22, false)), (.pure .id), [(.tmp 3)]⟩, []⟩, ⟨14, ⟨(some 24), (some (22, false)), (.pure (.bin .gtr .none)), [(.tmp 23), (.const (.int .i64 0))]⟩, []⟩, ⟨15, ⟨(some 25), (some (22, false)), (.pure .id), [(.tmp 24)]⟩, []⟩, ⟨16, ⟨(some 26), (some (25, true)), (.pure .id), [(.tmp 0)]⟩, []⟩, ⟨17, ⟨(some 27), (some (25, true)), (.pure .id), [(.tmp 3)]⟩, []⟩, ⟨18, ⟨(some 28), (some (25, true)), (.pure (.iaddr 1)), [(.tmp 26), (.tmp 27)]⟩, []⟩, ⟨19, ⟨(some 29), (some (25, true)), (.load (.load 1 false)), [(.tmp 28)]⟩, []⟩, ⟨20, ⟨(some 30), (some (25, true)), (.pure .id), [(.tmp 0)]⟩, []⟩, ⟨21, ⟨(some 31), (some (25, true)), (.pure .id), [(.tmp 3)]⟩, []⟩, ⟨22, ⟨(some 32), (some (25, true)), (.pure (.bin .sub .none)), [(.tmp 31), (.const (.int .i64 1))]⟩, []⟩, ⟨23, ⟨(some 33), (some (25, true)), (.pure (.iaddr 1)), [(.tmp 30), (.tmp 32)]⟩, []⟩, ⟨24, ⟨(some 34), (some (25, true)), (.load (.load 1 false)), [(.tmp 33)]⟩, []⟩, ⟨25, ⟨(some 35), (some (25, true)), (.pure (.bin .leq .none)), [(.tmp 29), (.tmp 34)]⟩, []⟩, ⟨26, ⟨(some 36), (some (22, false)), (.pure .pick), [(.tmp 25), (.tmp 35), (.const (.bool false))]⟩, []⟩, ⟨27, ⟨(some 37), none, (.pure .pick), [(.tmp 22), (.const (.bool true)), (.tmp 36)]⟩, []⟩]) (.cond (.tmp 37) (.seq (.region [⟨0, ⟨(some 2), none, (.pure .id), [(.const (.bool false))]⟩, []⟩]) .ret) .skip))) (.region [⟨0, ⟨(some 8), none, (.pure .id), [(.tmp 3)]⟩, []⟩, ⟨0, ⟨(some 9), none, (.pure (.bin .add .none)), [(.tmp 8), (.const (.int .i64 1))]⟩, []⟩, ⟨0, ⟨(some 3), none, (.pure .id), [(.tmp 9)]⟩, []⟩])))))) (.seq (.region [⟨0, ⟨(some 2), none, (.pure .id), [(.const (.bool true))]⟩, []⟩]) .ret)))⟩
theorem c_skolemref06_Inputs : compF Try.prog Try.f64 = some G_skolemref06_Inputs := by kernel_rfl
theorem gc_skolemref06_Inputs {args : List DV} {σ : GS} {Post : DV → GS → Prop} (h : @exB Try.prog ⟨G_skolemref06_Inputs.body⟩ (genv0 args G_skolemref06_Inputs.ntmps) σ ⟨@gretB G_skolemref06_Inputs.results ⟨Post⟩⟩) : GCall Try.prog F_skolemref06_Inputs args σ Post := gcall_ofB seatfollows Try.func64 (by kernel_rfl) c_skolemref06_Inputs h
noncomputable abbrev G_skolemref06_Nodes : GFun := ⟨11, [(.tmp 2)], (.seq (.region [⟨0, ⟨(some 1), none, (.new .box), [(.tmp 0)]⟩, []⟩, ⟨0, ⟨(some 2), none, (.pure .id), [(.const (.int .i64 0))]⟩, []⟩]) (.seq (.region [⟨0, ⟨(some 3), none, (.pure (.faddr 0)), [(.tmp 1)]⟩, []⟩, ⟨0, ⟨(some 4), none, (.load (.load 1 false)), [(.tmp 3)]⟩, []⟩, ⟨0, ⟨(some 5), none, (.pure .len), [(.tmp 4)]⟩, []⟩, ⟨0, ⟨(some 6), none, (.pure (.bin .add .none)), [(.const (.int .i64 1)), (.tmp 5)]⟩, []⟩, ⟨0, ⟨(some 7), none, (.pure (.faddr 1)), [(.tmp 1)]⟩, []⟩, ⟨0, ⟨(some 8), none, (.load (.load 1 false)), [(.tmp 7)]⟩, []⟩, ⟨0, ⟨(some 9), none, (.pure .len), [(.tmp 8)]⟩, []⟩, ⟨0, ⟨(some 10), none, (.pure (.bin .add .none)), [(.tmp 6), (.tmp 9)]⟩, []⟩, ⟨0, ⟨(some 2), none, (.pure .id), [(.tmp 10)]⟩, []⟩]) .ret))⟩
theorem c_skolemref06_Nodes : compF Try.prog Try.f9 = some G_skolemref06_Nodes := by kernel_rfl
theorem gc_skolemref06_Nodes {args : List DV} {σ : GS} {Post : DV → GS → Prop} (h : @exB Try.prog ⟨G_skolemref06_Nodes.body⟩ (genv0 args G_skolemref06_Nodes.ntmps) σ ⟨@gretB G_skolemref06_Nodes.results ⟨Post⟩⟩) : GCall Try.prog F_skolemref06_Nodes args σ Post := gcall_ofB seatfollows Try.func9 (by kernel_rfl) c_skolemref06_Nodes h
noncomputable abbrev G_skolemref06_Not : GFun := ⟨9, [(.tmp 2)], (.seq (.region [⟨0, ⟨(some 2), none, (.pure .id), [(.const (.int .i64 0))]⟩, []⟩]) (.seq (.region [⟨0, ⟨(some 3), none, (.pure .id), [(.tmp 0)]⟩, []⟩, ⟨0, ⟨(some 4), none, (.pure (.bin .add .none)), [(.tmp 3), (.const (.int .i64 1))]⟩, []⟩, ⟨0, ⟨(some 5), none, (.pure .id), [(.tmp 0)]⟩, []⟩, ⟨0, ⟨(some 6), none, (.pure (.bin .rem .none)), [(.tmp 5), (.const (.int .i64 2))]⟩, []⟩, ⟨0, ⟨(some 7), none, (.pure (.bin .mul .none)), [(.const (.int .i64 2)), (.tmp 6)]⟩, []⟩, ⟨0, ⟨(some 8), none, (.pure (.bin .sub .none)), [(.tmp 4), (.tmp 7)]⟩, []⟩, ⟨0, ⟨(some 2), none, (.pure .id), [(.tmp 8)]⟩, []⟩]) .ret))⟩
theorem c_skolemref06_Not : compF Try.prog Try.f30 = some G_skolemref06_Not := by kernel_rfl
theorem gc_skolemref06_Not {args : List DV} {σ : GS} {Post : DV → GS → Prop} (h : @exB Try.prog ⟨G_skolemref06_Not.body⟩ (genv0 args G_skolemref06_Not.ntmps) σ ⟨@gretB G_skolemref06_Not.results ⟨Post⟩⟩) : GCall Try.prog F_skolemref06_Not args σ Post := gcall_ofB seatfollows Try.func30 (by kernel_rfl) c_skolemref06_Not h
noncomputable abbrev G_skolemref06_find : GFun := ⟨41, [(.tmp 6)], (.seq (.region [⟨0, ⟨(some 3), none, (.new .box), [(.tmp 0)]⟩, []⟩, ⟨0, ⟨(some 6), none, (.pure .id), [(.const (.int .i64 0))]⟩, []⟩]) (.seq (.seq (.region [⟨0, ⟨(some 8), none, (.pure .id), [(.tmp 2)]⟩, []⟩, ⟨0, ⟨(some 9), none, (.pure (.bin .quo .none)), [(.tmp 8), (.const (.int .i64 2))]⟩, []⟩, ⟨0, ⟨(some 10), none, (.pure (.faddr 0)), [(.tmp 3)]⟩, []⟩, ⟨0, ⟨(some 11), none, (.load (.load 1 false)), [(.tmp 10)]⟩, []⟩, ⟨0, ⟨(some 12), none, (.pure .len), [(.tmp 11)]⟩, []⟩, ⟨0, ⟨(some 13), none, (.pure (.bin .sub .none)), [(.tmp 9), (.tmp 12)]⟩, []⟩, ⟨0, ⟨(some 14), none, (.pure .mx), [(.const (.int .i64 0)), (.tmp 13)]⟩, []⟩, ⟨0, ⟨(some 7), none, (.pure .id), [(.tmp 14)]⟩, []⟩]) (.block 0 (.loop (.seq (.seq (.region [⟨0, ⟨(some 15), none, (.pure .id), [(.tmp 7)]⟩, []⟩, ⟨0, ⟨(some 16), none, (.pure (.faddr 1)), [(.tmp 3)]⟩, []⟩, ⟨0, ⟨(some 17), none, (.load (.load 1 false)), [(.tmp 16)]⟩, []⟩, ⟨0, ⟨(some 18), none, (.pure .len), [(.tmp 17)]⟩, []⟩, ⟨0, ⟨(some 19), none, (.pure (.bin .lss .none)), [(.tmp 15), (.tmp 18)]⟩, []⟩]) (.cond (.tmp 19) .skip (.exit 0))) (.seq (.block 1 (.seq (.region [⟨0, ⟨(some 22), none, (.pure (.faddr 1)), [(.tmp 3)]⟩, []⟩, ⟨0, ⟨(some 23), none, (.load (.load 1 false)), [(.tmp 22)]⟩, []⟩, ⟨0, ⟨(some 24), none, (.pure .id), [(.tmp 7)]⟩, []⟩, ⟨0, ⟨(some 25), none, (.pure (.iaddr 2)), [(.tmp 23), (.tmp 24)]⟩, []⟩, ⟨0, ⟨(some 26), none, (.pure (.iarr 2 1)), [(.tmp 25), (.const (.int .i64 0))]⟩, []⟩, ⟨0, ⟨(some 27), none, (.load (.load 1 false)), [(.tmp 26)]⟩, []⟩, ⟨0, ⟨(some 28), none, (.pure .id), [(.tmp 1)]⟩, []⟩, ⟨0, ⟨(some 29), none, (.pure (.bin .eql .none)), [(.tmp 27), (.tmp 28)]⟩, []⟩, ⟨0, ⟨(some 30), none, (.pure .id), [(.tmp 29)]⟩, []⟩, ⟨0, ⟨(some 31), (some (30, true)), (.pure (.faddr 1)), [(.tmp 3)]⟩, []⟩, ⟨0, ⟨(some 32), (some (30, true)), (.load (.load 1 false)), [(.tmp 31)]⟩, []⟩, ⟨0, ⟨(some 33), (some (30, true)), (.pure .id), [(.tmp 7)]⟩, []⟩, ⟨0, ⟨(some 34), (some (30, true)), (.pure (.iaddr 2)), [(.tmp 32), (.tmp 33)]⟩, []⟩, ⟨0, ⟨(some 35), (some (30, true)), (.pure (.iarr 2 1)), [(.tmp 34), (.const (.int .i64 1))]⟩, []⟩, ⟨0, ⟨(some 36), (some (30, true)), (.load (.load 1 false)), [(.tmp 35)]⟩, []⟩, ⟨0, ⟨(some 37), (some (30, true)), (.pure .id), [(.tmp 2)]⟩, []⟩, ⟨0, ⟨(some 38), (some (30, true)), (.pure (.bin .eql .none)), [(.tmp 36), (.tmp 37)]⟩, []⟩, ⟨0, ⟨(some 39), none, (.pure .pick), [(.tmp 30), (.tmp 38), (.const (.bool false))]⟩, []⟩]) (.cond (.tmp 39) (.seq (.region [⟨0, ⟨(some 40), none, (.pure .id), [(.tmp 7)]⟩, []⟩, ⟨0, ⟨(some 6), none, (.pure .id), [(.tmp 40)]⟩, []⟩]) .ret) .skip))) (.region [⟨0, ⟨(some 20), none, (.pure .id), [(.tmp 7)]⟩, []⟩, ⟨0, ⟨(some 21), none, (.pure (.bin .add .none)), [(.tmp 20), (.const (.int .i64 1))]⟩, []⟩, ⟨0, ⟨(some 7), none, (.pure .id), [(.tmp 21)]⟩, []⟩])))))) (.seq (.region [⟨0, ⟨(some 6), none, (.pure .id), [(.const (.int .i64 (-1)))]⟩, []⟩]) .ret)))⟩
theorem c_skolemref06_find : compF Try.prog Try.f31 = some G_skolemref06_find := by kernel_rfl
theorem gc_skolemref06_find {args : List DV} {σ : GS} {Post : DV → GS → Prop} (h : @exB Try.prog ⟨G_skolemref06_find.body⟩ (genv0 args G_skolemref06_find.ntmps) σ ⟨@gretB G_skolemref06_find.results ⟨Post⟩⟩) : GCall Try.prog F_skolemref06_find args σ Post := gcall_ofB seatfollows Try.func31 (by kernel_rfl) c_skolemref06_find h
noncomputable abbrev G_skolemref06_Same : GFun := ⟨39, [(.tmp 4)], (.seq (.region [⟨0, ⟨(some 2), none, (.new .box), [(.tmp 0)]⟩, []⟩, ⟨0, ⟨(some 3), none, (.new .box), [(.tmp 1)]⟩, []⟩, ⟨0, ⟨(some 4), none, (.pure .id), [(.const (.bool false))]⟩, []⟩]) (.seq (.seq (.region [⟨0, ⟨(some 6), none, (.pure (.faddr 0)), [(.tmp 2)]⟩, []⟩, ⟨0, ⟨(some 7), none, (.load (.load 1 false)), [(.tmp 6)]⟩, []⟩, ⟨0, ⟨(some 8), none, (.pure (.faddr 0)), [(.tmp 3)]⟩, []⟩, ⟨0, ⟨(some 9), none, (.load (.load 1 false)), [(.tmp 8)]⟩, []⟩, ⟨0, ⟨(some 10), none, (.call F_skolemref05_Ints), [(.tmp 7), (.tmp 9)]⟩, []⟩, ⟨0, ⟨(some 11), none, (.pure (.un .not)), [(.tmp 10)]⟩, []⟩, ⟨0, ⟨(some 12), none, (.pure .id), [(.tmp 11)]⟩, []⟩, ⟨0, ⟨(some 13), (some (12, false)), (.pure (.faddr 1)), [(.tmp 2)]⟩, []⟩, ⟨0, ⟨(some 14), (some (12, false)), (.load (.load 1 false)), [(.tmp 13)]⟩, []⟩, ⟨0, ⟨(some 15), (some (12, false)), (.pure .len), [(.tmp 14)]⟩, []⟩, ⟨0, ⟨(some 16), (some (12, false)), (.pure (.faddr 1)), [(.tmp 3)]⟩, []⟩, ⟨0, ⟨(some 17), (some (12, false)), (.load (.load 1 false)), [(.tmp 16)]⟩, []⟩, ⟨0, ⟨(some 18), (some (12, false)), (.pure .len), [(.tmp 17)]⟩, []⟩, ⟨0, ⟨(some 19), (some (12, false)), (.pure (.bin .neq .none)), [(.tmp 15), (.tmp 18)]⟩, []⟩, ⟨0, ⟨(some 20), none, (.pure .pick), [(.tmp 12), (.const (.bool true)), (.tmp 19)]⟩, []⟩]) (.cond (.tmp 20) (.seq (.region [⟨0, ⟨(some 4), none, (.pure .id), [(.const (.bool false))]⟩, []⟩]) .ret) .skip)) (.seq (.seq (.region [⟨0, ⟨(some 5), none, (.pure .id), [(.const (.int .i64 0))]⟩, []⟩]) (.block 0 (.loop (.seq (.seq (.region [⟨0, ⟨(some 21), none, (.pure .id), [(.tmp 5)]⟩, []⟩, ⟨0, ⟨(some 22), none, (.pure (.faddr 1)), [(.tmp 2)]⟩, []⟩, ⟨0, ⟨(some 23), none, (.load (.load 1 false)), [(.tmp 22)]⟩, []⟩, ⟨0, ⟨(some 24), none, (.pure .len), [(.tmp 23)]⟩, []⟩, ⟨0, ⟨(some 25), none, (.pure (.bin .lss .none)), [(.tmp 21), (.tmp 24)]⟩, []⟩]) (.cond (.tmp 25) .skip (.exit 0))) (.seq (.block 1 (.seq (.region [⟨0, ⟨(some 28), none, (.pure (.faddr 1)), [(.tmp 2)]⟩, []⟩, ⟨1, ⟨(some 29), none, (.load (.load 1 false)), [(.tmp 28)]⟩, []⟩, ⟨2, ⟨(some 30), none, (.pure .id), [(.tmp 5)]⟩, []⟩, ⟨3, ⟨(some 31), none, (.pure (.iaddr 2)), [(.tmp 29), (.tmp 30)]⟩, []⟩, ⟨4, ⟨(some 32), none, (.load (.load 2 true)), [(.tmp 31)]⟩, []⟩, ⟨5, ⟨(some 33), none, (.pure (.faddr 1)), [(.tmp 3)]⟩, []⟩, ⟨6, ⟨(some 34), none, (.load (.load 1 false)), [(.tmp 33)]⟩, []⟩, ⟨7, ⟨(some 35), none, (.pure .id), [(.tmp 5)]⟩, []⟩, ⟨8, ⟨(some 36), none, (.pure (.iaddr 2)), [(.tmp 34), (.tmp 35)]⟩, []⟩, ⟨9, ⟨(some 37), none, (.load (.load 2 true)), [(.tmp 36)]⟩, []⟩, ⟨10, ⟨(some 38), none, (.pure (.bin .neq (.arr2 .i64))), [(.tmp 32), (.tmp 37)]⟩, []⟩]) (.cond (.tmp 38) (.seq (.region [⟨0, ⟨(some 4), none, (.pure .id), [(.const (.bool false))]⟩, []⟩]) .ret) .skip))) (.region [⟨0, ⟨(some 26), none, (.pure .id), [(.tmp 5)]⟩, []⟩, ⟨0, ⟨(some 27), none, (.pure (.bin .add .none)), [(.tmp 26), (.const (.int .i64 1))]⟩, []⟩, ⟨0, ⟨(some 5), none, (.pure .id), [(.tmp 27)]⟩, []⟩])))))) (.seq (.region [⟨0, ⟨(some 4), none, (.pure .id), [(.const (.bool true))]⟩, []⟩]) .ret))))⟩
theorem c_skolemref06_Same : compF Try.prog Try.f12 = some G_skolemref06_Same := by kernel_rfl
theorem gc_skolemref06_Same {args : List DV} {σ : GS} {Post : DV → GS → Prop} (h : @exB Try.prog ⟨G_skolemref06_Same.body⟩ (genv0 args G_skolemref06_Same.ntmps) σ ⟨@gretB G_skolemref06_Same.results ⟨Post⟩⟩) : GCall Try.prog F_skolemref06_Same args σ Post := gcall_ofB seatfollows Try.func12 (by kernel_rfl) c_skolemref06_Same h
noncomputable abbrev G_skolemref05_Ints : GFun := ⟨26, [(.tmp 4)], (.seq (.region [⟨0, ⟨(some 4), none, (.pure .id), [(.const (.bool false))]⟩, []⟩]) (.seq (.seq (.region [⟨0, ⟨(some 6), none, (.pure .id), [(.tmp 0)]⟩, []⟩, ⟨0, ⟨(some 7), none, (.pure .len), [(.tmp 6)]⟩, []⟩, ⟨0, ⟨(some 8), none, (.pure .id), [(.tmp 1)]⟩, []⟩, ⟨0, ⟨(some 9), none, (.pure .len), [(.tmp 8)]⟩, []⟩, ⟨0, ⟨(some 10), none, (.pure (.bin .neq .none)), [(.tmp 7), (.tmp 9)]⟩, []⟩]) (.cond (.tmp 10) (.seq (.region [⟨0, ⟨(some 4), none, (.pure .id), [(.const (.bool false))]⟩, []⟩]) .ret) .skip)) (.seq (.seq (.region [⟨0, ⟨(some 5), none, (.pure .id), [(.const (.int .i64 0))]⟩, []⟩]) (.block 0 (.loop (.seq (.seq (.region [⟨0, ⟨(some 11), none, (.pure .id), [(.tmp 5)]⟩, []⟩, ⟨0, ⟨(some 12), none, (.pure .id), [(.tmp 0)]⟩, []⟩, ⟨0, ⟨(some 13), none, (.pure .len), [(.tmp 12)]⟩, []⟩, ⟨0, ⟨(some 14), none, (.pure (.bin .lss .none)), [(.tmp 11), (.tmp 13)]⟩, []⟩]) (.cond (.tmp 14) .skip (.exit 0))) (.seq (.block 1 (.seq (.region [⟨0, ⟨(some 17), none, (.pure .id), [(.tmp 0)]⟩, []⟩, ⟨1, ⟨(some 18), none, (.pure .id), [(.tmp 5)]⟩, []⟩, ⟨2, ⟨(some 19), none, (.pure (.iaddr 1)), [(.tmp 17), (.tmp 18)]⟩, []⟩, ⟨3, ⟨(some 20), none, (.load (.load 1 false)), [(.tmp 19)]⟩, []⟩, ⟨4, ⟨(some 21), none, (.pure .id), [(.tmp 1)]⟩, []⟩, ⟨5, ⟨(some 22), none, (.pure .id), [(.tmp 5)]⟩, []⟩, ⟨6, ⟨(some 23), none, (.pure (.iaddr 1)), [(.tmp 21), (.tmp 22)]⟩, []⟩, ⟨7, ⟨(some 24), none, (.load (.load 1 false)), [(.tmp 23)]⟩, []⟩, ⟨8, ⟨(some 25), none, (.pure (.bin .neq .none)), [(.tmp 20), (.tmp 24)]⟩, []⟩]) (.cond (.tmp 25) (.seq (.region [⟨0, ⟨(some 4), none, (.pure .id), [(.const (.bool false))]⟩, []⟩]) .ret) .skip))) (.region [⟨0, ⟨(some 15), none, (.pure .id), [(.tmp 5)]⟩, []⟩, ⟨0, ⟨(some 16), none, (.pure (.bin .add .none)), [(.tmp 15), (.const (.int .i64 1))]⟩, []⟩, ⟨0, ⟨(some 5), none, (.pure .id), [(.tmp 16)]⟩, []⟩])))))) (.seq (.region [⟨0, ⟨(some 4), none, (.pure .id), [(.const (.bool true))]⟩, []⟩]) .ret))))⟩
theorem c_skolemref05_Ints : compF Try.prog Try.f13 = some G_skolemref05_Ints := by kernel_rfl
theorem gc_skolemref05_Ints {args : List DV} {σ : GS} {Post : DV → GS → Prop} (h : @exB Try.prog ⟨G_skolemref05_Ints.body⟩ (genv0 args G_skolemref05_Ints.ntmps) σ ⟨@gretB G_skolemref05_Ints.results ⟨Post⟩⟩) : GCall Try.prog F_skolemref05_Ints args σ Post := gcall_ofB seatfollows Try.func13 (by kernel_rfl) c_skolemref05_Ints h
noncomputable abbrev G_skolemlaw06_great : GFun := ⟨22, [(.tmp 2)], (.seq (.region [⟨0, ⟨(some 2), none, (.pure .id), [(.const (.bool false))]⟩, []⟩]) (.seq (.seq (.region [⟨0, ⟨(some 5), none, (.pure .id), [(.tmp 0)]⟩, []⟩, ⟨0, ⟨(some 6), none, (.pure .len), [(.tmp 5)]⟩, []⟩, ⟨0, ⟨(some 7), none, (.pure .id), [(.const (.int .i64 0))]⟩, []⟩]) (.block 0 (.loop (.seq (.region [⟨0, ⟨(some 8), none, (.pure (.bin .lss .none)), [(.tmp 7), (.tmp 6)]⟩, []⟩]) (.seq (.cond (.tmp 8) .skip (.exit 0)) (.seq (.block 1 (.seq (.region [⟨0, ⟨(some 9), none, (.pure (.iaddr 2)), [(.tmp 5), (.tmp 7)]⟩, []⟩, ⟨0, ⟨(some 10), none, (.load (.load 2 true)), [(.tmp 9)]⟩, []⟩, ⟨0, ⟨(some 4), none, (.new (.alloc [.nils, .nils])), []⟩, []⟩, ⟨0, ⟨none, none, (.imp (.store 2)), [(.tmp 4), (.tmp 10)]⟩, []⟩]) (.seq (.region [⟨0, ⟨(some 11), none, (.pure (.faddr 1)), [(.tmp 4)]⟩, []⟩, ⟨0, ⟨(some 12), none, (.load (.load 1 false)), [(.tmp 11)]⟩, []⟩, ⟨0, ⟨(some 13), none, (.pure .len), [(.tmp 12)]⟩, []⟩, ⟨0, ⟨(some 14), none, (.pure (.bin .gtr .none)), [(.tmp 13), (.const (.int .i64 600))]⟩, []⟩, ⟨0, ⟨(some 15), none, (.pure .id), [(.tmp 14)]⟩, []⟩, ⟨0, ⟨(some 16), (some (15, false)), (.pure (.faddr 0)), [(.tmp 4)]⟩, []⟩, ⟨0, ⟨(some 17), (some (15, false)), (.load (.load 1 false)), [(.tmp 16)]⟩, []⟩, ⟨0, ⟨(some 18), (some (15, false)), (.pure .len), [(.tmp 17)]⟩, []⟩, ⟨0, ⟨(some 19), (some (15, false)), (.pure (.bin .gtr .none)), [(.tmp 18), (.const (.int .i64 100))]⟩, []⟩, ⟨0, ⟨(some 20), none, (.pure .pick), [(.tmp 15), (.const (.bool true)), (.tmp 19)]⟩, []⟩]) (.cond (.tmp 20) (.seq (.region [⟨0, ⟨(some 2), none, (.pure .id), [(.const (.bool true))]⟩, []⟩]) .ret) .skip)))) (.region [⟨0, ⟨(some 21), none, (.pure (.bin .add .none)), [(.tmp 7), (.const (.int .i64 1))]⟩, []⟩, ⟨0, ⟨(some 7), none, (.pure .id), [(.tmp 21)]⟩, []⟩]))))))) (.seq (.region [⟨0, ⟨(some 2), none, (.pure .id), [(.const (.bool false))]⟩, []⟩]) .ret)))⟩
theorem c_skolemlaw06_great : compF Try.prog Try.f5 = some G_skolemlaw06_great := by kernel_rfl
theorem gc_skolemlaw06_great {args : List DV} {σ : GS} {Post : DV → GS → Prop} (h : @exB Try.prog ⟨G_skolemlaw06_great.body⟩ (genv0 args G_skolemlaw06_great.ntmps) σ ⟨@gretB G_skolemlaw06_great.results ⟨Post⟩⟩) : GCall Try.prog F_skolemlaw06_great args σ Post := gcall_ofB seatfollows Try.func5 (by kernel_rfl) c_skolemlaw06_great h
end Go.Gh
namespace Go.Gh
open Go.RowKit Go.Proofs
set_option linter.unusedVariables false
set_option linter.unusedSimpArgs false
set_option maxRecDepth 100000
theorem tdiv_two {a : Int} (h : 0 ≤ a) : a.tdiv 2 = a / 2 := Int.tdiv_eq_ediv_of_nonneg h
theorem tmod_two {a : Int} (h : 0 ≤ a) : a.tmod 2 = a % 2 := Int.tmod_eq_emod_of_nonneg h
theorem ref_Nodes_ok {g : AigP} {σ : GS} {Post : DV → GS → Prop} (hs : g.Sm) (h : Post (.int .i64 g.nodes) σ) : GCall Try.prog F_skolemref06_Nodes [g.enc] σ Post := by
  have h1 := hs.ins
  have h2 := hs.ands
  refine GCall.say (r := .int .i64 g.nodes) ?_ rfl h
  refine gc_skolemref06_Nodes ?_
  simp [G_skolemref06_Nodes, genv0, List.replicate]
  have e1 : IntKind.i64.wrap (1 + (g.ins.length : Int)) = 1 + g.ins.length := by rw [wrap_small] <;> omega
  rw [e1, wrap_small] <;> first | (simp [AigP.nodes]; done) | omega
theorem ref_Inputs_ok {ins : List Int} {σ : GS} {Post : DV → GS → Prop} (hl : ins.length < 2 ^ 50) (h : Post (.bool (insOk 0 ins)) σ) : GCall Try.prog F_skolemref06_Inputs [fints ins] σ Post := by
  refine gc_skolemref06_Inputs ?_
  simp [G_skolemref06_Inputs, genv0, List.replicate]
  refine gfor ins.length (fun i e σ' => σ' = σ ∧ (∃ last, insOk 0 ins = insOk last (ins.drop i) ∧ (i = 0 → last = 0) ∧ ∀ j, j + 1 = i → ins[j]? = some last) ∧ e = mkEnv 38 [(0, fints ins), (3, .int .i64 i)]) _ ?_ ⟨rfl, ⟨0, by simp, fun _ => rfl, fun j h => by omega⟩, rfl⟩ ?_
  · simp [mkEnv, List.replicate]
  rintro i _ _ hi ⟨rfl, ⟨last, hI, hl0, hl1⟩, rfl⟩
  simp [mkEnv, List.replicate]
  by_cases hlt : i < ins.length
  · obtain ⟨y, hy⟩ := nth_lt hlt
    rw [drop_get hy] at hI
    have es : IntKind.i64.wrap ((i : Int) + 1) = (i : Int) + 1 := by rw [wrap_small] <;> omega
    by_cases h1 : y < 1
    · have hv : isVar y = false := by unfold isVar; simp; omega
      simp [hlt, hy, h1]
      simpa [hI, insOk, hv] using h
    by_cases h2 : 65536 < y
    · have hv : isVar y = false := by unfold isVar; simp; omega
      simp [hlt, hy, h1, h2]
      simpa [hI, insOk, hv] using h
    have hv : isVar y = true := by unfold isVar; simp; omega
    cases i with
    | zero =>
      have := hl0 rfl
      subst this
      have h3 : 0 < y := by omega
      simp [hlt, hy, h1, h2]
      refine forK_go _ hlt (by simp [mkEnv, List.replicate]) ⟨rfl, ⟨y, by simp [hI, insOk, hv, h3], fun e => by omega, fun j hj => ?_⟩, rfl⟩
      have : j = 0 := by omega
      subst this; exact nth_get hy
    | succ i =>
      have hp := hl1 i rfl
      have hp' : nth ins i = some last := hp
      have ew : IntKind.i64.wrap (((i + 1 : Nat) : Int) - 1) = i := by rw [wrap_small] <;> omega
      have ew' : IntKind.i64.wrap (i : Int) = i := by rw [wrap_small] <;> omega
      have hge : (0 : Int) ≤ (i : Int) + 1 := by omega
      have hgt : (0 : Int) < (i : Int) + 1 := by omega
      have htn : ((i : Int) + 1).toNat = i + 1 := by omega
      have es2 : IntKind.i64.wrap ((i : Int) + 1 + 1) = (i : Int) + 1 + 1 := by rw [wrap_small] <;> omega
      by_cases h4 : y ≤ last
      · have h5 : ¬ last < y := by omega
        simp [hlt, hy, h1, h2, hge, hgt, htn, ew, ew', hp', h4]
        simpa [hI, insOk, hv, h5] using h
      · have h5 : last < y := by omega
        simp [hlt, hy, h1, h2, hge, hgt, htn, ew, ew', hp', h4, es2]
        refine forK_go _ hlt (by simp [mkEnv, List.replicate]) ⟨rfl, ⟨y, by simp [hI, insOk, hv, h5], fun e => by omega, fun j hj => ?_⟩, rfl⟩
        have : j = i + 1 := by omega
        subst this; exact nth_get hy
  · have : i = ins.length := by omega
    subst this
    simp
    simpa [hI, insOk] using h
theorem ref_May_ok {g : AigP} {σ : GS} {Post : DV → GS → Prop} (hs : g.Sm) (h : Post (.bool g.may) σ) : GCall Try.prog F_skolemref06_May [g.enc] σ Post := by
  have h1 := hs.ins
  have h2 := hs.ands
  refine GCall.say (r := .bool g.may) ?_ rfl h
  refine gc_skolemref06_May ?_
  simp [G_skolemref06_May, genv0, List.replicate]
  refine ref_Inputs_ok h1 ?_
  by_cases g1 : insOk 0 g.ins = true
  · simp [g1]
    refine ref_Nodes_ok hs ?_
    by_cases g2 : (200000 : Int) < g.nodes
    · have : ¬ g.nodes ≤ 200000 := by omega
      simp [g2, AigP.may, this]
    · have g2' : g.nodes ≤ 200000 := by omega
      simp [g2]
      refine gfor g.ands.length (fun i e σ' => σ' = σ ++ [.row false [fints g.ins, fands g.ands]] ∧ g.may = andsOk (2 * (1 + g.ins.length + i)) (g.ands.drop i) ∧ e = mkEnv 52 [(1, .ptr σ.length 0), (3, .int .i64 i)]) _ ?_ ⟨rfl, by simp [AigP.may, g1, g2'], rfl⟩ ?_
      · simp [mkEnv, List.replicate]
      rintro i _ _ hi ⟨rfl, hI, rfl⟩
      simp [mkEnv, List.replicate]
      by_cases hlt : i < g.ands.length
      · obtain ⟨p, hp⟩ := nth_lt hlt
        rw [drop_get hp] at hI
        have e1 : IntKind.i64.wrap (1 + (g.ins.length : Int)) = 1 + g.ins.length := by rw [wrap_small] <;> omega
        have e2 : IntKind.i64.wrap (1 + (g.ins.length : Int) + i) = 1 + g.ins.length + i := by rw [wrap_small] <;> omega
        have e3 : IntKind.i64.wrap (2 * (1 + (g.ins.length : Int) + i)) = 2 * (1 + g.ins.length + i) := by rw [wrap_small] <;> omega
        have es : IntKind.i64.wrap ((i : Int) + 1) = (i : Int) + 1 := by rw [wrap_small] <;> omega
        simp [hlt, e1, e2, e3]
        obtain ⟨M, hM⟩ : ∃ M, 2 * (1 + (g.ins.length : Int) + i) = M := ⟨_, rfl⟩
        rw [hM] at hI ⊢
        refine gfor 2 (fun j e σ' => σ' = σ ++ [.row false [fints g.ins, fands g.ands]] ∧ (1 ≤ j → 0 ≤ p.1 ∧ p.1 < M) ∧ (2 ≤ j → 0 ≤ p.2 ∧ p.2 < M) ∧ e = mkEnv 52 [(1, .ptr σ.length 0), (3, .int .i64 i), (4, .int .i64 M), (5, .int .i64 j)]) _ ?_ ⟨rfl, fun h => by omega, fun h => by omega, rfl⟩ ?_
        · simp [mkEnv, List.replicate]
        rintro j _ _ hj ⟨rfl, j1, j2, rfl⟩
        simp [mkEnv, List.replicate]
        have hcase : j = 0 ∨ j = 1 ∨ j = 2 := by omega
        rcases hcase with rfl | rfl | rfl
        · by_cases a1 : p.1 < 0
          · have : ¬ 0 ≤ p.1 := by omega
            simp [hp, a1]
            simpa [andsOk, this] using hI.symm
          · by_cases a2 : M ≤ p.1
            · have : ¬ p.1 < M := by omega
              simp [hp, a1, a2]
              simpa [andsOk, this] using hI.symm
            · simp [hp, a1, a2]
              exact forK_go _ (by omega) (by simp [mkEnv, List.replicate]) ⟨rfl, fun _ => by omega, fun h => by omega, rfl⟩
        · have := j1 (by omega)
          by_cases a1 : p.2 < 0
          · have : ¬ 0 ≤ p.2 := by omega
            simp [hp, a1]
            simpa [andsOk, this] using hI.symm
          · by_cases a2 : M ≤ p.2
            · have : ¬ p.2 < M := by omega
              simp [hp, a1, a2]
              simpa [andsOk, this] using hI.symm
            · have ew : IntKind.i64.wrap 2 = 2 := by decide
              simp [hp, a1, a2, ew]
              exact forK_go _ (by omega) (by simp [mkEnv, List.replicate]) ⟨rfl, fun _ => this, fun _ => by omega, rfl⟩
        · have b1 := j1 (by omega)
          have b2 := j2 (by omega)
          simp [es]
          refine forK_go _ hlt (by simp [mkEnv, List.replicate]) ⟨rfl, ?_, rfl⟩
          rw [hI]
          simp [andsOk, b1, b2]
          rw [← hM]
          congr 1
      · have : i = g.ands.length := by omega
        subst this
        simp
        simpa [andsOk] using hI
  · simp [g1, AigP.may]
theorem ref_Not_ok {e : Int} {σ : GS} {Post : DV → GS → Prop} (h0 : 0 ≤ e) (h1 : e < 2 ^ 62) (h : Post (.int .i64 (notE e)) σ) : GCall Try.prog F_skolemref06_Not [.int .i64 e] σ Post := by
  refine gc_skolemref06_Not ?_
  have e1 : IntKind.i64.wrap (e + 1) = e + 1 := by rw [wrap_small] <;> omega
  have e2 : IntKind.i64.wrap (2 * (e % 2)) = 2 * (e % 2) := by rw [wrap_small] <;> omega
  have e3 : IntKind.i64.wrap (e + 1 - 2 * (e % 2)) = e + 1 - 2 * (e % 2) := by rw [wrap_small] <;> omega
  simp [G_skolemref06_Not, genv0, List.replicate, tmod_two h0, e1, e2, e3]
  exact h
theorem idxF_skip {p : (Int × Int) → Bool} : ∀ {l : List (Int × Int)} {k j : Nat}, j ≤ l.length → (∀ i x, i < j → l[i]? = some x → p x = false) → idxF p k l = idxF p (k + j) (l.drop j)
  | l, k, 0, _, _ => by simp
  | [], k, j + 1, h, _ => by simp at h
  | x :: l, k, j + 1, h, hp => by
    have h0 := hp 0 x (by omega) rfl
    simp only [idxF, h0, Bool.false_eq_true, if_false, List.drop_succ_cons]
    rw [idxF_skip (j := j) (by simpa using h) fun i y hi hy => hp (i + 1) y (by omega) (by simpa using hy)]
    congr 1; omega
theorem ref_find_ok {g : AigP} {a b : Int} {σ : GS} {Post : DV → GS → Prop} (hs : g.Sm) (hok : andsOk (2 * (1 + g.ins.length)) g.ands = true) (hb0 : 0 ≤ b) (hb1 : b < 2 ^ 60) (h : Post (.int .i64 (idxF (fun p => decide (p = (a, b))) 0 g.ands)) σ) : GCall Try.prog F_skolemref06_find [g.enc, .int .i64 a, .int .i64 b] σ Post := by
  have h1 := hs.ins
  have h2 := hs.ands
  refine GCall.say (r := .int .i64 (idxF (fun p => decide (p = (a, b))) 0 g.ands)) ?_ rfl h
  refine gc_skolemref06_find ?_
  have ew : IntKind.i64.wrap (b / 2) = b / 2 := by rw [wrap_small] <;> omega
  have ew2 : IntKind.i64.wrap (b / 2 - (g.ins.length : Int)) = b / 2 - g.ins.length := by rw [wrap_small] <;> omega
  obtain ⟨k0, hk0⟩ : ∃ k0 : Nat, max 0 (b / 2 - (g.ins.length : Int)) = k0 := ⟨(max 0 (b / 2 - (g.ins.length : Int))).toNat, by omega⟩
  simp [G_skolemref06_find, genv0, List.replicate, tdiv_two hb0, ew, ew2, hk0]
  have hgo : ∀ i, k0 ≤ i → i ≤ g.ands.length → True := fun _ _ _ => trivial
  refine gwhile (mkEnv 41 [(1, .int .i64 a), (2, .int .i64 b), (3, .ptr σ.length 0), (7, .int .i64 k0)]) (g.ands.length - k0) (fun m e σ' => ∃ i : Nat, σ' = σ ++ [.row false [fints g.ins, fands g.ands]] ∧ m = g.ands.length - i ∧ (i ≤ g.ands.length → idxF (fun p => decide (p = (a, b))) 0 g.ands = idxF (fun p => decide (p = (a, b))) i (g.ands.drop i)) ∧ (g.ands.length < i → idxF (fun p => decide (p = (a, b))) 0 g.ands = -1) ∧ e = mkEnv 41 [(1, .int .i64 a), (2, .int .i64 b), (3, .ptr σ.length 0), (7, .int .i64 i)]) ?_ ⟨k0, rfl, rfl, ?_, ?_, rfl⟩ ?_
  · simp [mkEnv, List.replicate]
  · intro hk
    have := idxF_skip (p := fun p => decide (p = (a, b))) (k := 0) hk fun i x hi hx => by
      have := andsOk_get hok hx
      simp only [decide_eq_false_iff_not]
      rintro rfl
      simp only at this
      omega
    simpa using this
  · intro hk
    rcases idxF_cases (fun p => decide (p = (a, b))) g.ands 0 with ⟨h3, _⟩ | ⟨i, x, h3, h4, h5, _⟩
    · exact h3
    · have hi := get_dom h4
      have := andsOk_get hok h4
      simp at h5; subst h5
      simp only at this
      omega
  rintro m _ _ ⟨i, rfl, rfl, hI, hI2, rfl⟩
  simp [mkEnv, List.replicate]
  by_cases hlt : i < g.ands.length
  · obtain ⟨p, hp⟩ := nth_lt hlt
    have hI := hI (by omega)
    rw [drop_get hp] at hI
    have es : IntKind.i64.wrap ((i : Int) + 1) = ((i + 1 : Nat) : Int) := wrap_suc (by omega)
    simp only [idxF] at hI
    by_cases c1 : p.1 = a
    · by_cases c2 : p.2 = b
      · have hp2 : p = (a, b) := by rw [← c1, ← c2]
        rw [if_pos (by simp [hp2])] at hI
        simp [hlt, hp, c1, c2]
        exact hI.symm
      · rw [if_neg (by simp; rintro rfl; exact c2 rfl)] at hI
        simp [hlt, hp, c1, c2, es]
        exact whK_go (g.ands.length - (i + 1)) _ (by omega) (by simp [mkEnv, List.replicate]) ⟨i + 1, rfl, rfl, fun _ => hI, fun h => by omega, rfl⟩
    · rw [if_neg (by simp; rintro rfl; exact c1 rfl)] at hI
      simp [hlt, hp, c1, es]
      exact whK_go (g.ands.length - (i + 1)) _ (by omega) (by simp [mkEnv, List.replicate]) ⟨i + 1, rfl, rfl, fun _ => hI, fun h => by omega, rfl⟩
  · simp [hlt]
    rcases Nat.lt_or_ge g.ands.length i with h3 | h3
    · exact (hI2 h3).symm
    · have : i = g.ands.length := by omega
      subst this
      have := hI (Nat.le_refl _)
      simp [idxF] at this
      exact this.symm
end Go.Gh
namespace Go.Gh
open Go.RowKit Go.Proofs
set_option linter.unusedVariables false
set_option linter.unusedSimpArgs false
set_option maxRecDepth 100000
/-- A reference maker in the heap, its parts named. Its inputs may be frozen. -/
structure RkR (n : Nat) (σ : GS) (id : Nat) (m : Mk) (si sa : DV) : Prop where
  ge : n ≤ id
  row : σ[id]? = some (.row false [si, sa, .bool m.full])
  ins : si = fints m.ins ∨ Own n 1 eint σ si m.ins
  ands : Own n 2 eand σ sa m.ands
  si_id : ¬ si.has id
  sa_id : ¬ sa.has id
  si_sa : ∀ i, si.has i → ¬ sa.has i
def RkO (n : Nat) (σ : GS) (id : Nat) (m : Mk) : Prop := ∃ si sa, RkR n σ id m si sa
def Rt (σ : GS) (id i : Nat) : Prop := i = id ∨ ∃ si sa f, σ[id]? = some (.row false [si, sa, f]) ∧ (si.has i ∨ sa.has i)
structure Rtp (σ : GS) (id : Nat) (σ' : GS) : Prop where
  len : σ.length ≤ σ'.length
  get : ∀ i, i < σ.length → ¬ Rt σ id i → σ'[i]? = σ[i]?
  ft : ∀ i, i < σ.length → ¬ Rt σ id i → ¬ Rt σ' id i
theorem Rtp.refl (σ : GS) (id : Nat) : Rtp σ id σ := ⟨Nat.le_refl _, fun _ _ _ => rfl, fun _ _ h => h⟩
theorem Rtp.trans {a b c : GS} {id : Nat} (h : Rtp a id b) (k : Rtp b id c) : Rtp a id c :=
  ⟨Nat.le_trans h.len k.len, fun i hi hf => (k.get i (by have := h.len; omega) (h.ft i hi hf)).trans (h.get i hi hf), fun i hi hf => k.ft i (by have := h.len; omega) (h.ft i hi hf)⟩
theorem fsl_not_has {sz : Nat} {es : List (List DV)} {i : Nat} : ¬ (DV.fsl sz es).has i := fun ⟨_, _, _, _, e⟩ => by cases e
section
variable {n id : Nat} {σ σ' : GS} {m : Mk} {si sa : DV}
theorem RkR.si_lt (h : RkR n σ id m si sa) {i : Nat} (hi : si.has i) : i < σ.length ∧ n ≤ i := by
  rcases h.ins with e | h1
  · rw [e] at hi; exact absurd hi fsl_not_has
  · exact ⟨h1.has_lt hi, h1.has_ge hi⟩
theorem RkR.ft (h : RkR n σ id m si sa) (i : Nat) : Rt σ id i ↔ i = id ∨ si.has i ∨ sa.has i := by
  unfold Rt
  constructor
  · rintro (h1 | ⟨si', sa', f, h1, h2⟩)
    · exact .inl h1
    · rw [h.row] at h1; cases h1; exact .inr h2
  · rintro (h1 | h2)
    · exact .inl h1
    · exact .inr ⟨_, _, _, h.row, h2⟩
theorem RkR.dom (h : RkR n σ id m si sa) {i : Nat} (hi : Rt σ id i) : i < σ.length ∧ n ≤ i := by
  rcases (h.ft i).1 hi with rfl | h1 | h1
  · exact ⟨get_dom h.row, h.ge⟩
  · exact h.si_lt h1
  · exact ⟨h.ands.has_lt h1, h.ands.has_ge h1⟩
theorem RkR.fit (h : RkR n σ id m si sa) (k : ∀ i, Rt σ id i → σ'[i]? = σ[i]?) : RkR n σ' id m si sa := by
  have k' : ∀ i, (i = id ∨ si.has i ∨ sa.has i) → σ'[i]? = σ[i]? := fun i hi => k i ((h.ft i).2 hi)
  exact ⟨h.ge, (k' id (.inl rfl)).trans h.row, h.ins.imp (fun h => h) fun h1 => h1.fit fun i hi => k' i (.inr (.inl hi)), h.ands.fit fun i hi => k' i (.inr (.inr hi)), h.si_id, h.sa_id, h.si_sa⟩
end
theorem RkO.fit {n id : Nat} {σ σ' : GS} {m : Mk} (h : RkO n σ id m) (k : ∀ i, Rt σ id i → σ'[i]? = σ[i]?) : RkO n σ' id m := by
  obtain ⟨si, sa, h⟩ := h
  exact ⟨_, _, h.fit k⟩
theorem RkO.dom {n id : Nat} {σ : GS} {m : Mk} (h : RkO n σ id m) {i : Nat} (hi : Rt σ id i) : i < σ.length ∧ n ≤ i := by
  obtain ⟨si, sa, h⟩ := h
  exact h.dom hi
theorem RkO.keep {n id : Nat} {σ σ' : GS} {m : Mk} (h : RkO n σ id m) (k : ∀ i, i < σ.length → σ'[i]? = σ[i]?) : RkO n σ' id m := h.fit fun i hi => k i (h.dom hi).1
theorem RkO.app {n id : Nat} {σ : GS} {m : Mk} (h : RkO n σ id m) (τ : GS) : RkO n (σ ++ τ) id m := h.keep fun i hi => List.getElem?_append_left hi
theorem RkO.ft_eq {n id : Nat} {σ σ' : GS} {m : Mk} (h : RkO n σ id m) (k : σ'[id]? = σ[id]?) (i : Nat) : Rt σ' id i ↔ Rt σ id i := by
  unfold Rt; rw [k]
theorem RkO.stp {n id : Nat} {σ σ' : GS} {m : Mk} (h : RkO n σ id m) (hl : σ.length ≤ σ'.length) (k : ∀ i, i < σ.length → σ'[i]? = σ[i]?) : Rtp σ id σ' := by
  refine ⟨hl, fun i hi _ => k i hi, fun i hi hf => ?_⟩
  rwa [h.ft_eq (k id (h.dom (.inl rfl)).1)]
theorem RkR.rd {n id : Nat} {σ : GS} {m : Mk} {si sa : DV} (h : RkR n σ id m si sa) (ok : Nat → Prop) (hok : ∀ i, n ≤ i → ok i) : Rd σ ok (.agg [si, sa]) (AigP.enc ⟨m.ins, m.ands⟩) := by
  have h1 : Rd σ ok si (fints m.ins) := by
    rcases h.ins with e | h1
    · rw [e]; exact .same _
    · exact h1.rd (fun _ => rfl) hok
  exact .agg (.cons h1 (.cons (h.ands.rd (fun _ => rfl) hok) .nil))
end Go.Gh
namespace Go.Gh
open Go.RowKit Go.Proofs
set_option linter.unusedVariables false
set_option linter.unusedSimpArgs false
set_option maxRecDepth 100000
/-- The state of copying in the reference. -/
structure RpSt (n0 : Nat) (σ σ' : GS) (id : Nat) (g : AigP) (n : Nat) (T : List Int) (m : Mk) : Prop where
  box : σ'[σ.length]? = some (.row false [fints g.ins, fands g.ands])
  row : σ'[σ.length + 1]? = some (.row false (ints T))
  mak : RkO n0 σ' id m
  stp : Rtp σ id σ'
  nf : ∀ j, j < 2 → ¬ Rt σ' id (σ.length + j)
  tl : T.length = n
theorem RpSt.step {n0 id n : Nat} {σ σ' σ2 : GS} {g : AigP} {T : List Int} {m m' : Mk} (h : RpSt n0 σ σ' id g n T m) (hm : RkO n0 σ2 id m') (hs : Rtp σ' id σ2) : RpSt n0 σ σ2 id g n T m' := by
  have hk : ∀ j o, j < 2 → σ'[σ.length + j]? = some o → σ2[σ.length + j]? = some o := fun j o hj ho => (hs.get _ (get_dom ho) (h.nf j hj)).trans ho
  exact ⟨hk 0 _ (by omega) h.box, hk 1 _ (by omega) h.row, hm, h.stp.trans hs, fun j hj => hs.ft _ (by have := get_dom h.row; omega) (h.nf j hj), h.tl⟩
theorem RpSt.set {n0 id n : Nat} {σ σ' : GS} {g : AigP} {T : List Int} {m : Mk} (h : RpSt n0 σ σ' id g n T m) (i : Nat) (x : Int) : RpSt n0 σ (σ'.set (σ.length + 1) (.row false (ints (T.set i x)))) id g n (T.set i x) m := by
  have hne : ∀ j, j ≠ σ.length + 1 → (σ'.set (σ.length + 1) (.row false (ints (T.set i x))))[j]? = σ'[j]? := fun j hj => List.getElem?_set_ne (Ne.symm hj)
  have hfne : ∀ j, Rt σ' id j → j ≠ σ.length + 1 := fun j hj e => h.nf 1 (by omega) (e ▸ hj)
  have hid := hne id (hfne id (.inl rfl))
  exact ⟨(hne _ (by omega)).trans h.box, List.getElem?_set_self (get_dom h.row), h.mak.fit fun j hj => hne j (hfne j hj), ⟨by simpa using h.stp.len, fun i hi hf => (hne i (by omega)).trans (h.stp.get i hi hf), fun i hi hf => by rw [h.mak.ft_eq hid]; exact h.stp.ft i hi hf⟩, fun j hj => by rw [h.mak.ft_eq hid]; exact h.nf j hj, by simp [h.tl]⟩
end Go.Gh
namespace Go.Gh
open Go.RowKit Go.Proofs
set_option linter.unusedVariables false
set_option linter.unusedSimpArgs false
set_option maxRecDepth 100000
@[simp] theorem fill_agg2 (z0 z1 z2 a b : DV) : gfill [(0, 2)] [z0, z1, z2] [.agg [a, b]] = some [a, b, z2] := by simp [gfill, DV.cells, over]
/-- The graph that has what edges reach. -/
def AigP.cone (g : AigP) (l : List Int) : GOut :=
  if g.all l = true then
    ⟨((Mk.mk g.ins [] false).copy g (g.reach l) (0 :: g.ins.map (edgeOf g.ins))).2.graph, l.map (imgE ((Mk.mk g.ins [] false).copy g (g.reach l) (0 :: g.ins.map (edgeOf g.ins))).1), 0⟩
  else .err 2
theorem rcDown_none (base : Nat) (ands : List (Int × Int)) (n : Nat) : ∀ k, rcDown base ands k (List.replicate n false) = List.replicate n false
  | 0 => rfl
  | k + 1 => by
    have : rcStep base ands (List.replicate n false) k = List.replicate n false := by
      unfold rcStep
      rw [if_neg]
      rw [List.getD_eq_getElem?_getD, List.getElem?_replicate]
      split <;> simp
    rw [rcDown, this, rcDown_none base ands n k]
theorem AigP.reach_none (g : AigP) : g.reach [] = List.replicate g.nodes false := by unfold AigP.reach; exact rcDown_none _ _ _ _
theorem cpFold_none : ∀ (xs : List ((Int × Int) × Bool)) (s : List Int × Mk), (∀ x ∈ xs, x.2 = false) → (xs.foldl cpStep s).2 = s.2
  | [], s, _ => rfl
  | x :: xs, s, h => by
    rw [List.foldl_cons, cpFold_none xs _ fun y hy => h y (List.mem_cons_of_mem _ hy)]
    unfold cpStep; rw [if_neg (by simp [h x List.mem_cons_self])]
theorem AigP.compose_nil (g : AigP) (l : List Int) : g.compose l [] = g.cone l := by
  unfold AigP.compose AigP.cone
  by_cases h : g.all l = true
  · have hm := AigP.all_may h
    have hnn := AigP.may_nodes hm
    have hc : ((Mk.mk g.ins [] false).copy g (g.reach (([] : List (Int × Int)).map (·.2))) (0 :: g.ins.map (edgeOf g.ins))).2 = Mk.mk g.ins [] false := by
      unfold Mk.copy
      rw [cpFold_none]
      rintro ⟨p, b⟩ hx
      have := (List.of_mem_zip hx).2
      rw [List.map_nil, AigP.reach_none] at this
      exact List.eq_of_mem_replicate (List.mem_of_mem_drop this)
    have hall : g.all [] = true := by simp [AigP.all, hm]
    rw [if_pos (by simp [h, hall]), if_pos h, if_pos (by simp)]
    simp only [hc, outOf, List.find?_nil, Option.map_none]
    have hfull : ((Mk.mk g.ins [] false).copy g (g.reach l) (0 :: g.ins.map (edgeOf g.ins))).2.full = false := by
      unfold Mk.copy
      rw [cpFold_full]
      rw [List.length_zip, List.length_drop]
      show 1 + g.ins.length + 0 + _ ≤ _
      have : g.nodes = 1 + g.ins.length + g.ands.length := rfl
      omega
    rw [if_neg (by rw [hfull]; simp)]
  · rw [if_neg (by simp [h]), if_neg h]
theorem ref_Ints_ok {xs ys : List Int} {σ : GS} {Post : DV → GS → Prop} (hl : xs.length < 2 ^ 60) (h : Post (.bool (decide (xs = ys))) σ) : GCall Try.prog F_skolemref05_Ints [fints xs, fints ys] σ Post := by
  refine gc_skolemref05_Ints ?_
  by_cases hlen : xs.length = ys.length
  rotate_left
  · have hne : xs ≠ ys := fun e => hlen (by rw [e])
    have hlen' : ¬ ((xs.length : Int) = ys.length) := by omega
    simp [G_skolemref05_Ints, genv0, List.replicate, hlen']
    simpa [hne] using h
  simp [G_skolemref05_Ints, genv0, List.replicate, hlen]
  refine gfor xs.length (fun i e σ' => σ' = σ ∧ (xs = ys ↔ xs.drop i = ys.drop i) ∧ e = mkEnv 26 [(0, fints xs), (1, fints ys), (5, .int .i64 i)]) _ ?_ ⟨rfl, by simp, rfl⟩ ?_
  · simp [mkEnv, List.replicate]
  rintro i _ _ hi ⟨rfl, hI, rfl⟩
  simp [mkEnv, List.replicate]
  by_cases hlt : i < xs.length
  · obtain ⟨x, hx⟩ := nth_lt hlt
    obtain ⟨y, hy⟩ := nth_lt (l := ys) (i := i) (by omega)
    rw [drop_get hx, drop_get hy, List.cons.injEq] at hI
    have es : IntKind.i64.wrap ((i : Int) + 1) = (i : Int) + 1 := by rw [wrap_small] <;> omega
    by_cases c : x = y
    · simp [hlt, hx, hy, c, es]
      exact forK_go _ hlt (by simp [mkEnv, List.replicate]) ⟨rfl, by rw [hI]; simp [c], rfl⟩
    · have hne : xs ≠ ys := fun e => c (hI.1 e).1
      simp [hlt, hx, hy, c]
      simpa [hne] using h
  · have : i = xs.length := by omega
    subst this
    have he : xs = ys := hI.2 (by rw [List.drop_length, hlen, List.drop_length])
    simp
    simpa [he] using h
theorem ref_Same_ok {g k : AigP} {σ : GS} {Post : DV → GS → Prop} (hs : g.Sm) (hk : k.Sm) (h : Post (.bool (decide (g.ins = k.ins ∧ g.ands = k.ands))) σ) : GCall Try.prog F_skolemref06_Same [g.enc, k.enc] σ Post := by
  have h1 := hs.ins
  have h2 := hs.ands
  refine GCall.say (r := .bool (decide (g.ins = k.ins ∧ g.ands = k.ands))) ?_ rfl h
  refine gc_skolemref06_Same ?_
  simp [G_skolemref06_Same, genv0, List.replicate]
  refine ref_Ints_ok (by omega) ?_
  by_cases hi : g.ins = k.ins
  rotate_left
  · simp [hi]
  simp [hi]
  by_cases hlen : g.ands.length = k.ands.length
  rotate_left
  · have hne : g.ands ≠ k.ands := fun e => hlen (by rw [e])
    have hlen' : ¬ ((g.ands.length : Int) = k.ands.length) := by omega
    simp [hlen', hne]
  simp [hlen]
  have hld1 : ∀ τ : GS, True := fun _ => trivial
  refine gfor g.ands.length (fun i e σ' => σ' = σ ++ [.row false [fints k.ins, fands g.ands], .row false [fints k.ins, fands k.ands]] ∧ (g.ands = k.ands ↔ g.ands.drop i = k.ands.drop i) ∧ e = mkEnv 39 [(2, .ptr σ.length 0), (3, .ptr (σ.length + 1) 0), (5, .int .i64 i)]) _ ?_ ⟨by simp [hi], by simp, rfl⟩ ?_
  · simp [mkEnv, List.replicate]
  rintro i _ _ hi' ⟨rfl, hI, rfl⟩
  simp [mkEnv, List.replicate]
  by_cases hlt : i < g.ands.length
  · obtain ⟨p, hp⟩ := nth_lt hlt
    obtain ⟨q, hq⟩ := nth_lt (l := k.ands) (i := i) (by omega)
    rw [drop_get hp, drop_get hq, List.cons.injEq] at hI
    have es : IntKind.i64.wrap ((i : Int) + 1) = (i : Int) + 1 := by rw [wrap_small] <;> omega
    have hcmp : gbin .neq (.arr2 .i64) (.agg [.int .i64 p.1, .int .i64 p.2]) (.agg [.int .i64 q.1, .int .i64 q.2]) = some (.bool (!(p.1 == q.1 && p.2 == q.2))) := by simp [gbin, geq, eq2]
    by_cases c : p = q
    · have cc : (p.1 == q.1 && p.2 == q.2) = true := by simp [c]
      simp [hlt, hp, hq, hcmp, cc, es]
      exact forK_go _ hlt (by simp [mkEnv, List.replicate]) ⟨rfl, by rw [hI]; simp [c], rfl⟩
    · have hne : g.ands ≠ k.ands := fun e => c (hI.1 e).1
      have cc : (p.1 == q.1 && p.2 == q.2) = false := by
        rw [Bool.eq_false_iff]; intro hh; simp at hh; exact c (Prod.ext hh.1 hh.2)
      simp [hlt, hp, hq, hcmp, cc, hne]
  · have : i = g.ands.length := by omega
    subst this
    have he : g.ands = k.ands := hI.2 (by rw [List.drop_length, hlen, List.drop_length])
    simp [he, hi]
end Go.Gh
namespace Go.Gh
open Go.RowKit Go.Proofs
set_option linter.unusedVariables false
set_option linter.unusedSimpArgs false
set_option maxRecDepth 100000
end Go.Gh
namespace Go.Gh
open Go.Proofs
set_option maxRecDepth 100000
theorem works_run : sayTrueL Try.prog [(F_aig_ToNet, G_aig_ToNet), (F_circ_May, G_circ_May)] 60 7 [] = true := by kernel_rfl
theorem works_ok {σ : GS} {Post : DV → GS → Prop} (k : Post (.bool true) σ) : GCall Try.prog 7 [] σ Post := by
  refine GCall.closed (sayTrueL_ok seatfollows (fun p hp => ?_) works_run) k
  simp only [List.mem_cons, List.not_mem_nil, or_false] at hp
  rcases hp with rfl | rfl
  · exact ⟨_, Try.func27, by kernel_rfl, c_aig_ToNet⟩
  · exact ⟨_, Try.func58, by kernel_rfl, c_circ_May⟩
end Go.Gh
namespace Go.Gh
open Go.RowKit Go.Proofs
set_option linter.unusedVariables false
set_option linter.unusedSimpArgs false
set_option maxRecDepth 100000
/-- Is a graph larger than the laws speak of? -/
def AigP.great (g : AigP) : Bool := decide (600 < g.ands.length) || decide (100 < g.ins.length)
abbrev eaig (g : AigP) : List DV := [fints g.ins, fands g.ands]
theorem great_ok {gs : List AigP} {σ : GS} {Post : DV → GS → Prop} (hl : gs.length < 2 ^ 50) (h : Post (.bool (gs.any AigP.great)) σ) : GCall Try.prog F_skolemlaw06_great [.fsl 2 (gs.map eaig)] σ Post := by
  obtain ⟨B, hB⟩ : ∃ B, gs.any AigP.great = B := ⟨_, rfl⟩
  rw [hB] at h
  refine GCall.say (r := .bool B) ?_ rfl h
  refine gc_skolemlaw06_great ?_
  simp [G_skolemlaw06_great, genv0, List.replicate]
  refine gfor gs.length (fun i e σ' => Fr σ.length σ σ' ∧ B = (gs.drop i).any AigP.great ∧ e = mkEnv 22 [(5, .fsl 2 (gs.map eaig)), (6, .int .i64 gs.length), (7, .int .i64 i)]) _ ?_ ⟨.rfl', by rw [← hB]; rfl, rfl⟩ ?_
  · simp [mkEnv, List.replicate]
  rintro i _ σ' hi ⟨hF, hI, rfl⟩
  simp [mkEnv, List.replicate]
  by_cases hlt : i < gs.length
  · obtain ⟨g, hg⟩ := nth_lt hlt
    rw [drop_get hg, List.any_cons] at hI
    have es : IntKind.i64.wrap ((i : Int) + 1) = (i : Int) + 1 := by rw [wrap_small] <;> omega
    by_cases c1 : (600 : Int) < g.ands.length
    · have c : g.great = true := by unfold AigP.great; simp; omega
      simp [hlt, hg, c1]
      refine ⟨hF.app _, ?_⟩
      rw [hI, c]; rfl
    · by_cases c2 : (100 : Int) < g.ins.length
      · have c : g.great = true := by unfold AigP.great; simp; omega
        simp [hlt, hg, c1, c2]
        refine ⟨hF.app _, ?_⟩
        rw [hI, c]; rfl
      · have c : g.great = false := by unfold AigP.great; simp; omega
        simp [hlt, hg, c1, c2, es]
        exact forK_go _ hlt (by simp [mkEnv, List.replicate]) ⟨hF.app _, by rw [hI, c]; rfl, rfl⟩
  · have : i = gs.length := by omega
    subst this
    simp
    refine ⟨hF, ?_⟩
    rw [hI, List.drop_length]; rfl
theorem great_one {g : AigP} {id : Nat} {cap : Option Nat} {σ : GS} {Post : DV → GS → Prop} (hr : σ[id]? = some (.row false (eaig g))) (h : Post (.bool g.great) σ) : GCall Try.prog F_skolemlaw06_great [.slice id 0 1 2 cap] σ Post := by
  have hrd := Rd.slice (σ := σ) (ok := fun _ => True) (id := id) (off := 0) (sz := 2) (cap := cap) (es := [eaig g]) trivial hr (by simp) (fun e he => by simp at he; subst he; rfl) (by simp; exact Rds.refl _)
  refine GCall.borrow (args' := [.fsl 2 ([g].map eaig)]) (r := .bool g.great) (.cons hrd .nil) ?_ rfl ?_ h
  · have h1 : closedss (g.ins.map eint) = true := closed_fints g.ins
    have h2 : closedss (g.ands.map eand) = true := closed_fands g.ands
    simp only [closeds, DV.closed, List.map_cons, List.map_nil, closedss]
    rw [h1, h2]; rfl
  · exact great_ok (gs := [g]) (by simp) (by simp)
end Go.Gh
namespace Go.Gh
open Go.Proofs
end Go.Gh
namespace Go.Gh
open Go.Proofs
abbrev F_skolemref06_Reduced : Nat := 6
abbrev F_aig_Size : Nat := 11
noncomputable abbrev G_aig_Support : GFun := ⟨40, [(.tmp 4), (.tmp 5)], (.seq (.region [⟨0, ⟨(some 2), none, (.new .box), [(.tmp 0)]⟩, []⟩, ⟨0, ⟨(some 4), none, (.pure .id), [(.const .nils)]⟩, []⟩, ⟨0, ⟨(some 5), none, (.pure .id), [(.const (.int .i64 0))]⟩, []⟩]) (.seq (.seq (.region [⟨0, ⟨(some 9), none, (.load (.load 2 true)), [(.tmp 2)]⟩, []⟩, ⟨0, ⟨(some 10), none, (.pure .id), [(.tmp 1)]⟩, []⟩, ⟨0, ⟨(some 11), none, (.new (.bslice 1 [(.int .i64 0)] 1 [(0, 1)])), [(.tmp 10)]⟩, []⟩, ⟨0, ⟨(some 12), none, (.call F_aig_all), [(.tmp 9), (.tmp 11)]⟩, []⟩, ⟨0, ⟨(some 13), none, (.pure (.un .not)), [(.tmp 12)]⟩, []⟩]) (.cond (.tmp 13) (.seq (.region [⟨0, ⟨(some 4), none, (.pure .id), [(.const .nils)]⟩, []⟩, ⟨0, ⟨(some 5), none, (.pure .id), [(.const (.int .i64 2))]⟩, []⟩]) .ret) .skip)) (.seq (.region [⟨0, ⟨(some 6), none, (.pure .id), [(.const .nils)]⟩, []⟩]) (.seq (.seq (.region [⟨0, ⟨(some 14), none, (.load (.load 2 true)), [(.tmp 2)]⟩, []⟩, ⟨1, ⟨(some 15), none, (.pure .id), [(.tmp 1)]⟩, []⟩, ⟨2, ⟨(some 16), none, (.new (.bslice 1 [(.int .i64 0)] 1 [(0, 1)])), [(.tmp 15)]⟩, []⟩, ⟨4, ⟨(some 18), none, (.pure (.faddr 0)), [(.tmp 2)]⟩, []⟩, ⟨5, ⟨(some 19), none, (.load (.load 1 false)), [(.tmp 18)]⟩, []⟩, ⟨6, ⟨(some 20), none, (.pure .len), [(.tmp 19)]⟩, []⟩, ⟨7, ⟨(some 21), none, (.pure (.bin .add .none)), [(.const (.int .i64 1)), (.tmp 20)]⟩, []⟩, ⟨10, ⟨(some 24), none, (.pure .id), [(.const (.int .i64 0))]⟩, []⟩, ⟨3, ⟨(some 17), none, (.call F_aig_reached), [(.tmp 14), (.tmp 16)]⟩, [⟨(some 19), none, (.load (.load 1 false)), [(.tmp 18)]⟩]⟩, ⟨8, ⟨(some 22), none, (.pure (.slice 1 true true false)), [(.tmp 17), (.const (.int .i64 1)), (.tmp 21)]⟩, []⟩, ⟨9, ⟨(some 23), none, (.pure .len), [(.tmp 22)]⟩, []⟩]) (.block 0 (.loop (.seq (.region [⟨0, ⟨(some 25), none, (.pure (.bin .lss .none)), [(.tmp 24), (.tmp 23)]⟩, []⟩]) (.seq (.cond (.tmp 25) .skip (.exit 0)) (.seq (.block 1 (.seq (.region [⟨0, ⟨(some 26), none, (.pure .id), [(.tmp 24)]⟩, []⟩, ⟨0, ⟨(some 27), none, (.pure (.iaddr 1)), [(.tmp 22), (.tmp 24)]⟩, []⟩, ⟨0, ⟨(some 28), none, (.load (.load 1 false)), [(.tmp 27)]⟩, []⟩, ⟨0, ⟨(some 7), none, (.pure .id), [(.tmp 26)]⟩, []⟩, ⟨0, ⟨(some 8), none, (.pure .id), [(.tmp 28)]⟩, []⟩]) (.seq (.region [⟨0, ⟨(some 29), none, (.pure .id), [(.tmp 8)]⟩, []⟩]) (.cond (.tmp 29) (.region [⟨0, ⟨(some 30), none, (.pure .id), [(.tmp 6)]⟩, []⟩, ⟨0, ⟨(some 31), none, (.pure (.faddr 0)), [(.tmp 2)]⟩, []⟩, ⟨0, ⟨(some 32), none, (.load (.load 1 false)), [(.tmp 31)]⟩, []⟩, ⟨0, ⟨(some 33), none, (.pure .id), [(.tmp 7)]⟩, []⟩, ⟨0, ⟨(some 34), none, (.pure (.iaddr 1)), [(.tmp 32), (.tmp 33)]⟩, []⟩, ⟨0, ⟨(some 35), none, (.load (.load 1 false)), [(.tmp 34)]⟩, []⟩, ⟨0, ⟨(some 36), none, (.new (.bslice 1 [(.int .i64 0)] 1 [(0, 1)])), [(.tmp 35)]⟩, []⟩, ⟨0, ⟨(some 37), none, (.imp (.append 1 8)), [(.tmp 30), (.tmp 36)]⟩, []⟩, ⟨0, ⟨(some 6), none, (.pure .id), [(.tmp 37)]⟩, []⟩]) .skip)))) (.region [⟨0, ⟨(some 38), none, (.pure (.bin .add .none)), [(.tmp 24), (.const (.int .i64 1))]⟩, []⟩, ⟨0, ⟨(some 24), none, (.pure .id), [(.tmp 38)]⟩, []⟩]))))))) (.seq (.region [⟨0, ⟨(some 39), none, (.pure .id), [(.tmp 6)]⟩, []⟩, ⟨0, ⟨(some 4), none, (.pure .id), [(.tmp 39)]⟩, []⟩, ⟨0, ⟨(some 5), none, (.pure .id), [(.const (.int .i64 0))]⟩, []⟩]) .ret)))))⟩
theorem c_aig_Support : compF Try.prog Try.f14 = some G_aig_Support := by kernel_rfl
theorem gc_aig_Support {args : List DV} {σ : GS} {Post : DV → GS → Prop} (h : @exB Try.prog ⟨G_aig_Support.body⟩ (genv0 args G_aig_Support.ntmps) σ ⟨@gretB G_aig_Support.results ⟨Post⟩⟩) : GCall Try.prog F_aig_Support args σ Post := gcall_ofB seatfollows Try.func14 (by kernel_rfl) c_aig_Support h
noncomputable abbrev G_aig_Size : GFun := ⟨31, [(.tmp 4), (.tmp 5)], (.seq (.region [⟨0, ⟨(some 2), none, (.new .box), [(.tmp 0)]⟩, []⟩, ⟨0, ⟨(some 4), none, (.pure .id), [(.const (.int .i64 0))]⟩, []⟩, ⟨0, ⟨(some 5), none, (.pure .id), [(.const (.int .i64 0))]⟩, []⟩]) (.seq (.seq (.region [⟨0, ⟨(some 9), none, (.load (.load 2 true)), [(.tmp 2)]⟩, []⟩, ⟨0, ⟨(some 10), none, (.pure .id), [(.tmp 1)]⟩, []⟩, ⟨0, ⟨(some 11), none, (.call F_aig_all), [(.tmp 9), (.tmp 10)]⟩, []⟩, ⟨0, ⟨(some 12), none, (.pure (.un .not)), [(.tmp 11)]⟩, []⟩]) (.cond (.tmp 12) (.seq (.region [⟨0, ⟨(some 4), none, (.pure .id), [(.const (.int .i64 0))]⟩, []⟩, ⟨0, ⟨(some 5), none, (.pure .id), [(.const (.int .i64 2))]⟩, []⟩]) .ret) .skip)) (.seq (.region [⟨0, ⟨(some 6), none, (.pure .id), [(.const (.int .i64 0))]⟩, []⟩]) (.seq (.seq (.region [⟨0, ⟨(some 13), none, (.load (.load 2 true)), [(.tmp 2)]⟩, []⟩, ⟨1, ⟨(some 14), none, (.pure .id), [(.tmp 1)]⟩, []⟩, ⟨3, ⟨(some 16), none, (.pure (.faddr 0)), [(.tmp 2)]⟩, []⟩, ⟨4, ⟨(some 17), none, (.load (.load 1 false)), [(.tmp 16)]⟩, []⟩, ⟨5, ⟨(some 18), none, (.pure .len), [(.tmp 17)]⟩, []⟩, ⟨6, ⟨(some 19), none, (.pure (.bin .add .none)), [(.const (.int .i64 1)), (.tmp 18)]⟩, []⟩, ⟨9, ⟨(some 22), none, (.pure .id), [(.const (.int .i64 0))]⟩, []⟩, ⟨2, ⟨(some 15), none, (.call F_aig_reached), [(.tmp 13), (.tmp 14)]⟩, [⟨(some 17), none, (.load (.load 1 false)), [(.tmp 16)]⟩]⟩, ⟨7, ⟨(some 20), none, (.pure (.slice 1 true false false)), [(.tmp 15), (.tmp 19)]⟩, []⟩, ⟨8, ⟨(some 21), none, (.pure .len), [(.tmp 20)]⟩, []⟩]) (.block 0 (.loop (.seq (.region [⟨0, ⟨(some 23), none, (.pure (.bin .lss .none)), [(.tmp 22), (.tmp 21)]⟩, []⟩]) (.seq (.cond (.tmp 23) .skip (.exit 0)) (.seq (.block 1 (.seq (.region [⟨0, ⟨(some 24), none, (.pure (.iaddr 1)), [(.tmp 20), (.tmp 22)]⟩, []⟩, ⟨0, ⟨(some 25), none, (.load (.load 1 false)), [(.tmp 24)]⟩, []⟩, ⟨0, ⟨(some 8), none, (.pure .id), [(.tmp 25)]⟩, []⟩]) (.seq (.region [⟨0, ⟨(some 26), none, (.pure .id), [(.tmp 8)]⟩, []⟩]) (.cond (.tmp 26) (.region [⟨0, ⟨(some 27), none, (.pure .id), [(.tmp 6)]⟩, []⟩, ⟨0, ⟨(some 28), none, (.pure (.bin .add .none)), [(.tmp 27), (.const (.int .i64 1))]⟩, []⟩, ⟨0, ⟨(some 6), none, (.pure .id), [(.tmp 28)]⟩, []⟩]) .skip)))) (.region [⟨0, ⟨(some 29), none, (.pure (.bin .add .none)), [(.tmp 22), (.const (.int .i64 1))]⟩, []⟩, ⟨0, ⟨(some 22), none, (.pure .id), [(.tmp 29)]⟩, []⟩]))))))) (.seq (.region [⟨0, ⟨(some 30), none, (.pure .id), [(.tmp 6)]⟩, []⟩, ⟨0, ⟨(some 4), none, (.pure .id), [(.tmp 30)]⟩, []⟩, ⟨0, ⟨(some 5), none, (.pure .id), [(.const (.int .i64 0))]⟩, []⟩]) .ret)))))⟩
theorem c_aig_Size : compF Try.prog Try.f11 = some G_aig_Size := by kernel_rfl
theorem gc_aig_Size {args : List DV} {σ : GS} {Post : DV → GS → Prop} (h : @exB Try.prog ⟨G_aig_Size.body⟩ (genv0 args G_aig_Size.ntmps) σ ⟨@gretB G_aig_Size.results ⟨Post⟩⟩) : GCall Try.prog F_aig_Size args σ Post := gcall_ofB seatfollows Try.func11 (by kernel_rfl) c_aig_Size h
noncomputable abbrev G_skolemref06_Reduced : GFun := ⟨49, [(.tmp 2)], (.seq (.region [⟨0, ⟨(some 1), none, (.new .box), [(.tmp 0)]⟩, []⟩, ⟨0, ⟨(some 2), none, (.pure .id), [(.const (.bool false))]⟩, []⟩]) (.seq (.seq (.region [⟨0, ⟨(some 6), none, (.load (.load 2 true)), [(.tmp 1)]⟩, []⟩, ⟨0, ⟨(some 7), none, (.call F_skolemref06_May), [(.tmp 6)]⟩, []⟩, ⟨0, ⟨(some 8), none, (.pure (.un .not)), [(.tmp 7)]⟩, []⟩]) (.cond (.tmp 8) (.seq (.region [⟨0, ⟨(some 2), none, (.pure .id), [(.const (.bool false))]⟩, []⟩]) .ret) .skip)) (.seq (.seq (.region [⟨0, ⟨(some 3), none, (.pure .id), [(.const (.int .i64 0))]⟩, []⟩]) (.block 0 (.loop (.seq (.seq (.region [⟨0, ⟨(some 9), none, (.pure .id), [(.tmp 3)]⟩, []⟩, ⟨0, ⟨(some 10), none, (.pure (.faddr 1)), [(.tmp 1)]⟩, []⟩, ⟨0, ⟨(some 11), none, (.load (.load 1 false)), [(.tmp 10)]⟩, []⟩, ⟨0, ⟨(some 12), none, (.pure .len), [(.tmp 11)]⟩, []⟩, ⟨0, ⟨(some 13), none, (.pure (.bin .lss .none)), [(.tmp 9), (.tmp 12)]⟩, []⟩]) (.cond (.tmp 13) .skip (.exit 0))) (.seq (.block 1 (.seq (.region [⟨0, ⟨(some 16), none, (.pure (.faddr 1)), [(.tmp 1)]⟩, []⟩, ⟨1, ⟨(some 17), none, (.load (.load 1 false)), [(.tmp 16)]⟩, []⟩, ⟨2, ⟨(some 18), none, (.pure .id), [(.tmp 3)]⟩, []⟩, ⟨3, ⟨(some 19), none, (.pure (.iaddr 2)), [(.tmp 17), (.tmp 18)]⟩, []⟩, ⟨4, ⟨(some 20), none, (.pure (.iarr 2 1)), [(.tmp 19), (.const (.int .i64 0))]⟩, []⟩, ⟨5, ⟨(some 21), none, (.load (.load 1 false)), [(.tmp 20)]⟩, []⟩, ⟨6, ⟨(some 22), none, (.pure (.faddr 1)), [(.tmp 1)]⟩, []⟩, ⟨7, ⟨(some 23), none, (.load (.load 1 false)), [(.tmp 22)]⟩, []⟩, ⟨8, ⟨(some 24), none, (.pure .id), [(.tmp 3)]⟩, []⟩, ⟨9, ⟨(some 25), none, (.pure (.iaddr 2)), [(.tmp 23), (.tmp 24)]⟩, []⟩, ⟨10, ⟨(some 26), none, (.pure (.iarr 2 1)), [(.tmp 25), (.const (.int .i64 1))]⟩, []⟩, ⟨11, ⟨(some 27), none, (.load (.load 1 false)), [(.tmp 26)]⟩, []⟩, ⟨12, ⟨(some 4), none, (.pure .id), [(.tmp 21)]⟩, []⟩, ⟨13, ⟨(some 5), none, (.pure .id), [(.tmp 27)]⟩, []⟩]) (.seq (.region [⟨0, ⟨(some 28), none, (.pure .id), [(.tmp 4)]⟩, []⟩, ⟨0, ⟨(some 29), none, (.pure (.bin .lss .none)), [(.tmp 28), (.const (.int .i64 2))]⟩, []⟩, ⟨0, ⟨(some 30), none, (.pure .id), [(.tmp 29)]⟩, []⟩, ⟨0, ⟨(some 31), (some (30, false)), (.pure .id), [(.tmp 4)]⟩, []⟩, ⟨0, ⟨(some 32), (some (30, false)), (.pure .id), [(.tmp 5)]⟩, []⟩, ⟨0, ⟨(some 33), (some (30, false)), (.pure (.bin .geq .none)), [(.tmp 31), (.tmp 32)]⟩, []⟩, ⟨0, ⟨(some 34), none, (.pure .pick), [(.tmp 30), (.const (.bool true)), (.tmp 33)]⟩, []⟩, ⟨0, ⟨(some 35), none, (.pure .id), [(.tmp 34)]⟩, []⟩, ⟨0, ⟨(some 36), (some (35, false)), (.pure .id), [(.tmp 4)]⟩, []⟩, ⟨0, ⟨(some 37), (some (35, false)), (.call F_skolemref06_Not), [(.tmp 36)]⟩, []⟩, ⟨0, ⟨(some 38), (some (35, false)), (.pure .id), [(.tmp 5)]⟩, []⟩, ⟨0, ⟨(some 39), (some (35, false)), (.pure (.bin .eql .none)), [(.tmp 37), (.tmp 38)]⟩, []⟩, ⟨0, ⟨(some 40), none, (.pure .pick), [(.tmp 35), (.const (.bool true)), (.tmp 39)]⟩, []⟩, ⟨0, ⟨(some 41), none, (.pure .id), [(.tmp 40)]⟩, []⟩, ⟨0, ⟨(some 42), (some (41, false)), (.load (.load 2 true)), [(.tmp 1)]⟩, []⟩, ⟨0, ⟨(some 43), (some (41, false)), (.pure .id), [(.tmp 4)]⟩, []⟩, ⟨0, ⟨(some 44), (some (41, false)), (.pure .id), [(.tmp 5)]⟩, []⟩, ⟨0, ⟨(some 45), (some (41, false)), (.call F_skolemref06_find), [(.tmp 42), (.tmp 43), (.tmp 44)]⟩, []⟩, ⟨0, ⟨(some 46), (some (41, false)), (.pure .id), [(.tmp 3)]⟩, []⟩, ⟨0, ⟨(some 47), (some (41, false)), (.pure (.bin .neq .none)), [(.tmp 45), (.tmp 46)]⟩, []⟩, ⟨0, ⟨(some 48), none, (.pure .pick), [(.tmp 41), (.const (.bool true)), (.tmp 47)]⟩, []⟩]) (.cond (.tmp 48) (.seq (.region [⟨0, ⟨(some 2), none, (.pure .id), [(.const (.bool false))]⟩, []⟩]) .ret) .skip)))) (.region [⟨0, ⟨(some 14), none, (.pure .id), [(.tmp 3)]⟩, []⟩, ⟨0, ⟨(some 15), none, (.pure (.bin .add .none)), [(.tmp 14), (.const (.int .i64 1))]⟩, []⟩, ⟨0, ⟨(some 3), none, (.pure .id), [(.tmp 15)]⟩, []⟩])))))) (.seq (.region [⟨0, ⟨(some 2), none, (.pure .id), [(.const (.bool true))]⟩, []⟩]) .ret))))⟩
theorem c_skolemref06_Reduced : compF Try.prog Try.f6 = some G_skolemref06_Reduced := by kernel_rfl
theorem gc_skolemref06_Reduced {args : List DV} {σ : GS} {Post : DV → GS → Prop} (h : @exB Try.prog ⟨G_skolemref06_Reduced.body⟩ (genv0 args G_skolemref06_Reduced.ntmps) σ ⟨@gretB G_skolemref06_Reduced.results ⟨Post⟩⟩) : GCall Try.prog F_skolemref06_Reduced args σ Post := gcall_ofB seatfollows Try.func6 (by kernel_rfl) c_skolemref06_Reduced h
end Go.Gh
namespace Go.Gh
open Go.Proofs
end Go.Gh
namespace Go.Gh
open Go.Proofs
abbrev F_skolemlaw06_fit : Nat := 8
noncomputable abbrev G_skolemlaw06_fit : GFun := ⟨29, [(.tmp 4)], (.seq (.region [⟨0, ⟨(some 4), none, (.pure .id), [(.const .nils)]⟩, []⟩]) (.seq (.region [⟨0, ⟨(some 5), none, (.pure .id), [(.const .nils)]⟩, []⟩]) (.seq (.seq (.region [⟨0, ⟨(some 8), none, (.pure .id), [(.tmp 0)]⟩, []⟩, ⟨0, ⟨(some 9), none, (.pure .len), [(.tmp 8)]⟩, []⟩, ⟨0, ⟨(some 10), none, (.pure .id), [(.const (.int .i64 0))]⟩, []⟩]) (.block 0 (.loop (.seq (.region [⟨0, ⟨(some 11), none, (.pure (.bin .lss .none)), [(.tmp 10), (.tmp 9)]⟩, []⟩]) (.seq (.cond (.tmp 11) .skip (.exit 0)) (.seq (.block 1 (.seq (.region [⟨0, ⟨(some 12), none, (.pure (.iaddr 1)), [(.tmp 8), (.tmp 10)]⟩, []⟩, ⟨0, ⟨(some 13), none, (.load (.load 1 false)), [(.tmp 12)]⟩, []⟩, ⟨0, ⟨(some 7), none, (.pure .id), [(.tmp 13)]⟩, []⟩]) (.region [⟨0, ⟨(some 14), none, (.pure .id), [(.tmp 5)]⟩, []⟩, ⟨0, ⟨(some 15), none, (.pure .id), [(.tmp 7)]⟩, []⟩, ⟨0, ⟨(some 16), none, (.pure .id), [(.tmp 1)]⟩, []⟩, ⟨0, ⟨(some 17), none, (.pure (.bin .mul .none)), [(.const (.int .i64 2)), (.tmp 16)]⟩, []⟩, ⟨0, ⟨(some 18), none, (.pure (.bin .rem .none)), [(.tmp 15), (.tmp 17)]⟩, []⟩, ⟨0, ⟨(some 19), none, (.pure .id), [(.tmp 1)]⟩, []⟩, ⟨0, ⟨(some 20), none, (.pure (.bin .mul .none)), [(.const (.int .i64 2)), (.tmp 19)]⟩, []⟩, ⟨0, ⟨(some 21), none, (.pure (.bin .add .none)), [(.tmp 18), (.tmp 20)]⟩, []⟩, ⟨0, ⟨(some 22), none, (.pure .id), [(.tmp 1)]⟩, []⟩, ⟨0, ⟨(some 23), none, (.pure (.bin .mul .none)), [(.const (.int .i64 2)), (.tmp 22)]⟩, []⟩, ⟨0, ⟨(some 24), none, (.pure (.bin .rem .none)), [(.tmp 21), (.tmp 23)]⟩, []⟩, ⟨0, ⟨(some 25), none, (.new (.bslice 1 [(.int .i64 0)] 1 [(0, 1)])), [(.tmp 24)]⟩, []⟩, ⟨0, ⟨(some 26), none, (.imp (.append 1 8)), [(.tmp 14), (.tmp 25)]⟩, []⟩, ⟨0, ⟨(some 5), none, (.pure .id), [(.tmp 26)]⟩, []⟩]))) (.region [⟨0, ⟨(some 27), none, (.pure (.bin .add .none)), [(.tmp 10), (.const (.int .i64 1))]⟩, []⟩, ⟨0, ⟨(some 10), none, (.pure .id), [(.tmp 27)]⟩, []⟩]))))))) (.seq (.region [⟨0, ⟨(some 28), none, (.pure .id), [(.tmp 5)]⟩, []⟩, ⟨0, ⟨(some 4), none, (.pure .id), [(.tmp 28)]⟩, []⟩]) .ret))))⟩
theorem c_skolemlaw06_fit : compF Try.prog Try.f8 = some G_skolemlaw06_fit := by kernel_rfl
theorem gc_skolemlaw06_fit {args : List DV} {σ : GS} {Post : DV → GS → Prop} (h : @exB Try.prog ⟨G_skolemlaw06_fit.body⟩ (genv0 args G_skolemlaw06_fit.ntmps) σ ⟨@gretB G_skolemlaw06_fit.results ⟨Post⟩⟩) : GCall Try.prog F_skolemlaw06_fit args σ Post := gcall_ofB seatfollows Try.func8 (by kernel_rfl) c_skolemlaw06_fit h
end Go.Gh
