/-
  Proved: AigAgain: the cone of a cone is the same; its size and supports.
  Part 6 of 7. Conditions: none. A verified frame that runs compiled texts over a ghost heap, the contracts of the functions that the statement reaches, and the plain law.
-/
import Derived.Test.YtmlkkjkjigpjjaaXA5
import Derived.Test.YtmlkkjkjigpjjaaProg
import Derived.KernelRfl
namespace Go.Gh
open Go.Proofs
abbrev F_skolemlaw06_AigAgain : Nat := 3
abbrev F_skolemlaw06_works : Nat := 7
noncomputable abbrev G_skolemlaw06_AigAgain : GFun := ⟨130, [(.tmp 4)], (.seq (.region [⟨0, ⟨(some 2), none, (.new .box), [(.tmp 0)]⟩, []⟩, ⟨0, ⟨(some 4), none, (.pure .id), [(.const (.bool false))]⟩, []⟩]) (.seq (.seq (.region [⟨0, ⟨(some 19), none, (.load (.load 2 true)), [(.tmp 2)]⟩, []⟩, ⟨0, ⟨(some 20), none, (.new (.bslice 2 [.nils, .nils] 1 [(0, 2)])), [(.tmp 19)]⟩, []⟩, ⟨0, ⟨(some 21), none, (.call F_skolemlaw06_great), [(.tmp 20)]⟩, []⟩, ⟨0, ⟨(some 22), none, (.pure .id), [(.tmp 21)]⟩, []⟩, ⟨0, ⟨(some 23), (some (22, false)), (.pure .id), [(.tmp 1)]⟩, []⟩, ⟨0, ⟨(some 24), (some (22, false)), (.pure .len), [(.tmp 23)]⟩, []⟩, ⟨0, ⟨(some 25), (some (22, false)), (.pure (.bin .gtr .none)), [(.tmp 24), (.const (.int .i64 50))]⟩, []⟩, ⟨0, ⟨(some 26), none, (.pure .pick), [(.tmp 22), (.const (.bool true)), (.tmp 25)]⟩, []⟩, ⟨0, ⟨(some 27), none, (.pure .id), [(.tmp 26)]⟩, []⟩, ⟨0, ⟨(some 28), (some (27, false)), (.load (.load 2 true)), [(.tmp 2)]⟩, []⟩, ⟨0, ⟨(some 29), (some (27, false)), (.call F_skolemref06_Reduced), [(.tmp 28)]⟩, []⟩, ⟨0, ⟨(some 30), (some (27, false)), (.pure (.un .not)), [(.tmp 29)]⟩, []⟩, ⟨0, ⟨(some 31), none, (.pure .pick), [(.tmp 27), (.const (.bool true)), (.tmp 30)]⟩, []⟩]) (.cond (.tmp 31) (.seq (.region [⟨0, ⟨(some 32), none, (.call F_skolemlaw06_works), []⟩, []⟩, ⟨0, ⟨(some 4), none, (.pure .id), [(.tmp 32)]⟩, []⟩]) .ret) .skip)) (.seq (.region [⟨0, ⟨(some 33), none, (.pure .id), [(.tmp 1)]⟩, []⟩, ⟨0, ⟨(some 34), none, (.load (.load 2 true)), [(.tmp 2)]⟩, []⟩, ⟨0, ⟨(some 35), none, (.call F_skolemref06_Nodes), [(.tmp 34)]⟩, []⟩, ⟨0, ⟨(some 36), none, (.call F_skolemlaw06_fit), [(.tmp 33), (.tmp 35)]⟩, []⟩, ⟨0, ⟨(some 5), none, (.pure .id), [(.tmp 36)]⟩, []⟩]) (.seq (.region [⟨0, ⟨(some 38), none, (.load (.load 2 true)), [(.tmp 2)]⟩, []⟩, ⟨0, ⟨(some 39), none, (.pure .id), [(.tmp 5)]⟩, []⟩, ⟨0, ⟨(some 40), none, (.call F_aig_Cone), [(.tmp 38), (.tmp 39)]⟩, []⟩, ⟨0, ⟨(some 37), none, (.pure .id), [(.tmp 40)]⟩, []⟩, ⟨0, ⟨(some 41), none, (.pure (.extract 0)), [(.tmp 37)]⟩, []⟩, ⟨0, ⟨(some 42), none, (.pure (.extract 1)), [(.tmp 37)]⟩, []⟩, ⟨0, ⟨(some 43), none, (.pure (.extract 2)), [(.tmp 37)]⟩, []⟩, ⟨0, ⟨(some 6), none, (.new (.alloc [.nils, .nils])), []⟩, []⟩, ⟨0, ⟨none, none, (.imp (.store 2)), [(.tmp 6), (.tmp 41)]⟩, []⟩, ⟨0, ⟨(some 7), none, (.pure .id), [(.tmp 42)]⟩, []⟩, ⟨0, ⟨(some 8), none, (.pure .id), [(.tmp 43)]⟩, []⟩]) (.seq (.region [⟨0, ⟨(some 45), none, (.load (.load 2 true)), [(.tmp 6)]⟩, []⟩, ⟨0, ⟨(some 46), none, (.pure .id), [(.tmp 7)]⟩, []⟩, ⟨0, ⟨(some 47), none, (.call F_aig_Cone), [(.tmp 45), (.tmp 46)]⟩, []⟩, ⟨0, ⟨(some 44), none, (.pure .id), [(.tmp 47)]⟩, []⟩, ⟨0, ⟨(some 48), none, (.pure (.extract 0)), [(.tmp 44)]⟩, []⟩, ⟨0, ⟨(some 49), none, (.pure (.extract 1)), [(.tmp 44)]⟩, []⟩, ⟨0, ⟨(some 50), none, (.pure (.extract 2)), [(.tmp 44)]⟩, []⟩, ⟨0, ⟨(some 9), none, (.new (.alloc [.nils, .nils])), []⟩, []⟩, ⟨0, ⟨none, none, (.imp (.store 2)), [(.tmp 9), (.tmp 48)]⟩, []⟩, ⟨0, ⟨(some 10), none, (.pure .id), [(.tmp 49)]⟩, []⟩, ⟨0, ⟨(some 11), none, (.pure .id), [(.tmp 50)]⟩, []⟩]) (.seq (.region [⟨0, ⟨(some 52), none, (.load (.load 2 true)), [(.tmp 2)]⟩, []⟩, ⟨0, ⟨(some 53), none, (.pure .id), [(.tmp 5)]⟩, []⟩, ⟨0, ⟨(some 54), none, (.call F_aig_Size), [(.tmp 52), (.tmp 53)]⟩, []⟩, ⟨0, ⟨(some 51), none, (.pure .id), [(.tmp 54)]⟩, []⟩, ⟨0, ⟨(some 55), none, (.pure (.extract 0)), [(.tmp 51)]⟩, []⟩, ⟨0, ⟨(some 56), none, (.pure (.extract 1)), [(.tmp 51)]⟩, []⟩, ⟨0, ⟨(some 12), none, (.pure .id), [(.tmp 55)]⟩, []⟩, ⟨0, ⟨(some 13), none, (.pure .id), [(.tmp 56)]⟩, []⟩]) (.seq (.seq (.region [⟨0, ⟨(some 57), none, (.pure .id), [(.tmp 8)]⟩, []⟩, ⟨0, ⟨(some 58), none, (.pure (.bin .neq .none)), [(.tmp 57), (.const (.int .i64 0))]⟩, []⟩, ⟨0, ⟨(some 59), none, (.pure .id), [(.tmp 58)]⟩, []⟩, ⟨0, ⟨(some 60), (some (59, false)), (.pure .id), [(.tmp 11)]⟩, []⟩, ⟨0, ⟨(some 61), (some (59, false)), (.pure (.bin .neq .none)), [(.tmp 60), (.const (.int .i64 0))]⟩, []⟩, ⟨0, ⟨(some 62), none, (.pure .pick), [(.tmp 59), (.const (.bool true)), (.tmp 61)]⟩, []⟩, ⟨0, ⟨(some 63), none, (.pure .id), [(.tmp 62)]⟩, []⟩, ⟨0, ⟨(some 64), (some (63, false)), (.pure .id), [(.tmp 13)]⟩, []⟩, ⟨0, ⟨(some 65), (some (63, false)), (.pure (.bin .neq .none)), [(.tmp 64), (.const (.int .i64 0))]⟩, []⟩, ⟨0, ⟨(some 66), none, (.pure .pick), [(.tmp 63), (.const (.bool true)), (.tmp 65)]⟩, []⟩, ⟨0, ⟨(some 67), none, (.pure .id), [(.tmp 66)]⟩, []⟩, ⟨0, ⟨(some 68), (some (67, false)), (.pure .id), [(.tmp 12)]⟩, []⟩, ⟨0, ⟨(some 69), (some (67, false)), (.pure (.faddr 1)), [(.tmp 6)]⟩, []⟩, ⟨0, ⟨(some 70), (some (67, false)), (.load (.load 1 false)), [(.tmp 69)]⟩, []⟩, ⟨0, ⟨(some 71), (some (67, false)), (.pure .len), [(.tmp 70)]⟩, []⟩, ⟨0, ⟨(some 72), (some (67, false)), (.pure (.bin .neq .none)), [(.tmp 68), (.tmp 71)]⟩, []⟩, ⟨0, ⟨(some 73), none, (.pure .pick), [(.tmp 67), (.const (.bool true)), (.tmp 72)]⟩, []⟩, ⟨0, ⟨(some 74), none, (.pure .id), [(.tmp 73)]⟩, []⟩, ⟨0, ⟨(some 75), (some (74, false)), (.pure .id), [(.tmp 7)]⟩, []⟩, ⟨0, ⟨(some 76), (some (74, false)), (.pure .len), [(.tmp 75)]⟩, []⟩, ⟨0, ⟨(some 77), (some (74, false)), (.pure .id), [(.tmp 5)]⟩, []⟩, ⟨0, ⟨(some 78), (some (74, false)), (.pure .len), [(.tmp 77)]⟩, []⟩, ⟨0, ⟨(some 79), (some (74, false)), (.pure (.bin .neq .none)), [(.tmp 76), (.tmp 78)]⟩, []⟩, ⟨0, ⟨(some 80), none, (.pure .pick), [(.tmp 74), (.const (.bool true)), (.tmp 79)]⟩, []⟩, ⟨0, ⟨(some 81), none, (.pure .id), [(.tmp 80)]⟩, []⟩, ⟨0, ⟨(some 82), (some (81, false)), (.load (.load 2 true)), [(.tmp 6)]⟩, []⟩, ⟨0, ⟨(some 83), (some (81, false)), (.load (.load 2 true)), [(.tmp 9)]⟩, []⟩, ⟨0, ⟨(some 84), (some (81, false)), (.call F_skolemref06_Same), [(.tmp 82), (.tmp 83)]⟩, []⟩, ⟨0, ⟨(some 85), (some (81, false)), (.pure (.un .not)), [(.tmp 84)]⟩, []⟩, ⟨0, ⟨(some 86), none, (.pure .pick), [(.tmp 81), (.const (.bool true)), (.tmp 85)]⟩, []⟩, ⟨0, ⟨(some 87), none, (.pure .id), [(.tmp 86)]⟩, []⟩, ⟨0, ⟨(some 88), (some (87, false)), (.pure .id), [(.tmp 7)]⟩, []⟩, ⟨0, ⟨(some 89), (some (87, false)), (.pure .id), [(.tmp 10)]⟩, []⟩, ⟨0, ⟨(some 90), (some (87, false)), (.call F_skolemref05_Ints), [(.tmp 88), (.tmp 89)]⟩, []⟩, ⟨0, ⟨(some 91), (some (87, false)), (.pure (.un .not)), [(.tmp 90)]⟩, []⟩, ⟨0, ⟨(some 92), none, (.pure .pick), [(.tmp 87), (.const (.bool true)), (.tmp 91)]⟩, []⟩]) (.cond (.tmp 92) (.seq (.region [⟨0, ⟨(some 4), none, (.pure .id), [(.const (.bool false))]⟩, []⟩]) .ret) .skip)) (.seq (.seq (.region [⟨0, ⟨(some 93), none, (.pure .id), [(.tmp 5)]⟩, []⟩, ⟨0, ⟨(some 94), none, (.pure .len), [(.tmp 93)]⟩, []⟩, ⟨0, ⟨(some 95), none, (.pure .id), [(.const (.int .i64 0))]⟩, []⟩]) (.block 0 (.loop (.seq (.region [⟨0, ⟨(some 96), none, (.pure (.bin .lss .none)), [(.tmp 95), (.tmp 94)]⟩, []⟩]) (.seq (.cond (.tmp 96) .skip (.exit 0)) (.seq (.block 1 (.seq (.region [⟨0, ⟨(some 97), none, (.pure .id), [(.tmp 95)]⟩, []⟩, ⟨0, ⟨(some 14), none, (.pure .id), [(.tmp 97)]⟩, []⟩]) (.seq (.region [⟨0, ⟨(some 99), none, (.load (.load 2 true)), [(.tmp 2)]⟩, []⟩, ⟨1, ⟨(some 100), none, (.pure .id), [(.tmp 5)]⟩, []⟩, ⟨2, ⟨(some 101), none, (.pure .id), [(.tmp 14)]⟩, []⟩, ⟨3, ⟨(some 102), none, (.pure (.iaddr 1)), [(.tmp 100), (.tmp 101)]⟩, []⟩, ⟨4, ⟨(some 103), none, (.load (.load 1 false)), [(.tmp 102)]⟩, []⟩, ⟨5, ⟨(some 104), none, (.call F_aig_Support), [(.tmp 99), (.tmp 103)]⟩, []⟩, ⟨6, ⟨(some 98), none, (.pure .id), [(.tmp 104)]⟩, []⟩, ⟨7, ⟨(some 105), none, (.pure (.extract 0)), [(.tmp 98)]⟩, []⟩, ⟨8, ⟨(some 106), none, (.pure (.extract 1)), [(.tmp 98)]⟩, []⟩, ⟨9, ⟨(some 15), none, (.pure .id), [(.tmp 105)]⟩, []⟩, ⟨10, ⟨(some 16), none, (.pure .id), [(.tmp 106)]⟩, []⟩]) (.seq (.region [⟨0, ⟨(some 108), none, (.load (.load 2 true)), [(.tmp 6)]⟩, []⟩, ⟨1, ⟨(some 109), none, (.pure .id), [(.tmp 7)]⟩, []⟩, ⟨2, ⟨(some 110), none, (.pure .id), [(.tmp 14)]⟩, []⟩, ⟨3, ⟨(some 111), none, (.pure (.iaddr 1)), [(.tmp 109), (.tmp 110)]⟩, []⟩, ⟨4, ⟨(some 112), none, (.load (.load 1 false)), [(.tmp 111)]⟩, []⟩, ⟨5, ⟨(some 113), none, (.call F_aig_Support), [(.tmp 108), (.tmp 112)]⟩, []⟩, ⟨6, ⟨(some 107), none, (.pure .id), [(.tmp 113)]⟩, []⟩, ⟨7, ⟨(some 114), none, (.pure (.extract 0)), [(.tmp 107)]⟩, []⟩, ⟨8, ⟨(some 115), none, (.pure (.extract 1)), [(.tmp 107)]⟩, []⟩, ⟨9, ⟨(some 17), none, (.pure .id), [(.tmp 114)]⟩, []⟩, ⟨10, ⟨(some 18), none, (.pure .id), [(.tmp 115)]⟩, []⟩]) (.seq (.region [⟨0, ⟨(some 116), none, (.pure .id), [(.tmp 16)]⟩, []⟩, ⟨0, ⟨(some 117), none, (.pure (.bin .neq .none)), [(.tmp 116), (.const (.int .i64 0))]⟩, []⟩, ⟨0, ⟨(some 118), none, (.pure .id), [(.tmp 117)]⟩, []⟩, ⟨0, ⟨(some 119), (some (118, false)), (.pure .id), [(.tmp 18)]⟩, []⟩, ⟨0, ⟨(some 120), (some (118, false)), (.pure (.bin .neq .none)), [(.tmp 119), (.const (.int .i64 0))]⟩, []⟩, ⟨0, ⟨(some 121), none, (.pure .pick), [(.tmp 118), (.const (.bool true)), (.tmp 120)]⟩, []⟩, ⟨0, ⟨(some 122), none, (.pure .id), [(.tmp 121)]⟩, []⟩, ⟨0, ⟨(some 123), (some (122, false)), (.pure .id), [(.tmp 15)]⟩, []⟩, ⟨0, ⟨(some 124), (some (122, false)), (.pure .id), [(.tmp 17)]⟩, []⟩, ⟨0, ⟨(some 125), (some (122, false)), (.call F_skolemref05_Ints), [(.tmp 123), (.tmp 124)]⟩, []⟩, ⟨0, ⟨(some 126), (some (122, false)), (.pure (.un .not)), [(.tmp 125)]⟩, []⟩, ⟨0, ⟨(some 127), none, (.pure .pick), [(.tmp 122), (.const (.bool true)), (.tmp 126)]⟩, []⟩]) (.cond (.tmp 127) (.seq (.region [⟨0, ⟨(some 4), none, (.pure .id), [(.const (.bool false))]⟩, []⟩]) .ret) .skip)))))) (.region [⟨0, ⟨(some 128), none, (.pure (.bin .add .none)), [(.tmp 95), (.const (.int .i64 1))]⟩, []⟩, ⟨0, ⟨(some 95), none, (.pure .id), [(.tmp 128)]⟩, []⟩]))))))) (.seq (.region [⟨0, ⟨(some 129), none, (.call F_skolemlaw06_works), []⟩, []⟩, ⟨0, ⟨(some 4), none, (.pure .id), [(.tmp 129)]⟩, []⟩]) .ret)))))))))⟩
theorem c_skolemlaw06_AigAgain : compF Try.prog Try.f3 = some G_skolemlaw06_AigAgain := by kernel_rfl
theorem gc_skolemlaw06_AigAgain {args : List DV} {σ : GS} {Post : DV → GS → Prop} (h : @exB Try.prog ⟨G_skolemlaw06_AigAgain.body⟩ (genv0 args G_skolemlaw06_AigAgain.ntmps) σ ⟨@gretB G_skolemlaw06_AigAgain.results ⟨Post⟩⟩) : GCall Try.prog F_skolemlaw06_AigAgain args σ Post := gcall_ofB seatfollows Try.func3 (by kernel_rfl) c_skolemlaw06_AigAgain h
end Go.Gh
namespace Go.Gh
open Go.RowKit Go.Proofs
set_option linter.unusedVariables false
set_option linter.unusedSimpArgs false
set_option maxRecDepth 100000
/-- A list of one number, of one's own. -/
theorem rd_one {σ : GS} {ok : Nat → Prop} {id : Nat} {ro : Bool} {e : Int} {cap : Option Nat} (h : σ[id]? = some (.row ro [.int .i64 e])) (k : ok id) : Rd σ ok (.slice id 0 1 1 cap) (fints [e]) := rd_ints (vs := [e]) (by simpa using h) k
theorem all_one {g : AigP} {e : Int} {id : Nat} {cap : Option Nat} {σ : GS} {Post : DV → GS → Prop} (hs : g.Sm) (hr : σ[id]? = some (.row false [.int .i64 e])) (h : Post (.bool (g.all [e])) σ) : GCall Try.prog F_aig_all [g.enc, .slice id 0 1 1 cap] σ Post :=
  GCall.borrow (args' := [g.enc, fints [e]]) (.cons (.same _) (.cons (rd_one hr trivial) .nil)) (by simp) rfl (aig_all_ok hs (by simp) rfl) h
/-- The inputs that an edge reaches. -/
def supp (l : List (Int × Bool)) : List Int := (l.filter fun x => x.2).map (·.1)
theorem supp_push (l : List (Int × Bool)) (v : Int) (b : Bool) : supp (l ++ [(v, b)]) = if b then supp l ++ [v] else supp l := by cases b <;> simp [supp]
def AigP.support (g : AigP) (e : Int) : List Int × Int := if g.all [e] = true then (supp (g.ins.zip ((g.reach [e]).drop 1)), 0) else ([], 2)
theorem aig_Support_ok {g : AigP} {e : Int} {σ : GS} {Post : DV → GS → Prop} (hs : g.Sm) (h : Post (.tuple [fints (g.support e).1, .int .i64 (g.support e).2]) σ) : GCall Try.prog F_aig_Support [g.enc, .int .i64 e] σ Post := by
  refine GCall.pure (r := .tuple [fints (g.support e).1, .int .i64 (g.support e).2]) ?_ (by simp) h
  refine gc_aig_Support ?_
  simp [G_aig_Support, genv0, List.replicate]
  refine all_one (e := e) hs (by simp) ?_
  by_cases c : g.all [e] = true
  rotate_left
  · simp [c]
    rw [show g.support e = ([], 2) by unfold AigP.support; rw [if_neg c]]
    exact .tuple (.cons (.nils 1) (.cons (.same _) .nil))
  have hm := AigP.all_may c
  have hnn := AigP.may_nodes hm
  have hn : g.nodes = 1 + g.ins.length + g.ands.length := rfl
  have hrl := g.reach_len [e]
  have hsp : g.support e = (supp (g.ins.zip ((g.reach [e]).drop 1)), 0) := by unfold AigP.support; rw [if_pos c]
  rw [hsp]
  have ew : IntKind.i64.wrap (1 + (g.ins.length : Int)) = 1 + g.ins.length := by rw [wrap_small] <;> omega
  simp [c, ew]
  obtain ⟨A, hA⟩ : ∃ A, GObj.row false [fints g.ins, fands g.ands] = A := ⟨_, rfl⟩
  have hS : Rds (frz (fun i => decide (i = σ.length + 2)) (σ ++ [.row false [fints g.ins, fands g.ands], .row false [.int .i64 e], .row false [.int .i64 e]])) (RO (frz (fun i => decide (i = σ.length + 2)) (σ ++ [.row false [fints g.ins, fands g.ands], .row false [.int .i64 e], .row false [.int .i64 e]]))) [g.enc, .slice (σ.length + 2) 0 1 1 (some 1)] [g.enc, fints [e]] := by
    have hrow := frz_row (S := fun i => decide (i = σ.length + 2)) (σ := σ ++ [.row false [fints g.ins, fands g.ands], .row false [.int .i64 e], .row false [.int .i64 e]]) (i := σ.length + 2) (ro := false) (cs := [.int .i64 e]) (by simp) (by simp)
    exact .cons (.same _) (.cons (rd_one hrow fun ro cs h => by rw [hrow] at h; cases h; rfl) .nil)
  refine GCall.frz _ hS ?_
  refine aig_reached_ok hm (by simp) (fun x hx => AigP.all_has c hx) ?_
  obtain ⟨σ1, hσ1⟩ : ∃ σ1, frz (fun i => decide (i = σ.length + 2)) (σ ++ [.row false [fints g.ins, fands g.ands], .row false [.int .i64 e], .row false [.int .i64 e]]) = σ1 := ⟨_, rfl⟩
  have hB1 : σ1[σ.length]? = some (.row false [fints g.ins, fands g.ands]) := by rw [← hσ1, frz_off (by simp)]; simp
  have hF1 : Fr σ.length σ σ1 := ⟨by rw [← hσ1, frz_len]; simp, fun j hj => by rw [← hσ1, frz_off (by simp; omega), List.getElem?_append_left hj]⟩
  have hl1 : σ1.length = σ.length + 3 := by rw [← hσ1, frz_len]; simp
  have hld1 : gload (.load 1 false) [.ptr σ.length 0] σ1 = some (fints g.ins) := by rw [ld_at hB1]; rfl
  rw [hσ1]
  have hsl : gpure (.slice 1 true true false) [fbools (g.reach [e]), .int .i64 1, .int .i64 (1 + g.ins.length)] = some (fbools (((g.reach [e]).drop 1).take g.ins.length)) := by
    have e1 : (1 + (g.ins.length : Int)).toNat = 1 + g.ins.length := by omega
    simp only [gpure, gslice, if_true, gbm, Option.bind_some, gbh, gbl, gbound, List.length_map]
    rw [if_pos (by rw [hrl]; omega)]
    simp only [Option.bind_some]
    rw [if_pos (by omega)]
    simp only [Option.bind_some, e1]
    simp [List.map_drop, List.map_take]
  obtain ⟨rs, hrs⟩ : ∃ rs, ((g.reach [e]).drop 1).take g.ins.length = rs := ⟨_, rfl⟩
  have hrsl : rs.length = g.ins.length := by rw [← hrs]; simp; omega
  have hzip : g.ins.zip ((g.reach [e]).drop 1) = g.ins.zip rs := by
    rw [← hrs]
    apply List.ext_getElem?
    intro i
    by_cases hi : i < g.ins.length
    · have h1 : i < ((g.reach [e]).drop 1).length := by simp; omega
      rw [List.getElem?_eq_getElem (by simp; omega), List.getElem?_eq_getElem (by simp; omega)]
      simp
    · rw [List.getElem?_eq_none (by simp; omega), List.getElem?_eq_none (by simp; omega)]
  rw [hrs] at hsl
  rw [hzip]
  simp [hB1, hld1, hsl]
  refine gfor g.ins.length (fun i e σ' => Fr σ.length σ σ' ∧ σ'[σ.length]? = some (.row false [fints g.ins, fands g.ands]) ∧ ∃ s, Own (σ.length + 1) 1 eint σ' s (supp ((g.ins.zip rs).take i)) ∧ e = mkEnv 40 [(2, .ptr σ.length 0), (6, s), (22, fbools rs), (23, .int .i64 g.ins.length), (24, .int .i64 i)]) _ ?_ ⟨hF1, hB1, .nils, by simpa [supp] using Own.nil, rfl⟩ ?_
  · simp [mkEnv, List.replicate, hrsl]
  clear hS
  rintro i _ σ' hi ⟨hF, hB, s, hO, rfl⟩
  simp [mkEnv, List.replicate]
  have hld : gload (.load 1 false) [.ptr σ.length 0] σ' = some (fints g.ins) := by rw [ld_at hB]; rfl
  by_cases hlt : i < g.ins.length
  · obtain ⟨y, hy⟩ := nth_lt hlt
    have hy' := nth_get hy
    obtain ⟨b, hb⟩ := nth_lt (l := rs) (i := i) (by omega)
    have hb' := nth_get hb
    have htk := take_get (zip_get hy' hb')
    have es : IntKind.i64.wrap ((i : Int) + 1) = (i : Int) + 1 := by rw [wrap_small] <;> omega
    cases b with
    | false =>
      simp [hlt, hb, es]
      exact forK_go _ hlt (by simp [mkEnv, List.replicate]) ⟨hF, hB, s, by rw [htk, supp_push]; exact hO, rfl⟩
    | true =>
      have hal := get_dom hB
      have hsl2 : (supp ((g.ins.zip rs).take i)).length ≤ i := by
        unfold supp
        rw [List.length_map]
        refine Nat.le_trans (List.length_filter_le _ _) ?_
        simp; omega
      obtain ⟨s', σ2, q1, q2, q3, q4, q5, q6⟩ := hO.push (by_ := 8) y (fun _ => rfl) (by simp) (by omega) (by omega) (by decide)
      simp [hlt, hb, hld, hy, q1, es]
      exact forK_go _ hlt (by simp [mkEnv, List.replicate]) ⟨hF.trans (q3.mono (by omega)), (q3.get _ (by omega)).trans hB, s', by rw [htk, supp_push]; exact q2, rfl⟩
  · have : i = g.ins.length := by omega
    subst this
    rw [List.take_of_length_le (by simp; omega)] at hO
    simp
    exact ⟨hF, .tuple (.cons (hO.rd (fun _ => rfl) fun i hi => .inl (by omega)) (.cons (.same _) .nil))⟩
/-- How many are true. -/
def cntB (l : List Bool) : Nat := (l.filter id).length
theorem cntB_push (l : List Bool) (b : Bool) : cntB (l ++ [b]) = if b then cntB l + 1 else cntB l := by cases b <;> simp [cntB]
theorem cntB_le (l : List Bool) : cntB l ≤ l.length := List.length_filter_le _ _
def AigP.size (g : AigP) (l : List Int) : Int × Int := if g.all l = true then (cntB ((g.reach l).drop (1 + g.ins.length)), 0) else (0, 2)
theorem aig_Size_ok {g : AigP} {l : List Int} {σ : GS} {Post : DV → GS → Prop} (hs : g.Sm) (hl : l.length < 2 ^ 50) (h : Post (.tuple [.int .i64 (g.size l).1, .int .i64 (g.size l).2]) σ) : GCall Try.prog F_aig_Size [g.enc, fints l] σ Post := by
  refine GCall.say (r := .tuple [.int .i64 (g.size l).1, .int .i64 (g.size l).2]) ?_ (by simp) h
  refine gc_aig_Size ?_
  simp [G_aig_Size, genv0, List.replicate]
  refine aig_all_ok hs (by omega) ?_
  by_cases c : g.all l = true
  rotate_left
  · simp [c]
    rw [show g.size l = (0, 2) by unfold AigP.size; rw [if_neg c]]
    simp
  have hm := AigP.all_may c
  have hnn := AigP.may_nodes hm
  have hn : g.nodes = 1 + g.ins.length + g.ands.length := rfl
  have hrl := g.reach_len l
  have hsp : g.size l = ((cntB ((g.reach l).drop (1 + g.ins.length)) : Int), 0) := by unfold AigP.size; rw [if_pos c]
  rw [hsp]
  have ew : IntKind.i64.wrap (1 + (g.ins.length : Int)) = 1 + g.ins.length := by rw [wrap_small] <;> omega
  simp [c, ew]
  refine aig_reached_ok hm hl (fun x hx => AigP.all_has c hx) ?_
  have hsl : gpure (.slice 1 true false false) [fbools (g.reach l), .int .i64 (1 + g.ins.length)] = some (fbools ((g.reach l).drop (1 + g.ins.length))) := by
    have e1 : (1 + (g.ins.length : Int)).toNat = 1 + g.ins.length := by omega
    simp only [gpure, gslice, if_true, gbm, Option.bind_some, gbh, gbl, gbound, List.length_map]
    rw [if_pos ⟨rfl, Nat.le_refl _⟩]
    simp only [Option.bind_some]
    rw [if_pos (by rw [hrl]; omega)]
    simp only [Option.bind_some, e1]
    rw [List.take_of_length_le (by simp)]
    simp [List.map_drop]
  obtain ⟨rs, hrs⟩ : ∃ rs, (g.reach l).drop (1 + g.ins.length) = rs := ⟨_, rfl⟩
  have hrsl : rs.length = g.ands.length := by rw [← hrs]; simp; omega
  rw [hrs] at hsl ⊢
  simp [hsl]
  refine gfor rs.length (fun i e σ' => σ' = σ ++ [.row false [fints g.ins, fands g.ands]] ∧ e = mkEnv 31 [(6, .int .i64 (cntB (rs.take i))), (20, fbools rs), (21, .int .i64 rs.length), (22, .int .i64 i)]) _ ?_ ⟨rfl, rfl⟩ ?_
  · simp [mkEnv, List.replicate, cntB]
  rintro i _ _ hi ⟨rfl, rfl⟩
  simp [mkEnv, List.replicate]
  by_cases hlt : i < rs.length
  · obtain ⟨b, hb⟩ := nth_lt hlt
    have htk := take_get (nth_get hb)
    have es : IntKind.i64.wrap ((i : Int) + 1) = (i : Int) + 1 := by rw [wrap_small] <;> omega
    have hcl := cntB_le (rs.take i)
    rw [List.length_take] at hcl
    have ec : IntKind.i64.wrap ((cntB (rs.take i) : Int) + 1) = ((cntB (rs.take i) + 1 : Nat) : Int) := wrap_suc (by omega)
    cases b with
    | false =>
      simp [hlt, hb, es]
      exact forK_go (mkEnv 31 [(6, .int .i64 (cntB (rs.take (i + 1)))), (20, fbools rs), (21, .int .i64 rs.length), (22, .int .i64 ((i + 1 : Nat) : Int))]) hlt (by simp [mkEnv, List.replicate, htk, cntB_push]) ⟨rfl, rfl⟩
    | true =>
      simp [hlt, hb, es, ec]
      exact forK_go (mkEnv 31 [(6, .int .i64 (cntB (rs.take (i + 1)))), (20, fbools rs), (21, .int .i64 rs.length), (22, .int .i64 ((i + 1 : Nat) : Int))]) hlt (by simp [mkEnv, List.replicate, htk, cntB_push]) ⟨rfl, rfl⟩
  · have : i = rs.length := by omega
    subst this
    simp
/-- Could a maker have made these Ands, behind others? -/
def redOk : List (Int × Int) → List (Int × Int) → Bool
  | _, [] => true
  | pre, p :: l => !(decide (p.1 < 2) || decide (p.2 ≤ p.1) || decide (notE p.1 = p.2) || pre.contains p) && redOk (pre ++ [p]) l
def AigP.reduced (g : AigP) : Bool := redOk [] g.ands && g.may
theorem ref_Reduced_ok {g : AigP} {σ : GS} {Post : DV → GS → Prop} (hs : g.Sm) (h : Post (.bool g.reduced) σ) : GCall Try.prog F_skolemref06_Reduced [g.enc] σ Post := by
  refine GCall.say (r := .bool g.reduced) ?_ rfl h
  have h2 := hs.ands
  refine gc_skolemref06_Reduced ?_
  simp [G_skolemref06_Reduced, genv0, List.replicate]
  refine ref_May_ok hs ?_
  by_cases hm : g.may = true
  rotate_left
  · simp [hm]
    unfold AigP.reduced; rw [Bool.eq_false_iff.2 hm]; simp
  have hnn := AigP.may_nodes hm
  have hn : g.nodes = 1 + g.ins.length + g.ands.length := rfl
  have hok : ∀ {i : Nat} {p : Int × Int}, g.ands[i]? = some p → _ := fun {i p} h => andsOk_get (AigP.may_ands hm) (i := i) (p := p) h
  have hands : andsOk (2 * (1 + g.ins.length)) g.ands = true := by have := AigP.may_ands hm; rwa [show (2 * ((1 + g.ins.length : Nat) : Int)) = 2 * (1 + (g.ins.length : Int)) by omega] at this
  simp [hm]
  refine gfor g.ands.length (fun i e σ' => σ' = σ ++ [.row false [fints g.ins, fands g.ands]] ∧ redOk [] g.ands = redOk (g.ands.take i) (g.ands.drop i) ∧ e = mkEnv 49 [(1, .ptr σ.length 0), (3, .int .i64 i)]) _ ?_ ⟨rfl, by simp, rfl⟩ ?_
  · simp [mkEnv, List.replicate]
  rintro i _ _ hi ⟨rfl, hI, rfl⟩
  simp [mkEnv, List.replicate]
  by_cases hlt : i < g.ands.length
  · obtain ⟨p, hp⟩ := nth_lt hlt
    have hp' := nth_get hp
    obtain ⟨p1, p2, p3, p4⟩ := hok hp'
    rw [drop_get hp'] at hI
    have es : IntKind.i64.wrap ((i : Int) + 1) = (i : Int) + 1 := by rw [wrap_small] <;> omega
    simp only [redOk] at hI
    obtain ⟨pre, hpre⟩ : ∃ pre, g.ands.take i = pre := ⟨_, rfl⟩
    rw [hpre] at hI
    have bad : (decide (p.1 < 2) || decide (p.2 ≤ p.1) || decide (notE p.1 = p.2) || pre.contains p) = true → g.reduced = false := fun hb => by
      unfold AigP.reduced; rw [hI, hb]; rfl
    simp [hlt, hp]
    by_cases c1 : p.1 < 2
    · simp [c1]
      first | exact (bad (by simp [c1])).symm | exact bad (by simp [c1])
    simp [c1]
    by_cases c2 : p.2 ≤ p.1
    · simp [c2]
      first | exact (bad (by simp [c2])).symm | exact bad (by simp [c2])
    simp [c2]
    refine ref_Not_ok p1 (by omega) ?_
    by_cases c3 : notE p.1 = p.2
    · simp [c3]
      first | exact (bad (by simp [c3])).symm | exact bad (by simp [c3])
    simp [c3]
    refine ref_find_ok hs hands p2 (by omega) ?_
    have hpe : ((p.1, p.2) : Int × Int) = p := rfl
    rw [hpe]
    by_cases c4 : pre.contains p = true
    · have hne : ¬ idxF (fun q => decide (q = p)) 0 g.ands = (i : Int) := fun e => by
        have hmem := List.contains_iff_mem.1 c4
        rw [← hpre] at hmem
        obtain ⟨j, hj⟩ := List.mem_iff_getElem?.1 hmem
        rw [List.getElem?_take] at hj
        split at hj
        · rename_i hji
          rcases idxF_cases (fun q => decide (q = p)) g.ands 0 with ⟨h1, _⟩ | ⟨k, x, h1, h3, h4, h5⟩
          · omega
          · rw [h1] at e
            have hk : k = i := by omega
            have := h5 j p (by omega) hj
            simp at this
        · cases hj
      simp [hne]
      first | exact (bad (by rw [c4]; simp)).symm | exact bad (by rw [c4]; simp)
    · have heq : idxF (fun q => decide (q = p)) 0 g.ands = (i : Int) := by
        rcases idxF_cases (fun q => decide (q = p)) g.ands 0 with ⟨h1, h3⟩ | ⟨k, x, h1, h3, h4, h5⟩
        · have := h3 p (List.mem_of_getElem? hp'); simp at this
        · simp at h4; subst h4
          rcases Nat.lt_trichotomy k i with hk | hk | hk
          · exfalso
            refine c4 (List.contains_iff_mem.2 ?_)
            rw [← hpre]
            exact List.mem_of_getElem? (i := k) (by rw [List.getElem?_take, if_pos hk]; exact h3)
          · rw [h1, hk]; omega
          · have := h5 i x hk hp'; simp at this
      simp [heq, es]
      refine forK_go _ hlt (by simp [mkEnv, List.replicate]) ⟨rfl, ?_, rfl⟩
      rw [hI, take_get hp', hpre]
      have : (decide (p.1 < 2) || decide (p.2 ≤ p.1) || decide (notE p.1 = p.2) || pre.contains p) = false := by
        rw [Bool.eq_false_iff.2 c4]; simp [c1, c2, c3]
      rw [this]; rfl
  · have : i = g.ands.length := by omega
    subst this
    rw [List.drop_length] at hI
    simp
    unfold AigP.reduced
    rw [hI, hm]; rfl
end Go.Gh
namespace Go.Gh
open Go.Proofs
end Go.Gh
namespace Go.Gh
open Go.RowKit Go.Proofs
set_option linter.unusedVariables false
set_option linter.unusedSimpArgs false
set_option maxRecDepth 100000
def Mk.disj (m : Mk) (a b : Int) : Int × Mk := (notE (m.conj (notE a) (notE b)).1, (m.conj (notE a) (notE b)).2)
/-- What an operation on a maker leaves: at most k Ands more. -/
structure Gd (m : Mk) (r : Int × Mk) (k : Nat) : Prop where
  ok : r.2.ok
  lo : m.n ≤ r.2.n
  hi : r.2.n ≤ m.n + k
  ins : r.2.ins = m.ins
  e0 : 0 ≤ r.1
  e1 : r.1 < 2 * r.2.n
  full : m.n + k ≤ 200000 → r.2.full = m.full
theorem Gd.conj {m : Mk} {r : Int × Mk} {k : Nat} (h : Gd m r k) {a b : Int} (a0 : 0 ≤ a) (a1 : a < 2 * r.2.n) (b0 : 0 ≤ b) (b1 : b < 2 * r.2.n) : Gd m (r.2.conj a b) (k + 1) := by
  have h1 := Mk.conj_n r.2 a b
  have h2 := Mk.conj_range a0 a1 b0 b1
  have := h.lo; have := h.hi
  exact ⟨Mk.conj_ok a0 a1 b0 b1 h.ok, by omega, by omega, by rw [Mk.conj_ins, h.ins], h2.1, h2.2, fun hh => by rw [Mk.conj_full _ _ _ (by omega)]; exact h.full (by omega)⟩
theorem Gd.not {m : Mk} {r : Int × Mk} {k : Nat} (h : Gd m r k) : Gd m (notE r.1, r.2) k :=
  ⟨h.ok, h.lo, h.hi, h.ins, (notE_range h.e0 h.e1).1, (notE_range h.e0 h.e1).2, h.full⟩
theorem Gd.self {m : Mk} (h : m.ok) {e : Int} (e0 : 0 ≤ e) (e1 : e < 2 * m.n) : Gd m (e, m) 0 := ⟨h, Nat.le_refl _, Nat.le_refl _, rfl, e0, e1, fun _ => rfl⟩
theorem Gd.grow {m : Mk} {r : Int × Mk} {k j : Nat} (h : Gd m r k) (hj : k ≤ j) : Gd m r j := ⟨h.ok, h.lo, by have := h.hi; omega, h.ins, h.e0, h.e1, fun hh => h.full (by omega)⟩
theorem Gd.disj {m : Mk} {r : Int × Mk} {k : Nat} (h : Gd m r k) {a b : Int} (a0 : 0 ≤ a) (a1 : a < 2 * r.2.n) (b0 : 0 ≤ b) (b1 : b < 2 * r.2.n) : Gd m (r.2.disj a b) (k + 1) :=
  (h.conj (notE_range a0 a1).1 (notE_range a0 a1).2 (notE_range b0 b1).1 (notE_range b0 b1).2).not
end Go.Gh
namespace Go.Gh
open Go.RowKit Go.Sort Go.Shelf Go.Proofs
set_option linter.unusedVariables false
set_option linter.unusedSimpArgs false
end Go.Gh
namespace Go.Gh
open Go.RowKit Go.Proofs
set_option linter.unusedVariables false
set_option linter.unusedSimpArgs false
set_option maxRecDepth 100000
@[simp] theorem gp_cap_nils : gpure .cap [.nils] = some (.int .i64 0) := rfl
def NoCap : DV → Prop
  | .slice _ _ _ _ (some _) => False
  | _ => True
end Go.Gh
namespace Go.Gh
open Go.RowKit Go.Proofs
set_option linter.unusedVariables false
set_option linter.unusedSimpArgs false
set_option maxRecDepth 100000
theorem slice_lo {id off L k : Nat} (h : k ≤ L) : gpure (.slice 1 true false false) [.slice id off L 1 none, .int .i64 (k : Int)] = some (.slice id (off + k) (L - k) 1 none) := by
  simp [gpure, gslice, gbm, gbh, gbl, gbound, h]
theorem slice_hi {id off L k : Nat} (h : k ≤ L) : gpure (.slice 1 false true false) [.slice id off L 1 none, .int .i64 (k : Int)] = some (.slice id off k 1 none) := by
  simp [gpure, gslice, gbm, gbh, gbl, gbound, h]
end Go.Gh
namespace Go.Gh
open Go.RowKit Go.Proofs
set_option linter.unusedVariables false
set_option linter.unusedSimpArgs false
set_option maxRecDepth 100000
@[simp] theorem gres_c4 (env : Env) (σ : GS) (t u x z : Tmp) (n : Nat) (b : Bool) : gresL env σ [.cell t n b, .tmp u, .tmp x, .tmp z] = (gload (.load n b) [env[t]?.getD (.tuple [])] σ).map fun v => [v, env[u]?.getD (.tuple []), env[x]?.getD (.tuple []), env[z]?.getD (.tuple [])] := by
  simp only [gresL, gres1, garg]
  cases gload (.load n b) [env[t]?.getD (.tuple [])] σ <;> rfl
abbrev JOut.enc (o : JOut) : DV := .tuple [o.g.enc, fints o.u, fints o.v, .int .i64 o.e]
end Go.Gh
namespace Go.Gh
open Go.RowKit Go.Proofs
set_option linter.unusedVariables false
set_option linter.unusedSimpArgs false
set_option maxRecDepth 100000
@[simp] theorem nth_zero {α : Type} (x : α) (l : List α) : nth (x :: l) 0 = some x := rfl
end Go.Gh
namespace Go.Gh
open Go.RowKit Go.Proofs
set_option linter.unusedVariables false
set_option linter.unusedSimpArgs false
set_option maxRecDepth 100000
end Go.Gh
namespace Go.Gh
open Go.RowKit Go.Proofs
set_option linter.unusedVariables false
set_option linter.unusedSimpArgs false
set_option maxRecDepth 100000
theorem edgeOf_idx {l : List Int} {v : Int} (h : v ∈ l) : ∃ i : Nat, l[i]? = some v ∧ edgeOf l v = 2 * ((i : Int) + 1) := by
  rcases idxF_cases (fun x => decide (x = v)) l 0 with ⟨h1, h2⟩ | ⟨i, x, h1, h2, h3, _⟩
  · have := h2 v h; simp at this
  · refine ⟨i, ?_, ?_⟩
    · simp at h3; rw [← h3]; exact h2
    · unfold edgeOf; rw [h1, if_pos (by omega)]; simp
theorem outOf_snoc {l : List (Int × Int)} {o : Int × Int} (h : o.1 ∉ l.map (·.1)) (v : Int) : outOf (l ++ [o]) v = if v = o.1 then some o.2 else outOf l v := by
  unfold outOf
  rw [List.find?_append]
  by_cases hv : v = o.1
  · subst hv
    have : l.find? (fun p => decide (p.1 = o.1)) = none := by
      rw [List.find?_eq_none]
      intro p hp hh
      simp at hh
      exact h (List.mem_map.2 ⟨p, hp, hh⟩)
    rw [if_pos rfl, this]
    simp
  · rw [if_neg hv]
    have : ([o] : List (Int × Int)).find? (fun p => decide (p.1 = v)) = none := by
      simp; exact fun e => hv e.symm
    rw [this]; simp
end Go.Gh
namespace Go.Gh
set_option linter.unusedVariables false
set_option linter.unusedSimpArgs false
theorem redOk_snoc (p : Int × Int) : ∀ (l pre : List (Int × Int)), redOk pre (l ++ [p]) = (redOk pre l && !(decide (p.1 < 2) || decide (p.2 ≤ p.1) || decide (notE p.1 = p.2) || (pre ++ l).contains p))
  | [], pre => by simp [redOk]
  | q :: l, pre => by
    simp only [List.cons_append, redOk, redOk_snoc p l (pre ++ [q]), List.append_assoc, List.nil_append, Bool.and_assoc]
/-- A maker's graph is one that a maker could have made. -/
structure Mk.Good (m : Mk) : Prop where
  ins : insOk 0 m.ins = true
  ok : m.ok
  red : redOk [] m.ands = true
theorem Mk.conj_red {m : Mk} {a b : Int} (a0 : 0 ≤ a) (b0 : 0 ≤ b) (h : redOk [] m.ands = true) : redOk [] (m.conj a b).2.ands = true := by
  unfold Mk.conj
  split; · exact h
  rename_i h1
  split; · exact h
  rename_i h2
  split; · exact h
  rename_i h3
  split
  · exact h
  · show redOk [] (m.ands ++ [(min a b, max a b)]) = true
    rw [redOk_snoc, h]
    have e1 : ¬ (min a b < 2) := by omega
    have e2 : ¬ (max a b ≤ min a b) := by omega
    have e3 : ¬ (notE (min a b) = max a b) := fun e => h1 (.inr e)
    have e4 : m.ands.contains (min a b, max a b) = false := by
      rw [Bool.eq_false_iff]
      intro hc
      rcases idxF_cases (fun p => decide (p = (min a b, max a b))) m.ands 0 with ⟨_, k2⟩ | ⟨i, p, k1, _⟩
      · have := k2 _ (List.contains_iff_mem.1 hc); simp at this
      · unfold Mk.at at h3; omega
    have e5 : (min a b, max a b) ∉ m.ands := fun hh => by rw [List.contains_iff_mem.2 hh] at e4; cases e4
    simp [e1, e2, e3, e5]
theorem cpFold_red : ∀ (xs : List ((Int × Int) × Bool)) {s : List Int × Mk}, CpOk s → redOk [] s.2.ands = true → redOk [] (xs.foldl cpStep s).2.ands = true
  | [], _, _, h => h
  | x :: xs, s, hc, h => by
    rw [List.foldl_cons]
    refine cpFold_red xs (cpStep_ok hc x) ?_
    have hpos : 0 < (s.2.n : Int) := by unfold Mk.n; omega
    unfold cpStep
    split
    · exact Mk.conj_red (imgE_range hpos hc.to _).1 (imgE_range hpos hc.to _).1 h
    · exact h
theorem Mk.Good.graph {m : Mk} (h : m.Good) (hn : m.n ≤ 200000) : m.graph.reduced = true ∧ m.graph.may = true := by
  have hmay : m.graph.may = true := by
    unfold AigP.may
    have h1 := h.ins
    have h2 := h.ok
    have h3 : m.graph.nodes ≤ 200000 := hn
    unfold Mk.ok at h2
    simp only [Mk.graph] at h3 ⊢
    rw [h1, h2]; simp [h3]
  exact ⟨by unfold AigP.reduced; rw [hmay, show m.graph.ands = m.ands from rfl, h.red]; rfl, hmay⟩
theorem Mk.Good.copy {m : Mk} {g : AigP} {r : List Bool} {T : List Int} (h : m.Good) (hT : ∀ t ∈ T, 0 ≤ t ∧ t < 2 * m.n) : (m.copy g r T).2.Good := by
  have hc : CpOk (T, m) := ⟨hT, h.ok⟩
  refine ⟨?_, (cpFold_ok _ hc).ok, cpFold_red _ hc h.red⟩
  unfold Mk.copy; rw [cpFold_ins]; exact h.ins
/-- The value of an input's edge. -/
theorem edgeOf_val {m : Mk} {on : Int → Bool} {v : Int} (hv : v ∈ m.ins) : 0 ≤ edgeOf m.ins v ∧ edgeOf m.ins v < 2 * m.n ∧ edgeV (m.vs on) (edgeOf m.ins v) = on v := by
  obtain ⟨i, h1, h2⟩ := edgeOf_idx hv
  have hi := (List.getElem?_eq_some_iff.1 h1).1
  refine ⟨by omega, by rw [h2]; unfold Mk.n; omega, ?_⟩
  unfold edgeV Mk.vs
  rw [h2, show (2 * ((i : Int) + 1) / 2).toNat = i + 1 by omega, vals0_in h1]
  have : ¬ ((2 * ((i : Int) + 1)) % 2 = 1) := by omega
  simp [this]
theorem vs_pre {vs ws : List Bool} {e : Int} {n : Nat} (hl : vs.length = n) (h0 : 0 ≤ e) (h1 : e < 2 * n) : edgeV (vs ++ ws) e = edgeV vs e := edgeV_appP (by omega)
/-- What the edges of a copy are worth. -/
structure Means (g : AigP) (on : Int → Bool) (l : List Int) (c : AigP) (onc : Int → Bool) (u : List Int) : Prop where
  len : u.length = l.length
  red : c.reduced = true
  may : c.may = true
  val : ∀ (k : Nat) (e f : Int), l[k]? = some e → u[k]? = some f → 0 ≤ f ∧ f < 2 * c.nodes ∧ edgeV (c.vals onc) f = edgeV (g.vals on) e
theorem means_of {m : Mk} {g : AigP} {l im : List Int} {on onM : Int → Bool} {M : Mk} {ws : List Bool} (hall : g.all l = true) (hgood : m.Good) (hn : m.n + g.ands.length ≤ 200000) (him : im.length = g.ins.length)
    (hv : ∀ (i : Nat) (v t : Int), g.ins[i]? = some v → im[i]? = some t → 0 ≤ t ∧ t < 2 * m.n ∧ edgeV (m.vs onM) t = on v)
    (hM : M.Good) (hMn : M.n ≤ 200000) (hle : (m.copy g (g.reach l) (0 :: im)).2.n ≤ M.n) (hpre : M.vs onM = (m.copy g (g.reach l) (0 :: im)).2.vs onM ++ ws) :
    Means g on l M.graph onM (l.map (imgE (m.copy g (g.reach l) (0 :: im)).1)) := by
  have hmay := AigP.all_may hall
  have hs := Mk.copy_sem (l := l) (onM := onM) (on := on) hmay hgood.ok hn him hv
  obtain ⟨c, hc⟩ : ∃ c, m.copy g (g.reach l) (0 :: im) = c := ⟨_, rfl⟩
  have hcl : c.1.length = g.nodes := by rw [← hc]; exact Mk.copy_len (by simp [him]; omega)
  rw [hc] at hs hle hpre ⊢
  obtain ⟨g1, g2⟩ := hM.graph hMn
  refine ⟨by simp, g1, g2, fun k e f he hf => ?_⟩
  rw [List.getElem?_map, he] at hf
  simp at hf; subst hf
  have hel := List.mem_of_getElem? he
  obtain ⟨e0, e1⟩ := AigP.all_has hall hel
  have hpos : 0 < (c.2.n : Int) := by unfold Mk.n; omega
  have hr := imgE_range hpos hs.cp.to e
  refine ⟨hr.1, by show _ < 2 * ((M.n : Nat) : Int); omega, ?_⟩
  show edgeV (M.vs onM) _ = _
  rw [hpre, vs_pre (Mk.vs_len _ _) hr.1 hr.2]
  exact hs.img e0 (by omega) (AigP.reach_edge hel e0 e1)
theorem good_empty {ins : List Int} (h : insOk 0 ins = true) : (Mk.mk ins [] false).Good := ⟨h, by simp [Mk.ok, andsOk], rfl⟩
theorem cone_means {g : AigP} {l : List Int} (on : Int → Bool) (hall : g.all l = true) (hn : g.nodes ≤ 100000) : (g.cone l).e = 0 ∧ Means g on l (g.cone l).g on (g.cone l).l := by
  have hmay := AigP.all_may hall
  have hins := AigP.may_ins hmay
  have hgn : g.nodes = 1 + g.ins.length + g.ands.length := rfl
  have hms : (Mk.mk g.ins [] false).n = 1 + g.ins.length := by simp [Mk.n]
  unfold AigP.cone
  rw [if_pos hall]
  refine ⟨rfl, ?_⟩
  have hv : ∀ (i : Nat) (v t : Int), g.ins[i]? = some v → (g.ins.map (edgeOf g.ins))[i]? = some t → 0 ≤ t ∧ t < 2 * ((Mk.mk g.ins [] false).n : Int) ∧ edgeV ((Mk.mk g.ins [] false).vs on) t = on v := fun i v t hi ht => by
    rw [List.getElem?_map, hi] at ht
    simp at ht; subst ht
    exact edgeOf_val (m := Mk.mk g.ins [] false) (List.mem_of_getElem? hi)
  have hg := (good_empty hins).copy (g := g) (r := g.reach l) (T := 0 :: g.ins.map (edgeOf g.ins)) (fun t ht => by
    rcases List.mem_cons.1 ht with rfl | ht
    · rw [hms]; omega
    · obtain ⟨v, hv, rfl⟩ := List.mem_map.1 ht
      have := edgeOf_lt g.ins v; have := edgeOf_pos hv; rw [hms]; omega)
  have hcn := (Mk.copy_n (m := Mk.mk g.ins [] false) (g := g) (r := g.reach l) (T := 0 :: g.ins.map (edgeOf g.ins))).2
  rw [hms] at hcn
  exact means_of (ws := []) hall (good_empty hins) (by rw [hms]; omega) (by simp) hv hg (by omega) (Nat.le_refl _) (by simp)
end Go.Gh
namespace Go.Gh
set_option linter.unusedVariables false
set_option linter.unusedSimpArgs false
/-- Images of inputs, in range and with values. -/
structure ImOk (g : AigP) (m : Mk) (im : List Int) (on onM : Int → Bool) : Prop where
  len : im.length = g.ins.length
  val : ∀ (i : Nat) (v t : Int), g.ins[i]? = some v → im[i]? = some t → 0 ≤ t ∧ t < 2 * m.n ∧ edgeV (m.vs onM) t = on v
theorem ImOk.range {g : AigP} {m : Mk} {im : List Int} {on onM : Int → Bool} (h : ImOk g m im on onM) : ∀ t ∈ 0 :: im, 0 ≤ t ∧ t < 2 * m.n := fun t ht => by
  have hpos : 0 < (m.n : Int) := by unfold Mk.n; omega
  rcases List.mem_cons.1 ht with rfl | ht
  · omega
  · obtain ⟨i, hi⟩ := List.mem_iff_getElem?.1 ht
    have hl := (List.getElem?_eq_some_iff.1 hi).1
    have hg : g.ins[i]? = some (g.ins[i]'(by rw [← h.len]; exact hl)) := List.getElem?_eq_getElem _
    have := h.val i _ t hg hi
    exact ⟨this.1, this.2.1⟩
def onBy (g : AigP) (by_ : List (Int × Int)) (on : Int → Bool) (v : Int) : Bool := match outOf by_ v with | some e => edgeV (g.vals on) e | none => on v
/-- A list of literals, brought into order, the first one of each variable. -/
def insM (x : Int) : List Int → List Int
  | [] => [x]
  | y :: l => if gabs y < gabs x then y :: insM x l else if gabs y = gabs x then y :: l else x :: y :: l
def mergedI (l : List Int) : List Int := l.foldl (fun out x => insM x out) []
theorem normR_gt : ∀ {l : List Int} {s : Int}, normR s l = true → ∀ x ∈ l, s < gabs x
  | y :: l, s, h, x, hx => by
    simp only [normR, Bool.and_eq_true, decide_eq_true_eq] at h
    rcases List.mem_cons.1 hx with rfl | hx
    · exact h.1.2
    · have := normR_gt h.2 x hx; omega
theorem insM_norm {x : Int} (hx : isVar (gabs x) = true) : ∀ {l : List Int} {s : Int}, normR s l = true → s < gabs x → normR s (insM x l) = true
  | [], s, _, h => by simp [insM, normR, hx, h]
  | y :: l, s, hl, h => by
    simp only [normR, Bool.and_eq_true, decide_eq_true_eq] at hl
    unfold insM
    split
    · simp only [normR, Bool.and_eq_true, decide_eq_true_eq]
      exact ⟨hl.1, insM_norm hx hl.2 (by assumption)⟩
    · split
      · simp only [normR, Bool.and_eq_true, decide_eq_true_eq]; exact hl
      · simp only [normR, Bool.and_eq_true, decide_eq_true_eq]
        exact ⟨⟨hx, h⟩, ⟨⟨hl.1.1, by omega⟩, hl.2⟩⟩
theorem mem_insM {x : Int} : ∀ {l : List Int} {s : Int}, normR s l = true → ∀ z, z ∈ insM x l ↔ z ∈ l ∨ (z = x ∧ ∀ y ∈ l, gabs y ≠ gabs x)
  | [], s, _, z => by simp [insM]
  | y :: l, s, hl, z => by
    simp only [normR, Bool.and_eq_true, decide_eq_true_eq] at hl
    unfold insM
    split
    · rename_i h1
      rw [List.mem_cons, mem_insM hl.2 z, List.mem_cons]
      constructor
      · rintro (h | h | ⟨h, k⟩)
        · exact .inl (.inl h)
        · exact .inl (.inr h)
        · refine .inr ⟨h, fun w hw => ?_⟩
          rcases List.mem_cons.1 hw with rfl | hw
          · omega
          · exact k w hw
      · rintro ((h | h) | ⟨h, k⟩)
        · exact .inl h
        · exact .inr (.inl h)
        · exact .inr (.inr ⟨h, fun w hw => k w (List.mem_cons_of_mem _ hw)⟩)
    · split
      · rename_i h1 h2
        constructor
        · exact fun h => .inl h
        · rintro (h | ⟨_, k⟩)
          · exact h
          · exact absurd h2 (k y (by simp))
      · rename_i h1 h2
        rw [List.mem_cons]
        constructor
        · rintro (h | h)
          · refine .inr ⟨h, fun w hw => ?_⟩
            rcases List.mem_cons.1 hw with rfl | hw
            · exact h2
            · have := normR_gt hl.2 w hw; omega
          · exact .inl h
        · rintro (h | ⟨h, _⟩)
          · exact .inr h
          · exact .inl h
/-- The first literal of a variable. -/
def fstOf (l : List Int) (v : Int) : Option Int := l.find? fun x => decide (gabs x = v)
theorem merged_spec : ∀ (l out pre : List Int), (∀ x ∈ l, isVar (gabs x) = true) → normR 0 out = true → (∀ z, z ∈ out ↔ fstOf pre (gabs z) = some z) →
    normR 0 (l.foldl (fun out x => insM x out) out) = true ∧ ∀ z, z ∈ l.foldl (fun out x => insM x out) out ↔ fstOf (pre ++ l) (gabs z) = some z
  | [], out, pre, _, h1, h2 => by simpa using ⟨h1, h2⟩
  | x :: l, out, pre, hx, h1, h2 => by
    rw [List.foldl_cons, show pre ++ x :: l = (pre ++ [x]) ++ l by simp]
    have hxv := hx x (by simp)
    have hpos : 0 < gabs x := by unfold isVar at hxv; simp only [Bool.and_eq_true, decide_eq_true_eq] at hxv; omega
    refine merged_spec l (insM x out) (pre ++ [x]) (fun y hy => hx y (List.mem_cons_of_mem _ hy)) (insM_norm hxv h1 hpos) fun z => ?_
    rw [mem_insM h1 z, h2 z]
    have hfa : ∀ v, fstOf (pre ++ [x]) v = (fstOf pre v).or (if gabs x = v then some x else none) := fun v => by
      unfold fstOf
      rw [List.find?_append]
      congr 1
      simp only [List.find?_cons, List.find?_nil]
      by_cases c : gabs x = v <;> simp [c]
    have hno : (∀ y ∈ out, gabs y ≠ gabs x) ↔ fstOf pre (gabs x) = none := by
      constructor
      · intro h
        cases hf : fstOf pre (gabs x) with
        | none => rfl
        | some y =>
          have hy : gabs y = gabs x := by
            have := List.find?_some hf; simpa using this
          have : y ∈ out := (h2 y).2 (by rw [hy]; exact hf)
          exact absurd hy (h y this)
      · intro h y hy e
        have := (h2 y).1 hy
        rw [e, h] at this; cases this
    rw [hno, hfa]
    by_cases c : gabs x = gabs z
    · rw [if_pos c, c]
      cases fstOf pre (gabs z) with
      | none => simp [eq_comm]
      | some y => simp
    · rw [if_neg c]
      have : z ≠ x := fun e => c (by rw [e])
      cases fstOf pre (gabs z) <;> simp [this]
theorem merged_mem {l : List Int} (h : ∀ x ∈ l, isVar (gabs x) = true) (v : Int) (hv : 1 ≤ v) : (mergedI l).contains v = decide (fstOf l v = some v) := by
  have := (merged_spec l [] [] h rfl (fun z => by simp [fstOf])).2 v
  have hg : gabs v = v := by unfold gabs; rw [if_neg (by omega)]
  rw [hg, List.nil_append] at this
  unfold mergedI
  rw [Bool.eq_iff_iff, List.contains_iff_mem, this]; simp
end Go.Gh
namespace Go.Gh
set_option linter.unusedVariables false
set_option linter.unusedSimpArgs false
/-- What edges of a graph reach. -/
inductive Rch (g : AigP) (l : List Int) : Nat → Prop
  | edge {e : Int} (h : e ∈ l) : Rch g l (e / 2).toNat
  | left {i : Nat} {p : Int × Int} (h : Rch g l (1 + g.ins.length + i)) (hp : g.ands[i]? = some p) : Rch g l (p.1 / 2).toNat
  | right {i : Nat} {p : Int × Int} (h : Rch g l (1 + g.ins.length + i)) (hp : g.ands[i]? = some p) : Rch g l (p.2 / 2).toNat
theorem set_inv {m : List Bool} {a j : Nat} (h : (m.set a true).getD j false = true) : m.getD j false = true ∨ a = j := by
  by_cases c : a = j
  · exact .inr c
  · rw [List.getD_eq_getElem?_getD, List.getElem?_set_ne c, ← List.getD_eq_getElem?_getD] at h
    exact .inl h
theorem marks_inv : ∀ {l : List Int} {m : List Bool} {j : Nat}, (marks m l).getD j false = true → m.getD j false = true ∨ ∃ e ∈ l, (e / 2).toNat = j
  | [], m, j, h => .inl h
  | x :: l, m, j, h => by
    unfold marks at h; rw [List.foldl_cons] at h
    rcases marks_inv (l := l) h with h | ⟨e, he, hj⟩
    · rcases set_inv h with h | h
      · exact .inl h
      · exact .inr ⟨x, by simp, h⟩
    · exact .inr ⟨e, List.mem_cons_of_mem _ he, hj⟩
theorem rcDown_inv {base : Nat} {ands : List (Int × Int)} {P : Nat → Prop} (hP : ∀ i p, ands[i]? = some p → P (base + i) → P (p.1 / 2).toNat ∧ P (p.2 / 2).toNat) : ∀ {k : Nat} {m : List Bool}, k ≤ ands.length → (∀ j, m.getD j false = true → P j) → ∀ j, (rcDown base ands k m).getD j false = true → P j
  | 0, m, _, h, j, hj => h j hj
  | k + 1, m, hk, h, j, hj => by
    rw [rcDown] at hj
    refine rcDown_inv hP (k := k) (by omega) (fun q hq => ?_) j hj
    unfold rcStep at hq
    split at hq
    · rename_i hb
      obtain ⟨p, hp⟩ : ∃ p, ands[k]? = some p := ⟨_, List.getElem?_eq_getElem (by omega)⟩
      have hg : ands.getD k (0, 0) = p := by rw [List.getD_eq_getElem?_getD, hp]; rfl
      rw [hg] at hq
      obtain ⟨p1, p2⟩ := hP k p hp (h _ hb)
      rcases set_inv hq with hq | hq
      · rcases set_inv hq with hq | hq
        · exact h q hq
        · rw [← hq]; exact p1
      · rw [← hq]; exact p2
    · exact h q hq
theorem reach_iff {g : AigP} {l : List Int} (hall : g.all l = true) (j : Nat) : (g.reach l).getD j false = true ↔ Rch g l j := by
  have hmay := AigP.all_may hall
  constructor
  · intro h
    unfold AigP.reach at h
    refine rcDown_inv (P := Rch g l) (fun i p hp hr => ⟨.left hr hp, .right hr hp⟩) (Nat.le_refl _) (fun q hq => ?_) j h
    rcases marks_inv hq with h | ⟨e, he, rfl⟩
    · rw [List.getD_eq_getElem?_getD, List.getElem?_replicate] at h
      split at h <;> simp at h
    · exact .edge he
  · intro h
    induction h with
    | edge he =>
      obtain ⟨e0, e1⟩ := AigP.all_has hall he
      exact AigP.reach_edge he e0 e1
    | left _ hp ih => exact (AigP.reach_child hmay hp ih).1
    | right _ hp ih => exact (AigP.reach_child hmay hp ih).2
/-- The numbers of nodes when what is not reached is left out. -/
def nuR (base : Nat) (b : List Bool) (j : Nat) : Nat := if j < base then j else base + (b.take (j - base)).count true
def renR (base : Nat) (b : List Bool) (e : Int) : Int := 2 * (nuR base b (e / 2).toNat : Nat) + e % 2
def keepR (base : Nat) (b : List Bool) (xs : List ((Int × Int) × Bool)) : List (Int × Int) := (xs.filter fun x => x.2).map fun x => (renR base b x.1.1, renR base b x.1.2)
theorem count_take_succ {b : List Bool} {i : Nat} (h : b[i]? = some true) : (b.take (i + 1)).count true = (b.take i).count true + 1 := by
  rw [List.take_add_one, h]; simp
theorem count_take_mono {b : List Bool} {i j : Nat} (h : i ≤ j) : (b.take i).count true ≤ (b.take j).count true := by
  have : b.take i = (b.take j).take i := by rw [List.take_take, Nat.min_eq_left h]
  rw [this]
  exact (List.take_sublist _ _).count_le _
theorem nuR_mono {base : Nat} {b : List Bool} {j k : Nat} (h : j < k) (hj : base ≤ j → b[j - base]? = some true) : nuR base b j < nuR base b k := by
  unfold nuR
  by_cases c1 : j < base
  · rw [if_pos c1]
    by_cases c2 : k < base
    · rw [if_pos c2]; exact h
    · rw [if_neg c2]; omega
  · rw [if_neg c1, if_neg (by omega)]
    have h1 := count_take_succ (hj (by omega))
    have h2 := count_take_mono (b := b) (i := j - base + 1) (j := k - base) (by omega)
    omega
theorem renR_node {base : Nat} {b : List Bool} {e : Int} (h : 0 ≤ e) : (renR base b e / 2).toNat = nuR base b (e / 2).toNat ∧ renR base b e % 2 = e % 2 ∧ 0 ≤ renR base b e := by unfold renR; omega
theorem redOk_get : ∀ {l pre : List (Int × Int)} {i : Nat} {p : Int × Int}, redOk pre l = true → l[i]? = some p → 2 ≤ p.1 ∧ p.1 < p.2 ∧ notE p.1 ≠ p.2 ∧ p ∉ pre ++ l.take i
  | [], pre, i, p, _, h => by simp at h
  | q :: l, pre, i, p, hr, h => by
    simp only [redOk, Bool.and_eq_true, Bool.not_eq_true', Bool.or_eq_false_iff, decide_eq_false_iff_not] at hr
    obtain ⟨⟨⟨⟨r1, r2⟩, r3⟩, r4⟩, r5⟩ := hr
    cases i with
    | zero =>
      simp at h; subst h
      refine ⟨by omega, by omega, r3, fun hm => ?_⟩
      simp at hm
      rw [List.contains_iff_mem.2 hm] at r4; cases r4
    | succ i =>
      obtain ⟨s1, s2, s3, s4⟩ := redOk_get r5 (by simpa using h)
      refine ⟨s1, s2, s3, fun hm => s4 ?_⟩
      simpa using hm
theorem conj_new {m : Mk} {a b : Int} (h2 : 2 ≤ a) (hab : a < b) (hn : notE a ≠ b) (hnew : (a, b) ∉ m.ands) (hsz : m.n < 200000) : m.conj a b = (2 * (m.n : Int), { m with ands := m.ands ++ [(a, b)] }) := by
  have e1 : min a b = a := by omega
  have e2 : max a b = b := by omega
  unfold Mk.conj
  rw [e1, e2]
  have hat : ¬ 0 ≤ m.at a b := fun h => by
    rcases idxF_cases (fun p => decide (p = (a, b))) m.ands 0 with ⟨k1, _⟩ | ⟨i, p, _, k2, k3, _⟩
    · unfold Mk.at at h; omega
    · have : p = (a, b) := by simpa using k3
      exact hnew (this ▸ List.mem_of_getElem? k2)
  rw [if_neg (by rintro (h | h); omega; exact hn h), if_neg (by omega), if_neg hat, if_neg (by omega)]
/-- The cone of a graph that a maker could have made: what is reached, with new numbers. -/
theorem cone_eq {g : AigP} {l : List Int} (hall : g.all l = true) (hred : g.reduced = true) (hn : g.nodes ≤ 100000) :
    g.cone l = ⟨⟨g.ins, keepR (1 + g.ins.length) ((g.reach l).drop (1 + g.ins.length)) (g.ands.zip ((g.reach l).drop (1 + g.ins.length)))⟩, l.map (renR (1 + g.ins.length) ((g.reach l).drop (1 + g.ins.length))), 0⟩ := by
  have hmay := AigP.all_may hall
  have hins := AigP.may_ins hmay
  have hnd := insOk_nodup hins
  have hands := AigP.may_ands hmay
  have hgn : g.nodes = 1 + g.ins.length + g.ands.length := rfl
  have hro : redOk [] g.ands = true := by unfold AigP.reduced at hred; simp only [Bool.and_eq_true] at hred; exact hred.1
  have hrl := g.reach_len l
  obtain ⟨r, hr⟩ : ∃ r, g.reach l = r := ⟨_, rfl⟩
  obtain ⟨base, hb⟩ : ∃ base, 1 + g.ins.length = base := ⟨_, rfl⟩
  have hrc : ∀ (i : Nat) (p : Int × Int), g.ands[i]? = some p → r.getD (base + i) false = true → r.getD (p.1 / 2).toNat false = true ∧ r.getD (p.2 / 2).toNat false = true := fun i p hp h => by
    rw [← hr] at h ⊢; rw [← hb] at h; exact AigP.reach_child hmay hp h
  have hed : ∀ e ∈ l, r.getD (e / 2).toNat false = true := fun e he => by
    obtain ⟨e0, e1⟩ := AigP.all_has hall he
    rw [← hr]; exact AigP.reach_edge he e0 e1
  rw [hr] at hrl ⊢
  have hms : (Mk.mk g.ins [] false).n = base := by simp [Mk.n]; omega
  unfold AigP.cone
  rw [if_pos hall, hr, hb]
  obtain ⟨b, hbb⟩ : ∃ b, r.drop base = b := ⟨_, rfl⟩
  have hbl : b.length = g.ands.length := by rw [← hbb]; simp; omega
  have hrb : ∀ i, r.getD (base + i) false = b.getD i false := fun i => by rw [← hbb, List.getD_eq_getElem?_getD, List.getD_eq_getElem?_getD, List.getElem?_drop]
  rw [hbb]
  have hrt : ∀ j, r.getD j false = true → base ≤ j → b[j - base]? = some true := fun j hj hjb => by
    have := hrb (j - base)
    rw [show base + (j - base) = j by omega, hj] at this
    rw [List.getD_eq_getElem?_getD] at this
    cases hh : b[j - base]? with
    | none => rw [hh] at this; simp at this
    | some x => rw [hh] at this; simp at this; rw [← this]
  have key : ∀ i, i ≤ g.ands.length → ∃ T, ((g.ands.zip b).take i).foldl cpStep (0 :: g.ins.map (edgeOf g.ins), Mk.mk g.ins [] false) = (T, Mk.mk g.ins (keepR base b ((g.ands.zip b).take i)) false) ∧ T.length = base + i ∧ (∀ j, j < base + i → r.getD j false = true → T[j]? = some (2 * (nuR base b j : Nat) : Int)) ∧ (keepR base b ((g.ands.zip b).take i)).length = (b.take i).count true := by
    intro i
    induction i with
    | zero =>
      intro _
      refine ⟨_, rfl, by simp; omega, fun j hj _ => ?_, by simp [keepR]⟩
      cases j with
      | zero =>
        unfold nuR; rw [if_pos (by omega)]; rfl
      | succ j =>
        have hjl : j < g.ins.length := by omega
        obtain ⟨v, hv⟩ : ∃ v, g.ins[j]? = some v := ⟨_, List.getElem?_eq_getElem hjl⟩
        obtain ⟨k, hk1, hk2⟩ := edgeOf_idx (List.mem_of_getElem? hv)
        have : k = j := by
          obtain ⟨a1, a2⟩ := List.getElem?_eq_some_iff.1 hk1
          obtain ⟨b1, b2⟩ := List.getElem?_eq_some_iff.1 hv
          exact (List.getElem_inj hnd (h₀ := a1) (h₁ := b1)).1 (a2.trans b2.symm)
        subst this
        simp only [List.getElem?_cons_succ, List.getElem?_map, hv, Option.map_some, hk2]
        unfold nuR
        rw [if_pos (by omega)]; congr 1
    | succ i ih =>
      intro hi
      obtain ⟨T, h1, h2, h3, h4⟩ := ih (by omega)
      obtain ⟨p, hp⟩ : ∃ p, g.ands[i]? = some p := ⟨_, List.getElem?_eq_getElem (by omega)⟩
      obtain ⟨x, hx⟩ : ∃ x, b[i]? = some x := ⟨_, List.getElem?_eq_getElem (by omega)⟩
      have hz : (g.ands.zip b)[i]? = some (p, x) := List.getElem?_zip_eq_some.2 ⟨hp, hx⟩
      have htk : (g.ands.zip b).take (i + 1) = (g.ands.zip b).take i ++ [(p, x)] := by rw [List.take_add_one, hz]; rfl
      rw [htk, List.foldl_append, h1]
      have hri : r.getD (base + i) false = x := by rw [hrb, List.getD_eq_getElem?_getD, hx]; rfl
      have hct : (b.take (i + 1)).count true = (b.take i).count true + (if x = true then 1 else 0) := by
        rw [List.take_add_one, hx]; cases x <;> simp
      cases x with
      | false =>
        refine ⟨T ++ [0], by simp [cpStep, keepR], by simp [h2]; omega, fun j hj hrj => ?_, by rw [hct]; simp [keepR] at h4 ⊢; exact h4⟩
        have hjn : j ≠ base + i := fun e => by rw [e, hri] at hrj; cases hrj
        rw [List.getElem?_append_left (by omega)]
        exact h3 j (by omega) hrj
      | true =>
        obtain ⟨q1, q2, q3, q4⟩ := redOk_get hro hp
        obtain ⟨c1, c2⟩ := andsOk_node hands i p hp
        rw [hb] at c1 c2
        obtain ⟨d1, d2⟩ := hrc i p hp hri
        have himg : ∀ q : Int, 0 ≤ q → (q / 2).toNat < base + i → r.getD (q / 2).toNat false = true → imgE T q = renR base b q := fun q q0 ql qr => by
          unfold imgE
          rw [List.getD_eq_getElem?_getD, h3 _ ql qr, Option.getD_some]
          unfold turnE renR notE
          split <;> omega
        have hnode : (p.1 / 2).toNat < (p.2 / 2).toNat := by
          unfold notE at q3; omega
        have hlt : nuR base b (p.1 / 2).toNat < nuR base b (p.2 / 2).toNat := nuR_mono hnode (hrt _ d1)
        have hpos : 0 < nuR base b (p.1 / 2).toNat := by
          have := nuR_mono (base := base) (b := b) (j := 0) (k := (p.1 / 2).toNat) (by omega) (fun h => by omega)
          omega
        obtain ⟨n1, n2, n3⟩ := renR_node (base := base) (b := b) (e := p.1) (by omega)
        obtain ⟨m1, m2, m3⟩ := renR_node (base := base) (b := b) (e := p.2) (by omega)
        have hcnt : (b.take i).count true ≤ i := by have := List.count_le_length (a := true) (l := b.take i); simp at this; omega
        have hmn : (Mk.mk g.ins (keepR base b ((g.ands.zip b).take i)) false).n = base + (b.take i).count true := by unfold Mk.n; simp only; rw [h4]; omega
        have hinj : ∀ u v : Int, 0 ≤ u → 0 ≤ v → r.getD (u / 2).toNat false = true → r.getD (v / 2).toNat false = true → renR base b u = renR base b v → u = v := fun u v u0 v0 hu hv he => by
          obtain ⟨x1, x2, _⟩ := renR_node (base := base) (b := b) u0
          obtain ⟨y1, y2, _⟩ := renR_node (base := base) (b := b) v0
          rw [he] at x1 x2
          rcases Nat.lt_trichotomy (u / 2).toNat (v / 2).toNat with h | h | h
          · have := nuR_mono (b := b) h (hrt _ hu); omega
          · omega
          · have := nuR_mono (b := b) h (hrt _ hv); omega
        have hnew : (renR base b p.1, renR base b p.2) ∉ keepR base b ((g.ands.zip b).take i) := fun hm => by
          unfold keepR at hm
          obtain ⟨⟨q, y⟩, hq, he⟩ := List.mem_map.1 hm
          obtain ⟨hq1, hq2⟩ := List.mem_filter.1 hq
          simp only at hq2
          subst hq2
          simp only [Prod.mk.injEq] at he
          obtain ⟨k, hk⟩ := List.mem_iff_getElem?.1 hq1
          have hki : k < i := by have := (List.getElem?_eq_some_iff.1 hk).1; simp at this; omega
          rw [List.getElem?_take, if_pos hki, List.getElem?_zip_eq_some] at hk
          have hk1 : g.ands[k]? = some q := hk.1
          have hk2 : b[k]? = some true := hk.2
          obtain ⟨f1, f2⟩ := hrc k q hk1 (by rw [hrb, List.getD_eq_getElem?_getD, hk2]; rfl)
          have hqr := redOk_get hro hk1
          have e1 := hinj _ _ (by omega) (by omega) f1 d1 he.1
          have e2 := hinj _ _ (by omega) (by omega) f2 d2 he.2
          refine q4 ?_
          rw [List.nil_append, ← Prod.ext e1 e2]
          exact List.mem_iff_getElem?.2 ⟨k, by rw [List.getElem?_take, if_pos hki]; exact hk1⟩
        have hcj := conj_new (m := Mk.mk g.ins (keepR base b ((g.ands.zip b).take i)) false) (a := renR base b p.1) (b := renR base b p.2) (by omega) (by omega) (fun e => by
          have : (notE (renR base b p.1) / 2).toNat = (renR base b p.1 / 2).toNat := by unfold notE; omega
          rw [e, m1, n1] at this; omega) hnew (by rw [hmn]; omega)
        refine ⟨T ++ [2 * ((base + (b.take i).count true : Nat) : Int)], ?_, by simp [h2]; omega, fun j hj hrj => ?_, by rw [hct]; simp [keepR] at h4 ⊢; omega⟩
        · simp only [List.foldl_cons, List.foldl_nil, cpStep, if_true]
          rw [himg _ (by omega) c1 d1, himg _ (by omega) c2 d2, hcj, hmn]
          simp [keepR]
        · by_cases hje : j = base + i
          · subst hje
            rw [List.getElem?_append_right (by omega), h2, Nat.sub_self]
            unfold nuR
            rw [if_neg (by omega), show base + i - base = i by omega]; rfl
          · rw [List.getElem?_append_left (by omega)]
            exact h3 j (by omega) hrj
  obtain ⟨T, h1, h2, h3, h4⟩ := key g.ands.length (Nat.le_refl _)
  have hfull : (g.ands.zip b).take g.ands.length = g.ands.zip b := List.take_of_length_le (by simp; omega)
  rw [hfull] at h1
  have hcopy : (Mk.mk g.ins [] false).copy g r (0 :: g.ins.map (edgeOf g.ins)) = (T, Mk.mk g.ins (keepR base b (g.ands.zip b)) false) := by
    unfold Mk.copy; rw [hb, hbb]; exact h1
  rw [hcopy]
  simp only [Mk.graph]
  congr 1
  refine List.map_congr_left fun e he => ?_
  obtain ⟨e0, e1⟩ := AigP.all_has hall he
  unfold imgE
  rw [List.getD_eq_getElem?_getD, h3 _ (by omega) (hed e he), Option.getD_some]
  unfold turnE renR notE
  split <;> omega
theorem count_all {b : List Bool} (h : ∀ i, i < b.length → b[i]? = some true) (i : Nat) (hi : i ≤ b.length) : (b.take i).count true = i := by
  induction i with
  | zero => simp
  | succ i ih => rw [count_take_succ (h i (by omega)), ih (by omega)]
theorem renR_id {base : Nat} {b : List Bool} (h : ∀ i, i < b.length → b[i]? = some true) {e : Int} (h0 : 0 ≤ e) (h1 : (e / 2).toNat ≤ base + b.length) : renR base b e = e := by
  unfold renR nuR
  split
  · omega
  · rw [count_all h _ (by omega)]; omega
theorem keepR_len {base : Nat} {b : List Bool} {ands : List (Int × Int)} (h : ands.length = b.length) : (keepR base b (ands.zip b)).length = cntB b := by
  unfold keepR cntB
  rw [List.length_map]
  induction ands generalizing b with
  | nil => cases b with
    | nil => rfl
    | cons x b => simp at h
  | cons p ands ih => cases b with
    | nil => simp at h
    | cons x b =>
      simp only [List.length_cons, Nat.add_right_cancel_iff] at h
      simp only [List.zip_cons_cons, List.filter_cons]
      cases x <;> simp [ih h]
/-- A kept And, and where it stands. -/
theorem keepR_get {base : Nat} {b0 : List Bool} : ∀ {ands : List (Int × Int)} {b : List Bool} {i : Nat} {p : Int × Int}, ands[i]? = some p → b[i]? = some true → (keepR base b0 (ands.zip b))[(b.take i).count true]? = some (renR base b0 p.1, renR base b0 p.2)
  | [], b, i, p, h, _ => by simp at h
  | q :: ands, [], i, p, _, h => by simp at h
  | q :: ands, x :: b, 0, p, h, k => by
    simp at h k; subst h; subst k
    simp [keepR]
  | q :: ands, x :: b, i + 1, p, h, k => by
    have := keepR_get (base := base) (b0 := b0) (ands := ands) (b := b) (i := i) (p := p) (by simpa using h) (by simpa using k)
    unfold keepR at this ⊢
    cases x with
    | false => simpa using this
    | true => simpa using this
theorem keepR_from {base : Nat} {b0 : List Bool} : ∀ {ands : List (Int × Int)} {b : List Bool} {k : Nat} {q : Int × Int}, (keepR base b0 (ands.zip b))[k]? = some q → ∃ i p, ands[i]? = some p ∧ b[i]? = some true ∧ (b.take i).count true = k ∧ q = (renR base b0 p.1, renR base b0 p.2)
  | [], b, k, q, h => by simp [keepR] at h
  | p :: ands, [], k, q, h => by simp [keepR] at h
  | p :: ands, false :: b, k, q, h => by
    have h' : (keepR base b0 (ands.zip b))[k]? = some q := by simpa [keepR] using h
    obtain ⟨i, p', h1, h2, h3, h4⟩ := keepR_from h'
    exact ⟨i + 1, p', by simpa using h1, by simpa using h2, by simpa using h3, h4⟩
  | p :: ands, true :: b, 0, q, h => by
    refine ⟨0, p, rfl, rfl, by simp, ?_⟩
    simpa [keepR, eq_comm] using h
  | p :: ands, true :: b, k + 1, q, h => by
    have h' : (keepR base b0 (ands.zip b))[k]? = some q := by simpa [keepR] using h
    obtain ⟨i, p', h1, h2, h3, h4⟩ := keepR_from h'
    exact ⟨i + 1, p', by simpa using h1, by simpa using h2, by simpa using h3, h4⟩
theorem edge_rch {g : AigP} {l : List Int} (hall : g.all l = true) : ∀ e ∈ l, Rch g l (e / 2).toNat ∧ 0 ≤ e := fun e he => ⟨.edge he, (AigP.all_has hall he).1⟩
section
variable {g : AigP} {l : List Int} (hall : g.all l = true) (hred : g.reduced = true) (hn : g.nodes ≤ 100000)
include hall hred hn
theorem cone_facts : (g.cone l).e = 0 ∧ (g.cone l).g.reduced = true ∧ (g.cone l).g.all (g.cone l).l = true ∧ (g.cone l).l.length = l.length ∧ g.size l = ((((g.cone l).g.ands.length : Nat) : Int), 0) := by
  obtain ⟨h1, h2⟩ := cone_means (fun _ => false) hall hn
  have h3 : (g.cone l).g.all (g.cone l).l = true := by
    unfold AigP.all
    rw [h2.may, Bool.true_and, List.all_eq_true]
    intro f hf
    obtain ⟨k, hk⟩ := List.mem_iff_getElem?.1 hf
    have hkl := (List.getElem?_eq_some_iff.1 hk).1
    rw [h2.len] at hkl
    obtain ⟨v1, v2, _⟩ := h2.val k _ f (List.getElem?_eq_getElem hkl) hk
    simp [AigP.has, v1, v2]
  refine ⟨h1, h2.red, h3, h2.len, ?_⟩
  unfold AigP.size
  rw [if_pos hall, cone_eq hall hred hn]
  have hrl := g.reach_len l
  rw [show ∀ (A : List (Int × Int)), (AigP.mk g.ins A).ands.length = A.length from fun _ => rfl, keepR_len (by simp; unfold AigP.nodes at hrl; omega)]
/-- What the images reach is the image of what is reached. -/
theorem rch_cone {e' : List Int} (hsub : ∀ e ∈ e', Rch g l (e / 2).toNat ∧ 0 ≤ e) {j : Nat} (h : Rch g e' j) :
    Rch g l j ∧ Rch (g.cone l).g (e'.map (renR (1 + g.ins.length) ((g.reach l).drop (1 + g.ins.length)))) (nuR (1 + g.ins.length) ((g.reach l).drop (1 + g.ins.length)) j) := by
  have hands := AigP.may_ands (AigP.all_may hall)
  rw [cone_eq hall hred hn]
  obtain ⟨base, hb⟩ : ∃ base, 1 + g.ins.length = base := ⟨_, rfl⟩
  obtain ⟨b, hbb⟩ : ∃ b, (g.reach l).drop base = b := ⟨_, rfl⟩
  have hbt : ∀ i, Rch g l (base + i) → i < g.ands.length → b[i]? = some true := fun i hr hi => by
    have := (reach_iff hall (base + i)).2 hr
    have hl := g.reach_len l
    rw [List.getD_eq_getElem?_getD] at this
    rw [← hbb, List.getElem?_drop]
    cases hh : (g.reach l)[base + i]? with
    | none => rw [hh] at this; simp at this
    | some x => rw [hh] at this; simp at this; rw [this]
  have step : ∀ (i : Nat) (p : Int × Int), g.ands[i]? = some p → Rch g l (base + i) → (keepR base b (g.ands.zip b))[(b.take i).count true]? = some (renR base b p.1, renR base b p.2) := fun i p hp hr =>
    keepR_get hp (hbt i hr (List.getElem?_eq_some_iff.1 hp).1)
  induction h with
  | edge he =>
    obtain ⟨k1, k2⟩ := hsub _ he
    refine ⟨k1, ?_⟩
    rw [hb, hbb]
    have := Rch.edge (g := ⟨g.ins, keepR base b (g.ands.zip b)⟩) (l := e'.map (renR base b)) (List.mem_map.2 ⟨_, he, rfl⟩)
    rwa [(renR_node k2).1] at this
  | @left i p _ hp ih =>
    obtain ⟨i1, i2⟩ := ih
    have ho := andsOk_get hands hp
    refine ⟨.left i1 hp, ?_⟩
    rw [hb, hbb] at i2 ⊢
    rw [hb] at i1
    have hs := step i p hp i1
    have hnu : nuR base b (base + i) = base + (b.take i).count true := by unfold nuR; rw [if_neg (by omega), show base + i - base = i by omega]
    rw [hnu] at i2
    have := Rch.left (g := ⟨g.ins, keepR base b (g.ands.zip b)⟩) (by rw [show 1 + (AigP.mk g.ins (keepR base b (g.ands.zip b))).ins.length = base from hb]; exact i2) hs
    rwa [(renR_node ho.1).1] at this
  | @right i p _ hp ih =>
    obtain ⟨i1, i2⟩ := ih
    have ho := andsOk_get hands hp
    refine ⟨.right i1 hp, ?_⟩
    rw [hb, hbb] at i2 ⊢
    rw [hb] at i1
    have hs := step i p hp i1
    have hnu : nuR base b (base + i) = base + (b.take i).count true := by unfold nuR; rw [if_neg (by omega), show base + i - base = i by omega]
    rw [hnu] at i2
    have := Rch.right (g := ⟨g.ins, keepR base b (g.ands.zip b)⟩) (by rw [show 1 + (AigP.mk g.ins (keepR base b (g.ands.zip b))).ins.length = base from hb]; exact i2) hs
    rwa [(renR_node ho.2.1).1] at this
/-- .. and nothing else. -/
theorem rch_back {e' : List Int} (hsub : ∀ e ∈ e', Rch g l (e / 2).toNat ∧ 0 ≤ e) {k : Nat} (h : Rch (g.cone l).g (e'.map (renR (1 + g.ins.length) ((g.reach l).drop (1 + g.ins.length)))) k) :
    ∃ j, Rch g e' j ∧ nuR (1 + g.ins.length) ((g.reach l).drop (1 + g.ins.length)) j = k := by
  have hands := AigP.may_ands (AigP.all_may hall)
  have hfwd := fun {j} h => (rch_cone hall hred hn hsub (j := j) h).1
  rw [cone_eq hall hred hn] at h
  obtain ⟨base, hb⟩ : ∃ base, 1 + g.ins.length = base := ⟨_, rfl⟩
  obtain ⟨b, hbb⟩ : ∃ b, (g.reach l).drop base = b := ⟨_, rfl⟩
  have hrl := g.reach_len l
  have hbl : b.length = g.ands.length := by rw [← hbb]; simp; unfold AigP.nodes at hrl; omega
  have hbt : ∀ i, Rch g l (base + i) → i < g.ands.length → b[i]? = some true := fun i hr hi => by
    have := (reach_iff hall (base + i)).2 hr
    rw [List.getD_eq_getElem?_getD] at this
    rw [← hbb, List.getElem?_drop]
    cases hh : (g.reach l)[base + i]? with
    | none => rw [hh] at this; simp at this
    | some x => rw [hh] at this; simp at this; rw [this]
  have hlt : ∀ {j}, Rch g l j → j < base + g.ands.length := fun {j} hj => by
    have := (reach_iff hall j).2 hj
    rw [List.getD_eq_getElem?_getD] at this
    cases hh : (g.reach l)[j]? with
    | none => rw [hh] at this; simp at this
    | some x => have := (List.getElem?_eq_some_iff.1 hh).1; unfold AigP.nodes at hrl; omega
  -- the And of a kept number
  have find : ∀ (j k : Nat) (q : Int × Int), Rch g l j → nuR base b j = base + k → (keepR base b (g.ands.zip b))[k]? = some q → ∃ i p, j = base + i ∧ g.ands[i]? = some p ∧ q = (renR base b p.1, renR base b p.2) := fun j k q hj hnu hq => by
    have hjb : base ≤ j := by
      rcases Nat.lt_or_ge j base with h | h
      · unfold nuR at hnu; rw [if_pos h] at hnu; omega
      · exact h
    obtain ⟨i, rfl⟩ : ∃ i, j = base + i := ⟨j - base, by omega⟩
    have hil := hlt hj
    have hbi := hbt i hj (by omega)
    obtain ⟨p, hp⟩ : ∃ p, g.ands[i]? = some p := ⟨_, List.getElem?_eq_getElem (by omega)⟩
    have hk : (b.take i).count true = k := by
      unfold nuR at hnu; rw [if_neg (by omega), show base + i - base = i by omega] at hnu; omega
    have := keepR_get (base := base) (b0 := b) hp hbi
    rw [hk, hq] at this
    exact ⟨i, p, rfl, hp, Option.some.inj this⟩
  rw [hb, hbb] at h ⊢
  induction h with
  | edge he =>
    obtain ⟨e, hem, rfl⟩ := List.mem_map.1 he
    exact ⟨_, .edge hem, ((renR_node (hsub e hem).2).1).symm⟩
  | @left k q _ hq ih =>
    obtain ⟨j, hj, hnu⟩ := ih
    rw [show 1 + (AigP.mk g.ins (keepR base b (g.ands.zip b))).ins.length = base from hb] at hnu
    obtain ⟨i, p, rfl, hp, rfl⟩ := find j k q (hfwd hj) hnu hq
    rw [← hb] at hj
    exact ⟨_, .left hj hp, ((renR_node (andsOk_get hands hp).1).1).symm⟩
  | @right k q _ hq ih =>
    obtain ⟨j, hj, hnu⟩ := ih
    rw [show 1 + (AigP.mk g.ins (keepR base b (g.ands.zip b))).ins.length = base from hb] at hnu
    obtain ⟨i, p, rfl, hp, rfl⟩ := find j k q (hfwd hj) hnu hq
    rw [← hb] at hj
    exact ⟨_, .right hj hp, ((renR_node (andsOk_get hands hp).2.1).1).symm⟩
theorem cone_l : (g.cone l).l = l.map (renR (1 + g.ins.length) ((g.reach l).drop (1 + g.ins.length))) ∧ (g.cone l).g.ins = g.ins ∧ (g.cone l).g.ands = keepR (1 + g.ins.length) ((g.reach l).drop (1 + g.ins.length)) (g.ands.zip ((g.reach l).drop (1 + g.ins.length))) := by
  rw [cone_eq hall hred hn]; exact ⟨rfl, rfl, rfl⟩
/-- The cone of a cone is the same. -/
theorem cone_cone : (g.cone l).g.cone (g.cone l).l = g.cone l := by
  obtain ⟨f1, f2, f3, f4, f5⟩ := cone_facts hall hred hn
  obtain ⟨l1, l2, l3⟩ := cone_l hall hred hn
  have hrl := g.reach_len l
  have hfw := fun {j} h => (rch_cone hall hred hn (edge_rch hall) (j := j) h).2
  obtain ⟨c, hc⟩ : ∃ c, g.cone l = c := ⟨_, rfl⟩
  rw [hc] at f1 f2 f3 f4 f5 l1 l2 l3 hfw ⊢
  obtain ⟨base, hb⟩ : ∃ base, 1 + g.ins.length = base := ⟨_, rfl⟩
  obtain ⟨b, hbb⟩ : ∃ b, (g.reach l).drop base = b := ⟨_, rfl⟩
  rw [hb, hbb] at l1 l3 hfw
  have hbl : b.length = g.ands.length := by rw [← hbb]; simp; unfold AigP.nodes at hrl; omega
  have hcl : c.g.ands.length ≤ g.ands.length := by
    rw [l3, keepR_len hbl.symm, ← hbl]; exact cntB_le b
  have hcn : c.g.nodes ≤ 100000 := by unfold AigP.nodes at hn ⊢; rw [l2]; omega
  have hcb : 1 + c.g.ins.length = base := by rw [l2]; exact hb
  rw [cone_eq f3 f2 hcn, hcb]
  obtain ⟨b', hbb'⟩ : ∃ b', (c.g.reach c.l).drop base = b' := ⟨_, rfl⟩
  have hrl' := c.g.reach_len c.l
  have hbl' : b'.length = c.g.ands.length := by rw [← hbb']; simp; unfold AigP.nodes at hrl'; omega
  rw [hbb']
  have htrue : ∀ k, k < b'.length → b'[k]? = some true := fun k hk => by
    obtain ⟨q, hq⟩ : ∃ q, c.g.ands[k]? = some q := ⟨_, List.getElem?_eq_getElem (by omega)⟩
    rw [l3] at hq
    obtain ⟨i, p, h1, h2, h3, _⟩ := keepR_from hq
    have hr : Rch g l (base + i) := (reach_iff hall (base + i)).1 (by
      rw [List.getD_eq_getElem?_getD, ← List.getElem?_drop, hbb, h2]; rfl)
    have := hfw hr
    rw [← l1] at this
    have hnu : nuR base b (base + i) = base + k := by unfold nuR; rw [if_neg (by omega), show base + i - base = i by omega, h3]
    rw [hnu] at this
    have := (reach_iff f3 (base + k)).2 this
    rw [List.getD_eq_getElem?_getD, ← List.getElem?_drop, hbb'] at this
    cases hh : b'[k]? with
    | none => rw [hh] at this; simp at this
    | some x => rw [hh] at this; simp at this; rw [this]
  have hcands := AigP.may_ands (AigP.all_may f3)
  have hkeep : keepR base b' (c.g.ands.zip b') = c.g.ands := by
    have hz : c.g.ands.zip b' = c.g.ands.map fun p => (p, true) := by
      apply List.ext_getElem?
      intro k
      rw [List.getElem?_map]
      by_cases hk : k < b'.length
      · obtain ⟨q, hq⟩ : ∃ q, c.g.ands[k]? = some q := ⟨_, List.getElem?_eq_getElem (by omega)⟩
        have z1 : (c.g.ands.zip b')[k]? = some (q, true) := List.getElem?_zip_eq_some.2 ⟨hq, htrue k hk⟩
        rw [z1, hq]; rfl
      · rw [List.getElem?_eq_none (by simp; omega), List.getElem?_eq_none (by omega)]; rfl
    rw [hz]
    unfold keepR
    rw [List.filter_eq_self.2 (fun x hx => by obtain ⟨p, _, rfl⟩ := List.mem_map.1 hx; rfl), List.map_map]
    refine (List.map_congr_left fun p hp => ?_).trans (List.map_id _)
    obtain ⟨k, hk⟩ := List.mem_iff_getElem?.1 hp
    have ho := andsOk_get hcands hk
    obtain ⟨c1, c2⟩ := andsOk_node hcands k p hk
    have hkl := (List.getElem?_eq_some_iff.1 hk).1
    rw [hcb] at c1 c2
    simp only [Function.comp, id]
    rw [renR_id htrue ho.1 (by omega), renR_id htrue ho.2.1 (by omega)]
  rw [hkeep]
  have hl : c.l.map (renR base b') = c.l := (List.map_congr_left fun e he => by
    obtain ⟨e0, e1⟩ := AigP.all_has f3 he
    unfold AigP.nodes at e1
    exact renR_id htrue e0 (by omega)).trans (List.map_id _)
  rw [hl, ← f1]
/-- The support of an edge is that in the cone. -/
theorem support_cone {k : Nat} {e f : Int} (he : l[k]? = some e) (hf : (g.cone l).l[k]? = some f) : (g.support e).2 = 0 ∧ (g.cone l).g.support f = g.support e := by
  obtain ⟨f1, f2, f3, f4, f5⟩ := cone_facts hall hred hn
  obtain ⟨l1, l2, l3⟩ := cone_l hall hred hn
  have hel := List.mem_of_getElem? he
  obtain ⟨e0, e1⟩ := AigP.all_has hall hel
  have hm := AigP.all_may hall
  have hge : g.all [e] = true := by simp [AigP.all, hm, AigP.has, e0, e1]
  obtain ⟨x0, x1⟩ := AigP.all_has f3 (List.mem_of_getElem? hf)
  have hce : (g.cone l).g.all [f] = true := by simp [AigP.all, AigP.all_may f3, AigP.has, x0, x1]
  have hfe : f = renR (1 + g.ins.length) ((g.reach l).drop (1 + g.ins.length)) e := by
    rw [l1, List.getElem?_map, he] at hf; simpa [eq_comm] using hf
  have hsub : ∀ z ∈ [e], Rch g l (z / 2).toNat ∧ 0 ≤ z := fun z hz => by
    simp at hz; subst hz; exact ⟨.edge hel, e0⟩
  have hfw := fun {j} h => (rch_cone hall hred hn hsub (j := j) h).2
  have hbk := fun {j} h => rch_back hall hred hn hsub (k := j) h
  simp only [List.map_cons, List.map_nil, ← hfe] at hfw hbk
  refine ⟨by unfold AigP.support; rw [if_pos hge], ?_⟩
  unfold AigP.support
  rw [if_pos hge, if_pos hce, l2]
  congr 2
  have hr1 := g.reach_len [e]
  have hr2 := (g.cone l).g.reach_len [f]
  have hn1 : g.nodes = 1 + g.ins.length + g.ands.length := rfl
  have hn2 : (g.cone l).g.nodes = 1 + g.ins.length + (g.cone l).g.ands.length := by unfold AigP.nodes; rw [l2]
  apply List.ext_getElem?
  intro i
  by_cases hi : i < g.ins.length
  · obtain ⟨v, hv⟩ : ∃ v, g.ins[i]? = some v := ⟨_, List.getElem?_eq_getElem hi⟩
    have hx : ∃ x, ((g.cone l).g.reach [f])[1 + i]? = some x := ⟨_, List.getElem?_eq_getElem (by omega)⟩
    have hy : ∃ y, (g.reach [e])[1 + i]? = some y := ⟨_, List.getElem?_eq_getElem (by omega)⟩
    obtain ⟨x, hx⟩ := hx
    obtain ⟨y, hy⟩ := hy
    have hxy : x = y := by
      have a1 := reach_iff hce (1 + i)
      have a2 := reach_iff hge (1 + i)
      rw [List.getD_eq_getElem?_getD, hx, Option.getD_some] at a1
      rw [List.getD_eq_getElem?_getD, hy, Option.getD_some] at a2
      rw [Bool.eq_iff_iff, a1, a2]
      constructor
      · intro h
        obtain ⟨j, hj, hnu⟩ := hbk h
        unfold nuR at hnu
        split at hnu
        · rw [← hnu]; exact hj
        · omega
      · intro h
        have := hfw h
        unfold nuR at this
        rwa [if_pos (by omega)] at this
    subst hxy
    have z1 : (g.ins.zip (((g.cone l).g.reach [f]).drop 1))[i]? = some (v, x) := List.getElem?_zip_eq_some.2 ⟨hv, by rw [List.getElem?_drop]; exact hx⟩
    have z2 : (g.ins.zip ((g.reach [e]).drop 1))[i]? = some (v, x) := List.getElem?_zip_eq_some.2 ⟨hv, by rw [List.getElem?_drop]; exact hy⟩
    rw [z1, z2]
  · rw [List.getElem?_eq_none (by simp; omega), List.getElem?_eq_none (by simp; omega)]
end
end Go.Gh
namespace Go.Gh
open Go.RowKit Go.Proofs
set_option linter.unusedVariables false
set_option linter.unusedSimpArgs false
/-- The state of run: the row of values, and the box of the graph. -/
structure RunSt (σ0 σ' : GS) (id : Nat) (g : AigP) (vs : List Bool) : Prop where
  row : σ'[id]? = some (.row false (bools vs))
  box : σ'[σ0.length]? = some (.row false [fints g.ins, fands g.ands])
  len : σ0.length < σ'.length
  oth : ∀ j, j ≠ id → j < σ0.length → σ'[j]? = σ0[j]?
theorem RunSt.set {σ0 σ' : GS} {id : Nat} {g : AigP} {vs : List Bool} (h : RunSt σ0 σ' id g vs) (hid : id < σ0.length) (i : Nat) (b : Bool) (τ : GS) : RunSt σ0 (σ'.set id (.row false (bools (vs.set i b))) ++ τ) id g (vs.set i b) := by
  have hl := h.len
  refine ⟨?_, ?_, by simp; omega, fun j hj hlt => ?_⟩
  · rw [List.getElem?_append_left (by simp; omega), List.getElem?_set_self (by omega)]
  · rw [List.getElem?_append_left (by simp; omega), List.getElem?_set_ne (by omega)]; exact h.box
  · rw [List.getElem?_append_left (by simp; omega), List.getElem?_set_ne (fun e => hj e.symm)]; exact h.oth j hj hlt
/-- The value of an edge under an assignment, and the error. -/
def AigP.eval (g : AigP) (e : Int) (a : List Int) : Bool × Int := if g.all [e] && normal a then (edgeV (g.vals a.contains) e, 0) else (false, 2)
end Go.Gh
namespace Go.Gh
open Go.RowKit Go.Proofs
set_option linter.unusedVariables false
set_option linter.unusedSimpArgs false
set_option maxRecDepth 100000
def fitE (n : Nat) (x : Int) : Int := x % (2 * n)
theorem fit_eq {x m : Int} (hm : 0 < m) : (x.tmod m + m).tmod m = x % m := by
  have h1 : 0 ≤ x.tmod m + m := by
    have := Int.lt_tmod_of_pos x hm; omega
  rw [Int.tmod_eq_emod_of_nonneg h1, Int.add_emod_right, Int.tmod_def, Int.sub_mul_emod_self_left]
theorem fit_range {n : Nat} (h : 0 < n) (x : Int) : 0 ≤ fitE n x ∧ fitE n x < 2 * n := by
  unfold fitE
  exact ⟨Int.emod_nonneg _ (by omega), Int.emod_lt_of_pos _ (by omega)⟩
theorem fit_ok {l : List Int} {n : Nat} {σ : GS} {Post : DV → GS → Prop} (hl : l.length < 2 ^ 40) (h0 : 0 < n) (hn : n < 2 ^ 40) (h : Post (fints (l.map (fitE n))) σ) : GCall Try.prog F_skolemlaw06_fit [fints l, .int .i64 n] σ Post := by
  refine GCall.pure (r := fints (l.map (fitE n))) ?_ (closed_fints _) h
  refine gc_skolemlaw06_fit ?_
  simp [G_skolemlaw06_fit, genv0, List.replicate]
  refine gfor l.length (fun i e σ' => ∃ s, e = mkEnv 29 [(1, .int .i64 n), (5, s), (8, fints l), (9, .int .i64 l.length), (10, .int .i64 i)] ∧ Own σ.length 1 eint σ' s ((l.take i).map (fitE n)) ∧ Fr σ.length σ σ') _ ?_ ⟨.nils, rfl, by simpa using Own.nil, .rfl'⟩ ?_
  · simp [mkEnv, List.replicate]
  rintro i _ σ' hi ⟨s, rfl, hO, hF⟩
  simp [mkEnv, List.replicate]
  by_cases hlt : i < l.length
  · obtain ⟨x, hx⟩ := nth_lt hlt
    have hx' := nth_get hx
    have es : IntKind.i64.wrap ((i : Int) + 1) = (i : Int) + 1 := by rw [wrap_small] <;> omega
    have e2 : IntKind.i64.wrap (2 * (n : Int)) = 2 * n := by rw [wrap_small] <;> omega
    have hm : (0 : Int) < 2 * n := by omega
    have b1 := Int.lt_tmod_of_pos x hm
    have b2 := Int.tmod_lt_of_pos x hm
    have e3 : IntKind.i64.wrap (x.tmod (2 * n)) = x.tmod (2 * n) := by rw [wrap_small] <;> omega
    have e4 : IntKind.i64.wrap (x.tmod (2 * n) + 2 * n) = x.tmod (2 * n) + 2 * n := by rw [wrap_small] <;> omega
    have hfr := fit_range h0 x
    have e5 : IntKind.i64.wrap ((x.tmod (2 * n) + 2 * n).tmod (2 * n)) = fitE n x := by
      rw [fit_eq hm]; unfold fitE at hfr ⊢; rw [wrap_small] <;> omega
    have e6 : (x.tmod (2 * n) + 2 * n).tmod (2 * n) = fitE n x := fit_eq hm
    have hne : ¬ ((2 * (n : Int)) = 0) := by omega
    have hne2 : ¬ n = 0 := by omega
    obtain ⟨s', σ2, q1, q2, q3, _⟩ := hO.push (by_ := 8) (fitE n x) (fun _ => rfl) (by simp) hF.len (by simp; omega) (by decide)
    have e7 : IntKind.i64.wrap (fitE n x) = fitE n x := by rw [wrap_small] <;> omega
    simp [hlt, hx, e2, e3, e4, e6, e7, hne, hne2, q1, es]
    exact forK_go _ hlt (by simp [mkEnv, List.replicate]) ⟨s', rfl, by rw [take_get hx']; simpa using q2, hF.trans q3⟩
  · have : i = l.length := by omega
    subst this
    rw [List.take_length] at hO
    simp
    exact ⟨hF, hO.rd (fun _ => rfl) fun i hi => .inl (by omega)⟩
end Go.Gh
namespace Go.Gh
open Go.RowKit Go.Proofs
set_option linter.unusedVariables false
set_option linter.unusedSimpArgs false
set_option maxRecDepth 100000
/-- A part of a slice of one's own, read. -/
theorem Own.part {n : Nat} {σ : GS} {s : DV} {xs : List Int} (hO : Own n 1 eint σ s xs) (hN : NoCap s) {j : Nat} (hj : j ≤ xs.length) : ∃ lo hi, gpure (.slice 1 false true false) [s, .int .i64 (j : Int)] = some lo ∧ gpure (.slice 1 true false false) [s, .int .i64 (j : Int)] = some hi ∧
    ∀ σ', (∀ i, s.has i → σ'[i]? = σ[i]?) → gread 1 lo σ' = some ((xs.take j).flatMap eint) ∧ glen lo = (xs.take j).length ∧ gread 1 hi σ' = some ((xs.drop j).flatMap eint) ∧ glen hi = (xs.drop j).length := by
  rcases hO with ⟨rfl, rfl⟩ | ⟨id, cap, rest, h1, rfl, h3, h4⟩
  · have : j = 0 := by simpa using hj
    subst this
    exact ⟨.nils, .nils, rfl, rfl, fun σ' _ => ⟨rfl, rfl, rfl, rfl⟩⟩
  · cases cap with
    | some c => exact absurd hN (by simp [NoCap])
    | none =>
      have hfm : ∀ l : List Int, l.flatMap eint = ints l := fun l => by
        induction l with
        | nil => rfl
        | cons x l ih => rw [List.flatMap_cons, ih]; rfl
      have h1 := slice_lo (id := id) (off := 0) hj
      rw [Nat.zero_add] at h1
      refine ⟨_, _, slice_hi hj, h1, fun σ' hσ => ?_⟩
      have h3' := (hσ id ⟨_, _, _, _, rfl⟩).trans h3
      have hl : (xs.flatMap eint ++ rest).length = xs.length + rest.length := by rw [hfm]; simp
      refine ⟨?_, by simp [glen]; omega, ?_, by simp [glen]⟩
      · by_cases hj0 : j = 0
        · subst hj0; simp [gread]
        · simp only [gread, if_neg hj0, if_pos, h3']
          rw [if_pos (by omega), hfm, hfm, List.drop_zero, Nat.mul_one, List.take_append_of_le_length (by simpa using hj)]
          simp
      · by_cases hj0 : xs.length - j = 0
        · have : xs.drop j = [] := by simp; omega
          rw [this]; simp [gread, hj0]
        · simp only [gread, if_neg hj0, if_pos, h3']
          rw [if_pos (by omega), hfm, hfm, List.drop_append_of_le_length (by simpa using hj), Nat.mul_one, List.take_append_of_le_length (by simp)]
          rw [List.take_of_length_le (by simp)]
          simp
end Go.Gh
namespace Go.Gh
set_option linter.unusedVariables false
set_option linter.unusedSimpArgs false
theorem fst_cons (x : Int) (l : List Int) (v : Int) : fstOf (x :: l) v = if gabs x = v then some x else fstOf l v := by
  unfold fstOf
  simp only [List.find?_cons]
  by_cases c : gabs x = v <;> simp [c]
theorem fst_normal : ∀ {a : List Int} {s : Int}, normR s a = true → ∀ z ∈ a, fstOf a (gabs z) = some z
  | y :: a, s, h, z, hz => by
    simp only [normR, Bool.and_eq_true, decide_eq_true_eq] at h
    rw [fst_cons]
    rcases List.mem_cons.1 hz with rfl | hz
    · rw [if_pos rfl]
    · have := normR_gt h.2 z hz
      rw [if_neg (by omega)]
      exact fst_normal h.2 z hz
theorem fst_mem {a : List Int} {v x : Int} (h : fstOf a v = some x) : x ∈ a ∧ gabs x = v := by
  unfold fstOf at h
  exact ⟨List.mem_of_find?_eq_some h, by simpa using List.find?_some h⟩
theorem normal_R {a : List Int} (h : normal a = true) : normR 0 a = true := by rw [← normal_eq]; exact h
/-- In a normal list a variable is true exactly if it is its first literal. -/
theorem contains_fst {a : List Int} (hn : normal a = true) {v : Int} (hv : isVar v = true) : a.contains v = decide (fstOf a v = some v) := by
  rw [Bool.eq_iff_iff, List.contains_iff_mem, decide_eq_true_eq]
  constructor
  · intro h
    have := fst_normal (normal_R hn) v h
    rwa [gabs_pos hv] at this
  · intro h; exact (fst_mem h).1
theorem isVar_pos {v : Int} (h : isVar v = true) : 1 ≤ v := by simp only [isVar, Bool.and_eq_true, decide_eq_true_eq] at h; exact h.1
/-- The list of what replaces inputs, and the literals that say so. -/
structure OwnSt (g : AigP) (a : List Int) (own : List (Int × Int)) (b : List Int) : Prop where
  nd : (own.map (·.1)).Nodup
  ins : ∀ o ∈ own, o.1 ∈ g.ins
  has : ∀ o ∈ own, 0 ≤ o.2 ∧ o.2 < 2 * g.nodes
  fst : ∀ v, isVar v = true → fstOf b v = match outOf own v with | some e => some (if edgeV (g.vals a.contains) e then v else -v) | none => fstOf a v
  vars : ∀ x ∈ b, isVar (gabs x) = true
  i64 : I64 b
theorem OwnSt.step {g : AigP} {a : List Int} {own : List (Int × Int)} {b : List Int} (h : OwnSt g a own b) (hins : insOk 0 g.ins = true) {v e : Int} (hv : v ∈ g.ins) (hnew : v ∉ own.map (·.1)) (h0 : 0 ≤ e) (h1 : e < 2 * g.nodes) :
    OwnSt g a (own ++ [(v, e)]) ((if edgeV (g.vals a.contains) e then v else -v) :: b) := by
  have hvar := insOk_vars hins v hv
  have hv1 := isVar_pos hvar
  have hv2 : v ≤ 65536 := by simp only [isVar, Bool.and_eq_true, decide_eq_true_eq] at hvar; exact hvar.2
  have hg : gabs (if edgeV (g.vals a.contains) e then v else -v) = v := by
    split
    · exact gabs_pos hvar
    · exact gabs_negvar hvar
  refine ⟨?_, fun o ho => ?_, fun o ho => ?_, fun w hw => ?_, fun x hx => ?_, fun x hx => ?_⟩
  · rw [List.map_append, List.nodup_append]
    refine ⟨h.nd, by simp, fun a ha b hb => ?_⟩
    simp at hb; subst hb; exact fun e => hnew (e ▸ ha)
  · rcases List.mem_append.1 ho with ho | ho
    · exact h.ins o ho
    · simp at ho; subst ho; exact hv
  · rcases List.mem_append.1 ho with ho | ho
    · exact h.has o ho
    · simp at ho; subst ho; exact ⟨h0, h1⟩
  · rw [fst_cons, hg, outOf_snoc (o := (v, e)) hnew]
    by_cases c : w = v
    · subst c; simp
    · rw [if_neg (fun e => c e.symm), if_neg c]; exact h.fst w hw
  · rcases List.mem_cons.1 hx with rfl | hx
    · rw [hg]; exact hvar
    · exact h.vars x hx
  · rcases List.mem_cons.1 hx with rfl | hx
    · split <;> omega
    · exact h.i64 x hx
theorem OwnSt.on {g : AigP} {a : List Int} {own : List (Int × Int)} {b : List Int} (h : OwnSt g a own b) (ha : normal a = true) {v : Int} (hv : isVar v = true) : (mergedI b).contains v = onBy g own a.contains v := by
  have hv1 := isVar_pos hv
  rw [merged_mem h.vars v hv1, h.fst v hv]
  unfold onBy
  cases outOf own v with
  | none => simp only; rw [contains_fst ha hv]
  | some e =>
    simp only
    have hne : ¬ (-v = v) := by omega
    by_cases c : edgeV (g.vals a.contains) e = true <;> simp [hne, c]
theorem eval_of {g : AigP} {e : Int} {a : List Int} (hm : g.may = true) (h0 : 0 ≤ e) (h1 : e < 2 * g.nodes) (ha : normal a = true) : g.eval e a = (edgeV (g.vals a.contains) e, 0) := by
  unfold AigP.eval
  rw [if_pos]
  simp [AigP.all, AigP.has, hm, ha, h0, h1]
/-- Two edges of equal values. -/
theorem Means.equal {g c : AigP} {on onc : Int → Bool} {l u a b : List Int} (h : Means g on l c onc u) (hall : g.all l = true) (ha : normal a = true) (hb : normal b = true) (e1 : g.vals a.contains = g.vals on) (e2 : c.vals b.contains = c.vals onc) {k : Nat} {x y : Int} (hx : l[k]? = some x) (hy : u[k]? = some y) :
    (decide ((g.eval x a).2 = 0) && decide ((c.eval y b).2 = 0) && decide ((g.eval x a).1 = (c.eval y b).1)) = true := by
  obtain ⟨x0, x1⟩ := AigP.all_has hall (List.mem_of_getElem? hx)
  obtain ⟨y0, y1, hv⟩ := h.val k x y hx hy
  rw [eval_of (AigP.all_may hall) x0 x1 ha, eval_of h.may y0 y1 hb, e1, e2, hv]
  simp
end Go.Gh
namespace Go.Gh
open Go.Proofs
end Go.Gh
namespace Go.Gh
open Go.RowKit Go.Proofs
set_option linter.unusedVariables false
set_option linter.unusedSimpArgs false
set_option maxRecDepth 100000
end Go.Gh
namespace Go.Gh
open Go.RowKit Go.Proofs
set_option linter.unusedVariables false
set_option linter.unusedSimpArgs false
set_option maxRecDepth 100000
theorem fit_all {g : AigP} (hm : g.may = true) (l : List Int) : g.all (l.map (fitE g.nodes)) = true := by
  have hp : 0 < g.nodes := by unfold AigP.nodes; omega
  unfold AigP.all
  rw [hm, Bool.true_and, List.all_eq_true]
  intro e he
  obtain ⟨x, _, rfl⟩ := List.mem_map.1 he
  have := fit_range hp x
  simp [AigP.has, this]
end Go.Gh
namespace Go.Gh
open Go.RowKit Go.Proofs
set_option linter.unusedVariables false
set_option linter.unusedSimpArgs false
set_option maxRecDepth 100000
set_option maxHeartbeats 4000000 in
theorem again_ok {g : AigP} {l : List Int} {σ : GS} {Post : DV → GS → Prop} (h1 : g.ins.length < 2 ^ 47) (h2 : g.ands.length < 2 ^ 47) (hl : l.length < 2 ^ 47) (k : ∀ σ', Post (.bool true) σ') : GCall Try.prog F_skolemlaw06_AigAgain [g.enc, fints l] σ Post := by
  refine gc_skolemlaw06_AigAgain ?_
  simp [G_skolemlaw06_AigAgain, genv0, List.replicate, galloc, gfill, DV.cells, over, gzeros]
  refine great_one (g := g) (by simp) ?_
  by_cases c1 : g.great = true
  · simp [c1]
    refine works_ok ?_
    simp
    exact k _
  have hs : g.Sm := ⟨by omega, by omega⟩
  have hga : g.ins.length ≤ 100 ∧ g.ands.length ≤ 600 := by have := Bool.eq_false_iff.2 c1; unfold AigP.great at this; simp at this; omega
  simp [c1]
  by_cases c2 : (50 : Int) < l.length
  · simp [c2]
    refine works_ok ?_
    simp
    exact k _
  simp [c2]
  refine ref_Reduced_ok hs ?_
  by_cases c3 : g.reduced = true
  rotate_left
  · simp [c3]
    refine works_ok ?_
    simp
    exact k _
  have hmay : g.may = true := by unfold AigP.reduced at c3; simp only [Bool.and_eq_true] at c3; exact c3.2
  have hgn : g.nodes = 1 + g.ins.length + g.ands.length := rfl
  simp [c3]
  refine ref_Nodes_ok hs ?_
  simp
  refine fit_ok (by omega) (by omega) (by omega) ?_
  have hax := fit_all hmay l
  obtain ⟨x, hx⟩ : ∃ x, l.map (fitE g.nodes) = x := ⟨_, rfl⟩
  have hxl : x.length = l.length := by rw [← hx]; simp
  rw [hx] at hax ⊢
  clear hx
  simp
  refine aig_Cone_ok hs (by omega) ?_
  rw [AigP.compose_nil]
  obtain ⟨f1, f2, f3, f4, f5⟩ := cone_facts hax c3 (by omega)
  have f6 := cone_cone hax c3 (by omega)
  have f7 := fun k e f => support_cone hax c3 (by omega) (k := k) (e := e) (f := f)
  obtain ⟨C, hC⟩ : ∃ C, g.cone x = C := ⟨_, rfl⟩
  rw [hC] at f1 f2 f3 f4 f5 f6 f7 ⊢
  have hCn := AigP.may_nodes (AigP.all_may f3)
  have hCs : C.g.Sm := by
    have e : C.g.nodes = 1 + C.g.ins.length + C.g.ands.length := rfl
    exact ⟨by omega, by omega⟩
  simp
  refine aig_Cone_ok hCs (by omega) ?_
  rw [AigP.compose_nil, f6]
  simp
  refine aig_Size_ok hs (by omega) ?_
  rw [f5]
  simp [f1, f4]
  refine ref_Same_ok hCs hCs ?_
  simp
  refine ref_Ints_ok (by omega) ?_
  have hd : List.drop 2 (List.map (fun i => ([DV.nils, DV.nils][i % 2]?).getD DV.any) (List.range 2)) = [] := rfl
  simp only [hd]
  obtain ⟨τ0, hτ0⟩ : ∃ τ0, σ ++ [GObj.row false [fints g.ins, fands g.ands], .row false [fints g.ins, fands g.ands], .row false [fints C.g.ins, fands C.g.ands], .row false [fints C.g.ins, fands C.g.ands]] = τ0 := ⟨_, rfl⟩
  have bg : τ0[σ.length]? = some (.row false [fints g.ins, fands g.ands]) := by rw [← hτ0]; simp
  have bC : τ0[σ.length + 2]? = some (.row false [fints C.g.ins, fands C.g.ands]) := by rw [← hτ0]; simp
  rw [hτ0]
  clear hτ0
  have lg : gload (.load 2 true) [.ptr σ.length 0] τ0 = some g.enc := by rw [ld_agg bg]; rfl
  have lC : gload (.load 2 true) [.ptr (σ.length + 2) 0] τ0 = some C.g.enc := by rw [ld_agg bC]; rfl
  simp
  refine gfor x.length (fun i e σ' => e = mkEnv 130 [(2, .ptr σ.length 0), (5, fints x), (6, .ptr (σ.length + 2) 0), (7, fints C.l), (94, .int .i64 x.length), (95, .int .i64 i)] ∧ σ' = τ0) _ ?_ ⟨rfl, rfl⟩ ?_
  · simp [mkEnv, List.replicate]
  rintro i _ σz hi ⟨rfl, hσz⟩
  rw [hσz]
  clear hσz σz
  simp [mkEnv, List.replicate]
  by_cases hlt : i < x.length
  · obtain ⟨ex, hex⟩ := nth_lt hlt
    obtain ⟨eC, heC⟩ := nth_lt (l := C.l) (i := i) (by omega)
    have es : IntKind.i64.wrap ((i : Int) + 1) = (i : Int) + 1 := by rw [wrap_small] <;> omega
    obtain ⟨s1, s2⟩ := f7 i ex eC (nth_get hex) (nth_get heC)
    obtain ⟨S, hS⟩ : ∃ S, g.support ex = S := ⟨_, rfl⟩
    have hSl : S.1.length < 2 ^ 60 := by
      rw [← hS]
      unfold AigP.support
      split
      · unfold supp
        rw [List.length_map]
        refine Nat.lt_of_le_of_lt (List.length_filter_le _ _) ?_
        rw [List.length_zip]; omega
      · simp
    rw [hS] at s1 s2
    simp [hlt, lg, lC, hex, heC]
    refine aig_Support_ok hs ?_
    rw [hS]
    simp [lC, heC]
    refine aig_Support_ok hCs ?_
    rw [s2]
    simp [s1]
    refine ref_Ints_ok hSl ?_
    simp [es]
    exact forK_go _ hlt (by simp [mkEnv, List.replicate]) ⟨rfl, rfl⟩
  have : i = x.length := by omega
  subst this
  simp
  refine works_ok ?_
  simp
  exact k _
end Go.Gh
