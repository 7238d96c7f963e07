/-
  Proved: the law PuzzleGuided returns true for every input (puzzle, choices), and the input reads as it did.
  Part 4 of 4. Conditions: none. Written for this claim by programs of this work (extprint.py, gen_*.py, assemble.py) and by hand.
-/
import Derived.Test.YtjlehbncpjccmaaXG3
namespace Go.Proofs.Ytjlehbncpjccmaa.Q
open Go.RowKit Go.Proofs.YtjlehbncpjccmaaW.PrintWords Go.Proofs.YtjlehbncpjccmaaW.PrintLast Go.Proofs.YtjlehbncpjccmaaW.PrintMore
attribute [local go_sem] max2_int min2_int max_two min_two max_three min_three max_four min_four   -- for this text's walks alone
set_option linter.unusedVariables false
set_option linter.unusedSimpArgs false

/-! ### skolemlaw35_PuzzleGuided: function 5 -/
mutual
def skolemlaw35_PuzzleGuided.j0 : Nat → List Int → Bool → List (S55) → Int → List Int → Int → Option (Bool)
  | 0, _, _, _, _, _, _ => none
  | k + 1, x1, x19, x379000, x379001, x379002, x379003 => if x19 = true then ((skolemlaw35_head.f k).bind fun t381 => (some t381)) else ((puzzle_Wins.f x379000 x379001 x379002 x379003).bind fun bt382 => ((puzzle_Guide.f x379000 x379001 x379002 x379003).bind fun bt384 => (if bt382.2 = 0 then (if bt384.2 = 0 then (skolemlaw35_PuzzleGuided.j1 k x1 bt382.1 bt384.1 ((bt384.1.length : Int) != x379003) x379000 x379001 x379002 x379003) else (skolemlaw35_PuzzleGuided.j1 k x1 bt382.1 bt384.1 true x379000 x379001 x379002 x379003)) else (skolemlaw35_PuzzleGuided.j1 k x1 bt382.1 bt384.1 true x379000 x379001 x379002 x379003))))
def skolemlaw35_PuzzleGuided.j1 : Nat → List Int → Bool → List (List Int) → Bool → List (S55) → Int → List Int → Int → Option (Bool)
  | 0, _, _, _, _, _, _, _, _ => none
  | k + 1, x1, x5, x7, x43, x379000, x379001, x379002, x379003 => if x43 = true then (some false) else (skolemlaw35_PuzzleGuided.l0 k x1 x5 x7 x379001 0 x379000 x379001 x379002 x379003)
def skolemlaw35_PuzzleGuided.l0 : Nat → List Int → Bool → List (List Int) → Int → Int → List (S55) → Int → List Int → Int → Option (Bool)
  | 0, _, _, _, _, _, _, _, _, _ => none
  | k + 1, x1, x5, x7, x9, x10, x379000, x379001, x379002, x379003 => if x10 < x379003 then (if x5 = true then ((skolemref03_Has.f k x379002 x9).bind fun t388 => (skolemlaw35_PuzzleGuided.j3 k x1 x5 x7 x9 x10 (!t388) x379000 x379001 x379002 x379003)) else (skolemlaw35_PuzzleGuided.j3 k x1 x5 x7 x9 x10 false x379000 x379001 x379002 x379003)) else (skolemlaw35_PuzzleGuided.j3 k x1 x5 x7 x9 x10 false x379000 x379001 x379002 x379003)
def skolemlaw35_PuzzleGuided.j3 : Nat → List Int → Bool → List (List Int) → Int → Int → Bool → List (S55) → Int → List Int → Int → Option (Bool)
  | 0, _, _, _, _, _, _, _, _, _, _ => none
  | k + 1, x1, x5, x7, x9, x10, x59, x379000, x379001, x379002, x379003 => if x59 = true then (if 0 ≤ x9 then (if x9 < (x379000.length : Int) then (if x10 < (x1.length : Int) then (if 0 ≤ x10 then (skolemlaw35_PuzzleGuided.j4 k x1 x5 x7 x9 x10 (wrap64 (rd x1 x10)) x379000 x379001 x379002 x379003 ((rd_T55 x379000 x9).f0) ((rd_T55 x379000 x9).f1)) else (none)) else (skolemlaw35_PuzzleGuided.j4 k x1 x5 x7 x9 x10 0 x379000 x379001 x379002 x379003 ((rd_T55 x379000 x9).f0) ((rd_T55 x379000 x9).f1))) else (none)) else (none)) else (if x5 = true then ((skolemref03_Has.f k x379002 x9).bind fun t389 => (if t389 = true then ((skolemlaw35_head.f k).bind fun t390 => (some t390)) else (some false))) else ((skolemlaw35_head.f k).bind fun t391 => (some t391)))
def skolemlaw35_PuzzleGuided.j4 : Nat → List Int → Bool → List (List Int) → Int → Int → Int → List (S55) → Int → List Int → Int → Bool → List Int → Option (Bool)
  | 0, _, _, _, _, _, _, _, _, _, _, _, _ => none
  | k + 1, x1, x5, x7, x9, x10, x12, x379000, x379001, x379002, x379003, x394000, x394001 => if x394000 = true then (if 0 ≤ (wrap64 ((wrap64 (x379003 - 1)) - x10)) then (if (wrap64 ((wrap64 (x379003 - 1)) - x10)) < (x7.length : Int) then (if 0 ≤ x9 then (if x9 < ((rd_L2 x7 (wrap64 ((wrap64 (x379003 - 1)) - x10))).length : Int) then (if (x394001.length : Int) = 0 then (some false) else (if (rd (rd_L2 x7 (wrap64 ((wrap64 (x379003 - 1)) - x10))) x9) < 0 then (some false) else (if (rd (rd_L2 x7 (wrap64 ((wrap64 (x379003 - 1)) - x10))) x9) ≥ (x394001.length : Int) then (some false) else (if 0 ≤ (Int.tmod (rd (rd_L2 x7 (wrap64 ((wrap64 (x379003 - 1)) - x10))) x9) (x394001.length : Int)) then (if (Int.tmod (rd (rd_L2 x7 (wrap64 ((wrap64 (x379003 - 1)) - x10))) x9) (x394001.length : Int)) < (x394001.length : Int) then (skolemlaw35_PuzzleGuided.l0 k x1 x5 x7 (rd x394001 (Int.tmod (rd (rd_L2 x7 (wrap64 ((wrap64 (x379003 - 1)) - x10))) x9) (x394001.length : Int))) (wrap64 (x10 + 1)) x379000 x379001 x379002 x379003) else (none)) else (none))))) else (none)) else (none)) else (none)) else (none)) else (if (x394001.length : Int) = 0 then (some false) else (if x12 < 0 then (some false) else (if 0 ≤ (Int.tmod x12 (x394001.length : Int)) then (if (Int.tmod x12 (x394001.length : Int)) < (x394001.length : Int) then (skolemlaw35_PuzzleGuided.l0 k x1 x5 x7 (rd x394001 (Int.tmod x12 (x394001.length : Int))) (wrap64 (x10 + 1)) x379000 x379001 x379002 x379003) else (none)) else (none))))
end
def skolemlaw35_PuzzleGuided.f (k : Nat) (l0_0 : List (S55)) (a0_1 : Int) (l0_2 : List Int) (a0_3 : Int) (l1 : List Int) : Option (Bool) := (skolemlaw35_large.f k l0_0 a0_1 l0_2 a0_3).bind fun t379 => (if t379 = true then (skolemlaw35_PuzzleGuided.j0 k l1 true l0_0 a0_1 l0_2 a0_3) else ((skolemref35_May.f k l0_0 a0_1 l0_2 a0_3).bind fun t380 => (skolemlaw35_PuzzleGuided.j0 k l1 (!t380) l0_0 a0_1 l0_2 a0_3)))
theorem skolemlaw35_PuzzleGuided.mono_l : ∀ k, (∀ y0 y1 y2 y3 y4 y5, LeO (skolemlaw35_PuzzleGuided.j0 k y0 y1 y2 y3 y4 y5) (skolemlaw35_PuzzleGuided.j0 (k + 1) y0 y1 y2 y3 y4 y5)) ∧ (∀ y0 y1 y2 y3 y4 y5 y6 y7, LeO (skolemlaw35_PuzzleGuided.j1 k y0 y1 y2 y3 y4 y5 y6 y7) (skolemlaw35_PuzzleGuided.j1 (k + 1) y0 y1 y2 y3 y4 y5 y6 y7)) ∧ (∀ y0 y1 y2 y3 y4 y5 y6 y7 y8, LeO (skolemlaw35_PuzzleGuided.l0 k y0 y1 y2 y3 y4 y5 y6 y7 y8) (skolemlaw35_PuzzleGuided.l0 (k + 1) y0 y1 y2 y3 y4 y5 y6 y7 y8)) ∧ (∀ y0 y1 y2 y3 y4 y5 y6 y7 y8 y9, LeO (skolemlaw35_PuzzleGuided.j3 k y0 y1 y2 y3 y4 y5 y6 y7 y8 y9) (skolemlaw35_PuzzleGuided.j3 (k + 1) y0 y1 y2 y3 y4 y5 y6 y7 y8 y9)) ∧ (∀ y0 y1 y2 y3 y4 y5 y6 y7 y8 y9 y10 y11, LeO (skolemlaw35_PuzzleGuided.j4 k y0 y1 y2 y3 y4 y5 y6 y7 y8 y9 y10 y11) (skolemlaw35_PuzzleGuided.j4 (k + 1) y0 y1 y2 y3 y4 y5 y6 y7 y8 y9 y10 y11))
  | 0 => ⟨fun _ _ _ _ _ _ r h => by simp [skolemlaw35_PuzzleGuided.j0] at h, fun _ _ _ _ _ _ _ _ r h => by simp [skolemlaw35_PuzzleGuided.j1] at h, fun _ _ _ _ _ _ _ _ _ r h => by simp [skolemlaw35_PuzzleGuided.l0] at h, fun _ _ _ _ _ _ _ _ _ _ r h => by simp [skolemlaw35_PuzzleGuided.j3] at h, fun _ _ _ _ _ _ _ _ _ _ _ _ r h => by simp [skolemlaw35_PuzzleGuided.j4] at h⟩
  | k + 1 => by
    obtain ⟨ih0, ih1, ih2, ih3, ih4⟩ := skolemlaw35_PuzzleGuided.mono_l k
    refine ⟨?_, ?_, ?_, ?_, ?_⟩
    · intro y0 y1 y2 y3 y4 y5
      unfold skolemlaw35_PuzzleGuided.j0
      repeat' first
      | (with_reducible exact ih0 _ _ _ _ _ _)
      | (with_reducible exact ih1 _ _ _ _ _ _ _ _)
      | (with_reducible exact ih2 _ _ _ _ _ _ _ _ _)
      | (with_reducible exact ih3 _ _ _ _ _ _ _ _ _ _)
      | (with_reducible exact ih4 _ _ _ _ _ _ _ _ _ _ _ _)
      | (with_reducible exact skolemlaw35_head.mono _)
      | (with_reducible exact skolemlaw35_large.mono _ _ _ _ _)
      | (with_reducible exact skolemref03_Has.mono _ _ _)
      | (with_reducible exact skolemref35_May.mono _ _ _ _ _)
      | (with_reducible exact LeO.refl _)
      | (with_reducible exact LeO.none _)
      | (with_reducible refine LeO.ite ?_ ?_)
      | (with_reducible refine LeO.bind ?_ (fun _ => ?_))
      | exact ih0 _ _ _ _ _ _
      | exact ih1 _ _ _ _ _ _ _ _
      | exact ih2 _ _ _ _ _ _ _ _ _
      | exact ih3 _ _ _ _ _ _ _ _ _ _
      | exact ih4 _ _ _ _ _ _ _ _ _ _ _ _
      | exact skolemlaw35_head.mono _
      | exact skolemlaw35_large.mono _ _ _ _ _
      | exact skolemref03_Has.mono _ _ _
      | exact skolemref35_May.mono _ _ _ _ _
      | exact LeO.none _
      | refine LeO.ite ?_ ?_
      | refine LeO.bind ?_ (fun _ => ?_)
    · intro y0 y1 y2 y3 y4 y5 y6 y7
      unfold skolemlaw35_PuzzleGuided.j1
      repeat' first
      | (with_reducible exact ih0 _ _ _ _ _ _)
      | (with_reducible exact ih1 _ _ _ _ _ _ _ _)
      | (with_reducible exact ih2 _ _ _ _ _ _ _ _ _)
      | (with_reducible exact ih3 _ _ _ _ _ _ _ _ _ _)
      | (with_reducible exact ih4 _ _ _ _ _ _ _ _ _ _ _ _)
      | (with_reducible exact skolemlaw35_head.mono _)
      | (with_reducible exact skolemlaw35_large.mono _ _ _ _ _)
      | (with_reducible exact skolemref03_Has.mono _ _ _)
      | (with_reducible exact skolemref35_May.mono _ _ _ _ _)
      | (with_reducible exact LeO.refl _)
      | (with_reducible exact LeO.none _)
      | (with_reducible refine LeO.ite ?_ ?_)
      | (with_reducible refine LeO.bind ?_ (fun _ => ?_))
      | exact ih0 _ _ _ _ _ _
      | exact ih1 _ _ _ _ _ _ _ _
      | exact ih2 _ _ _ _ _ _ _ _ _
      | exact ih3 _ _ _ _ _ _ _ _ _ _
      | exact ih4 _ _ _ _ _ _ _ _ _ _ _ _
      | exact skolemlaw35_head.mono _
      | exact skolemlaw35_large.mono _ _ _ _ _
      | exact skolemref03_Has.mono _ _ _
      | exact skolemref35_May.mono _ _ _ _ _
      | exact LeO.none _
      | refine LeO.ite ?_ ?_
      | refine LeO.bind ?_ (fun _ => ?_)
    · intro y0 y1 y2 y3 y4 y5 y6 y7 y8
      unfold skolemlaw35_PuzzleGuided.l0
      repeat' first
      | (with_reducible exact ih0 _ _ _ _ _ _)
      | (with_reducible exact ih1 _ _ _ _ _ _ _ _)
      | (with_reducible exact ih2 _ _ _ _ _ _ _ _ _)
      | (with_reducible exact ih3 _ _ _ _ _ _ _ _ _ _)
      | (with_reducible exact ih4 _ _ _ _ _ _ _ _ _ _ _ _)
      | (with_reducible exact skolemlaw35_head.mono _)
      | (with_reducible exact skolemlaw35_large.mono _ _ _ _ _)
      | (with_reducible exact skolemref03_Has.mono _ _ _)
      | (with_reducible exact skolemref35_May.mono _ _ _ _ _)
      | (with_reducible exact LeO.refl _)
      | (with_reducible exact LeO.none _)
      | (with_reducible refine LeO.ite ?_ ?_)
      | (with_reducible refine LeO.bind ?_ (fun _ => ?_))
      | exact ih0 _ _ _ _ _ _
      | exact ih1 _ _ _ _ _ _ _ _
      | exact ih2 _ _ _ _ _ _ _ _ _
      | exact ih3 _ _ _ _ _ _ _ _ _ _
      | exact ih4 _ _ _ _ _ _ _ _ _ _ _ _
      | exact skolemlaw35_head.mono _
      | exact skolemlaw35_large.mono _ _ _ _ _
      | exact skolemref03_Has.mono _ _ _
      | exact skolemref35_May.mono _ _ _ _ _
      | exact LeO.none _
      | refine LeO.ite ?_ ?_
      | refine LeO.bind ?_ (fun _ => ?_)
    · intro y0 y1 y2 y3 y4 y5 y6 y7 y8 y9
      unfold skolemlaw35_PuzzleGuided.j3
      repeat' first
      | (with_reducible exact ih0 _ _ _ _ _ _)
      | (with_reducible exact ih1 _ _ _ _ _ _ _ _)
      | (with_reducible exact ih2 _ _ _ _ _ _ _ _ _)
      | (with_reducible exact ih3 _ _ _ _ _ _ _ _ _ _)
      | (with_reducible exact ih4 _ _ _ _ _ _ _ _ _ _ _ _)
      | (with_reducible exact skolemlaw35_head.mono _)
      | (with_reducible exact skolemlaw35_large.mono _ _ _ _ _)
      | (with_reducible exact skolemref03_Has.mono _ _ _)
      | (with_reducible exact skolemref35_May.mono _ _ _ _ _)
      | (with_reducible exact LeO.refl _)
      | (with_reducible exact LeO.none _)
      | (with_reducible refine LeO.ite ?_ ?_)
      | (with_reducible refine LeO.bind ?_ (fun _ => ?_))
      | exact ih0 _ _ _ _ _ _
      | exact ih1 _ _ _ _ _ _ _ _
      | exact ih2 _ _ _ _ _ _ _ _ _
      | exact ih3 _ _ _ _ _ _ _ _ _ _
      | exact ih4 _ _ _ _ _ _ _ _ _ _ _ _
      | exact skolemlaw35_head.mono _
      | exact skolemlaw35_large.mono _ _ _ _ _
      | exact skolemref03_Has.mono _ _ _
      | exact skolemref35_May.mono _ _ _ _ _
      | exact LeO.none _
      | refine LeO.ite ?_ ?_
      | refine LeO.bind ?_ (fun _ => ?_)
    · intro y0 y1 y2 y3 y4 y5 y6 y7 y8 y9 y10 y11
      unfold skolemlaw35_PuzzleGuided.j4
      repeat' first
      | (with_reducible exact ih0 _ _ _ _ _ _)
      | (with_reducible exact ih1 _ _ _ _ _ _ _ _)
      | (with_reducible exact ih2 _ _ _ _ _ _ _ _ _)
      | (with_reducible exact ih3 _ _ _ _ _ _ _ _ _ _)
      | (with_reducible exact ih4 _ _ _ _ _ _ _ _ _ _ _ _)
      | (with_reducible exact skolemlaw35_head.mono _)
      | (with_reducible exact skolemlaw35_large.mono _ _ _ _ _)
      | (with_reducible exact skolemref03_Has.mono _ _ _)
      | (with_reducible exact skolemref35_May.mono _ _ _ _ _)
      | (with_reducible exact LeO.refl _)
      | (with_reducible exact LeO.none _)
      | (with_reducible refine LeO.ite ?_ ?_)
      | (with_reducible refine LeO.bind ?_ (fun _ => ?_))
      | exact ih0 _ _ _ _ _ _
      | exact ih1 _ _ _ _ _ _ _ _
      | exact ih2 _ _ _ _ _ _ _ _ _
      | exact ih3 _ _ _ _ _ _ _ _ _ _
      | exact ih4 _ _ _ _ _ _ _ _ _ _ _ _
      | exact skolemlaw35_head.mono _
      | exact skolemlaw35_large.mono _ _ _ _ _
      | exact skolemref03_Has.mono _ _ _
      | exact skolemref35_May.mono _ _ _ _ _
      | exact LeO.none _
      | refine LeO.ite ?_ ?_
      | refine LeO.bind ?_ (fun _ => ?_)
theorem skolemlaw35_PuzzleGuided.mono : ∀ a0 a1 a2 a3 a4 k, LeO (skolemlaw35_PuzzleGuided.f k a0 a1 a2 a3 a4) (skolemlaw35_PuzzleGuided.f (k + 1) a0 a1 a2 a3 a4) := by
  intro a0 a1 a2 a3 a4 k
  obtain ⟨ih0, ih1, ih2, ih3, ih4⟩ := skolemlaw35_PuzzleGuided.mono_l k
  unfold skolemlaw35_PuzzleGuided.f
  repeat' first
      | (with_reducible exact ih0 _ _ _ _ _ _)
      | (with_reducible exact ih1 _ _ _ _ _ _ _ _)
      | (with_reducible exact ih2 _ _ _ _ _ _ _ _ _)
      | (with_reducible exact ih3 _ _ _ _ _ _ _ _ _ _)
      | (with_reducible exact ih4 _ _ _ _ _ _ _ _ _ _ _ _)
      | (with_reducible exact skolemlaw35_head.mono _)
      | (with_reducible exact skolemlaw35_large.mono _ _ _ _ _)
      | (with_reducible exact skolemref03_Has.mono _ _ _)
      | (with_reducible exact skolemref35_May.mono _ _ _ _ _)
      | (with_reducible exact LeO.refl _)
      | (with_reducible exact LeO.none _)
      | (with_reducible refine LeO.ite ?_ ?_)
      | (with_reducible refine LeO.bind ?_ (fun _ => ?_))
      | exact ih0 _ _ _ _ _ _
      | exact ih1 _ _ _ _ _ _ _ _
      | exact ih2 _ _ _ _ _ _ _ _ _
      | exact ih3 _ _ _ _ _ _ _ _ _ _
      | exact ih4 _ _ _ _ _ _ _ _ _ _ _ _
      | exact skolemlaw35_head.mono _
      | exact skolemlaw35_large.mono _ _ _ _ _
      | exact skolemref03_Has.mono _ _ _
      | exact skolemref35_May.mono _ _ _ _ _
      | exact LeO.none _
      | refine LeO.ite ?_ ?_
      | refine LeO.bind ?_ (fun _ => ?_)
set_option maxHeartbeats 8000000 in
set_option maxRecDepth 100000 in
theorem skolemlaw35_PuzzleGuided.callsT (k : Nat) (A0_0 : Option Addr) (c0_0 : Nat) (l0_0 : List (S55)) (a0_1 : Int) (A0_2 : Option Addr) (c0_2 : Nat) (l0_2 : List Int) (a0_3 : Int) (A1 : Option Addr) (c1 : Nat) (l1 : List Int) (r : Bool) (hr_ : r = true) (w : World) (hr0_0 : Kd.C k55 w A0_0 l0_0.length l0_0) (hc0_0 : l0_0.length ≤ c0_0) (hr0_2 : Kd.C (Kd.int .i64) w A0_2 l0_2.length l0_2) (hc0_2 : l0_2.length ≤ c0_2) (hr1 : Kd.C (Kd.int .u8) w A1 l1.length l1) (hc1 : l1.length ≤ c1) (h : skolemlaw35_PuzzleGuided.f k l0_0 a0_1 l0_2 a0_3 l1 = some r) :
    Calls Try.prog 5 #[.agg #[.slice A0_0 l0_0.length c0_0, .int .i64 a0_1, .slice A0_2 l0_2.length c0_2, .int .i64 a0_3], .slice A1 l1.length c1] w fun e w' => e = .returned (.bool r) ∧ Below w.heap.size w w' := by
  have hu25 := Try.underlying25
  have hu55 := Try.underlying55
  have HR0_0 := Aside0.mk hr0_0
  have HC0_0 := Aside0.mk hc0_0
  clear hr0_0 hc0_0
  have HR0_2 := Aside0.mk hr0_2
  have HC0_2 := Aside0.mk hc0_2
  clear hr0_2 hc0_2
  have HR1 := Aside0.mk hr1
  have HC1 := Aside0.mk hc1
  clear hr1 hc1
  have HT_ := Aside0.mk hr_
  clear hr_
  have HB := Aside0.mk (Below.refl w.heap.size w)
  have H : ((skolemlaw35_large.f k l0_0 a0_1 l0_2 a0_3).bind fun t379 => (if t379 = true then (skolemlaw35_PuzzleGuided.j0 k l1 true l0_0 a0_1 l0_2 a0_3) else ((skolemref35_May.f k l0_0 a0_1 l0_2 a0_3).bind fun t380 => (skolemlaw35_PuzzleGuided.j0 k l1 (!t380) l0_0 a0_1 l0_2 a0_3)))) = some r := h
  clear h
  have HC3 := Aside0.mk H
  clear H
  go_enter Try.func5, Try.ntmps5
  go_upto_region 1 with (first | ((with_reducible refine gate_dst (N := 2) rfl ?_); (try (refine gate_guard (by rfl) ?_; dsimp only)); refine box_event ?hg (N := 2) ?hd (cs := #[.slice A0_0 l0_0.length c0_0, .int .i64 a0_1, .slice A0_2 l0_2.length c0_2, .int .i64 a0_3]) (t := 25) ?hr ?_; (case hd => rfl); (case hg => rfl); (case hr => first | (go_simp; done) | (go_simp; rfl)); intro gb378 hg w4 hbox hb; have n0_ := Aside0.mk (below_step (by repeat (first | (with_reducible first | exact HB.out | apply below_alloc | apply pw_below_drewN | apply below_drew1) | exact HB.out)) hb); have n1_ := Aside0.mk (hbox); have n2_ := Aside0.mk ((by rw [hg]; exact (below_size (by repeat (first | (with_reducible first | exact HB.out | apply below_alloc | apply pw_below_drewN | apply below_drew1) | exact HB.out))) : w.heap.size ≤ gb378)); have n3_ := Aside0.mk ((by rw [hg]; exact (below_size (by repeat (first | (with_reducible first | exact HB.out | apply below_alloc | apply pw_below_drewN | apply below_drew1) | exact HB.out))) : w.heap.size ≤ gb378)); clear HB; have HB := n0_; have BK378 := n1_; have GW378 := n2_; have GE378 := n3_; clear n0_ n1_ n2_ n3_; clear hb hbox hg))
  repeat (go_quiet (first | ((with_reducible refine gate_dst (N := 2) rfl ?_); (try (refine gate_guard (by rfl) ?_; dsimp only)); refine box_event ?hg (N := 2) ?hd (cs := #[.slice A0_0 l0_0.length c0_0, .int .i64 a0_1, .slice A0_2 l0_2.length c0_2, .int .i64 a0_3]) (t := 25) ?hr ?_; (case hd => rfl); (case hg => rfl); (case hr => first | (go_simp; done) | (go_simp; rfl)); intro gb378 hg w4 hbox hb; have n0_ := Aside0.mk (below_step (by repeat (first | (with_reducible first | exact HB.out | apply below_alloc | apply pw_below_drewN | apply below_drew1) | exact HB.out)) hb); have n1_ := Aside0.mk (hbox); have n2_ := Aside0.mk ((by rw [hg]; exact (below_size (by repeat (first | (with_reducible first | exact HB.out | apply below_alloc | apply pw_below_drewN | apply below_drew1) | exact HB.out))) : w.heap.size ≤ gb378)); have n3_ := Aside0.mk ((by rw [hg]; exact (below_size (by repeat (first | (with_reducible first | exact HB.out | apply below_alloc | apply pw_below_drewN | apply below_drew1) | exact HB.out))) : w.heap.size ≤ gb378)); clear HB; have HB := n0_; have BK378 := n1_; have GW378 := n2_; have GE378 := n3_; clear n0_ n1_ n2_ n3_; clear hb hbox hg)); go_upto_region 1 with (first | ((with_reducible refine gate_dst (N := 2) rfl ?_); (try (refine gate_guard (by rfl) ?_; dsimp only)); refine box_event ?hg (N := 2) ?hd (cs := #[.slice A0_0 l0_0.length c0_0, .int .i64 a0_1, .slice A0_2 l0_2.length c0_2, .int .i64 a0_3]) (t := 25) ?hr ?_; (case hd => rfl); (case hg => rfl); (case hr => first | (go_simp; done) | (go_simp; rfl)); intro gb378 hg w4 hbox hb; have n0_ := Aside0.mk (below_step (by repeat (first | (with_reducible first | exact HB.out | apply below_alloc | apply pw_below_drewN | apply below_drew1) | exact HB.out)) hb); have n1_ := Aside0.mk (hbox); have n2_ := Aside0.mk ((by rw [hg]; exact (below_size (by repeat (first | (with_reducible first | exact HB.out | apply below_alloc | apply pw_below_drewN | apply below_drew1) | exact HB.out))) : w.heap.size ≤ gb378)); have n3_ := Aside0.mk ((by rw [hg]; exact (below_size (by repeat (first | (with_reducible first | exact HB.out | apply below_alloc | apply pw_below_drewN | apply below_drew1) | exact HB.out))) : w.heap.size ≤ gb378)); clear HB; have HB := n0_; have BK378 := n1_; have GW378 := n2_; have GE378 := n3_; clear n0_ n1_ n2_ n3_; clear hb hbox hg)))
  (try simp only [Act.put, List.setIfInBounds_toArray, List.set_cons_zero, List.set_cons_succ])
  go_cut [19] (fun v19 wc => ∃ (kq : Nat) (x19_2 : Bool), v19 = .bool x19_2 ∧ Aside0 (skolemlaw35_PuzzleGuided.j0 kq l1 x19_2 l0_0 a0_1 l0_2 a0_3 = some r) ∧ Aside0 (kq ≤ k) ∧ Aside0 (wc.heap[gb378]? = some (.cells #[(.slice A0_0 l0_0.length c0_0), .int .i64 a0_1, (.slice A0_2 l0_2.length c0_2), .int .i64 a0_3] 25 (0, 0))) ∧ Aside0 (Below w.heap.size w wc))
  case first =>
    have H := HC3.out
    clear HC3
    replace H := Option.bind_eq_some_iff.mp H
    obtain ⟨t379, A50, H⟩ := H
    replace H : (if t379 = true then (skolemlaw35_PuzzleGuided.j0 k l1 true l0_0 a0_1 l0_2 a0_3) else ((skolemref35_May.f k l0_0 a0_1 l0_2 a0_3).bind fun t380 => (skolemlaw35_PuzzleGuided.j0 k l1 (!t380) l0_0 a0_1 l0_2 a0_3))) = some r := H
    have A5 := Aside0.mk A50
    clear A50
    by_cases c6 : t379 = true
    · subst c6
      have H1 : (skolemlaw35_PuzzleGuided.j0 k l1 true l0_0 a0_1 l0_2 a0_3) = some r := by rw [if_pos rfl] at H; exact H
      clear H
      have H := H1
      clear H1
      have H' := Aside0.mk H
      clear H
      have hcz7_0 : w4.cell? ⟨gb378, 0, none⟩ = some (.slice A0_0 l0_0.length c0_0) := (blk_cell BK378.out 0).trans rfl
      have hcz7_1 : w4.cell? ⟨gb378, 1, none⟩ = some (.int .i64 a0_1) := (blk_cell BK378.out 1).trans rfl
      have hcz7_2 : w4.cell? ⟨gb378, 2, none⟩ = some (.slice A0_2 l0_2.length c0_2) := (blk_cell BK378.out 2).trans rfl
      have hcz7_3 : w4.cell? ⟨gb378, 3, none⟩ = some (.int .i64 a0_3) := (blk_cell BK378.out 3).trans rfl
      have hfz7_0 := blk_frozen BK378.out 0
      have hfz7_1 := blk_frozen BK378.out 1
      have hfz7_2 := blk_frozen BK378.out 2
      have hfz7_3 := blk_frozen BK378.out 3
      go_wp2_with (first | (go_at_call 8; (with_reducible refine (skolemlaw35_large.calls k _ _ l0_0 a0_1 _ _ l0_2 a0_3 true _ ?side1 ?side2 ?side3 ?side4 A5.out).mono ?_); (case side1 => repeat (first | exact (Kd.C_below HR0_0.out HB.out) | (with_reducible refine Kd.C_alloc ?_ _) | (with_reducible refine Kd.C_drewN ?_ _) | (with_reducible refine Kd.C_drew ?_))); (case side2 => exact HC0_0.out); (case side3 => repeat (first | exact (Kd.C_below HR0_2.out HB.out) | (with_reducible refine Kd.C_alloc ?_ _) | (with_reducible refine Kd.C_drewN ?_ _) | (with_reducible refine Kd.C_drew ?_))); (case side4 => exact HC0_2.out); rintro e w8 ⟨rfl, hb⟩; have n0_ := Aside0.mk (blk_below (g := gb378) (o := .cells #[.slice A0_0 l0_0.length c0_0, .int .i64 a0_1, .slice A0_2 l0_2.length c0_2, .int .i64 a0_3] 25 (0, 0)) (by (with_reducible repeat (first | refine blk_drewN ?_ _ | refine blk_drew ?_ | refine blk_alloc ?_ _)); exact BK378.out) hb); have n1_ := Aside0.mk (below_step (by repeat (first | (with_reducible first | exact HB.out | apply below_alloc | apply pw_below_drewN | apply below_drew1 | refine below_set ?_ GE378.out) | exact HB.out)) hb); clear BK378; clear HB; have BK378 := n0_; have HB := n1_; clear n0_ n1_; (try clear hb); (try clear hb2); (try clear hk); (try clear hi)))
      repeat (go_quiet (first | (go_at_call 8; (with_reducible refine (skolemlaw35_large.calls k _ _ l0_0 a0_1 _ _ l0_2 a0_3 true _ ?side1 ?side2 ?side3 ?side4 A5.out).mono ?_); (case side1 => repeat (first | exact (Kd.C_below HR0_0.out HB.out) | (with_reducible refine Kd.C_alloc ?_ _) | (with_reducible refine Kd.C_drewN ?_ _) | (with_reducible refine Kd.C_drew ?_))); (case side2 => exact HC0_0.out); (case side3 => repeat (first | exact (Kd.C_below HR0_2.out HB.out) | (with_reducible refine Kd.C_alloc ?_ _) | (with_reducible refine Kd.C_drewN ?_ _) | (with_reducible refine Kd.C_drew ?_))); (case side4 => exact HC0_2.out); rintro e w8 ⟨rfl, hb⟩; have n0_ := Aside0.mk (blk_below (g := gb378) (o := .cells #[.slice A0_0 l0_0.length c0_0, .int .i64 a0_1, .slice A0_2 l0_2.length c0_2, .int .i64 a0_3] 25 (0, 0)) (by (with_reducible repeat (first | refine blk_drewN ?_ _ | refine blk_drew ?_ | refine blk_alloc ?_ _)); exact BK378.out) hb); have n1_ := Aside0.mk (below_step (by repeat (first | (with_reducible first | exact HB.out | apply below_alloc | apply pw_below_drewN | apply below_drew1 | refine below_set ?_ GE378.out) | exact HB.out)) hb); clear BK378; clear HB; have BK378 := n0_; have HB := n1_; clear n0_ n1_; (try clear hb); (try clear hb2); (try clear hk); (try clear hi))); try go_wp2_with (first | (go_at_call 8; (with_reducible refine (skolemlaw35_large.calls k _ _ l0_0 a0_1 _ _ l0_2 a0_3 true _ ?side1 ?side2 ?side3 ?side4 A5.out).mono ?_); (case side1 => repeat (first | exact (Kd.C_below HR0_0.out HB.out) | (with_reducible refine Kd.C_alloc ?_ _) | (with_reducible refine Kd.C_drewN ?_ _) | (with_reducible refine Kd.C_drew ?_))); (case side2 => exact HC0_0.out); (case side3 => repeat (first | exact (Kd.C_below HR0_2.out HB.out) | (with_reducible refine Kd.C_alloc ?_ _) | (with_reducible refine Kd.C_drewN ?_ _) | (with_reducible refine Kd.C_drew ?_))); (case side4 => exact HC0_2.out); rintro e w8 ⟨rfl, hb⟩; have n0_ := Aside0.mk (blk_below (g := gb378) (o := .cells #[.slice A0_0 l0_0.length c0_0, .int .i64 a0_1, .slice A0_2 l0_2.length c0_2, .int .i64 a0_3] 25 (0, 0)) (by (with_reducible repeat (first | refine blk_drewN ?_ _ | refine blk_drew ?_ | refine blk_alloc ?_ _)); exact BK378.out) hb); have n1_ := Aside0.mk (below_step (by repeat (first | (with_reducible first | exact HB.out | apply below_alloc | apply pw_below_drewN | apply below_drew1 | refine below_set ?_ GE378.out) | exact HB.out)) hb); clear BK378; clear HB; have BK378 := n0_; have HB := n1_; clear n0_ n1_; (try clear hb); (try clear hb2); (try clear hk); (try clear hi))))
      go_meet
      case rel => exact ⟨_, (true), (by first | rfl | (simp; done) | (simp [*]; done)), H', ⟨by first | omega | exact Nat.le_refl _⟩, ⟨by (with_reducible repeat (first | refine blk_drewN ?_ _ | refine blk_drew ?_ | refine blk_alloc ?_ _)); exact BK378.out⟩, ⟨by repeat (first | (with_reducible first | exact HB.out | apply below_alloc | apply pw_below_drewN | apply below_drew1 | refine below_set ?_ GE378.out) | exact HB.out)⟩⟩
    · replace c6 := Bool.eq_false_iff.mpr c6
      subst c6
      have H1 : ((skolemref35_May.f k l0_0 a0_1 l0_2 a0_3).bind fun t380 => (skolemlaw35_PuzzleGuided.j0 k l1 (!t380) l0_0 a0_1 l0_2 a0_3)) = some r := by rw [if_neg (show ¬ (false = true) by decide)] at H; exact H
      clear H
      have H := H1
      clear H1
      replace H := Option.bind_eq_some_iff.mp H
      obtain ⟨t380, A90, H⟩ := H
      replace H : (skolemlaw35_PuzzleGuided.j0 k l1 (!t380) l0_0 a0_1 l0_2 a0_3) = some r := H
      have A9 := Aside0.mk A90
      clear A90
      have H' := Aside0.mk H
      clear H
      have hcz10_0 : w4.cell? ⟨gb378, 0, none⟩ = some (.slice A0_0 l0_0.length c0_0) := (blk_cell BK378.out 0).trans rfl
      have hcz10_1 : w4.cell? ⟨gb378, 1, none⟩ = some (.int .i64 a0_1) := (blk_cell BK378.out 1).trans rfl
      have hcz10_2 : w4.cell? ⟨gb378, 2, none⟩ = some (.slice A0_2 l0_2.length c0_2) := (blk_cell BK378.out 2).trans rfl
      have hcz10_3 : w4.cell? ⟨gb378, 3, none⟩ = some (.int .i64 a0_3) := (blk_cell BK378.out 3).trans rfl
      have hfz10_0 := blk_frozen BK378.out 0
      have hfz10_1 := blk_frozen BK378.out 1
      have hfz10_2 := blk_frozen BK378.out 2
      have hfz10_3 := blk_frozen BK378.out 3
      go_wp2_with (first | (go_at_call 8; (with_reducible refine (skolemlaw35_large.calls k _ _ l0_0 a0_1 _ _ l0_2 a0_3 false _ ?side1 ?side2 ?side3 ?side4 A5.out).mono ?_); (case side1 => repeat (first | exact (Kd.C_below HR0_0.out HB.out) | (with_reducible refine Kd.C_alloc ?_ _) | (with_reducible refine Kd.C_drewN ?_ _) | (with_reducible refine Kd.C_drew ?_))); (case side2 => exact HC0_0.out); (case side3 => repeat (first | exact (Kd.C_below HR0_2.out HB.out) | (with_reducible refine Kd.C_alloc ?_ _) | (with_reducible refine Kd.C_drewN ?_ _) | (with_reducible refine Kd.C_drew ?_))); (case side4 => exact HC0_2.out); rintro e w11 ⟨rfl, hb⟩; have n0_ := Aside0.mk (blk_below (g := gb378) (o := .cells #[.slice A0_0 l0_0.length c0_0, .int .i64 a0_1, .slice A0_2 l0_2.length c0_2, .int .i64 a0_3] 25 (0, 0)) (by (with_reducible repeat (first | refine blk_drewN ?_ _ | refine blk_drew ?_ | refine blk_alloc ?_ _)); exact BK378.out) hb); have n1_ := Aside0.mk (below_step (by repeat (first | (with_reducible first | exact HB.out | apply below_alloc | apply pw_below_drewN | apply below_drew1 | refine below_set ?_ GE378.out) | exact HB.out)) hb); clear BK378; clear HB; have BK378 := n0_; have HB := n1_; clear n0_ n1_; (try clear hb); (try clear hb2); (try clear hk); (try clear hi); have hcz12_0 : w11.cell? ⟨gb378, 0, none⟩ = some (.slice A0_0 l0_0.length c0_0) := (blk_cell BK378.out 0).trans rfl; have hcz12_1 : w11.cell? ⟨gb378, 1, none⟩ = some (.int .i64 a0_1) := (blk_cell BK378.out 1).trans rfl; have hcz12_2 : w11.cell? ⟨gb378, 2, none⟩ = some (.slice A0_2 l0_2.length c0_2) := (blk_cell BK378.out 2).trans rfl; have hcz12_3 : w11.cell? ⟨gb378, 3, none⟩ = some (.int .i64 a0_3) := (blk_cell BK378.out 3).trans rfl; have hfz12_0 := blk_frozen BK378.out 0; have hfz12_1 := blk_frozen BK378.out 1; have hfz12_2 := blk_frozen BK378.out 2; have hfz12_3 := blk_frozen BK378.out 3) | (go_at_call 19; (with_reducible refine (skolemref35_May.calls k _ _ l0_0 a0_1 _ _ l0_2 a0_3 t380 _ ?side1 ?side2 ?side3 ?side4 A9.out).mono ?_); (case side1 => repeat (first | exact (Kd.C_below HR0_0.out HB.out) | (with_reducible refine Kd.C_alloc ?_ _) | (with_reducible refine Kd.C_drewN ?_ _) | (with_reducible refine Kd.C_drew ?_))); (case side2 => exact HC0_0.out); (case side3 => repeat (first | exact (Kd.C_below HR0_2.out HB.out) | (with_reducible refine Kd.C_alloc ?_ _) | (with_reducible refine Kd.C_drewN ?_ _) | (with_reducible refine Kd.C_drew ?_))); (case side4 => exact HC0_2.out); rintro e w13 ⟨rfl, hb⟩; have n0_ := Aside0.mk (blk_below (g := gb378) (o := .cells #[.slice A0_0 l0_0.length c0_0, .int .i64 a0_1, .slice A0_2 l0_2.length c0_2, .int .i64 a0_3] 25 (0, 0)) (by (with_reducible repeat (first | refine blk_drewN ?_ _ | refine blk_drew ?_ | refine blk_alloc ?_ _)); exact BK378.out) hb); have n1_ := Aside0.mk (below_step (by repeat (first | (with_reducible first | exact HB.out | apply below_alloc | apply pw_below_drewN | apply below_drew1 | refine below_set ?_ GE378.out) | exact HB.out)) hb); clear BK378; clear HB; have BK378 := n0_; have HB := n1_; clear n0_ n1_; (try clear hb); (try clear hb2); (try clear hk); (try clear hi)))
      repeat (go_quiet (first | (go_at_call 8; (with_reducible refine (skolemlaw35_large.calls k _ _ l0_0 a0_1 _ _ l0_2 a0_3 false _ ?side1 ?side2 ?side3 ?side4 A5.out).mono ?_); (case side1 => repeat (first | exact (Kd.C_below HR0_0.out HB.out) | (with_reducible refine Kd.C_alloc ?_ _) | (with_reducible refine Kd.C_drewN ?_ _) | (with_reducible refine Kd.C_drew ?_))); (case side2 => exact HC0_0.out); (case side3 => repeat (first | exact (Kd.C_below HR0_2.out HB.out) | (with_reducible refine Kd.C_alloc ?_ _) | (with_reducible refine Kd.C_drewN ?_ _) | (with_reducible refine Kd.C_drew ?_))); (case side4 => exact HC0_2.out); rintro e w11 ⟨rfl, hb⟩; have n0_ := Aside0.mk (blk_below (g := gb378) (o := .cells #[.slice A0_0 l0_0.length c0_0, .int .i64 a0_1, .slice A0_2 l0_2.length c0_2, .int .i64 a0_3] 25 (0, 0)) (by (with_reducible repeat (first | refine blk_drewN ?_ _ | refine blk_drew ?_ | refine blk_alloc ?_ _)); exact BK378.out) hb); have n1_ := Aside0.mk (below_step (by repeat (first | (with_reducible first | exact HB.out | apply below_alloc | apply pw_below_drewN | apply below_drew1 | refine below_set ?_ GE378.out) | exact HB.out)) hb); clear BK378; clear HB; have BK378 := n0_; have HB := n1_; clear n0_ n1_; (try clear hb); (try clear hb2); (try clear hk); (try clear hi); have hcz12_0 : w11.cell? ⟨gb378, 0, none⟩ = some (.slice A0_0 l0_0.length c0_0) := (blk_cell BK378.out 0).trans rfl; have hcz12_1 : w11.cell? ⟨gb378, 1, none⟩ = some (.int .i64 a0_1) := (blk_cell BK378.out 1).trans rfl; have hcz12_2 : w11.cell? ⟨gb378, 2, none⟩ = some (.slice A0_2 l0_2.length c0_2) := (blk_cell BK378.out 2).trans rfl; have hcz12_3 : w11.cell? ⟨gb378, 3, none⟩ = some (.int .i64 a0_3) := (blk_cell BK378.out 3).trans rfl; have hfz12_0 := blk_frozen BK378.out 0; have hfz12_1 := blk_frozen BK378.out 1; have hfz12_2 := blk_frozen BK378.out 2; have hfz12_3 := blk_frozen BK378.out 3) | (go_at_call 19; (with_reducible refine (skolemref35_May.calls k _ _ l0_0 a0_1 _ _ l0_2 a0_3 t380 _ ?side1 ?side2 ?side3 ?side4 A9.out).mono ?_); (case side1 => repeat (first | exact (Kd.C_below HR0_0.out HB.out) | (with_reducible refine Kd.C_alloc ?_ _) | (with_reducible refine Kd.C_drewN ?_ _) | (with_reducible refine Kd.C_drew ?_))); (case side2 => exact HC0_0.out); (case side3 => repeat (first | exact (Kd.C_below HR0_2.out HB.out) | (with_reducible refine Kd.C_alloc ?_ _) | (with_reducible refine Kd.C_drewN ?_ _) | (with_reducible refine Kd.C_drew ?_))); (case side4 => exact HC0_2.out); rintro e w13 ⟨rfl, hb⟩; have n0_ := Aside0.mk (blk_below (g := gb378) (o := .cells #[.slice A0_0 l0_0.length c0_0, .int .i64 a0_1, .slice A0_2 l0_2.length c0_2, .int .i64 a0_3] 25 (0, 0)) (by (with_reducible repeat (first | refine blk_drewN ?_ _ | refine blk_drew ?_ | refine blk_alloc ?_ _)); exact BK378.out) hb); have n1_ := Aside0.mk (below_step (by repeat (first | (with_reducible first | exact HB.out | apply below_alloc | apply pw_below_drewN | apply below_drew1 | refine below_set ?_ GE378.out) | exact HB.out)) hb); clear BK378; clear HB; have BK378 := n0_; have HB := n1_; clear n0_ n1_; (try clear hb); (try clear hb2); (try clear hk); (try clear hi))); try go_wp2_with (first | (go_at_call 8; (with_reducible refine (skolemlaw35_large.calls k _ _ l0_0 a0_1 _ _ l0_2 a0_3 false _ ?side1 ?side2 ?side3 ?side4 A5.out).mono ?_); (case side1 => repeat (first | exact (Kd.C_below HR0_0.out HB.out) | (with_reducible refine Kd.C_alloc ?_ _) | (with_reducible refine Kd.C_drewN ?_ _) | (with_reducible refine Kd.C_drew ?_))); (case side2 => exact HC0_0.out); (case side3 => repeat (first | exact (Kd.C_below HR0_2.out HB.out) | (with_reducible refine Kd.C_alloc ?_ _) | (with_reducible refine Kd.C_drewN ?_ _) | (with_reducible refine Kd.C_drew ?_))); (case side4 => exact HC0_2.out); rintro e w11 ⟨rfl, hb⟩; have n0_ := Aside0.mk (blk_below (g := gb378) (o := .cells #[.slice A0_0 l0_0.length c0_0, .int .i64 a0_1, .slice A0_2 l0_2.length c0_2, .int .i64 a0_3] 25 (0, 0)) (by (with_reducible repeat (first | refine blk_drewN ?_ _ | refine blk_drew ?_ | refine blk_alloc ?_ _)); exact BK378.out) hb); have n1_ := Aside0.mk (below_step (by repeat (first | (with_reducible first | exact HB.out | apply below_alloc | apply pw_below_drewN | apply below_drew1 | refine below_set ?_ GE378.out) | exact HB.out)) hb); clear BK378; clear HB; have BK378 := n0_; have HB := n1_; clear n0_ n1_; (try clear hb); (try clear hb2); (try clear hk); (try clear hi); have hcz12_0 : w11.cell? ⟨gb378, 0, none⟩ = some (.slice A0_0 l0_0.length c0_0) := (blk_cell BK378.out 0).trans rfl; have hcz12_1 : w11.cell? ⟨gb378, 1, none⟩ = some (.int .i64 a0_1) := (blk_cell BK378.out 1).trans rfl; have hcz12_2 : w11.cell? ⟨gb378, 2, none⟩ = some (.slice A0_2 l0_2.length c0_2) := (blk_cell BK378.out 2).trans rfl; have hcz12_3 : w11.cell? ⟨gb378, 3, none⟩ = some (.int .i64 a0_3) := (blk_cell BK378.out 3).trans rfl; have hfz12_0 := blk_frozen BK378.out 0; have hfz12_1 := blk_frozen BK378.out 1; have hfz12_2 := blk_frozen BK378.out 2; have hfz12_3 := blk_frozen BK378.out 3) | (go_at_call 19; (with_reducible refine (skolemref35_May.calls k _ _ l0_0 a0_1 _ _ l0_2 a0_3 t380 _ ?side1 ?side2 ?side3 ?side4 A9.out).mono ?_); (case side1 => repeat (first | exact (Kd.C_below HR0_0.out HB.out) | (with_reducible refine Kd.C_alloc ?_ _) | (with_reducible refine Kd.C_drewN ?_ _) | (with_reducible refine Kd.C_drew ?_))); (case side2 => exact HC0_0.out); (case side3 => repeat (first | exact (Kd.C_below HR0_2.out HB.out) | (with_reducible refine Kd.C_alloc ?_ _) | (with_reducible refine Kd.C_drewN ?_ _) | (with_reducible refine Kd.C_drew ?_))); (case side4 => exact HC0_2.out); rintro e w13 ⟨rfl, hb⟩; have n0_ := Aside0.mk (blk_below (g := gb378) (o := .cells #[.slice A0_0 l0_0.length c0_0, .int .i64 a0_1, .slice A0_2 l0_2.length c0_2, .int .i64 a0_3] 25 (0, 0)) (by (with_reducible repeat (first | refine blk_drewN ?_ _ | refine blk_drew ?_ | refine blk_alloc ?_ _)); exact BK378.out) hb); have n1_ := Aside0.mk (below_step (by repeat (first | (with_reducible first | exact HB.out | apply below_alloc | apply pw_below_drewN | apply below_drew1 | refine below_set ?_ GE378.out) | exact HB.out)) hb); clear BK378; clear HB; have BK378 := n0_; have HB := n1_; clear n0_ n1_; (try clear hb); (try clear hb2); (try clear hk); (try clear hi))))
      go_meet
      case rel => exact ⟨_, (!t380), (by first | rfl | (simp; done) | (simp [*]; done)), H', ⟨by first | omega | exact Nat.le_refl _⟩, ⟨by (with_reducible repeat (first | refine blk_drewN ?_ _ | refine blk_drew ?_ | refine blk_alloc ?_ _)); exact BK378.out⟩, ⟨by repeat (first | (with_reducible first | exact HB.out | apply below_alloc | apply pw_below_drewN | apply below_drew1 | refine below_set ?_ GE378.out) | exact HB.out)⟩⟩
  case rest =>
    clear HC3
    try clear c1
    try clear p2
    try clear c5
    try clear c6
    try clear hcz10_0
    try clear hcz10_1
    try clear hcz10_2
    try clear hcz10_3
    try clear hcz12_0
    try clear hcz12_1
    try clear hcz12_2
    try clear hcz12_3
    try clear hcz7_0
    try clear hcz7_1
    try clear hcz7_2
    try clear hcz7_3
    try clear hfz10_0
    try clear hfz10_1
    try clear hfz10_2
    try clear hfz10_3
    try clear hfz12_0
    try clear hfz12_1
    try clear hfz12_2
    try clear hfz12_3
    try clear hfz7_0
    try clear hfz7_1
    try clear hfz7_2
    try clear hfz7_3
    obtain ⟨kq, x19_2, rfl, HA, HJ2, BK378, HB⟩ := hcut
    cases kq with
    | zero => exact absurd HA.out (by simp [skolemlaw35_PuzzleGuided.j0])
    | succ kj2 =>
      have H := HA.out
      clear HA
      simp only [skolemlaw35_PuzzleGuided.j0] at H
      by_cases c14 : x19_2 = true
      · subst c14
        have H1 : ((skolemlaw35_head.f kj2).bind fun t381 => (some t381)) = some r := by rw [if_pos rfl] at H; exact H
        clear H
        have H := H1
        clear H1
        replace H := Option.bind_eq_some_iff.mp H
        obtain ⟨t381, A150, H⟩ := H
        replace H : (some t381) = some r := H
        have A15 := Aside0.mk A150
        clear A150
        obtain rfl := Option.some.inj H
        go_wp2_with (first | (go_at_call 9; (with_reducible refine (skolemlaw35_head.calls kj2  t381 _ A15.out).mono ?_); rintro e w16 ⟨rfl, hb⟩; have n0_ := Aside0.mk (blk_below (g := gb378) (o := .cells #[.slice A0_0 l0_0.length c0_0, .int .i64 a0_1, .slice A0_2 l0_2.length c0_2, .int .i64 a0_3] 25 (0, 0)) (by (with_reducible repeat (first | refine blk_drewN ?_ _ | refine blk_drew ?_ | refine blk_alloc ?_ _)); exact BK378.out) hb); have n1_ := Aside0.mk (below_step (by repeat (first | (with_reducible first | exact HB.out | apply below_alloc | apply pw_below_drewN | apply below_drew1 | refine below_set ?_ GE378.out) | exact HB.out)) hb); clear BK378; clear HB; have BK378 := n0_; have HB := n1_; clear n0_ n1_; (try clear hb); (try clear hb2); (try clear hk); (try clear hi)))
        repeat (go_quiet (first | (go_at_call 9; (with_reducible refine (skolemlaw35_head.calls kj2  t381 _ A15.out).mono ?_); rintro e w16 ⟨rfl, hb⟩; have n0_ := Aside0.mk (blk_below (g := gb378) (o := .cells #[.slice A0_0 l0_0.length c0_0, .int .i64 a0_1, .slice A0_2 l0_2.length c0_2, .int .i64 a0_3] 25 (0, 0)) (by (with_reducible repeat (first | refine blk_drewN ?_ _ | refine blk_drew ?_ | refine blk_alloc ?_ _)); exact BK378.out) hb); have n1_ := Aside0.mk (below_step (by repeat (first | (with_reducible first | exact HB.out | apply below_alloc | apply pw_below_drewN | apply below_drew1 | refine below_set ?_ GE378.out) | exact HB.out)) hb); clear BK378; clear HB; have BK378 := n0_; have HB := n1_; clear n0_ n1_; (try clear hb); (try clear hb2); (try clear hk); (try clear hi))); try go_wp2_with (first | (go_at_call 9; (with_reducible refine (skolemlaw35_head.calls kj2  t381 _ A15.out).mono ?_); rintro e w16 ⟨rfl, hb⟩; have n0_ := Aside0.mk (blk_below (g := gb378) (o := .cells #[.slice A0_0 l0_0.length c0_0, .int .i64 a0_1, .slice A0_2 l0_2.length c0_2, .int .i64 a0_3] 25 (0, 0)) (by (with_reducible repeat (first | refine blk_drewN ?_ _ | refine blk_drew ?_ | refine blk_alloc ?_ _)); exact BK378.out) hb); have n1_ := Aside0.mk (below_step (by repeat (first | (with_reducible first | exact HB.out | apply below_alloc | apply pw_below_drewN | apply below_drew1 | refine below_set ?_ GE378.out) | exact HB.out)) hb); clear BK378; clear HB; have BK378 := n0_; have HB := n1_; clear n0_ n1_; (try clear hb); (try clear hb2); (try clear hk); (try clear hi))))
        go_ret
        exact ⟨by first | rfl | (simp [errW_none, errW_some] <;> rfl) | (simp [*, errW_none, errW_some] <;> rfl), by repeat (first | (with_reducible first | exact HB.out | apply below_alloc | apply pw_below_drewN | apply below_drew1 | refine below_set ?_ GE378.out) | exact HB.out)⟩
      · replace c14 := Bool.eq_false_iff.mpr c14
        subst c14
        have H1 : ((puzzle_Wins.f l0_0 a0_1 l0_2 a0_3).bind fun bt382 => ((puzzle_Guide.f l0_0 a0_1 l0_2 a0_3).bind fun bt384 => (if bt382.2 = 0 then (if bt384.2 = 0 then (skolemlaw35_PuzzleGuided.j1 kj2 l1 bt382.1 bt384.1 ((bt384.1.length : Int) != a0_3) l0_0 a0_1 l0_2 a0_3) else (skolemlaw35_PuzzleGuided.j1 kj2 l1 bt382.1 bt384.1 true l0_0 a0_1 l0_2 a0_3)) else (skolemlaw35_PuzzleGuided.j1 kj2 l1 bt382.1 bt384.1 true l0_0 a0_1 l0_2 a0_3)))) = some r := by rw [if_neg (show ¬ (false = true) by decide)] at H; exact H
        clear H
        have H := H1
        clear H1
        replace H := Option.bind_eq_some_iff.mp H
        obtain ⟨⟨t382, t383⟩, A170, H⟩ := H
        replace H : ((puzzle_Guide.f l0_0 a0_1 l0_2 a0_3).bind fun bt384 => (if t383 = 0 then (if bt384.2 = 0 then (skolemlaw35_PuzzleGuided.j1 kj2 l1 t382 bt384.1 ((bt384.1.length : Int) != a0_3) l0_0 a0_1 l0_2 a0_3) else (skolemlaw35_PuzzleGuided.j1 kj2 l1 t382 bt384.1 true l0_0 a0_1 l0_2 a0_3)) else (skolemlaw35_PuzzleGuided.j1 kj2 l1 t382 bt384.1 true l0_0 a0_1 l0_2 a0_3))) = some r := H
        have A17 := Aside0.mk A170
        clear A170
        replace H := Option.bind_eq_some_iff.mp H
        obtain ⟨⟨t384, t387⟩, A180, H⟩ := H
        replace H : (if t383 = 0 then (if t387 = 0 then (skolemlaw35_PuzzleGuided.j1 kj2 l1 t382 t384 ((t384.length : Int) != a0_3) l0_0 a0_1 l0_2 a0_3) else (skolemlaw35_PuzzleGuided.j1 kj2 l1 t382 t384 true l0_0 a0_1 l0_2 a0_3)) else (skolemlaw35_PuzzleGuided.j1 kj2 l1 t382 t384 true l0_0 a0_1 l0_2 a0_3)) = some r := H
        have A18 := Aside0.mk A180
        clear A180
        have HC19 := Aside0.mk H
        clear H
        have hcz20_0 : wc.cell? ⟨gb378, 0, none⟩ = some (.slice A0_0 l0_0.length c0_0) := (blk_cell BK378.out 0).trans rfl
        have hcz20_1 : wc.cell? ⟨gb378, 1, none⟩ = some (.int .i64 a0_1) := (blk_cell BK378.out 1).trans rfl
        have hcz20_2 : wc.cell? ⟨gb378, 2, none⟩ = some (.slice A0_2 l0_2.length c0_2) := (blk_cell BK378.out 2).trans rfl
        have hcz20_3 : wc.cell? ⟨gb378, 3, none⟩ = some (.int .i64 a0_3) := (blk_cell BK378.out 3).trans rfl
        have hfz20_0 := blk_frozen BK378.out 0
        have hfz20_1 := blk_frozen BK378.out 1
        have hfz20_2 := blk_frozen BK378.out 2
        have hfz20_3 := blk_frozen BK378.out 3
        go_upto_region 5 with (first | (go_at_call 14; (with_reducible refine (puzzle_Wins.calls _ _ l0_0 a0_1 _ _ l0_2 a0_3 t382 t383 _ ?side1 ?side2 ?side3 ?side4 A17.out).mono ?_); (case side1 => repeat (first | exact (Kd.C_below HR0_0.out HB.out) | (with_reducible refine Kd.C_alloc ?_ _) | (with_reducible refine Kd.C_drewN ?_ _) | (with_reducible refine Kd.C_drew ?_))); (case side2 => exact HC0_0.out); (case side3 => repeat (first | exact (Kd.C_below HR0_2.out HB.out) | (with_reducible refine Kd.C_alloc ?_ _) | (with_reducible refine Kd.C_drewN ?_ _) | (with_reducible refine Kd.C_drew ?_))); (case side4 => exact HC0_2.out); rintro e w21 ⟨rfl, hb⟩; have n0_ := Aside0.mk (blk_below (g := gb378) (o := .cells #[.slice A0_0 l0_0.length c0_0, .int .i64 a0_1, .slice A0_2 l0_2.length c0_2, .int .i64 a0_3] 25 (0, 0)) (by (with_reducible repeat (first | refine blk_drewN ?_ _ | refine blk_drew ?_ | refine blk_alloc ?_ _)); exact BK378.out) hb); have n1_ := Aside0.mk (below_step (by repeat (first | (with_reducible first | exact HB.out | apply below_alloc | apply pw_below_drewN | apply below_drew1 | refine below_set ?_ GE378.out) | exact HB.out)) hb); clear BK378; clear HB; have BK378 := n0_; have HB := n1_; clear n0_ n1_; (try clear hb); (try clear hb2); (try clear hk); (try clear hi); have hcz22_0 : w21.cell? ⟨gb378, 0, none⟩ = some (.slice A0_0 l0_0.length c0_0) := (blk_cell BK378.out 0).trans rfl; have hcz22_1 : w21.cell? ⟨gb378, 1, none⟩ = some (.int .i64 a0_1) := (blk_cell BK378.out 1).trans rfl; have hcz22_2 : w21.cell? ⟨gb378, 2, none⟩ = some (.slice A0_2 l0_2.length c0_2) := (blk_cell BK378.out 2).trans rfl; have hcz22_3 : w21.cell? ⟨gb378, 3, none⟩ = some (.int .i64 a0_3) := (blk_cell BK378.out 3).trans rfl; have hfz22_0 := blk_frozen BK378.out 0; have hfz22_1 := blk_frozen BK378.out 1; have hfz22_2 := blk_frozen BK378.out 2; have hfz22_3 := blk_frozen BK378.out 3) | (go_at_call 16; (with_reducible refine (puzzle_Guide.calls _ _ l0_0 a0_1 _ _ l0_2 a0_3 t384 t387 _ ?side1 ?side2 ?side3 ?side4 A18.out).mono ?_); (case side1 => repeat (first | exact (Kd.C_below HR0_0.out HB.out) | (with_reducible refine Kd.C_alloc ?_ _) | (with_reducible refine Kd.C_drewN ?_ _) | (with_reducible refine Kd.C_drew ?_))); (case side2 => exact HC0_0.out); (case side3 => repeat (first | exact (Kd.C_below HR0_2.out HB.out) | (with_reducible refine Kd.C_alloc ?_ _) | (with_reducible refine Kd.C_drewN ?_ _) | (with_reducible refine Kd.C_drew ?_))); (case side4 => exact HC0_2.out); rintro e w23 ⟨v385, rfl, ho0, hb⟩; have n0_ := Aside0.mk (Kd.S_lower ho0 (below_size (by repeat (first | (with_reducible first | exact HB.out | apply below_alloc | apply pw_below_drewN | apply below_drew1 | refine below_set ?_ GE378.out) | exact HB.out)))); have n1_ := Aside0.mk (blk_below (g := gb378) (o := .cells #[.slice A0_0 l0_0.length c0_0, .int .i64 a0_1, .slice A0_2 l0_2.length c0_2, .int .i64 a0_3] 25 (0, 0)) (by (with_reducible repeat (first | refine blk_drewN ?_ _ | refine blk_drew ?_ | refine blk_alloc ?_ _)); exact BK378.out) hb); have n2_ := Aside0.mk (below_step (by repeat (first | (with_reducible first | exact HB.out | apply below_alloc | apply pw_below_drewN | apply below_drew1 | refine below_set ?_ GE378.out) | exact HB.out)) hb); clear BK378; clear HB; have HO386 := n0_; have BK378 := n1_; have HB := n2_; clear n0_ n1_ n2_; (try clear hb); (try clear hb2); (try clear hk); (try clear hi); (try clear ho0)))
        repeat (go_quiet (first | (go_at_call 14; (with_reducible refine (puzzle_Wins.calls _ _ l0_0 a0_1 _ _ l0_2 a0_3 t382 t383 _ ?side1 ?side2 ?side3 ?side4 A17.out).mono ?_); (case side1 => repeat (first | exact (Kd.C_below HR0_0.out HB.out) | (with_reducible refine Kd.C_alloc ?_ _) | (with_reducible refine Kd.C_drewN ?_ _) | (with_reducible refine Kd.C_drew ?_))); (case side2 => exact HC0_0.out); (case side3 => repeat (first | exact (Kd.C_below HR0_2.out HB.out) | (with_reducible refine Kd.C_alloc ?_ _) | (with_reducible refine Kd.C_drewN ?_ _) | (with_reducible refine Kd.C_drew ?_))); (case side4 => exact HC0_2.out); rintro e w21 ⟨rfl, hb⟩; have n0_ := Aside0.mk (blk_below (g := gb378) (o := .cells #[.slice A0_0 l0_0.length c0_0, .int .i64 a0_1, .slice A0_2 l0_2.length c0_2, .int .i64 a0_3] 25 (0, 0)) (by (with_reducible repeat (first | refine blk_drewN ?_ _ | refine blk_drew ?_ | refine blk_alloc ?_ _)); exact BK378.out) hb); have n1_ := Aside0.mk (below_step (by repeat (first | (with_reducible first | exact HB.out | apply below_alloc | apply pw_below_drewN | apply below_drew1 | refine below_set ?_ GE378.out) | exact HB.out)) hb); clear BK378; clear HB; have BK378 := n0_; have HB := n1_; clear n0_ n1_; (try clear hb); (try clear hb2); (try clear hk); (try clear hi); have hcz22_0 : w21.cell? ⟨gb378, 0, none⟩ = some (.slice A0_0 l0_0.length c0_0) := (blk_cell BK378.out 0).trans rfl; have hcz22_1 : w21.cell? ⟨gb378, 1, none⟩ = some (.int .i64 a0_1) := (blk_cell BK378.out 1).trans rfl; have hcz22_2 : w21.cell? ⟨gb378, 2, none⟩ = some (.slice A0_2 l0_2.length c0_2) := (blk_cell BK378.out 2).trans rfl; have hcz22_3 : w21.cell? ⟨gb378, 3, none⟩ = some (.int .i64 a0_3) := (blk_cell BK378.out 3).trans rfl; have hfz22_0 := blk_frozen BK378.out 0; have hfz22_1 := blk_frozen BK378.out 1; have hfz22_2 := blk_frozen BK378.out 2; have hfz22_3 := blk_frozen BK378.out 3) | (go_at_call 16; (with_reducible refine (puzzle_Guide.calls _ _ l0_0 a0_1 _ _ l0_2 a0_3 t384 t387 _ ?side1 ?side2 ?side3 ?side4 A18.out).mono ?_); (case side1 => repeat (first | exact (Kd.C_below HR0_0.out HB.out) | (with_reducible refine Kd.C_alloc ?_ _) | (with_reducible refine Kd.C_drewN ?_ _) | (with_reducible refine Kd.C_drew ?_))); (case side2 => exact HC0_0.out); (case side3 => repeat (first | exact (Kd.C_below HR0_2.out HB.out) | (with_reducible refine Kd.C_alloc ?_ _) | (with_reducible refine Kd.C_drewN ?_ _) | (with_reducible refine Kd.C_drew ?_))); (case side4 => exact HC0_2.out); rintro e w23 ⟨v385, rfl, ho0, hb⟩; have n0_ := Aside0.mk (Kd.S_lower ho0 (below_size (by repeat (first | (with_reducible first | exact HB.out | apply below_alloc | apply pw_below_drewN | apply below_drew1 | refine below_set ?_ GE378.out) | exact HB.out)))); have n1_ := Aside0.mk (blk_below (g := gb378) (o := .cells #[.slice A0_0 l0_0.length c0_0, .int .i64 a0_1, .slice A0_2 l0_2.length c0_2, .int .i64 a0_3] 25 (0, 0)) (by (with_reducible repeat (first | refine blk_drewN ?_ _ | refine blk_drew ?_ | refine blk_alloc ?_ _)); exact BK378.out) hb); have n2_ := Aside0.mk (below_step (by repeat (first | (with_reducible first | exact HB.out | apply below_alloc | apply pw_below_drewN | apply below_drew1 | refine below_set ?_ GE378.out) | exact HB.out)) hb); clear BK378; clear HB; have HO386 := n0_; have BK378 := n1_; have HB := n2_; clear n0_ n1_ n2_; (try clear hb); (try clear hb2); (try clear hk); (try clear hi); (try clear ho0))); go_upto_region 5 with (first | (go_at_call 14; (with_reducible refine (puzzle_Wins.calls _ _ l0_0 a0_1 _ _ l0_2 a0_3 t382 t383 _ ?side1 ?side2 ?side3 ?side4 A17.out).mono ?_); (case side1 => repeat (first | exact (Kd.C_below HR0_0.out HB.out) | (with_reducible refine Kd.C_alloc ?_ _) | (with_reducible refine Kd.C_drewN ?_ _) | (with_reducible refine Kd.C_drew ?_))); (case side2 => exact HC0_0.out); (case side3 => repeat (first | exact (Kd.C_below HR0_2.out HB.out) | (with_reducible refine Kd.C_alloc ?_ _) | (with_reducible refine Kd.C_drewN ?_ _) | (with_reducible refine Kd.C_drew ?_))); (case side4 => exact HC0_2.out); rintro e w21 ⟨rfl, hb⟩; have n0_ := Aside0.mk (blk_below (g := gb378) (o := .cells #[.slice A0_0 l0_0.length c0_0, .int .i64 a0_1, .slice A0_2 l0_2.length c0_2, .int .i64 a0_3] 25 (0, 0)) (by (with_reducible repeat (first | refine blk_drewN ?_ _ | refine blk_drew ?_ | refine blk_alloc ?_ _)); exact BK378.out) hb); have n1_ := Aside0.mk (below_step (by repeat (first | (with_reducible first | exact HB.out | apply below_alloc | apply pw_below_drewN | apply below_drew1 | refine below_set ?_ GE378.out) | exact HB.out)) hb); clear BK378; clear HB; have BK378 := n0_; have HB := n1_; clear n0_ n1_; (try clear hb); (try clear hb2); (try clear hk); (try clear hi); have hcz22_0 : w21.cell? ⟨gb378, 0, none⟩ = some (.slice A0_0 l0_0.length c0_0) := (blk_cell BK378.out 0).trans rfl; have hcz22_1 : w21.cell? ⟨gb378, 1, none⟩ = some (.int .i64 a0_1) := (blk_cell BK378.out 1).trans rfl; have hcz22_2 : w21.cell? ⟨gb378, 2, none⟩ = some (.slice A0_2 l0_2.length c0_2) := (blk_cell BK378.out 2).trans rfl; have hcz22_3 : w21.cell? ⟨gb378, 3, none⟩ = some (.int .i64 a0_3) := (blk_cell BK378.out 3).trans rfl; have hfz22_0 := blk_frozen BK378.out 0; have hfz22_1 := blk_frozen BK378.out 1; have hfz22_2 := blk_frozen BK378.out 2; have hfz22_3 := blk_frozen BK378.out 3) | (go_at_call 16; (with_reducible refine (puzzle_Guide.calls _ _ l0_0 a0_1 _ _ l0_2 a0_3 t384 t387 _ ?side1 ?side2 ?side3 ?side4 A18.out).mono ?_); (case side1 => repeat (first | exact (Kd.C_below HR0_0.out HB.out) | (with_reducible refine Kd.C_alloc ?_ _) | (with_reducible refine Kd.C_drewN ?_ _) | (with_reducible refine Kd.C_drew ?_))); (case side2 => exact HC0_0.out); (case side3 => repeat (first | exact (Kd.C_below HR0_2.out HB.out) | (with_reducible refine Kd.C_alloc ?_ _) | (with_reducible refine Kd.C_drewN ?_ _) | (with_reducible refine Kd.C_drew ?_))); (case side4 => exact HC0_2.out); rintro e w23 ⟨v385, rfl, ho0, hb⟩; have n0_ := Aside0.mk (Kd.S_lower ho0 (below_size (by repeat (first | (with_reducible first | exact HB.out | apply below_alloc | apply pw_below_drewN | apply below_drew1 | refine below_set ?_ GE378.out) | exact HB.out)))); have n1_ := Aside0.mk (blk_below (g := gb378) (o := .cells #[.slice A0_0 l0_0.length c0_0, .int .i64 a0_1, .slice A0_2 l0_2.length c0_2, .int .i64 a0_3] 25 (0, 0)) (by (with_reducible repeat (first | refine blk_drewN ?_ _ | refine blk_drew ?_ | refine blk_alloc ?_ _)); exact BK378.out) hb); have n2_ := Aside0.mk (below_step (by repeat (first | (with_reducible first | exact HB.out | apply below_alloc | apply pw_below_drewN | apply below_drew1 | refine below_set ?_ GE378.out) | exact HB.out)) hb); clear BK378; clear HB; have HO386 := n0_; have BK378 := n1_; have HB := n2_; clear n0_ n1_ n2_; (try clear hb); (try clear hb2); (try clear hk); (try clear hi); (try clear ho0))))
        (try simp only [Act.put, List.setIfInBounds_toArray, List.set_cons_zero, List.set_cons_succ])
        go_cut [43] (fun v43 wc => ∃ (kq : Nat) (x43_18 : Bool), v43 = .bool x43_18 ∧ Aside0 (skolemlaw35_PuzzleGuided.j1 kq l1 t382 t384 x43_18 l0_0 a0_1 l0_2 a0_3 = some r) ∧ Aside0 (kq ≤ kj2) ∧ Aside0 (Kd.S (Kd.slice 3 (Kd.int .i64)) 23 wc w.heap.size (fun _ => True) v385 t384) ∧ Aside0 (wc.heap[gb378]? = some (.cells #[(.slice A0_0 l0_0.length c0_0), .int .i64 a0_1, (.slice A0_2 l0_2.length c0_2), .int .i64 a0_3] 25 (0, 0))) ∧ Aside0 (Below w.heap.size w wc))
        case first =>
          have H := HC19.out
          clear HC19
          by_cases c24 : t383 = 0
          · rw [if_pos c24] at H
            have c24b0 : (t383 == 0) = true := beq_iff_eq.mpr c24
            have c24b1 : (t383 != 0) = false := bne_eq_false_iff_eq.mpr c24
            clear c24
            (first | rw [c24b0] | (simp only [i64_w, i32_w]; rw [c24b0]) | skip)
            by_cases c25 : t387 = 0
            · rw [if_pos c25] at H
              have c25b0 : (t387 == 0) = true := beq_iff_eq.mpr c25
              have c25b1 : (t387 != 0) = false := bne_eq_false_iff_eq.mpr c25
              clear c25
              have H' := Aside0.mk H
              clear H
              obtain ⟨Ao26, co26, eo26⟩ := Kd.S_slice HO386.out
              subst eo26
              have hcz27_0 : w23.cell? ⟨gb378, 0, none⟩ = some (.slice A0_0 l0_0.length c0_0) := (blk_cell BK378.out 0).trans rfl
              have hcz27_1 : w23.cell? ⟨gb378, 1, none⟩ = some (.int .i64 a0_1) := (blk_cell BK378.out 1).trans rfl
              have hcz27_2 : w23.cell? ⟨gb378, 2, none⟩ = some (.slice A0_2 l0_2.length c0_2) := (blk_cell BK378.out 2).trans rfl
              have hcz27_3 : w23.cell? ⟨gb378, 3, none⟩ = some (.int .i64 a0_3) := (blk_cell BK378.out 3).trans rfl
              have hfz27_0 := blk_frozen BK378.out 0
              have hfz27_1 := blk_frozen BK378.out 1
              have hfz27_2 := blk_frozen BK378.out 2
              have hfz27_3 := blk_frozen BK378.out 3
              go_wp2
              repeat (go_quiet (fail); try go_wp2)
              go_meet
              case rel => exact ⟨_, (((t384.length : Int) != a0_3)), (by first | rfl | (simp; done) | (simp [*]; done)), H', ⟨by have := HJ2.out; first | omega | exact Nat.le_refl _⟩, ⟨by (with_reducible repeat (first | apply Kd.S_alloc | apply Kd.S_drewN | apply Kd.S_drew)); exact HO386.out⟩, ⟨by (with_reducible repeat (first | refine blk_drewN ?_ _ | refine blk_drew ?_ | refine blk_alloc ?_ _)); exact BK378.out⟩, ⟨by repeat (first | (with_reducible first | exact HB.out | apply below_alloc | apply pw_below_drewN | apply below_drew1 | refine below_set ?_ GE378.out) | exact HB.out)⟩⟩
            · rw [if_neg c25] at H
              have c25b0 : (t387 == 0) = false := beq_eq_false_iff_ne.mpr c25
              have c25b1 : (t387 != 0) = true := bne_iff_ne.mpr c25
              have H' := Aside0.mk H
              clear H
              go_wp2
              repeat (go_quiet (fail); try go_wp2)
              go_meet
              case rel => exact ⟨_, (true), (by first | rfl | (simp; done) | (simp [*]; done)), H', ⟨by have := HJ2.out; first | omega | exact Nat.le_refl _⟩, ⟨by (with_reducible repeat (first | apply Kd.S_alloc | apply Kd.S_drewN | apply Kd.S_drew)); exact HO386.out⟩, ⟨by (with_reducible repeat (first | refine blk_drewN ?_ _ | refine blk_drew ?_ | refine blk_alloc ?_ _)); exact BK378.out⟩, ⟨by repeat (first | (with_reducible first | exact HB.out | apply below_alloc | apply pw_below_drewN | apply below_drew1 | refine below_set ?_ GE378.out) | exact HB.out)⟩⟩
          · rw [if_neg c24] at H
            have c24b0 : (t383 == 0) = false := beq_eq_false_iff_ne.mpr c24
            have c24b1 : (t383 != 0) = true := bne_iff_ne.mpr c24
            (first | rw [c24b0] | (simp only [i64_w, i32_w]; rw [c24b0]) | skip)
            have H' := Aside0.mk H
            clear H
            go_wp2
            repeat (go_quiet (fail); try go_wp2)
            go_meet
            case rel => exact ⟨_, (true), (by first | rfl | (simp; done) | (simp [*]; done)), H', ⟨by have := HJ2.out; first | omega | exact Nat.le_refl _⟩, ⟨by (with_reducible repeat (first | apply Kd.S_alloc | apply Kd.S_drewN | apply Kd.S_drew)); exact HO386.out⟩, ⟨by (with_reducible repeat (first | refine blk_drewN ?_ _ | refine blk_drew ?_ | refine blk_alloc ?_ _)); exact BK378.out⟩, ⟨by repeat (first | (with_reducible first | exact HB.out | apply below_alloc | apply pw_below_drewN | apply below_drew1 | refine below_set ?_ GE378.out) | exact HB.out)⟩⟩
        case rest =>
          clear HC19
          try clear c1
          try clear c2
          try clear p2
          try clear c5
          try clear c6
          try clear c14
          try clear c24
          try clear c24b0
          try clear c24b1
          try clear c25
          try clear c25b0
          try clear c25b1
          try clear hcz10_0
          try clear hcz10_1
          try clear hcz10_2
          try clear hcz10_3
          try clear hcz12_0
          try clear hcz12_1
          try clear hcz12_2
          try clear hcz12_3
          try clear hcz20_0
          try clear hcz20_1
          try clear hcz20_2
          try clear hcz20_3
          try clear hcz22_0
          try clear hcz22_1
          try clear hcz22_2
          try clear hcz22_3
          try clear hcz27_0
          try clear hcz27_1
          try clear hcz27_2
          try clear hcz27_3
          try clear hcz7_0
          try clear hcz7_1
          try clear hcz7_2
          try clear hcz7_3
          try clear hfz10_0
          try clear hfz10_1
          try clear hfz10_2
          try clear hfz10_3
          try clear hfz12_0
          try clear hfz12_1
          try clear hfz12_2
          try clear hfz12_3
          try clear hfz20_0
          try clear hfz20_1
          try clear hfz20_2
          try clear hfz20_3
          try clear hfz22_0
          try clear hfz22_1
          try clear hfz22_2
          try clear hfz22_3
          try clear hfz27_0
          try clear hfz27_1
          try clear hfz27_2
          try clear hfz27_3
          try clear hfz7_0
          try clear hfz7_1
          try clear hfz7_2
          try clear hfz7_3
          try clear p2
          obtain ⟨kq, x43_18, rfl, HA, HJ18, HO_7, BK378, HB⟩ := hcut
          cases kq with
          | zero => exact absurd HA.out (by simp [skolemlaw35_PuzzleGuided.j1])
          | succ kj18 =>
            have H := HA.out
            clear HA
            simp only [skolemlaw35_PuzzleGuided.j1] at H
            by_cases c28 : x43_18 = true
            · subst c28
              have H1 : (some false) = some r := by rw [if_pos rfl] at H; exact H
              clear H
              have H := H1
              clear H1
              exact absurd ((Option.some.inj H).trans HT_.out) (by decide)
            · replace c28 := Bool.eq_false_iff.mpr c28
              subst c28
              have H1 : (skolemlaw35_PuzzleGuided.l0 kj18 l1 t382 t384 a0_1 0 l0_0 a0_1 l0_2 a0_3) = some r := by rw [if_neg (show ¬ (false = true) by decide)] at H; exact H
              clear H
              have H := H1
              clear H1
              have H' := Aside0.mk H
              clear H
              have hcz29_0 : wc.cell? ⟨gb378, 0, none⟩ = some (.slice A0_0 l0_0.length c0_0) := (blk_cell BK378.out 0).trans rfl
              have hcz29_1 : wc.cell? ⟨gb378, 1, none⟩ = some (.int .i64 a0_1) := (blk_cell BK378.out 1).trans rfl
              have hcz29_2 : wc.cell? ⟨gb378, 2, none⟩ = some (.slice A0_2 l0_2.length c0_2) := (blk_cell BK378.out 2).trans rfl
              have hcz29_3 : wc.cell? ⟨gb378, 3, none⟩ = some (.int .i64 a0_3) := (blk_cell BK378.out 3).trans rfl
              have hfz29_0 := blk_frozen BK378.out 0
              have hfz29_1 := blk_frozen BK378.out 1
              have hfz29_2 := blk_frozen BK378.out 2
              have hfz29_3 := blk_frozen BK378.out 3
              go_wp2
              repeat (go_quiet (fail); try go_wp2)
              go_loopg [9, 10] kj18 (fun kq v9 v10 w' => ∃ (x9_3 : Int) (x10_3 : Int), v9 = .int .i64 x9_3 ∧ v10 = .int .i64 x10_3 ∧ Aside0 (skolemlaw35_PuzzleGuided.l0 kq l1 t382 t384 x9_3 x10_3 l0_0 a0_1 l0_2 a0_3 = some r) ∧ Aside0 (kq ≤ kj18) ∧ Aside0 (Kd.S (Kd.slice 3 (Kd.int .i64)) 23 w' w.heap.size (fun _ => True) v385 t384) ∧ Aside0 (w'.heap[gb378]? = some (.cells #[(.slice A0_0 l0_0.length c0_0), .int .i64 a0_1, (.slice A0_2 l0_2.length c0_2), .int .i64 a0_3] 25 (0, 0))) ∧ Aside0 (Below w.heap.size w w'))
              case atStart => exact ⟨(a0_1), (0), (by first | rfl | (simp; done) | (simp [*]; done)), (by first | rfl | (simp; done) | (simp [*]; done)), H', ⟨Nat.le_refl _⟩, ⟨by (with_reducible repeat (first | apply Kd.S_alloc | apply Kd.S_drewN | apply Kd.S_drew)); exact HO_7.out⟩, ⟨by (with_reducible repeat (first | refine blk_drewN ?_ _ | refine blk_drew ?_ | refine blk_alloc ?_ _)); exact BK378.out⟩, ⟨by repeat (first | (with_reducible first | exact HB.out | apply below_alloc | apply pw_below_drewN | apply below_drew1 | refine below_set ?_ GE378.out) | exact HB.out)⟩⟩
              case round =>
                clear H'
                try clear c1
                try clear c2
                try clear p2
                try clear c5
                try clear c6
                try clear c14
                try clear c24
                try clear c24b0
                try clear c24b1
                try clear c25
                try clear c25b0
                try clear c25b1
                try clear c28
                try clear hcz10_0
                try clear hcz10_1
                try clear hcz10_2
                try clear hcz10_3
                try clear hcz12_0
                try clear hcz12_1
                try clear hcz12_2
                try clear hcz12_3
                try clear hcz20_0
                try clear hcz20_1
                try clear hcz20_2
                try clear hcz20_3
                try clear hcz22_0
                try clear hcz22_1
                try clear hcz22_2
                try clear hcz22_3
                try clear hcz27_0
                try clear hcz27_1
                try clear hcz27_2
                try clear hcz27_3
                try clear hcz29_0
                try clear hcz29_1
                try clear hcz29_2
                try clear hcz29_3
                try clear hcz7_0
                try clear hcz7_1
                try clear hcz7_2
                try clear hcz7_3
                try clear hfz10_0
                try clear hfz10_1
                try clear hfz10_2
                try clear hfz10_3
                try clear hfz12_0
                try clear hfz12_1
                try clear hfz12_2
                try clear hfz12_3
                try clear hfz20_0
                try clear hfz20_1
                try clear hfz20_2
                try clear hfz20_3
                try clear hfz22_0
                try clear hfz22_1
                try clear hfz22_2
                try clear hfz22_3
                try clear hfz27_0
                try clear hfz27_1
                try clear hfz27_2
                try clear hfz27_3
                try clear hfz29_0
                try clear hfz29_1
                try clear hfz29_2
                try clear hfz29_3
                try clear hfz7_0
                try clear hfz7_1
                try clear hfz7_2
                try clear hfz7_3
                try clear p2
                obtain ⟨x9_3, x10_3, rfl, rfl, HA, HK3, HO_7, BK378, HB⟩ := hrel
                cases gk with
                | zero => exact absurd HA.out (by simp [skolemlaw35_PuzzleGuided.l0])
                | succ k3 =>
                  have H := HA.out
                  clear HA
                  simp only [skolemlaw35_PuzzleGuided.l0] at H
                  have HC30 := Aside0.mk H
                  clear H
                  go_upto_region 9 with (fail)
                  repeat (go_quiet (fail); go_upto_region 9 with (fail))
                  go_cut [59] (fun v59 wc => ∃ (kq : Nat) (x59_29 : Bool), v59 = .bool x59_29 ∧ Aside0 (skolemlaw35_PuzzleGuided.j3 kq l1 t382 t384 x9_3 x10_3 x59_29 l0_0 a0_1 l0_2 a0_3 = some r) ∧ Aside0 (kq ≤ k3) ∧ Aside0 (Kd.S (Kd.slice 3 (Kd.int .i64)) 23 wc w.heap.size (fun _ => True) v385 t384) ∧ Aside0 (wc.heap[gb378]? = some (.cells #[(.slice A0_0 l0_0.length c0_0), .int .i64 a0_1, (.slice A0_2 l0_2.length c0_2), .int .i64 a0_3] 25 (0, 0))) ∧ Aside0 (Below w.heap.size w wc))
                  case first =>
                    have H := HC30.out
                    clear HC30
                    by_cases c31 : x10_3 < a0_3
                    · rw [if_pos c31] at H
                      have c31b0 : decide (x10_3 < a0_3) = true := decide_eq_true c31
                      clear c31
                      (first | rw [c31b0] | (simp only [i64_w, i32_w]; rw [c31b0]) | skip)
                      by_cases c32 : t382 = true
                      · subst c32
                        have H1 : ((skolemref03_Has.f k3 l0_2 x9_3).bind fun t388 => (skolemlaw35_PuzzleGuided.j3 k3 l1 true t384 x9_3 x10_3 (!t388) l0_0 a0_1 l0_2 a0_3)) = some r := by rw [if_pos rfl] at H; exact H
                        clear H
                        have H := H1
                        clear H1
                        replace H := Option.bind_eq_some_iff.mp H
                        obtain ⟨t388, A330, H⟩ := H
                        replace H : (skolemlaw35_PuzzleGuided.j3 k3 l1 true t384 x9_3 x10_3 (!t388) l0_0 a0_1 l0_2 a0_3) = some r := H
                        have A33 := Aside0.mk A330
                        clear A330
                        have H' := Aside0.mk H
                        clear H
                        have hcz34_0 : wr.cell? ⟨gb378, 0, none⟩ = some (.slice A0_0 l0_0.length c0_0) := (blk_cell BK378.out 0).trans rfl
                        have hcz34_1 : wr.cell? ⟨gb378, 1, none⟩ = some (.int .i64 a0_1) := (blk_cell BK378.out 1).trans rfl
                        have hcz34_2 : wr.cell? ⟨gb378, 2, none⟩ = some (.slice A0_2 l0_2.length c0_2) := (blk_cell BK378.out 2).trans rfl
                        have hcz34_3 : wr.cell? ⟨gb378, 3, none⟩ = some (.int .i64 a0_3) := (blk_cell BK378.out 3).trans rfl
                        have hfz34_0 := blk_frozen BK378.out 0
                        have hfz34_1 := blk_frozen BK378.out 1
                        have hfz34_2 := blk_frozen BK378.out 2
                        have hfz34_3 := blk_frozen BK378.out 3
                        go_wp2_with (first | (go_at_call 24; (with_reducible refine (skolemref03_Has.calls k3 _ _ l0_2 x9_3 t388 _ ?side1 ?side2 A33.out).mono ?_); (case side1 => repeat (first | exact (Kd.C_below HR0_2.out HB.out) | (with_reducible refine Kd.C_alloc ?_ _) | (with_reducible refine Kd.C_drewN ?_ _) | (with_reducible refine Kd.C_drew ?_))); (case side2 => exact HC0_2.out); rintro e w' ⟨rfl, ⟨nd, rfl⟩⟩; (try first | exact ⟨rfl, _, World.drewN_drewN _ _ _⟩ | exact ⟨rfl, _, Eq.trans (World.drewN_drewN _ _ _) (congrArg (World.drewN _) (Nat.add_assoc _ _ _))⟩)))
                        repeat (go_quiet (first | (go_at_call 24; (with_reducible refine (skolemref03_Has.calls k3 _ _ l0_2 x9_3 t388 _ ?side1 ?side2 A33.out).mono ?_); (case side1 => repeat (first | exact (Kd.C_below HR0_2.out HB.out) | (with_reducible refine Kd.C_alloc ?_ _) | (with_reducible refine Kd.C_drewN ?_ _) | (with_reducible refine Kd.C_drew ?_))); (case side2 => exact HC0_2.out); rintro e w' ⟨rfl, ⟨nd, rfl⟩⟩; (try first | exact ⟨rfl, _, World.drewN_drewN _ _ _⟩ | exact ⟨rfl, _, Eq.trans (World.drewN_drewN _ _ _) (congrArg (World.drewN _) (Nat.add_assoc _ _ _))⟩))); try go_wp2_with (first | (go_at_call 24; (with_reducible refine (skolemref03_Has.calls k3 _ _ l0_2 x9_3 t388 _ ?side1 ?side2 A33.out).mono ?_); (case side1 => repeat (first | exact (Kd.C_below HR0_2.out HB.out) | (with_reducible refine Kd.C_alloc ?_ _) | (with_reducible refine Kd.C_drewN ?_ _) | (with_reducible refine Kd.C_drew ?_))); (case side2 => exact HC0_2.out); rintro e w' ⟨rfl, ⟨nd, rfl⟩⟩; (try first | exact ⟨rfl, _, World.drewN_drewN _ _ _⟩ | exact ⟨rfl, _, Eq.trans (World.drewN_drewN _ _ _) (congrArg (World.drewN _) (Nat.add_assoc _ _ _))⟩))))
                        go_meet
                        case rel => exact ⟨_, (!t388), (by first | rfl | (simp; done) | (simp [*]; done)), H', ⟨by have := HJ2.out; have := HJ18.out; have := HK3.out; first | omega | exact Nat.le_refl _⟩, ⟨by (with_reducible repeat (first | apply Kd.S_alloc | apply Kd.S_drewN | apply Kd.S_drew)); exact HO_7.out⟩, ⟨by (with_reducible repeat (first | refine blk_drewN ?_ _ | refine blk_drew ?_ | refine blk_alloc ?_ _)); exact BK378.out⟩, ⟨by repeat (first | (with_reducible first | exact HB.out | apply below_alloc | apply pw_below_drewN | apply below_drew1 | refine below_set ?_ GE378.out) | exact HB.out)⟩⟩
                      · replace c32 := Bool.eq_false_iff.mpr c32
                        subst c32
                        have H1 : (skolemlaw35_PuzzleGuided.j3 k3 l1 false t384 x9_3 x10_3 false l0_0 a0_1 l0_2 a0_3) = some r := by rw [if_neg (show ¬ (false = true) by decide)] at H; exact H
                        clear H
                        have H := H1
                        clear H1
                        have H' := Aside0.mk H
                        clear H
                        have hcz35_0 : wr.cell? ⟨gb378, 0, none⟩ = some (.slice A0_0 l0_0.length c0_0) := (blk_cell BK378.out 0).trans rfl
                        have hcz35_1 : wr.cell? ⟨gb378, 1, none⟩ = some (.int .i64 a0_1) := (blk_cell BK378.out 1).trans rfl
                        have hcz35_2 : wr.cell? ⟨gb378, 2, none⟩ = some (.slice A0_2 l0_2.length c0_2) := (blk_cell BK378.out 2).trans rfl
                        have hcz35_3 : wr.cell? ⟨gb378, 3, none⟩ = some (.int .i64 a0_3) := (blk_cell BK378.out 3).trans rfl
                        have hfz35_0 := blk_frozen BK378.out 0
                        have hfz35_1 := blk_frozen BK378.out 1
                        have hfz35_2 := blk_frozen BK378.out 2
                        have hfz35_3 := blk_frozen BK378.out 3
                        go_wp2
                        repeat (go_quiet (fail); try go_wp2)
                        go_meet
                        case rel => exact ⟨_, (false), (by first | rfl | (simp; done) | (simp [*]; done)), H', ⟨by have := HJ2.out; have := HJ18.out; have := HK3.out; first | omega | exact Nat.le_refl _⟩, ⟨by (with_reducible repeat (first | apply Kd.S_alloc | apply Kd.S_drewN | apply Kd.S_drew)); exact HO_7.out⟩, ⟨by (with_reducible repeat (first | refine blk_drewN ?_ _ | refine blk_drew ?_ | refine blk_alloc ?_ _)); exact BK378.out⟩, ⟨by repeat (first | (with_reducible first | exact HB.out | apply below_alloc | apply pw_below_drewN | apply below_drew1 | refine below_set ?_ GE378.out) | exact HB.out)⟩⟩
                    · rw [if_neg c31] at H
                      have c31b0 : decide (x10_3 < a0_3) = false := decide_eq_false c31
                      clear c31
                      (first | rw [c31b0] | (simp only [i64_w, i32_w]; rw [c31b0]) | skip)
                      have H' := Aside0.mk H
                      clear H
                      have hcz36_0 : wr.cell? ⟨gb378, 0, none⟩ = some (.slice A0_0 l0_0.length c0_0) := (blk_cell BK378.out 0).trans rfl
                      have hcz36_1 : wr.cell? ⟨gb378, 1, none⟩ = some (.int .i64 a0_1) := (blk_cell BK378.out 1).trans rfl
                      have hcz36_2 : wr.cell? ⟨gb378, 2, none⟩ = some (.slice A0_2 l0_2.length c0_2) := (blk_cell BK378.out 2).trans rfl
                      have hcz36_3 : wr.cell? ⟨gb378, 3, none⟩ = some (.int .i64 a0_3) := (blk_cell BK378.out 3).trans rfl
                      have hfz36_0 := blk_frozen BK378.out 0
                      have hfz36_1 := blk_frozen BK378.out 1
                      have hfz36_2 := blk_frozen BK378.out 2
                      have hfz36_3 := blk_frozen BK378.out 3
                      go_wp2
                      repeat (go_quiet (fail); try go_wp2)
                      go_meet
                      case rel => exact ⟨_, (false), (by first | rfl | (simp; done) | (simp [*]; done)), H', ⟨by have := HJ2.out; have := HJ18.out; have := HK3.out; first | omega | exact Nat.le_refl _⟩, ⟨by (with_reducible repeat (first | apply Kd.S_alloc | apply Kd.S_drewN | apply Kd.S_drew)); exact HO_7.out⟩, ⟨by (with_reducible repeat (first | refine blk_drewN ?_ _ | refine blk_drew ?_ | refine blk_alloc ?_ _)); exact BK378.out⟩, ⟨by repeat (first | (with_reducible first | exact HB.out | apply below_alloc | apply pw_below_drewN | apply below_drew1 | refine below_set ?_ GE378.out) | exact HB.out)⟩⟩
                  case rest =>
                    clear HC30
                    try clear c1
                    try clear c2
                    try clear p2
                    try clear c3
                    try clear c5
                    try clear c6
                    try clear c14
                    try clear c24
                    try clear c24b0
                    try clear c24b1
                    try clear c25
                    try clear c25b0
                    try clear c25b1
                    try clear c28
                    try clear c31
                    try clear c31b0
                    try clear c32
                    try clear hcz10_0
                    try clear hcz10_1
                    try clear hcz10_2
                    try clear hcz10_3
                    try clear hcz12_0
                    try clear hcz12_1
                    try clear hcz12_2
                    try clear hcz12_3
                    try clear hcz20_0
                    try clear hcz20_1
                    try clear hcz20_2
                    try clear hcz20_3
                    try clear hcz22_0
                    try clear hcz22_1
                    try clear hcz22_2
                    try clear hcz22_3
                    try clear hcz27_0
                    try clear hcz27_1
                    try clear hcz27_2
                    try clear hcz27_3
                    try clear hcz29_0
                    try clear hcz29_1
                    try clear hcz29_2
                    try clear hcz29_3
                    try clear hcz34_0
                    try clear hcz34_1
                    try clear hcz34_2
                    try clear hcz34_3
                    try clear hcz35_0
                    try clear hcz35_1
                    try clear hcz35_2
                    try clear hcz35_3
                    try clear hcz36_0
                    try clear hcz36_1
                    try clear hcz36_2
                    try clear hcz36_3
                    try clear hcz7_0
                    try clear hcz7_1
                    try clear hcz7_2
                    try clear hcz7_3
                    try clear hfz10_0
                    try clear hfz10_1
                    try clear hfz10_2
                    try clear hfz10_3
                    try clear hfz12_0
                    try clear hfz12_1
                    try clear hfz12_2
                    try clear hfz12_3
                    try clear hfz20_0
                    try clear hfz20_1
                    try clear hfz20_2
                    try clear hfz20_3
                    try clear hfz22_0
                    try clear hfz22_1
                    try clear hfz22_2
                    try clear hfz22_3
                    try clear hfz27_0
                    try clear hfz27_1
                    try clear hfz27_2
                    try clear hfz27_3
                    try clear hfz29_0
                    try clear hfz29_1
                    try clear hfz29_2
                    try clear hfz29_3
                    try clear hfz34_0
                    try clear hfz34_1
                    try clear hfz34_2
                    try clear hfz34_3
                    try clear hfz35_0
                    try clear hfz35_1
                    try clear hfz35_2
                    try clear hfz35_3
                    try clear hfz36_0
                    try clear hfz36_1
                    try clear hfz36_2
                    try clear hfz36_3
                    try clear hfz7_0
                    try clear hfz7_1
                    try clear hfz7_2
                    try clear hfz7_3
                    try clear p2
                    obtain ⟨kq, x59_29, rfl, HA, HJ29, HO_7, BK378, HB⟩ := hcut
                    cases kq with
                    | zero => exact absurd HA.out (by simp [skolemlaw35_PuzzleGuided.j3])
                    | succ kj29 =>
                      have H := HA.out
                      clear HA
                      simp only [skolemlaw35_PuzzleGuided.j3] at H
                      by_cases c37 : x59_29 = true
                      · subst c37
                        have H1 : (if 0 ≤ x9_3 then (if x9_3 < (l0_0.length : Int) then (if x10_3 < (l1.length : Int) then (if 0 ≤ x10_3 then (skolemlaw35_PuzzleGuided.j4 kj29 l1 t382 t384 x9_3 x10_3 (wrap64 (rd l1 x10_3)) l0_0 a0_1 l0_2 a0_3 ((rd_T55 l0_0 x9_3).f0) ((rd_T55 l0_0 x9_3).f1)) else (none)) else (skolemlaw35_PuzzleGuided.j4 kj29 l1 t382 t384 x9_3 x10_3 0 l0_0 a0_1 l0_2 a0_3 ((rd_T55 l0_0 x9_3).f0) ((rd_T55 l0_0 x9_3).f1))) else (none)) else (none)) = some r := by rw [if_pos rfl] at H; exact H
                        clear H
                        have H := H1
                        clear H1
                        by_cases c38 : 0 ≤ x9_3
                        · rw [if_pos c38] at H
                          have c38b0 : decide (0 ≤ x9_3) = true := decide_eq_true c38
                          clear c38
                          by_cases c39 : x9_3 < (l0_0.length : Int)
                          · rw [if_pos c39] at H
                            have c39b0 : decide (x9_3 < (l0_0.length : Int)) = true := decide_eq_true c39
                            clear c39
                            have HC40 := Aside0.mk H
                            clear H
                            have hcz41_0 : wc.cell? ⟨gb378, 0, none⟩ = some (.slice A0_0 l0_0.length c0_0) := (blk_cell BK378.out 0).trans rfl
                            have hcz41_1 : wc.cell? ⟨gb378, 1, none⟩ = some (.int .i64 a0_1) := (blk_cell BK378.out 1).trans rfl
                            have hcz41_2 : wc.cell? ⟨gb378, 2, none⟩ = some (.slice A0_2 l0_2.length c0_2) := (blk_cell BK378.out 2).trans rfl
                            have hcz41_3 : wc.cell? ⟨gb378, 3, none⟩ = some (.int .i64 a0_3) := (blk_cell BK378.out 3).trans rfl
                            have hfz41_0 := blk_frozen BK378.out 0
                            have hfz41_1 := blk_frozen BK378.out 1
                            have hfz41_2 := blk_frozen BK378.out 2
                            have hfz41_3 := blk_frozen BK378.out 3
                            have p392 : 0 ≤ (x9_3 : Int) := of_decide_eq_true (by first | (with_reducible assumption) | assumption)
                            have q392 : x9_3 < (l0_0.length : Int) := of_decide_eq_true (by first | (with_reducible assumption) | assumption)
                            obtain ⟨ad392, A392_1, c392_1, e392, hx392_0, hx392_1, hl392_1, hi392_1⟩ := at_T55 HR0_0.out x9_3 p392 q392
                            cases e392
                            replace hx392_0 := (HB.out.cell (World.block_lt_of_cell? w _ hx392_0)).trans hx392_0
                            replace hx392_1 := (HB.out.cell (World.block_lt_of_cell? w _ hx392_1)).trans hx392_1
                            have HR392_1 := Aside0.mk hi392_1
                            have HC392_1 := Aside0.mk hl392_1
                            clear hi392_1 hl392_1
                            replace p392 := eq_true p392
                            replace q392 := eq_true q392
                            go_upto_if 70 with (first | ((with_reducible refine gate_dst (N := 11) rfl ?_); (try (refine gate_guard (by rfl) ?_; dsimp only)); refine box_event ?hg (N := 11) ?hd (cs := #[.bool false, .slice none 0 0]) (t := 55) ?hr ?_; (case hd => rfl); (case hg => rfl); (case hr => first | (go_simp; done) | (go_simp; rfl)); intro gb393 hg w42 hbox hb; have n0_ := Aside0.mk (Kd.S_below (by (with_reducible repeat (first | apply Kd.S_alloc | apply Kd.S_drewN | apply Kd.S_drew)); exact HO_7.out) hb); have n1_ := Aside0.mk (blk_below (g := gb378) (o := .cells #[.slice (some ad392) l0_0.length c0_0, .int .i64 a0_1, .slice A0_2 l0_2.length c0_2, .int .i64 a0_3] 25 (0, 0)) (by (with_reducible repeat (first | refine blk_drewN ?_ _ | refine blk_drew ?_ | refine blk_alloc ?_ _)); exact BK378.out) hb); have n2_ := Aside0.mk (below_step (by repeat (first | (with_reducible first | exact HB.out | apply below_alloc | apply pw_below_drewN | apply below_drew1 | refine below_set ?_ GE378.out) | exact HB.out)) hb); have n3_ := Aside0.mk (hbox); have n4_ := Aside0.mk ((by rw [hg]; exact (below_size (by repeat (first | (with_reducible first | exact HB.out | apply below_alloc | apply pw_below_drewN | apply below_drew1 | refine below_set ?_ GE378.out) | exact HB.out))) : w.heap.size ≤ gb393)); have n5_ := Aside0.mk ((by rw [hg]; exact (below_size (by repeat (first | (with_reducible first | exact HB.out | apply below_alloc | apply pw_below_drewN | apply below_drew1 | refine below_set ?_ GE378.out) | exact HB.out))) : w.heap.size ≤ gb393)); have n6_ := Aside0.mk ((by rw [hg]; exact Nat.ne_of_lt (blk_lt (g := gb378) (o := .cells #[.slice (some ad392) l0_0.length c0_0, .int .i64 a0_1, .slice A0_2 l0_2.length c0_2, .int .i64 a0_3] 25 (0, 0)) (by (with_reducible repeat (first | refine blk_drewN ?_ _ | refine blk_drew ?_ | refine blk_alloc ?_ _)); exact BK378.out)) : gb378 ≠ gb393)); have n7_ := Aside0.mk ((by rw [hg]; exact Nat.ne_of_gt (blk_lt (g := gb378) (o := .cells #[.slice (some ad392) l0_0.length c0_0, .int .i64 a0_1, .slice A0_2 l0_2.length c0_2, .int .i64 a0_3] 25 (0, 0)) (by (with_reducible repeat (first | refine blk_drewN ?_ _ | refine blk_drew ?_ | refine blk_alloc ?_ _)); exact BK378.out)) : gb393 ≠ gb378)); clear HO_7; clear BK378; clear HB; have HO_7 := n0_; have BK378 := n1_; have HB := n2_; have BK393 := n3_; have GW393 := n4_; have GE393 := n5_; have NB378_393 := n6_; have NB393_378 := n7_; clear n0_ n1_ n2_ n3_ n4_ n5_ n6_ n7_; clear hb hbox hg; have hnb43 := NB393_378.out; have hnc43 := NB378_393.out; have hcz44_0 : w42.cell? ⟨gb393, 0, none⟩ = some (.bool false) := (blk_cell BK393.out 0).trans rfl; have hcz44_1 : w42.cell? ⟨gb393, 1, none⟩ = some (.slice none 0 0) := (blk_cell BK393.out 1).trans rfl; have hfz44_0 := blk_frozen BK393.out 0; have hfz44_1 := blk_frozen BK393.out 1))
                            repeat (go_quiet (first | ((with_reducible refine gate_dst (N := 11) rfl ?_); (try (refine gate_guard (by rfl) ?_; dsimp only)); refine box_event ?hg (N := 11) ?hd (cs := #[.bool false, .slice none 0 0]) (t := 55) ?hr ?_; (case hd => rfl); (case hg => rfl); (case hr => first | (go_simp; done) | (go_simp; rfl)); intro gb393 hg w42 hbox hb; have n0_ := Aside0.mk (Kd.S_below (by (with_reducible repeat (first | apply Kd.S_alloc | apply Kd.S_drewN | apply Kd.S_drew)); exact HO_7.out) hb); have n1_ := Aside0.mk (blk_below (g := gb378) (o := .cells #[.slice (some ad392) l0_0.length c0_0, .int .i64 a0_1, .slice A0_2 l0_2.length c0_2, .int .i64 a0_3] 25 (0, 0)) (by (with_reducible repeat (first | refine blk_drewN ?_ _ | refine blk_drew ?_ | refine blk_alloc ?_ _)); exact BK378.out) hb); have n2_ := Aside0.mk (below_step (by repeat (first | (with_reducible first | exact HB.out | apply below_alloc | apply pw_below_drewN | apply below_drew1 | refine below_set ?_ GE378.out) | exact HB.out)) hb); have n3_ := Aside0.mk (hbox); have n4_ := Aside0.mk ((by rw [hg]; exact (below_size (by repeat (first | (with_reducible first | exact HB.out | apply below_alloc | apply pw_below_drewN | apply below_drew1 | refine below_set ?_ GE378.out) | exact HB.out))) : w.heap.size ≤ gb393)); have n5_ := Aside0.mk ((by rw [hg]; exact (below_size (by repeat (first | (with_reducible first | exact HB.out | apply below_alloc | apply pw_below_drewN | apply below_drew1 | refine below_set ?_ GE378.out) | exact HB.out))) : w.heap.size ≤ gb393)); have n6_ := Aside0.mk ((by rw [hg]; exact Nat.ne_of_lt (blk_lt (g := gb378) (o := .cells #[.slice (some ad392) l0_0.length c0_0, .int .i64 a0_1, .slice A0_2 l0_2.length c0_2, .int .i64 a0_3] 25 (0, 0)) (by (with_reducible repeat (first | refine blk_drewN ?_ _ | refine blk_drew ?_ | refine blk_alloc ?_ _)); exact BK378.out)) : gb378 ≠ gb393)); have n7_ := Aside0.mk ((by rw [hg]; exact Nat.ne_of_gt (blk_lt (g := gb378) (o := .cells #[.slice (some ad392) l0_0.length c0_0, .int .i64 a0_1, .slice A0_2 l0_2.length c0_2, .int .i64 a0_3] 25 (0, 0)) (by (with_reducible repeat (first | refine blk_drewN ?_ _ | refine blk_drew ?_ | refine blk_alloc ?_ _)); exact BK378.out)) : gb393 ≠ gb378)); clear HO_7; clear BK378; clear HB; have HO_7 := n0_; have BK378 := n1_; have HB := n2_; have BK393 := n3_; have GW393 := n4_; have GE393 := n5_; have NB378_393 := n6_; have NB393_378 := n7_; clear n0_ n1_ n2_ n3_ n4_ n5_ n6_ n7_; clear hb hbox hg; have hnb43 := NB393_378.out; have hnc43 := NB378_393.out; have hcz44_0 : w42.cell? ⟨gb393, 0, none⟩ = some (.bool false) := (blk_cell BK393.out 0).trans rfl; have hcz44_1 : w42.cell? ⟨gb393, 1, none⟩ = some (.slice none 0 0) := (blk_cell BK393.out 1).trans rfl; have hfz44_0 := blk_frozen BK393.out 0; have hfz44_1 := blk_frozen BK393.out 1)); go_upto_if 70 with (first | ((with_reducible refine gate_dst (N := 11) rfl ?_); (try (refine gate_guard (by rfl) ?_; dsimp only)); refine box_event ?hg (N := 11) ?hd (cs := #[.bool false, .slice none 0 0]) (t := 55) ?hr ?_; (case hd => rfl); (case hg => rfl); (case hr => first | (go_simp; done) | (go_simp; rfl)); intro gb393 hg w42 hbox hb; have n0_ := Aside0.mk (Kd.S_below (by (with_reducible repeat (first | apply Kd.S_alloc | apply Kd.S_drewN | apply Kd.S_drew)); exact HO_7.out) hb); have n1_ := Aside0.mk (blk_below (g := gb378) (o := .cells #[.slice (some ad392) l0_0.length c0_0, .int .i64 a0_1, .slice A0_2 l0_2.length c0_2, .int .i64 a0_3] 25 (0, 0)) (by (with_reducible repeat (first | refine blk_drewN ?_ _ | refine blk_drew ?_ | refine blk_alloc ?_ _)); exact BK378.out) hb); have n2_ := Aside0.mk (below_step (by repeat (first | (with_reducible first | exact HB.out | apply below_alloc | apply pw_below_drewN | apply below_drew1 | refine below_set ?_ GE378.out) | exact HB.out)) hb); have n3_ := Aside0.mk (hbox); have n4_ := Aside0.mk ((by rw [hg]; exact (below_size (by repeat (first | (with_reducible first | exact HB.out | apply below_alloc | apply pw_below_drewN | apply below_drew1 | refine below_set ?_ GE378.out) | exact HB.out))) : w.heap.size ≤ gb393)); have n5_ := Aside0.mk ((by rw [hg]; exact (below_size (by repeat (first | (with_reducible first | exact HB.out | apply below_alloc | apply pw_below_drewN | apply below_drew1 | refine below_set ?_ GE378.out) | exact HB.out))) : w.heap.size ≤ gb393)); have n6_ := Aside0.mk ((by rw [hg]; exact Nat.ne_of_lt (blk_lt (g := gb378) (o := .cells #[.slice (some ad392) l0_0.length c0_0, .int .i64 a0_1, .slice A0_2 l0_2.length c0_2, .int .i64 a0_3] 25 (0, 0)) (by (with_reducible repeat (first | refine blk_drewN ?_ _ | refine blk_drew ?_ | refine blk_alloc ?_ _)); exact BK378.out)) : gb378 ≠ gb393)); have n7_ := Aside0.mk ((by rw [hg]; exact Nat.ne_of_gt (blk_lt (g := gb378) (o := .cells #[.slice (some ad392) l0_0.length c0_0, .int .i64 a0_1, .slice A0_2 l0_2.length c0_2, .int .i64 a0_3] 25 (0, 0)) (by (with_reducible repeat (first | refine blk_drewN ?_ _ | refine blk_drew ?_ | refine blk_alloc ?_ _)); exact BK378.out)) : gb393 ≠ gb378)); clear HO_7; clear BK378; clear HB; have HO_7 := n0_; have BK378 := n1_; have HB := n2_; have BK393 := n3_; have GW393 := n4_; have GE393 := n5_; have NB378_393 := n6_; have NB393_378 := n7_; clear n0_ n1_ n2_ n3_ n4_ n5_ n6_ n7_; clear hb hbox hg; have hnb43 := NB393_378.out; have hnc43 := NB378_393.out; have hcz44_0 : w42.cell? ⟨gb393, 0, none⟩ = some (.bool false) := (blk_cell BK393.out 0).trans rfl; have hcz44_1 : w42.cell? ⟨gb393, 1, none⟩ = some (.slice none 0 0) := (blk_cell BK393.out 1).trans rfl; have hfz44_0 := blk_frozen BK393.out 0; have hfz44_1 := blk_frozen BK393.out 1)))
                            (try simp only [Act.put, List.setIfInBounds_toArray, List.set_cons_zero, List.set_cons_succ])
                            go_cut [12] (fun v12 wc => ∃ (kq : Nat) (x12_39 : Int), v12 = .int .i64 x12_39 ∧ Aside0 (skolemlaw35_PuzzleGuided.j4 kq l1 t382 t384 x9_3 x10_3 x12_39 l0_0 a0_1 l0_2 a0_3 ((rd_T55 l0_0 x9_3).f0) ((rd_T55 l0_0 x9_3).f1) = some r) ∧ Aside0 (kq ≤ kj29) ∧ Aside0 (Kd.S (Kd.slice 3 (Kd.int .i64)) 23 wc w.heap.size (fun _ => True) v385 t384) ∧ Aside0 (wc.heap[gb378]? = some (.cells #[(.slice (some ad392) l0_0.length c0_0), .int .i64 a0_1, (.slice A0_2 l0_2.length c0_2), .int .i64 a0_3] 25 (0, 0))) ∧ Aside0 (wc.heap[gb393]? = some (.cells #[.bool ((rd_T55 l0_0 x9_3).f0), (.slice A392_1 ((rd_T55 l0_0 x9_3).f1).length c392_1)] 55 (0, 0))) ∧ Aside0 (Below w.heap.size w wc))
                            case first =>
                              have H := HC40.out
                              clear HC40
                              by_cases c45 : x10_3 < (l1.length : Int)
                              · rw [if_pos c45] at H
                                have c45b0 : decide (x10_3 < (l1.length : Int)) = true := decide_eq_true c45
                                clear c45
                                (first | rw [c45b0] | (simp only [i64_w, i32_w]; rw [c45b0]) | skip)
                                by_cases c46 : 0 ≤ x10_3
                                · rw [if_pos c46] at H
                                  have c46b0 : decide (0 ≤ x10_3) = true := decide_eq_true c46
                                  clear c46
                                  have H' := Aside0.mk H
                                  clear H
                                  have p394 : 0 ≤ (x10_3 : Int) := of_decide_eq_true (by first | (with_reducible assumption) | assumption)
                                  have q394 : x10_3 < (l1.length : Int) := of_decide_eq_true (by first | (with_reducible assumption) | assumption)
                                  obtain ⟨ad394, e394, hx394_0⟩ := Kd.at_int HR1.out x10_3 p394 q394
                                  cases e394
                                  have hn394_0 : ad394.block ≠ gb393 := Nat.ne_of_lt (Nat.lt_of_lt_of_le (by have := World.block_lt_of_cell? _ _ hx394_0; first | rwa [add_block] at this | exact this) GW393.out)
                                  have hn394_1 : ad394.block ≠ gb393 := Nat.ne_of_lt (Nat.lt_of_lt_of_le (by have := World.block_lt_of_cell? _ _ hx394_0; first | rwa [add_block] at this | exact this) GW393.out)
                                  replace hx394_0 := (HB.out.cell (World.block_lt_of_cell? w _ hx394_0)).trans hx394_0
                                  replace hx394_0 := (cell_far (p := ⟨gb393, 0, none⟩) (by first | (rw [add_block]; exact hn394_0) | (show (Addr.add _ _).block ≠ _; rw [add_block]; exact hn394_0) | exact hn394_0) (.bool ((rd_T55 l0_0 x9_3).f0))).trans hx394_0
                                  replace hx394_0 := (cell_far (p := ⟨gb393, 1, none⟩) (by first | (rw [add_block]; exact hn394_1) | (show (Addr.add _ _).block ≠ _; rw [add_block]; exact hn394_1) | exact hn394_1) (.slice A392_1 ((rd_T55 l0_0 x9_3).f1).length c392_1)).trans hx394_0
                                  (try have hy394_0 := fun (n_ : Nat) => (show ((((w42.drewN n_).setCell ⟨gb393, 0, none⟩ (.bool ((rd_T55 l0_0 x9_3).f0))).setCell ⟨gb393, 1, none⟩ (.slice A392_1 ((rd_T55 l0_0 x9_3).f1).length c392_1))).cell? _ = some _ from hx394_0))
                                  clear hn394_0
                                  clear hn394_1
                                  replace p394 := eq_true p394
                                  replace q394 := eq_true q394
                                  go_wp2
                                  repeat (go_quiet (fail); try go_wp2)
                                  go_meet
                                  case rel => exact ⟨_, (wrap64 (rd l1 x10_3)), (by first | rfl | (simp; done) | (simp [*]; done)), H', ⟨by have := HJ2.out; have := HJ18.out; have := HK3.out; have := HJ29.out; first | omega | exact Nat.le_refl _⟩, ⟨by (with_reducible repeat (first | apply Kd.S_alloc | apply Kd.S_drewN | apply Kd.S_drew)); exact Kd.S_mono (Kd.S_far (p := ⟨gb393, 1, none⟩) (Kd.S_far (p := ⟨gb393, 0, none⟩) (Kd.S_types HO_7.out BK393.out (by decide)) (fun _ hk => hk.2) (.bool ((rd_T55 l0_0 x9_3).f0))) (fun _ hk => hk.2) (.slice A392_1 ((rd_T55 l0_0 x9_3).f1).length c392_1)) (fun _ hk => trivial)⟩, ⟨by (with_reducible repeat (first | refine blk_drewN ?_ _ | refine blk_drew ?_ | refine blk_alloc ?_ _)); refine blk_far ?_ NB378_393.out _; (with_reducible repeat (first | refine blk_drewN ?_ _ | refine blk_drew ?_ | refine blk_alloc ?_ _)); refine blk_far ?_ NB378_393.out _; (with_reducible repeat (first | refine blk_drewN ?_ _ | refine blk_drew ?_ | refine blk_alloc ?_ _)); exact BK378.out⟩, ⟨by (with_reducible repeat (first | refine blk_drewN ?_ _ | refine blk_drew ?_ | refine blk_alloc ?_ _)); refine blk_put (cs := #[.bool ((rd_T55 l0_0 x9_3).f0), .slice none 0 0]) ?_ 1 _ rfl; (with_reducible repeat (first | refine blk_drewN ?_ _ | refine blk_drew ?_ | refine blk_alloc ?_ _)); refine blk_put (cs := #[.bool false, .slice none 0 0]) ?_ 0 _ rfl; (with_reducible repeat (first | refine blk_drewN ?_ _ | refine blk_drew ?_ | refine blk_alloc ?_ _)); exact BK393.out⟩, ⟨by repeat (first | (with_reducible first | exact HB.out | apply below_alloc | apply pw_below_drewN | apply below_drew1 | refine below_set ?_ GE378.out | refine below_set ?_ GE393.out) | exact HB.out)⟩⟩
                                · rw [if_neg c46] at H
                                  exact absurd H (by simp)
                              · rw [if_neg c45] at H
                                have c45b0 : decide (x10_3 < (l1.length : Int)) = false := decide_eq_false c45
                                clear c45
                                (first | rw [c45b0] | (simp only [i64_w, i32_w]; rw [c45b0]) | skip)
                                have H' := Aside0.mk H
                                clear H
                                go_wp2
                                repeat (go_quiet (fail); try go_wp2)
                                go_meet
                                case rel => exact ⟨_, (0), (by first | rfl | (simp; done) | (simp [*]; done)), H', ⟨by have := HJ2.out; have := HJ18.out; have := HK3.out; have := HJ29.out; first | omega | exact Nat.le_refl _⟩, ⟨by (with_reducible repeat (first | apply Kd.S_alloc | apply Kd.S_drewN | apply Kd.S_drew)); exact Kd.S_mono (Kd.S_far (p := ⟨gb393, 1, none⟩) (Kd.S_far (p := ⟨gb393, 0, none⟩) (Kd.S_types HO_7.out BK393.out (by decide)) (fun _ hk => hk.2) (.bool ((rd_T55 l0_0 x9_3).f0))) (fun _ hk => hk.2) (.slice A392_1 ((rd_T55 l0_0 x9_3).f1).length c392_1)) (fun _ hk => trivial)⟩, ⟨by (with_reducible repeat (first | refine blk_drewN ?_ _ | refine blk_drew ?_ | refine blk_alloc ?_ _)); refine blk_far ?_ NB378_393.out _; (with_reducible repeat (first | refine blk_drewN ?_ _ | refine blk_drew ?_ | refine blk_alloc ?_ _)); refine blk_far ?_ NB378_393.out _; (with_reducible repeat (first | refine blk_drewN ?_ _ | refine blk_drew ?_ | refine blk_alloc ?_ _)); exact BK378.out⟩, ⟨by (with_reducible repeat (first | refine blk_drewN ?_ _ | refine blk_drew ?_ | refine blk_alloc ?_ _)); refine blk_put (cs := #[.bool ((rd_T55 l0_0 x9_3).f0), .slice none 0 0]) ?_ 1 _ rfl; (with_reducible repeat (first | refine blk_drewN ?_ _ | refine blk_drew ?_ | refine blk_alloc ?_ _)); refine blk_put (cs := #[.bool false, .slice none 0 0]) ?_ 0 _ rfl; (with_reducible repeat (first | refine blk_drewN ?_ _ | refine blk_drew ?_ | refine blk_alloc ?_ _)); exact BK393.out⟩, ⟨by repeat (first | (with_reducible first | exact HB.out | apply below_alloc | apply pw_below_drewN | apply below_drew1 | refine below_set ?_ GE378.out | refine below_set ?_ GE393.out) | exact HB.out)⟩⟩
                            case rest =>
                              clear HC40
                              try clear c1
                              try clear c2
                              try clear p2
                              try clear c3
                              try clear p3
                              try clear q3
                              try clear hx3
                              try clear c4
                              try clear c5
                              try clear c6
                              try clear p6
                              try clear c14
                              try clear c24
                              try clear c24b0
                              try clear c24b1
                              try clear c25
                              try clear c25b0
                              try clear c25b1
                              try clear c28
                              try clear c31
                              try clear c31b0
                              try clear c32
                              try clear c37
                              try clear c38
                              try clear c38b0
                              try clear c39
                              try clear c39b0
                              try clear p39
                              try clear q39
                              try clear hx39
                              try clear c43
                              try clear c45
                              try clear c45b0
                              try clear c46
                              try clear c46b0
                              try clear hcz10_0
                              try clear hcz10_1
                              try clear hcz10_2
                              try clear hcz10_3
                              try clear hcz12_0
                              try clear hcz12_1
                              try clear hcz12_2
                              try clear hcz12_3
                              try clear hcz20_0
                              try clear hcz20_1
                              try clear hcz20_2
                              try clear hcz20_3
                              try clear hcz22_0
                              try clear hcz22_1
                              try clear hcz22_2
                              try clear hcz22_3
                              try clear hcz27_0
                              try clear hcz27_1
                              try clear hcz27_2
                              try clear hcz27_3
                              try clear hcz29_0
                              try clear hcz29_1
                              try clear hcz29_2
                              try clear hcz29_3
                              try clear hcz34_0
                              try clear hcz34_1
                              try clear hcz34_2
                              try clear hcz34_3
                              try clear hcz35_0
                              try clear hcz35_1
                              try clear hcz35_2
                              try clear hcz35_3
                              try clear hcz36_0
                              try clear hcz36_1
                              try clear hcz36_2
                              try clear hcz36_3
                              try clear hcz41_0
                              try clear hcz41_1
                              try clear hcz41_2
                              try clear hcz41_3
                              try clear hcz44_0
                              try clear hcz44_1
                              try clear hcz7_0
                              try clear hcz7_1
                              try clear hcz7_2
                              try clear hcz7_3
                              try clear hfz10_0
                              try clear hfz10_1
                              try clear hfz10_2
                              try clear hfz10_3
                              try clear hfz12_0
                              try clear hfz12_1
                              try clear hfz12_2
                              try clear hfz12_3
                              try clear hfz20_0
                              try clear hfz20_1
                              try clear hfz20_2
                              try clear hfz20_3
                              try clear hfz22_0
                              try clear hfz22_1
                              try clear hfz22_2
                              try clear hfz22_3
                              try clear hfz27_0
                              try clear hfz27_1
                              try clear hfz27_2
                              try clear hfz27_3
                              try clear hfz29_0
                              try clear hfz29_1
                              try clear hfz29_2
                              try clear hfz29_3
                              try clear hfz34_0
                              try clear hfz34_1
                              try clear hfz34_2
                              try clear hfz34_3
                              try clear hfz35_0
                              try clear hfz35_1
                              try clear hfz35_2
                              try clear hfz35_3
                              try clear hfz36_0
                              try clear hfz36_1
                              try clear hfz36_2
                              try clear hfz36_3
                              try clear hfz41_0
                              try clear hfz41_1
                              try clear hfz41_2
                              try clear hfz41_3
                              try clear hfz44_0
                              try clear hfz44_1
                              try clear hfz7_0
                              try clear hfz7_1
                              try clear hfz7_2
                              try clear hfz7_3
                              try clear hx392_0
                              try clear hx392_1
                              try clear hx394_0
                              try clear p2
                              try clear p392
                              try clear p394
                              try clear q392
                              try clear q394
                              obtain ⟨kq, x12_39, rfl, HA, HJ39, HO_7, BK378, BK393, HB⟩ := hcut
                              cases kq with
                              | zero => exact absurd HA.out (by simp [skolemlaw35_PuzzleGuided.j4])
                              | succ kj39 =>
                                have H := HA.out
                                clear HA
                                simp only [skolemlaw35_PuzzleGuided.j4] at H
                                by_cases c47 : ((rd_T55 l0_0 x9_3).f0) = true
                                · rw [if_pos c47] at H
                                  have c47b0 : ((rd_T55 l0_0 x9_3).f0) = true := c47
                                  clear c47
                                  obtain ⟨ji48, hji48⟩ : ∃ j_ : Int, (wrap64 ((wrap64 (a0_3 - 1)) - x10_3)) = j_ := ⟨_, rfl⟩
                                  replace H : (if 0 ≤ (ji48) then (if (ji48) < (t384.length : Int) then (if 0 ≤ x9_3 then (if x9_3 < ((rd_L2 t384 (ji48)).length : Int) then (if (((rd_T55 l0_0 x9_3).f1).length : Int) = 0 then (some false) else (if (rd (rd_L2 t384 (ji48)) x9_3) < 0 then (some false) else (if (rd (rd_L2 t384 (ji48)) x9_3) ≥ (((rd_T55 l0_0 x9_3).f1).length : Int) then (some false) else (if 0 ≤ (Int.tmod (rd (rd_L2 t384 (ji48)) x9_3) (((rd_T55 l0_0 x9_3).f1).length : Int)) then (if (Int.tmod (rd (rd_L2 t384 (ji48)) x9_3) (((rd_T55 l0_0 x9_3).f1).length : Int)) < (((rd_T55 l0_0 x9_3).f1).length : Int) then (skolemlaw35_PuzzleGuided.l0 kj39 l1 t382 t384 (rd ((rd_T55 l0_0 x9_3).f1) (Int.tmod (rd (rd_L2 t384 (ji48)) x9_3) (((rd_T55 l0_0 x9_3).f1).length : Int))) (wrap64 (x10_3 + 1)) l0_0 a0_1 l0_2 a0_3) else (none)) else (none))))) else (none)) else (none)) else (none)) else (none)) = some r := by first | (rw [hji48] at H; exact H) | (simp only [hji48] at H ⊢; exact H)
                                  have hji48w : (IntKind.i64.wrap ((wrap64 (a0_3 - 1)) - x10_3)) = ji48 := (i64_w _).trans hji48
                                  by_cases c49 : 0 ≤ (ji48)
                                  · rw [if_pos c49] at H
                                    have c49b0 : decide (0 ≤ (ji48)) = true := decide_eq_true c49
                                    clear c49
                                    by_cases c50 : (ji48) < (t384.length : Int)
                                    · rw [if_pos c50] at H
                                      have c50b0 : decide ((ji48) < (t384.length : Int)) = true := decide_eq_true c50
                                      clear c50
                                      by_cases c51 : 0 ≤ x9_3
                                      · rw [if_pos c51] at H
                                        have c51b0 : decide (0 ≤ x9_3) = true := decide_eq_true c51
                                        clear c51
                                        by_cases c52 : x9_3 < ((rd_L2 t384 (ji48)).length : Int)
                                        · rw [if_pos c52] at H
                                          have c52b0 : decide (x9_3 < ((rd_L2 t384 (ji48)).length : Int)) = true := decide_eq_true c52
                                          clear c52
                                          by_cases c53 : (((rd_T55 l0_0 x9_3).f1).length : Int) = 0
                                          · rw [if_pos c53] at H
                                            have c53b0 : ((((rd_T55 l0_0 x9_3).f1).length : Int) == 0) = true := beq_iff_eq.mpr c53
                                            have c53b1 : ((((rd_T55 l0_0 x9_3).f1).length : Int) != 0) = false := bne_eq_false_iff_eq.mpr c53
                                            clear c53
                                            exact absurd ((Option.some.inj H).trans HT_.out) (by decide)
                                          · rw [if_neg c53] at H
                                            have c53b0 : ((((rd_T55 l0_0 x9_3).f1).length : Int) == 0) = false := beq_eq_false_iff_ne.mpr c53
                                            have c53b1 : ((((rd_T55 l0_0 x9_3).f1).length : Int) != 0) = true := bne_iff_ne.mpr c53
                                            have c53b2 : ¬ (((rd_T55 l0_0 x9_3).f1) = []) := fun h_ => c53 (by rw [h_]; rfl)
                                            by_cases c54 : (rd (rd_L2 t384 (ji48)) x9_3) < 0
                                            · rw [if_pos c54] at H
                                              have c54b0 : decide ((rd (rd_L2 t384 (ji48)) x9_3) < 0) = true := decide_eq_true c54
                                              clear c54
                                              exact absurd ((Option.some.inj H).trans HT_.out) (by decide)
                                            · rw [if_neg c54] at H
                                              have c54b0 : decide ((rd (rd_L2 t384 (ji48)) x9_3) < 0) = false := decide_eq_false c54
                                              clear c54
                                              by_cases c55 : (rd (rd_L2 t384 (ji48)) x9_3) ≥ (((rd_T55 l0_0 x9_3).f1).length : Int)
                                              · rw [if_pos c55] at H
                                                have c55b0 : decide ((((rd_T55 l0_0 x9_3).f1).length : Int) ≤ (rd (rd_L2 t384 (ji48)) x9_3)) = true := decide_eq_true c55
                                                clear c55
                                                exact absurd ((Option.some.inj H).trans HT_.out) (by decide)
                                              · rw [if_neg c55] at H
                                                have c55b0 : decide ((((rd_T55 l0_0 x9_3).f1).length : Int) ≤ (rd (rd_L2 t384 (ji48)) x9_3)) = false := decide_eq_false c55
                                                clear c55
                                                obtain ⟨ji56, hji56⟩ : ∃ j_ : Int, (Int.tmod (rd (rd_L2 t384 (ji48)) x9_3) (((rd_T55 l0_0 x9_3).f1).length : Int)) = j_ := ⟨_, rfl⟩
                                                replace H : (if 0 ≤ (ji56) then (if (ji56) < (((rd_T55 l0_0 x9_3).f1).length : Int) then (skolemlaw35_PuzzleGuided.l0 kj39 l1 t382 t384 (rd ((rd_T55 l0_0 x9_3).f1) (ji56)) (wrap64 (x10_3 + 1)) l0_0 a0_1 l0_2 a0_3) else (none)) else (none)) = some r := by first | (rw [hji56] at H; exact H) | (simp only [hji56] at H ⊢; exact H)
                                                by_cases c57 : 0 ≤ (ji56)
                                                · rw [if_pos c57] at H
                                                  have c57b0 : decide (0 ≤ (ji56)) = true := decide_eq_true c57
                                                  clear c57
                                                  by_cases c58 : (ji56) < (((rd_T55 l0_0 x9_3).f1).length : Int)
                                                  · rw [if_pos c58] at H
                                                    have c58b0 : decide ((ji56) < (((rd_T55 l0_0 x9_3).f1).length : Int)) = true := decide_eq_true c58
                                                    clear c58
                                                    have H' := Aside0.mk H
                                                    clear H
                                                    have hnb59 := NB393_378.out
                                                    have hnc59 := NB378_393.out
                                                    have hcz60_0 : wc.cell? ⟨gb393, 0, none⟩ = some (.bool ((rd_T55 l0_0 x9_3).f0)) := (blk_cell BK393.out 0).trans rfl
                                                    have hcz60_1 : wc.cell? ⟨gb393, 1, none⟩ = some (.slice A392_1 ((rd_T55 l0_0 x9_3).f1).length c392_1) := (blk_cell BK393.out 1).trans rfl
                                                    have hfz60_0 := blk_frozen BK393.out 0
                                                    have hfz60_1 := blk_frozen BK393.out 1
                                                    have hcz61_0 : wc.cell? ⟨gb378, 0, none⟩ = some (.slice (some ad392) l0_0.length c0_0) := (blk_cell BK378.out 0).trans rfl
                                                    have hcz61_1 : wc.cell? ⟨gb378, 1, none⟩ = some (.int .i64 a0_1) := (blk_cell BK378.out 1).trans rfl
                                                    have hcz61_2 : wc.cell? ⟨gb378, 2, none⟩ = some (.slice A0_2 l0_2.length c0_2) := (blk_cell BK378.out 2).trans rfl
                                                    have hcz61_3 : wc.cell? ⟨gb378, 3, none⟩ = some (.int .i64 a0_3) := (blk_cell BK378.out 3).trans rfl
                                                    have hfz61_0 := blk_frozen BK378.out 0
                                                    have hfz61_1 := blk_frozen BK378.out 1
                                                    have hfz61_2 := blk_frozen BK378.out 2
                                                    have hfz61_3 := blk_frozen BK378.out 3
                                                    obtain ⟨Ao62, co62, eo62⟩ := Kd.S_slice HO_7.out
                                                    subst eo62
                                                    have p395 : 0 ≤ ((ji48) : Int) := of_decide_eq_true (by first | (with_reducible assumption) | assumption)
                                                    have q395 : (ji48) < (t384.length : Int) := of_decide_eq_true (by first | (with_reducible assumption) | assumption)
                                                    obtain ⟨ad395, A395_0, c395_0, e395, hx395_0, hl395_0, hi395_0⟩ := at_L2 (Kd.S_reads' HO_7.out).2.2 (ji48) p395 q395
                                                    cases e395
                                                    obtain ⟨ce395, hce395, hMe395, hcc395⟩ := Kd.S_get HO_7.out [] (ji48) p395 (by first | exact q395 | exact of_decide_eq_true (by first | (with_reducible assumption) | assumption) | (have e_ := (Kd.S_reads' HO_7.out).1; omega))
                                                    obtain ⟨ve395_0, rfl, ge395_0⟩ := hMe395
                                                    have hv395_0 := hcc395 0 _ rfl
                                                    rw [Nat.add_zero, show ((Kd.slice 3 (Kd.int .i64))).sz = 1 from rfl, Nat.mul_one] at hv395_0
                                                    replace hv395_0 := Option.some.inj (hv395_0.symm.trans hx395_0)
                                                    rw [hv395_0] at ge395_0
                                                    have HL395_0 := Aside0.mk (show Kd.R (Kd.int .i64) 3 _ _ _ _ (rd_L2 t384 (ji48)) from ge395_0)
                                                    clear hv395_0 ge395_0
                                                    clear hcc395 hce395
                                                    have HR395_0 := Aside0.mk hi395_0
                                                    have HC395_0 := Aside0.mk hl395_0
                                                    clear hi395_0 hl395_0
                                                    replace p395 := eq_true p395
                                                    replace q395 := eq_true q395
                                                    have p396 : 0 ≤ (x9_3 : Int) := of_decide_eq_true (by first | (with_reducible assumption) | assumption)
                                                    have q396 : x9_3 < ((rd_L2 t384 (ji48)).length : Int) := of_decide_eq_true (by first | (with_reducible assumption) | assumption)
                                                    obtain ⟨ad396, e396, hx396_0⟩ := Kd.at_int (by repeat (first | (with_reducible exact HR395_0.out) | (with_reducible refine Kd.C_alloc ?_ _) | (with_reducible refine Kd.C_drewN ?_ _) | (with_reducible refine Kd.C_drew ?_) | exact HR395_0.out)) x9_3 p396 q396
                                                    cases e396
                                                    replace p396 := eq_true p396
                                                    replace q396 := eq_true q396
                                                    have p397 : 0 ≤ ((ji56) : Int) := of_decide_eq_true (by first | (with_reducible assumption) | assumption)
                                                    have q397 : (ji56) < (((rd_T55 l0_0 x9_3).f1).length : Int) := of_decide_eq_true (by first | (with_reducible assumption) | assumption)
                                                    obtain ⟨ad397, e397, hx397_0⟩ := Kd.at_int HR392_1.out (ji56) p397 q397
                                                    cases e397
                                                    replace hx397_0 := (HB.out.cell (World.block_lt_of_cell? w _ hx397_0)).trans hx397_0
                                                    replace p397 := eq_true p397
                                                    replace q397 := eq_true q397
                                                    go_wp2
                                                    repeat (go_quiet (fail); try go_wp2)
                                                    go_roundg kj39
                                                    case measure => have := HJ2.out; have := HJ18.out; have := HK3.out; have := HJ29.out; have := HJ39.out; omega
                                                    case rel => exact ⟨(rd ((rd_T55 l0_0 x9_3).f1) (ji56)), (wrap64 (x10_3 + 1)), (by first | rfl | (simp; done) | (simp only [← hji56] <;> (first | rfl | simp)) | (simp [*]; done)), (by first | rfl | (simp; done) | (simp [*]; done)), H', ⟨by have := HJ2.out; have := HJ18.out; have := HK3.out; have := HJ29.out; have := HJ39.out; omega⟩, ⟨by (with_reducible repeat (first | apply Kd.S_alloc | apply Kd.S_drewN | apply Kd.S_drew)); exact HO_7.out⟩, ⟨by (with_reducible repeat (first | refine blk_drewN ?_ _ | refine blk_drew ?_ | refine blk_alloc ?_ _)); exact BK378.out⟩, ⟨by repeat (first | (with_reducible first | exact HB.out | apply below_alloc | apply pw_below_drewN | apply below_drew1 | refine below_set ?_ GE378.out | refine below_set ?_ GE393.out) | exact HB.out)⟩⟩
                                                  · rw [if_neg c58] at H
                                                    exact absurd H (by simp)
                                                · rw [if_neg c57] at H
                                                  exact absurd H (by simp)
                                        · rw [if_neg c52] at H
                                          exact absurd H (by simp)
                                      · rw [if_neg c51] at H
                                        exact absurd H (by simp)
                                    · rw [if_neg c50] at H
                                      exact absurd H (by simp)
                                  · rw [if_neg c49] at H
                                    exact absurd H (by simp)
                                · rw [if_neg c47] at H
                                  have c47b0 : ((rd_T55 l0_0 x9_3).f0) = false := by simpa using c47
                                  clear c47
                                  by_cases c63 : (((rd_T55 l0_0 x9_3).f1).length : Int) = 0
                                  · rw [if_pos c63] at H
                                    have c63b0 : ((((rd_T55 l0_0 x9_3).f1).length : Int) == 0) = true := beq_iff_eq.mpr c63
                                    have c63b1 : ((((rd_T55 l0_0 x9_3).f1).length : Int) != 0) = false := bne_eq_false_iff_eq.mpr c63
                                    clear c63
                                    exact absurd ((Option.some.inj H).trans HT_.out) (by decide)
                                  · rw [if_neg c63] at H
                                    have c63b0 : ((((rd_T55 l0_0 x9_3).f1).length : Int) == 0) = false := beq_eq_false_iff_ne.mpr c63
                                    have c63b1 : ((((rd_T55 l0_0 x9_3).f1).length : Int) != 0) = true := bne_iff_ne.mpr c63
                                    have c63b2 : ¬ (((rd_T55 l0_0 x9_3).f1) = []) := fun h_ => c63 (by rw [h_]; rfl)
                                    by_cases c64 : x12_39 < 0
                                    · rw [if_pos c64] at H
                                      have c64b0 : decide (x12_39 < 0) = true := decide_eq_true c64
                                      clear c64
                                      exact absurd ((Option.some.inj H).trans HT_.out) (by decide)
                                    · rw [if_neg c64] at H
                                      have c64b0 : decide (x12_39 < 0) = false := decide_eq_false c64
                                      clear c64
                                      obtain ⟨ji65, hji65⟩ : ∃ j_ : Int, (Int.tmod x12_39 (((rd_T55 l0_0 x9_3).f1).length : Int)) = j_ := ⟨_, rfl⟩
                                      replace H : (if 0 ≤ (ji65) then (if (ji65) < (((rd_T55 l0_0 x9_3).f1).length : Int) then (skolemlaw35_PuzzleGuided.l0 kj39 l1 t382 t384 (rd ((rd_T55 l0_0 x9_3).f1) (ji65)) (wrap64 (x10_3 + 1)) l0_0 a0_1 l0_2 a0_3) else (none)) else (none)) = some r := by first | (rw [hji65] at H; exact H) | (simp only [hji65] at H ⊢; exact H)
                                      by_cases c66 : 0 ≤ (ji65)
                                      · rw [if_pos c66] at H
                                        have c66b0 : decide (0 ≤ (ji65)) = true := decide_eq_true c66
                                        clear c66
                                        by_cases c67 : (ji65) < (((rd_T55 l0_0 x9_3).f1).length : Int)
                                        · rw [if_pos c67] at H
                                          have c67b0 : decide ((ji65) < (((rd_T55 l0_0 x9_3).f1).length : Int)) = true := decide_eq_true c67
                                          clear c67
                                          have H' := Aside0.mk H
                                          clear H
                                          have hnb68 := NB393_378.out
                                          have hnc68 := NB378_393.out
                                          have hcz69_0 : wc.cell? ⟨gb393, 0, none⟩ = some (.bool ((rd_T55 l0_0 x9_3).f0)) := (blk_cell BK393.out 0).trans rfl
                                          have hcz69_1 : wc.cell? ⟨gb393, 1, none⟩ = some (.slice A392_1 ((rd_T55 l0_0 x9_3).f1).length c392_1) := (blk_cell BK393.out 1).trans rfl
                                          have hfz69_0 := blk_frozen BK393.out 0
                                          have hfz69_1 := blk_frozen BK393.out 1
                                          have p398 : 0 ≤ ((ji65) : Int) := of_decide_eq_true (by first | (with_reducible assumption) | assumption)
                                          have q398 : (ji65) < (((rd_T55 l0_0 x9_3).f1).length : Int) := of_decide_eq_true (by first | (with_reducible assumption) | assumption)
                                          obtain ⟨ad398, e398, hx398_0⟩ := Kd.at_int HR392_1.out (ji65) p398 q398
                                          cases e398
                                          replace hx398_0 := (HB.out.cell (World.block_lt_of_cell? w _ hx398_0)).trans hx398_0
                                          replace p398 := eq_true p398
                                          replace q398 := eq_true q398
                                          go_wp2
                                          repeat (go_quiet (fail); try go_wp2)
                                          go_roundg kj39
                                          case measure => have := HJ2.out; have := HJ18.out; have := HK3.out; have := HJ29.out; have := HJ39.out; omega
                                          case rel => exact ⟨(rd ((rd_T55 l0_0 x9_3).f1) (ji65)), (wrap64 (x10_3 + 1)), (by first | rfl | (simp; done) | (simp only [← hji65] <;> (first | rfl | simp)) | (simp [*]; done)), (by first | rfl | (simp; done) | (simp [*]; done)), H', ⟨by have := HJ2.out; have := HJ18.out; have := HK3.out; have := HJ29.out; have := HJ39.out; omega⟩, ⟨by (with_reducible repeat (first | apply Kd.S_alloc | apply Kd.S_drewN | apply Kd.S_drew)); exact HO_7.out⟩, ⟨by (with_reducible repeat (first | refine blk_drewN ?_ _ | refine blk_drew ?_ | refine blk_alloc ?_ _)); exact BK378.out⟩, ⟨by repeat (first | (with_reducible first | exact HB.out | apply below_alloc | apply pw_below_drewN | apply below_drew1 | refine below_set ?_ GE378.out | refine below_set ?_ GE393.out) | exact HB.out)⟩⟩
                                        · rw [if_neg c67] at H
                                          exact absurd H (by simp)
                                      · rw [if_neg c66] at H
                                        exact absurd H (by simp)
                          · rw [if_neg c39] at H
                            exact absurd H (by simp)
                        · rw [if_neg c38] at H
                          exact absurd H (by simp)
                      · replace c37 := Bool.eq_false_iff.mpr c37
                        subst c37
                        have H1 : (if t382 = true then ((skolemref03_Has.f kj29 l0_2 x9_3).bind fun t389 => (if t389 = true then ((skolemlaw35_head.f kj29).bind fun t390 => (some t390)) else (some false))) else ((skolemlaw35_head.f kj29).bind fun t391 => (some t391))) = some r := by rw [if_neg (show ¬ (false = true) by decide)] at H; exact H
                        clear H
                        have H := H1
                        clear H1
                        by_cases c70 : t382 = true
                        · subst c70
                          have H1 : ((skolemref03_Has.f kj29 l0_2 x9_3).bind fun t389 => (if t389 = true then ((skolemlaw35_head.f kj29).bind fun t390 => (some t390)) else (some false))) = some r := by rw [if_pos rfl] at H; exact H
                          clear H
                          have H := H1
                          clear H1
                          replace H := Option.bind_eq_some_iff.mp H
                          obtain ⟨t389, A710, H⟩ := H
                          replace H : (if t389 = true then ((skolemlaw35_head.f kj29).bind fun t390 => (some t390)) else (some false)) = some r := H
                          have A71 := Aside0.mk A710
                          clear A710
                          by_cases c72 : t389 = true
                          · subst c72
                            have H1 : ((skolemlaw35_head.f kj29).bind fun t390 => (some t390)) = some r := by rw [if_pos rfl] at H; exact H
                            clear H
                            have H := H1
                            clear H1
                            replace H := Option.bind_eq_some_iff.mp H
                            obtain ⟨t390, A730, H⟩ := H
                            replace H : (some t390) = some r := H
                            have A73 := Aside0.mk A730
                            clear A730
                            obtain rfl := Option.some.inj H
                            have hcz74_0 : wc.cell? ⟨gb378, 0, none⟩ = some (.slice A0_0 l0_0.length c0_0) := (blk_cell BK378.out 0).trans rfl
                            have hcz74_1 : wc.cell? ⟨gb378, 1, none⟩ = some (.int .i64 a0_1) := (blk_cell BK378.out 1).trans rfl
                            have hcz74_2 : wc.cell? ⟨gb378, 2, none⟩ = some (.slice A0_2 l0_2.length c0_2) := (blk_cell BK378.out 2).trans rfl
                            have hcz74_3 : wc.cell? ⟨gb378, 3, none⟩ = some (.int .i64 a0_3) := (blk_cell BK378.out 3).trans rfl
                            have hfz74_0 := blk_frozen BK378.out 0
                            have hfz74_1 := blk_frozen BK378.out 1
                            have hfz74_2 := blk_frozen BK378.out 2
                            have hfz74_3 := blk_frozen BK378.out 3
                            go_wp2_with (first | (go_at_call 24; (with_reducible refine (skolemref03_Has.calls kj29 _ _ l0_2 x9_3 true _ ?side1 ?side2 A71.out).mono ?_); (case side1 => repeat (first | exact (Kd.C_below HR0_2.out HB.out) | (with_reducible refine Kd.C_alloc ?_ _) | (with_reducible refine Kd.C_drewN ?_ _) | (with_reducible refine Kd.C_drew ?_))); (case side2 => exact HC0_2.out); rintro e w' ⟨rfl, ⟨nd, rfl⟩⟩; (try first | exact ⟨rfl, _, World.drewN_drewN _ _ _⟩ | exact ⟨rfl, _, Eq.trans (World.drewN_drewN _ _ _) (congrArg (World.drewN _) (Nat.add_assoc _ _ _))⟩)) | (go_at_call 9; (with_reducible refine (skolemlaw35_head.calls kj29  t390 _ A73.out).mono ?_); rintro e w75 ⟨rfl, hb⟩; have n0_ := Aside0.mk (Kd.S_below (by (with_reducible repeat (first | apply Kd.S_alloc | apply Kd.S_drewN | apply Kd.S_drew)); exact HO_7.out) hb); have n1_ := Aside0.mk (blk_below (g := gb378) (o := .cells #[.slice A0_0 l0_0.length c0_0, .int .i64 a0_1, .slice A0_2 l0_2.length c0_2, .int .i64 a0_3] 25 (0, 0)) (by (with_reducible repeat (first | refine blk_drewN ?_ _ | refine blk_drew ?_ | refine blk_alloc ?_ _)); exact BK378.out) hb); have n2_ := Aside0.mk (below_step (by repeat (first | (with_reducible first | exact HB.out | apply below_alloc | apply pw_below_drewN | apply below_drew1 | refine below_set ?_ GE378.out) | exact HB.out)) hb); clear HO_7; clear BK378; clear HB; have HO_7 := n0_; have BK378 := n1_; have HB := n2_; clear n0_ n1_ n2_; (try clear hb); (try clear hb2); (try clear hk); (try clear hi)))
                            repeat (go_quiet (first | (go_at_call 24; (with_reducible refine (skolemref03_Has.calls kj29 _ _ l0_2 x9_3 true _ ?side1 ?side2 A71.out).mono ?_); (case side1 => repeat (first | exact (Kd.C_below HR0_2.out HB.out) | (with_reducible refine Kd.C_alloc ?_ _) | (with_reducible refine Kd.C_drewN ?_ _) | (with_reducible refine Kd.C_drew ?_))); (case side2 => exact HC0_2.out); rintro e w' ⟨rfl, ⟨nd, rfl⟩⟩; (try first | exact ⟨rfl, _, World.drewN_drewN _ _ _⟩ | exact ⟨rfl, _, Eq.trans (World.drewN_drewN _ _ _) (congrArg (World.drewN _) (Nat.add_assoc _ _ _))⟩)) | (go_at_call 9; (with_reducible refine (skolemlaw35_head.calls kj29  t390 _ A73.out).mono ?_); rintro e w75 ⟨rfl, hb⟩; have n0_ := Aside0.mk (Kd.S_below (by (with_reducible repeat (first | apply Kd.S_alloc | apply Kd.S_drewN | apply Kd.S_drew)); exact HO_7.out) hb); have n1_ := Aside0.mk (blk_below (g := gb378) (o := .cells #[.slice A0_0 l0_0.length c0_0, .int .i64 a0_1, .slice A0_2 l0_2.length c0_2, .int .i64 a0_3] 25 (0, 0)) (by (with_reducible repeat (first | refine blk_drewN ?_ _ | refine blk_drew ?_ | refine blk_alloc ?_ _)); exact BK378.out) hb); have n2_ := Aside0.mk (below_step (by repeat (first | (with_reducible first | exact HB.out | apply below_alloc | apply pw_below_drewN | apply below_drew1 | refine below_set ?_ GE378.out) | exact HB.out)) hb); clear HO_7; clear BK378; clear HB; have HO_7 := n0_; have BK378 := n1_; have HB := n2_; clear n0_ n1_ n2_; (try clear hb); (try clear hb2); (try clear hk); (try clear hi))); try go_wp2_with (first | (go_at_call 24; (with_reducible refine (skolemref03_Has.calls kj29 _ _ l0_2 x9_3 true _ ?side1 ?side2 A71.out).mono ?_); (case side1 => repeat (first | exact (Kd.C_below HR0_2.out HB.out) | (with_reducible refine Kd.C_alloc ?_ _) | (with_reducible refine Kd.C_drewN ?_ _) | (with_reducible refine Kd.C_drew ?_))); (case side2 => exact HC0_2.out); rintro e w' ⟨rfl, ⟨nd, rfl⟩⟩; (try first | exact ⟨rfl, _, World.drewN_drewN _ _ _⟩ | exact ⟨rfl, _, Eq.trans (World.drewN_drewN _ _ _) (congrArg (World.drewN _) (Nat.add_assoc _ _ _))⟩)) | (go_at_call 9; (with_reducible refine (skolemlaw35_head.calls kj29  t390 _ A73.out).mono ?_); rintro e w75 ⟨rfl, hb⟩; have n0_ := Aside0.mk (Kd.S_below (by (with_reducible repeat (first | apply Kd.S_alloc | apply Kd.S_drewN | apply Kd.S_drew)); exact HO_7.out) hb); have n1_ := Aside0.mk (blk_below (g := gb378) (o := .cells #[.slice A0_0 l0_0.length c0_0, .int .i64 a0_1, .slice A0_2 l0_2.length c0_2, .int .i64 a0_3] 25 (0, 0)) (by (with_reducible repeat (first | refine blk_drewN ?_ _ | refine blk_drew ?_ | refine blk_alloc ?_ _)); exact BK378.out) hb); have n2_ := Aside0.mk (below_step (by repeat (first | (with_reducible first | exact HB.out | apply below_alloc | apply pw_below_drewN | apply below_drew1 | refine below_set ?_ GE378.out) | exact HB.out)) hb); clear HO_7; clear BK378; clear HB; have HO_7 := n0_; have BK378 := n1_; have HB := n2_; clear n0_ n1_ n2_; (try clear hb); (try clear hb2); (try clear hk); (try clear hi))))
                            go_ret
                            exact ⟨by first | rfl | (simp [errW_none, errW_some] <;> rfl) | (simp [*, errW_none, errW_some] <;> rfl), by repeat (first | (with_reducible first | exact HB.out | apply below_alloc | apply pw_below_drewN | apply below_drew1 | refine below_set ?_ GE378.out) | exact HB.out)⟩
                          · replace c72 := Bool.eq_false_iff.mpr c72
                            subst c72
                            have H1 : (some false) = some r := by rw [if_neg (show ¬ (false = true) by decide)] at H; exact H
                            clear H
                            have H := H1
                            clear H1
                            exact absurd ((Option.some.inj H).trans HT_.out) (by decide)
                        · replace c70 := Bool.eq_false_iff.mpr c70
                          subst c70
                          have H1 : ((skolemlaw35_head.f kj29).bind fun t391 => (some t391)) = some r := by rw [if_neg (show ¬ (false = true) by decide)] at H; exact H
                          clear H
                          have H := H1
                          clear H1
                          replace H := Option.bind_eq_some_iff.mp H
                          obtain ⟨t391, A760, H⟩ := H
                          replace H : (some t391) = some r := H
                          have A76 := Aside0.mk A760
                          clear A760
                          obtain rfl := Option.some.inj H
                          go_wp2_with (first | (go_at_call 9; (with_reducible refine (skolemlaw35_head.calls kj29  t391 _ A76.out).mono ?_); rintro e w77 ⟨rfl, hb⟩; have n0_ := Aside0.mk (Kd.S_below (by (with_reducible repeat (first | apply Kd.S_alloc | apply Kd.S_drewN | apply Kd.S_drew)); exact HO_7.out) hb); have n1_ := Aside0.mk (blk_below (g := gb378) (o := .cells #[.slice A0_0 l0_0.length c0_0, .int .i64 a0_1, .slice A0_2 l0_2.length c0_2, .int .i64 a0_3] 25 (0, 0)) (by (with_reducible repeat (first | refine blk_drewN ?_ _ | refine blk_drew ?_ | refine blk_alloc ?_ _)); exact BK378.out) hb); have n2_ := Aside0.mk (below_step (by repeat (first | (with_reducible first | exact HB.out | apply below_alloc | apply pw_below_drewN | apply below_drew1 | refine below_set ?_ GE378.out) | exact HB.out)) hb); clear HO_7; clear BK378; clear HB; have HO_7 := n0_; have BK378 := n1_; have HB := n2_; clear n0_ n1_ n2_; (try clear hb); (try clear hb2); (try clear hk); (try clear hi)))
                          repeat (go_quiet (first | (go_at_call 9; (with_reducible refine (skolemlaw35_head.calls kj29  t391 _ A76.out).mono ?_); rintro e w77 ⟨rfl, hb⟩; have n0_ := Aside0.mk (Kd.S_below (by (with_reducible repeat (first | apply Kd.S_alloc | apply Kd.S_drewN | apply Kd.S_drew)); exact HO_7.out) hb); have n1_ := Aside0.mk (blk_below (g := gb378) (o := .cells #[.slice A0_0 l0_0.length c0_0, .int .i64 a0_1, .slice A0_2 l0_2.length c0_2, .int .i64 a0_3] 25 (0, 0)) (by (with_reducible repeat (first | refine blk_drewN ?_ _ | refine blk_drew ?_ | refine blk_alloc ?_ _)); exact BK378.out) hb); have n2_ := Aside0.mk (below_step (by repeat (first | (with_reducible first | exact HB.out | apply below_alloc | apply pw_below_drewN | apply below_drew1 | refine below_set ?_ GE378.out) | exact HB.out)) hb); clear HO_7; clear BK378; clear HB; have HO_7 := n0_; have BK378 := n1_; have HB := n2_; clear n0_ n1_ n2_; (try clear hb); (try clear hb2); (try clear hk); (try clear hi))); try go_wp2_with (first | (go_at_call 9; (with_reducible refine (skolemlaw35_head.calls kj29  t391 _ A76.out).mono ?_); rintro e w77 ⟨rfl, hb⟩; have n0_ := Aside0.mk (Kd.S_below (by (with_reducible repeat (first | apply Kd.S_alloc | apply Kd.S_drewN | apply Kd.S_drew)); exact HO_7.out) hb); have n1_ := Aside0.mk (blk_below (g := gb378) (o := .cells #[.slice A0_0 l0_0.length c0_0, .int .i64 a0_1, .slice A0_2 l0_2.length c0_2, .int .i64 a0_3] 25 (0, 0)) (by (with_reducible repeat (first | refine blk_drewN ?_ _ | refine blk_drew ?_ | refine blk_alloc ?_ _)); exact BK378.out) hb); have n2_ := Aside0.mk (below_step (by repeat (first | (with_reducible first | exact HB.out | apply below_alloc | apply pw_below_drewN | apply below_drew1 | refine below_set ?_ GE378.out) | exact HB.out)) hb); clear HO_7; clear BK378; clear HB; have HO_7 := n0_; have BK378 := n1_; have HB := n2_; clear n0_ n1_ n2_; (try clear hb); (try clear hb2); (try clear hk); (try clear hi))))
                          go_ret
                          exact ⟨by first | rfl | (simp [errW_none, errW_some] <;> rfl) | (simp [*, errW_none, errW_some] <;> rfl), by repeat (first | (with_reducible first | exact HB.out | apply below_alloc | apply pw_below_drewN | apply below_drew1 | refine below_set ?_ GE378.out) | exact HB.out)⟩

end Go.Proofs.Ytjlehbncpjccmaa.Q
namespace Go.Proofs.Ytjlehbncpjccmaa.Q
open Go.RowKit Go.Proofs.YtjlehbncpjccmaaW.PrintWords Go.Proofs.YtjlehbncpjccmaaW.PrintLast Go.Proofs.YtjlehbncpjccmaaW.PrintMore
set_option linter.unusedVariables false
set_option linter.unusedSimpArgs false

theorem win_succ (ps : List S55) (gs : List Int) (hp : ps.length ≤ 16) (n j : Nat) (h : j < ps.length) : (winSet ps gs (n + 1)).getD j false = (decide ((j : Int) ∈ gs) || winB (winSet ps gs n) (rd_T55 ps (j : Int))) := by
  rw [winSet, befS, bstep_get _ ps 0 _ j (by rw [gset_length]; omega), gset_get gs j (by omega), decide_eq_true (show 0 ≤ j ∧ j < 0 + ps.length by omega), Bool.true_and]
  congr 2
theorem idxF_spec {p : Int → Bool} : ∀ (l : List Int) (i : Int), 0 ≤ i → 0 ≤ idxF p l i → i ≤ idxF p l i ∧ idxF p l i < i + l.length ∧ p (rd l (idxF p l i - i)) = true
  | [], i, h, h2 => by simp [idxF] at h2
  | x :: r, i, h, h2 => by
    rw [idxF] at h2 ⊢
    by_cases hx : p x = true
    · rw [if_pos hx]
      refine ⟨Int.le_refl _, by simp only [List.length_cons]; omega, ?_⟩
      rw [show i - i = 0 by omega]
      exact hx
    · rw [if_neg hx] at h2 ⊢
      have ih := idxF_spec r (i + 1) (by omega) h2
      refine ⟨by omega, by simp only [List.length_cons]; omega, ?_⟩
      have : rd (x :: r) (idxF p r (i + 1) - i) = rd r (idxF p r (i + 1) - (i + 1)) := by
        unfold rd
        rw [show (idxF p r (i + 1) - i).toNat = (idxF p r (i + 1) - (i + 1)).toNat + 1 by omega, List.getD_cons_succ]
      rw [this]
      exact ih.2.2
section
variable (ps : List S55) (st : Int) (gs : List Int) (mv : Int) (th : List Int)
theorem guided_end (hs : Small ps gs) (w : Bool) (rows : List (List Int)) (v t : Int) (h : w = true → v ∈ gs) : Ev (fun k => skolemlaw35_PuzzleGuided.j3 k th w rows v t false ps st gs mv) true := by
  refine Ev.succ ?_
  simp only [skolemlaw35_PuzzleGuided.j3, Bool.false_eq_true, if_false]
  cases w with
  | true =>
    simp only [if_true]
    refine Ev.bind (has_ev gs v (by have := hs.ng; omega)) ?_
    simp only [h rfl, decide_true, if_true]
    exact head_end
  | false =>
    simp only [Bool.false_eq_true, if_false]
    exact head_end
theorem guided_l (hs : Small ps gs) (hm : mayB ps st gs mv = true) (hth : ∀ x ∈ th, 0 ≤ x ∧ x < 256) (w : Bool) : ∀ (n : Nat) (t v : Int), t + n = mv → 0 ≤ t → 0 ≤ v ∧ v < (ps.length : Int) → (w = true → (winSet ps gs n).getD v.toNat false = true) →
    Ev (fun k => skolemlaw35_PuzzleGuided.l0 k th w (guideF ps gs mv.toNat) v t ps st gs mv) true
  | 0, t, v, h, ht, hv, hw => by
    refine Ev.succ ?_
    simp only [skolemlaw35_PuzzleGuided.l0]
    simp only [if_neg (show ¬ (t < mv) by omega)]
    refine guided_end ps st gs mv th hs w _ v t (fun e => ?_)
    have h1 := hw e
    have hp := (mayB_facts hm).1
    rw [winSet, gset_get gs v.toNat (by omega)] at h1
    rw [show ((v.toNat : Nat) : Int) = v by omega] at h1
    exact of_decide_eq_true h1
  | n + 1, t, v, h, ht, hv, hw => by
    refine Ev.succ ?_
    have hf := mayB_facts hm
    have hmv := mayB_mv hm
    have hto := mayB_to2 hm
    simp only [skolemlaw35_PuzzleGuided.l0]
    simp only [if_pos (show t < mv by omega)]
    cases w with
    | false =>
      simp only [Bool.false_eq_true, if_false]
      exact guided_end ps st gs mv th hs false _ v t (fun e => absurd e (by simp))
    | true =>
      simp only [if_true]
      refine Ev.bind (has_ev gs v (by have := hs.ng; omega)) ?_
      by_cases hg : v ∈ gs
      · simp only [hg, decide_true, Bool.not_true]
        exact guided_end ps st gs mv th hs true _ v t (fun _ => hg)
      · simp only [hg, decide_false, Bool.not_false]
        refine Ev.succ ?_
        have hv2 : ((v.toNat : Nat) : Int) = v := by omega
        have hwin := hw rfl
        rw [win_succ ps gs hf.1 n v.toNat (by omega), hv2, decide_eq_false hg, Bool.false_or, winB_eq] at hwin
        have hmem : rd_T55 ps v ∈ ps := getD_mem ps z55 _ (by omega)
        have hih := fun v' hv' hw' => guided_l hs hm hth true n (t + 1) v' (by omega) (by omega) hv' hw'
        have hlt := (hf.2.2.2.2.2 _ hmem).1
        simp only [Bool.and_eq_true, decide_eq_true_eq] at hwin
        obtain ⟨hlen, hsel⟩ := hwin
        have hnext : ∀ j : Int, 0 ≤ j → j < ((rd_T55 ps v).f1.length : Int) → rdOf false (winSet ps gs n) (rd (rd_T55 ps v).f1 j) = true →
            Ev (fun k => skolemlaw35_PuzzleGuided.l0 k th true (guideF ps gs mv.toNat) (rd (rd_T55 ps v).f1 j) (t + 1) ps st gs mv) true := by
          intro j h0 h1 h2
          exact hih _ (hto _ hmem _ (getD_mem _ 0 _ (by omega))) (fun _ => h2)
        have hw1 : wrap64 (t + 1) = t + 1 := w_id (by omega)
        have hj4 : ∀ c : Int, 0 ≤ c ∧ c < 256 → Ev (fun k => skolemlaw35_PuzzleGuided.j4 k th true (guideF ps gs mv.toNat) v t c ps st gs mv (rd_T55 ps v).f0 (rd_T55 ps v).f1) true := by
          intro c hc
          refine Ev.succ ?_
          simp only [skolemlaw35_PuzzleGuided.j4]
          cases hmine : (rd_T55 ps v).f0 with
          | true =>
            rw [hmine] at hsel
            simp only [if_true] at hsel ⊢
            have hrow : rd_L2 (guideF ps gs mv.toNat) (n : Int) = rowG ps (gset gs) (winSet ps gs n) := by
              simp [rd_L2, guideF, List.getD_eq_getElem?_getD, show n < mv.toNat by omega]
            have hwr : wrap64 (wrap64 (mv - 1) - t) = (n : Int) := by
              rw [w_id (show -9223372036854775808 ≤ mv - 1 ∧ mv - 1 < 9223372036854775808 by omega), w_id (by omega)]; omega
            have hent : rd (rowG ps (gset gs) (winSet ps gs n)) v = idxF (rdOf false (winSet ps gs n)) (rd_T55 ps v).f1 0 := by
              have h1 : rd (rowG ps (gset gs) (winSet ps gs n)) v = entG ps (gset gs) (winSet ps gs n) v.toNat := by
                simp [rd, rowG, List.getD_eq_getElem?_getD, show v.toNat < ps.length by omega]
              rw [h1, entG, gset_get gs v.toNat (by omega), hv2, decide_eq_false hg]
              rw [show ps.getD v.toNat z55 = rd_T55 ps v from rfl, hmine]
              rfl
            have hrl : (rowG ps (gset gs) (winSet ps gs n)).length = ps.length := by simp [rowG]
            simp only [hwr, guideF_length, hrow, hent, hrl]
            have hi0 : 0 ≤ idxF (rdOf false (winSet ps gs n)) (rd_T55 ps v).f1 0 := by
              have := idxF_any (rdOf false (winSet ps gs n)) (rd_T55 ps v).f1 0 (Int.le_refl _)
              rw [hsel] at this
              exact of_decide_eq_true this
            have hi := idxF_spec (p := rdOf false (winSet ps gs n)) (rd_T55 ps v).f1 0 (Int.le_refl _) hi0
            obtain ⟨c, hcc⟩ : ∃ c, idxF (rdOf false (winSet ps gs n)) (rd_T55 ps v).f1 0 = c := ⟨_, rfl⟩
            rw [hcc] at hi hi0
            simp only [hcc, if_pos (show (0 : Int) ≤ (n : Int) by omega), if_pos (show (n : Int) < (mv.toNat : Int) by omega), if_pos hv.1, if_pos hv.2, if_neg (show ¬ (((rd_T55 ps v).f1.length : Int) = 0) by omega), if_neg (show ¬ (c < 0) by omega), if_neg (show ¬ (c ≥ ((rd_T55 ps v).f1.length : Int)) by omega)]
            have htm : Int.tmod c ((rd_T55 ps v).f1.length : Int) = c := Int.tmod_eq_of_lt hi0 (by omega)
            simp only [htm, if_pos hi0, if_pos (show c < ((rd_T55 ps v).f1.length : Int) by omega), hw1]
            exact hnext c hi0 (by omega) (by have := hi.2.2; rw [show c - 0 = c by omega] at this; exact this)
          | false =>
            rw [hmine] at hsel
            simp only [Bool.false_eq_true, if_false] at hsel ⊢
            have hj := tmod_rng hc.1 hlen
            simp only [if_neg (show ¬ (((rd_T55 ps v).f1.length : Int) = 0) by omega), if_neg (show ¬ (c < 0) by omega), if_pos hj.1, if_pos hj.2, hw1]
            exact hnext _ hj.1 hj.2 (List.all_eq_true.1 hsel _ (getD_mem _ 0 _ (by omega)))
        simp only [skolemlaw35_PuzzleGuided.j3, if_true, if_pos hv.1, if_pos hv.2]
        by_cases htl : t < (th.length : Int)
        · simp only [if_pos htl, if_pos ht]
          have hx := hth (rd th t) (getD_mem th 0 _ (by omega))
          rw [w_id (show -9223372036854775808 ≤ rd th t ∧ rd th t < 9223372036854775808 by omega)]
          exact hj4 _ hx
        · simp only [if_neg htl]
          exact hj4 0 (by omega)
end
theorem guided_ev (ps : List S55) (st : Int) (gs : List Int) (mv : Int) (th : List Int) (hth : ∀ x ∈ th, 0 ≤ x ∧ x < 256) : Ev (fun k => skolemlaw35_PuzzleGuided.f k ps st gs mv th) true := by
  simp only [skolemlaw35_PuzzleGuided.f]
  have hbig : Ev (fun k => skolemlaw35_PuzzleGuided.j0 k th true ps st gs mv) true := by
    refine Ev.succ ?_
    simp only [skolemlaw35_PuzzleGuided.j0, if_true]
    exact head_end
  refine Ev.bind (large_ev ps st gs mv) ?_
  cases hl : largeB ps gs with
  | true =>
    simp only [if_true]
    exact hbig
  | false =>
    have hs := small_of hl
    simp only [Bool.false_eq_true, if_false]
    refine Ev.bind (may_ev ps st gs mv hs) ?_
    cases hm : mayB ps st gs mv with
    | false =>
      simp only [Bool.not_false]
      exact hbig
    | true =>
      simp only [Bool.not_true]
      have hmv := mayB_mv hm
      have hf := mayB_facts hm
      refine Ev.succ ?_
      simp only [skolemlaw35_PuzzleGuided.j0, Bool.false_eq_true, if_false, puzzle_Wins.f, puzzle_Guide.f, Option.bind_some, hm, if_true, guideF_length]
      have hne : ((mv.toNat : Int) != mv) = false := by simp; omega
      simp only [hne]
      refine Ev.succ ?_
      simp only [skolemlaw35_PuzzleGuided.j1, Bool.false_eq_true, if_false]
      exact guided_l ps st gs mv th hs hm hth _ mv.toNat 0 st (by omega) (by omega) hf.2.1 (fun e => e)
end Go.Proofs.Ytjlehbncpjccmaa.Q
namespace Go.Proofs.Ytjlehbncpjccmaa.Q
open Go.ChangeShapes Go.WideShapes Go.ChangeAt Go.RowKit Go.Proofs.YtjlehbncpjccmaaW.PrintWords Go.Proofs.YtjlehbncpjccmaaW.PrintLast Go.Proofs.YtjlehbncpjccmaaW.PrintMore
set_option linter.unusedVariables false
set_option linter.unusedSimpArgs false
namespace RowPuzzleGuided
set_option maxRecDepth 100000 in
theorem lifted (os : Os) (started : os.Started) (H : Type) (enc : TypeId × Value → H) :
    ReturnsInHanded {} Try.checked os 5 .any (Rows.puzzleGuidedSpec.pre6 enc Try.prog Try.f5 Rows.puzzleGuidedRow.domain false) (Rows.puzzleGuidedSpec.post enc Try.prog Try.f5 false true false false) := by
  refine returnsInHanded_of_change_sized (C := Try.checked) own started (by kernel_rfl) Try.func5
    (ChangeSpec.witness6 (enc := enc) (C := Try.checked) false ⟨#[], #[.agg #[.slice none 0 0, .int .i64 0, .slice none 0 0, .int .i64 0], .slice none 0 0], []⟩ 8 (by kernel_rfl) (by kernel_rfl) (by kernel_rfl) (by kernel_rfl)) ?_
  intro W base args ds gs before hval0 hW hcnd hsz0 _
  have hval : ∀ (j : Nat) t v, Try.f5.params[j]? = some t → args[j]? = some v → Value.okWide Try.prog W .any base t v := hval0
  have hW' := hW
  obtain ⟨p, q, hA0, hV, rfl, hfz, hnd⟩ := hW
  have hA : DataW.TrodAll enc Try.prog W 0 (fun _ => true) true Try.f5.params.toList args.toList ds p := hA0
  rw [Try.params5] at hA hval
  obtain ⟨v0, vs0, d0, ds0, p0, q0, hargs, rfl, rfl, h0, r0⟩ := trodAll_cons hA
  obtain ⟨v1, vs1, d1, ds1, p1, q1, rfl, rfl, rfl, h1, r1⟩ := trodAll_cons r0
  obtain ⟨rfl, rfl, rfl⟩ := trodAll_nil r1
  obtain rfl : args = #[v0, v1] := by cases args; simp_all
  obtain ⟨rfl, rfl⟩ := trodVars_none hV
  have k0 := h0
  have lt0 : ∀ x ∈ p0, x.block < W.heap.size := by obtain ⟨m, hm⟩ := k0; exact DataW.trod_lt m _ _ _ hm
  obtain ⟨A0_0, c0_0, l0_0, a0_1, A0_2, c0_2, l0_2, a0_3, rfl, hr0_0, hc0_0, hr0_2, hc0_2⟩ := open_puzzle (hval 0 25 v0 rfl rfl) h0
  have k1 := h1
  have lt1 : ∀ x ∈ p1, x.block < W.heap.size := by obtain ⟨m, hm⟩ := k1; exact DataW.trod_lt m _ _ _ hm
  obtain ⟨A1, c1, l1, rfl, hr1, hc1, hw1⟩ := open_list Try.underlying52 Try.underlying5 (by kernel_rfl) (hval 1 52 v1 rfl rfl) h1
  clear hA0 hval0 hsz0
  obtain ⟨k, hk⟩ := (guided_ev l0_0 a0_1 l0_2 a0_3 l1 (fun x hx => lit_u8 (hw1 x hx))).some'
  refine (skolemlaw35_PuzzleGuided.callsT k _ _ l0_0 a0_1 _ _ l0_2 a0_3 _ _ l1 true rfl W hr0_0 hc0_0 hr0_2 hc0_2 hr1 hc1 hk).mono fun e W' ⟨he, bel⟩ => ?_
  subst he
  exact ⟨_, rfl, _, _, _, [], _, [], hW', trodAll_mk1 (shut_bool Try.underlying4 _), (trodAll_cons_mk (Below.trod laidOut (by kernel_rfl) (of_decide_eq_true (by kernel_rfl)) k0 bel lt0) (trodAll_cons_mk (Below.trod laidOut (by kernel_rfl) (of_decide_eq_true (by kernel_rfl)) k1 bel lt1) trodAll_mk0)), rfl, bel.frame _, fun h => by cases h⟩
theorem over : Rows.puzzleGuidedRow.holds Try.pinned (OpenSpec.ofChange Rows.puzzleGuidedSpec) :=
  OpenClaim.holds_of_wide 5 Try.f5 rfl rfl rfl rfl rfl rfl rfl ⟨rfl, rfl, rfl, rfl, rfl⟩ rfl rfl rfl rfl rfl (by kernel_rfl) Try.func5 (by kernel_rfl)
    (of_decide_eq_true (by kernel_rfl)) (by unfold Func.isWrapper; first | (rw [if_pos (by decide +kernel)]; kernel_rfl) | (rw [if_neg (by decide +kernel)]; exact ⟨rfl, rfl⟩))
    (fun os started H enc _ => lifted os started H enc)
theorem proved : Rows.PuzzleGuidedSaid := over
end RowPuzzleGuided
end Go.Proofs.Ytjlehbncpjccmaa.Q
namespace Go.Proofs.Ytjlehbncpjccmaa
/-- The row, under a short name, for the claim. -/
theorem puzzleGuided_holds : Rows.PuzzleGuidedSaid := Q.RowPuzzleGuided.proved
#print axioms puzzleGuided_holds
end Go.Proofs.Ytjlehbncpjccmaa
