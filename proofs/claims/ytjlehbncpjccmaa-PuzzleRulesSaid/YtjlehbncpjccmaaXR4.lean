/-
  Proved: the law PuzzleRules returns true for every input (puzzle, move, side), and the input reads as it did.
  Part 4 of 4. Conditions: none. Written for this claim by programs of this work (extprint.py, gen_*.py, assemble.py) and by hand.
-/
import Derived.Test.YtjlehbncpjccmaaXR3
namespace Go.Proofs.Ytjlehbncpjccmaa.Q
open Go.RowKit Go.Proofs.YtjlehbncpjccmaaW.PrintWords Go.Proofs.YtjlehbncpjccmaaW.PrintLast Go.Proofs.YtjlehbncpjccmaaW.PrintMore
attribute [local go_sem] max2_int min2_int max_two min_two max_three min_three max_four min_four   -- for this text's walks alone
set_option linter.unusedVariables false
set_option linter.unusedSimpArgs false

/-! ### skolemref35_Wins: function 15 -/
def skolemref35_Wins.f (k : Nat) (l0_0 : List (S55)) (a0_1 : Int) (l0_2 : List Int) (a0_3 : Int) : Option (Bool × Int) := (skolemref35_May.f k l0_0 a0_1 l0_2 a0_3).bind fun t277 => (if t277 = true then ((skolemref35_table.f k l0_0 a0_1 l0_2 a0_3).bind fun t278 => (if 0 ≤ a0_3 then (if a0_3 < (t278.length : Int) then (if 0 ≤ a0_1 then (if a0_1 < ((rd_L7 t278 a0_3).length : Int) then (some (rdOf false (rd_L7 t278 a0_3) a0_1, 0)) else (none)) else (none)) else (none)) else (none))) else (some (false, 2)))
theorem skolemref35_Wins.mono : ∀ a0 a1 a2 a3 k, LeO (skolemref35_Wins.f k a0 a1 a2 a3) (skolemref35_Wins.f (k + 1) a0 a1 a2 a3) := by
  intro a0 a1 a2 a3 k
  unfold skolemref35_Wins.f
  repeat' first
      | (with_reducible exact skolemref35_May.mono _ _ _ _ _)
      | (with_reducible exact skolemref35_table.mono _ _ _ _ _)
      | (with_reducible exact LeO.refl _)
      | (with_reducible exact LeO.none _)
      | (with_reducible refine LeO.ite ?_ ?_)
      | (with_reducible refine LeO.bind ?_ (fun _ => ?_))
      | exact skolemref35_May.mono _ _ _ _ _
      | exact skolemref35_table.mono _ _ _ _ _
      | exact LeO.none _
      | refine LeO.ite ?_ ?_
      | refine LeO.bind ?_ (fun _ => ?_)
def skolemref35_Wins.T3 : Bool × List (List Nat × List Nat) := (true, [([], []), ([0], [0]), ([], []), ([2], [2]), ([1, 3], [1, 3]), ([4], [4]), ([], []), ([6], [6]), ([5, 7], [5, 7]), ([8], [8]), ([9, 1, 0, 1, 2, 3, 4, 5, 6, 7, 8, 9], [9]), ([10, 0, 1, 2, 3, 4, 5, 6, 7, 8, 9, 10], [])])
def skolemref35_Wins.B3 : List Nat := [0, 1, 0, 4, 15, 31, 0, 64, 255, 511, 1023, 2047]
theorem skolemref35_Wins.tab3 : rtab .any (opsOf Try.f15 3) = skolemref35_Wins.T3 := by kernel_rfl
theorem skolemref35_Wins.bits3 : waitsOk skolemref35_Wins.T3.2 skolemref35_Wins.B3 = true := by kernel_rfl
set_option maxHeartbeats 8000000 in
set_option maxRecDepth 100000 in
theorem skolemref35_Wins.calls (k : Nat) (A0_0 : Option Addr) (c0_0 : Nat) (l0_0 : List (S55)) (a0_1 : Int) (A0_2 : Option Addr) (c0_2 : Nat) (l0_2 : List Int) (a0_3 : Int) (r1 : Bool) (r2 : Int) (w : World) (hr0_0 : Kd.C k55 w A0_0 l0_0.length l0_0) (hc0_0 : l0_0.length ≤ c0_0) (hr0_2 : Kd.C (Kd.int .i64) w A0_2 l0_2.length l0_2) (hc0_2 : l0_2.length ≤ c0_2) (h : skolemref35_Wins.f k l0_0 a0_1 l0_2 a0_3 = some (r1, r2)) :
    Calls Try.prog 15 #[.agg #[.slice A0_0 l0_0.length c0_0, .int .i64 a0_1, .slice A0_2 l0_2.length c0_2, .int .i64 a0_3]] w fun e w' => e = .returned (.tuple #[.bool r1, .int .i64 r2]) ∧ Below w.heap.size w w' := by
  have hu25 := Try.underlying25
  have HR0_0 := Aside0.mk hr0_0
  have HC0_0 := Aside0.mk hc0_0
  clear hr0_0 hc0_0
  have HR0_2 := Aside0.mk hr0_2
  have HC0_2 := Aside0.mk hc0_2
  clear hr0_2 hc0_2
  have HB := Aside0.mk (Below.refl w.heap.size w)
  have H : ((skolemref35_May.f k l0_0 a0_1 l0_2 a0_3).bind fun t277 => (if t277 = true then ((skolemref35_table.f k l0_0 a0_1 l0_2 a0_3).bind fun t278 => (if 0 ≤ a0_3 then (if a0_3 < (t278.length : Int) then (if 0 ≤ a0_1 then (if a0_1 < ((rd_L7 t278 a0_3).length : Int) then (some (rdOf false (rd_L7 t278 a0_3) a0_1, 0)) else (none)) else (none)) else (none)) else (none))) else (some (false, 2)))) = some (r1, r2) := h
  clear h
  replace H := Option.bind_eq_some_iff.mp H
  obtain ⟨t277, A20, H⟩ := H
  replace H : (if t277 = true then ((skolemref35_table.f k l0_0 a0_1 l0_2 a0_3).bind fun t278 => (if 0 ≤ a0_3 then (if a0_3 < (t278.length : Int) then (if 0 ≤ a0_1 then (if a0_1 < ((rd_L7 t278 a0_3).length : Int) then (some (rdOf false (rd_L7 t278 a0_3) a0_1, 0)) else (none)) else (none)) else (none)) else (none))) else (some (false, 2))) = some (r1, r2) := H
  have A2 := Aside0.mk A20
  clear A20
  by_cases c3 : t277 = true
  · subst c3
    have H1 : ((skolemref35_table.f k l0_0 a0_1 l0_2 a0_3).bind fun t278 => (if 0 ≤ a0_3 then (if a0_3 < (t278.length : Int) then (if 0 ≤ a0_1 then (if a0_1 < ((rd_L7 t278 a0_3).length : Int) then (some (rdOf false (rd_L7 t278 a0_3) a0_1, 0)) else (none)) else (none)) else (none)) else (none))) = some (r1, r2) := by rw [if_pos rfl] at H; exact H
    clear H
    have H := H1
    clear H1
    replace H := Option.bind_eq_some_iff.mp H
    obtain ⟨t278, A40, H⟩ := H
    replace H : (if 0 ≤ a0_3 then (if a0_3 < (t278.length : Int) then (if 0 ≤ a0_1 then (if a0_1 < ((rd_L7 t278 a0_3).length : Int) then (some (rdOf false (rd_L7 t278 a0_3) a0_1, 0)) else (none)) else (none)) else (none)) else (none)) = some (r1, r2) := H
    have A4 := Aside0.mk A40
    clear A40
    by_cases c5 : 0 ≤ a0_3
    case neg => rw [if_neg c5] at H; exact absurd H (by simp)
    rw [if_pos c5] at H
    have c5b0 : decide (0 ≤ a0_3) = true := decide_eq_true c5
    clear c5
    by_cases c6 : a0_3 < (t278.length : Int)
    case neg => rw [if_neg c6] at H; exact absurd H (by simp)
    rw [if_pos c6] at H
    have c6b0 : decide (a0_3 < (t278.length : Int)) = true := decide_eq_true c6
    clear c6
    by_cases c7 : 0 ≤ a0_1
    case neg => rw [if_neg c7] at H; exact absurd H (by simp)
    rw [if_pos c7] at H
    have c7b0 : decide (0 ≤ a0_1) = true := decide_eq_true c7
    clear c7
    by_cases c8 : a0_1 < ((rd_L7 t278 a0_3).length : Int)
    case neg => rw [if_neg c8] at H; exact absurd H (by simp)
    rw [if_pos c8] at H
    have c8b0 : decide (a0_1 < ((rd_L7 t278 a0_3).length : Int)) = true := decide_eq_true c8
    clear c8
    simp only [Option.some.injEq, Prod.mk.injEq] at H
    obtain ⟨rfl, rfl⟩ := H
    go_enter Try.func15, Try.ntmps15
    try go_wp2_with (first | ((with_reducible refine gate_dst (N := 1) rfl ?_); refine box_event ?hg (N := 1) ?hd (cs := #[.slice A0_0 l0_0.length c0_0, .int .i64 a0_1, .slice A0_2 l0_2.length c0_2, .int .i64 a0_3]) (t := 25) ?hr ?_; (case hd => rfl); (case hg => rfl); (case hr => exact qz38); intro gb276 hg w9 hbox hb; have n0_ := Aside0.mk (below_step qz21 hb); have n1_ := Aside0.mk (hbox); have n2_ := Aside0.mk ((by rw [hg]; exact (below_size qz21) : w.heap.size ≤ gb276)); have n3_ := Aside0.mk ((by rw [hg]; exact (below_size qz21) : w.heap.size ≤ gb276)); clear HB; have HB := n0_; have BK276 := n1_; have GW276 := n2_; have GE276 := n3_; clear n0_ n1_ n2_ n3_; clear hb hbox hg; have hcz10_0 : w9.cell? ⟨gb276, 0, none⟩ = some (.slice A0_0 l0_0.length c0_0) := (blk_cell BK276.out 0).trans rfl; have hcz10_1 : w9.cell? ⟨gb276, 1, none⟩ = some (.int .i64 a0_1) := (blk_cell BK276.out 1).trans rfl; have hcz10_2 : w9.cell? ⟨gb276, 2, none⟩ = some (.slice A0_2 l0_2.length c0_2) := (blk_cell BK276.out 2).trans rfl; have hcz10_3 : w9.cell? ⟨gb276, 3, none⟩ = some (.int .i64 a0_3) := (blk_cell BK276.out 3).trans rfl; have hfz10_0 := blk_frozen BK276.out 0; have hfz10_1 := blk_frozen BK276.out 1; have hfz10_2 := blk_frozen BK276.out 2; have hfz10_3 := blk_frozen BK276.out 3) | ((with_reducible refine gate_callee (f := 19) rfl ?_); refine goesL_ (some 5) rfl rfl Try.func19 (by kernel_rfl) rfl #[.agg #[.slice A0_0 l0_0.length c0_0, .int .i64 a0_1, .slice A0_2 l0_2.length c0_2, .int .i64 a0_3]] rfl qz20 ?_; (with_reducible refine (skolemref35_May.calls k _ _ l0_0 a0_1 _ _ l0_2 a0_3 true _ ?side1 ?side2 ?side3 ?side4 A2.out).mono ?_); (case side1 => exact qz1); (case side2 => exact HC0_0.out); (case side3 => exact qz2); (case side4 => exact HC0_2.out); rintro e w11 ⟨rfl, hb⟩; refine ⟨_, rfl, ?_⟩; have n0_ := Aside0.mk (blk_below (g := gb276) (o := .cells #[.slice A0_0 l0_0.length c0_0, .int .i64 a0_1, .slice A0_2 l0_2.length c0_2, .int .i64 a0_3] 25 (0, 0)) qz26 hb); have n1_ := Aside0.mk (below_step qz10 hb); clear BK276; clear HB; have BK276 := n0_; have HB := n1_; clear n0_ n1_; (try clear hb); (try clear hb2); (try clear hk); (try clear hi)))
    have n0_ := Aside0.mk (blk_drew BK276.out)
    have n1_ := Aside0.mk (below_drew1 HB.out)
    clear BK276
    clear HB
    have BK276 := n0_
    have HB := n1_
    clear n0_ n1_
    refine start_ (n := 12) (S := fun w' => w'.cell? ⟨gb276, 0, none⟩ = some (.slice A0_0 l0_0.length c0_0) ∧ w'.cell? ⟨gb276, 1, none⟩ = some (.int .i64 a0_1) ∧ w'.cell? ⟨gb276, 2, none⟩ = some (.slice A0_2 l0_2.length c0_2) ∧ w'.cell? ⟨gb276, 3, none⟩ = some (.int .i64 a0_3)) (ds := []) #[false, false, false, false, false, false, false, false, false, false, false, false] (by kernel_rfl) rfl rfl ⟨(blk_cell BK276.out 0).trans rfl, (blk_cell BK276.out 1).trans rfl, (blk_cell BK276.out 2).trans rfl, (blk_cell BK276.out 3).trans rfl⟩ (fun hHeld => ?_); refine with_tabW skolemref35_Wins.tab3 skolemref35_Wins.bits3 (fun HT_ HW_ => ?_)
    generalize w11.drew = w12 at BK276 HB hHeld ⊢
    refine pure_ (i := 2) (N := some 9) (v := ?_) (a' := ?_) #[false, false, true, false, false, false, false, false, false, false, false, false] rfl rfl (any_of HT_.out (by kernel_rfl)) (fun _ _ _ h => h) (Or.inl ⟨by rfl, ?_⟩) ?_ ?_
    rotate_left
    · intro w'
      go_simp
      with_reducible rfl
    rotate_left
    · simp only [Act.put, List.setIfInBounds_toArray, List.set_cons_zero, List.set_cons_succ, i64_w, i32_w]
      rfl
    refine pure_ (i := 6) (N := some 13) (v := ?_) (a' := ?_) #[false, false, true, false, false, false, true, false, false, false, false, false] rfl rfl (any_of HT_.out (by kernel_rfl)) (fun _ _ _ h => h) (Or.inl ⟨by rfl, ?_⟩) ?_ ?_
    rotate_left
    · intro w'
      go_simp
      with_reducible rfl
    rotate_left
    · simp only [Act.put, List.setIfInBounds_toArray, List.set_cons_zero, List.set_cons_succ, i64_w, i32_w]
      rfl
    refine take_ (i := 0) (N := some 7) (v := ?_) (a' := ?_) #[true, false, true, false, false, false, true, false, false, false, false, false] rfl rfl (take_ofW HT_.out HW_.out (by kernel_rfl)) (fun _ _ _ h => h) (Or.inl ⟨by rfl, ?_⟩) hHeld ?_ ?_
    rotate_left
    · rintro w' ⟨s0, s1, s2, s3⟩
      go_simp
      with_reducible rfl
    rotate_left
    · simp only [Act.put, List.setIfInBounds_toArray, List.set_cons_zero, List.set_cons_succ, i64_w, i32_w]
      rfl
    refine take_ (i := 3) (N := some 10) (v := ?_) (a' := ?_) #[true, false, true, true, false, false, true, false, false, false, false, false] rfl rfl (take_ofW HT_.out HW_.out (by kernel_rfl)) (fun _ _ _ h => h) (Or.inl ⟨by rfl, ?_⟩) hHeld ?_ ?_
    rotate_left
    · rintro w' ⟨s0, s1, s2, s3⟩
      go_simp
      with_reducible rfl
    rotate_left
    · simp only [Act.put, List.setIfInBounds_toArray, List.set_cons_zero, List.set_cons_succ, i64_w, i32_w]
      rfl
    refine take_ (i := 7) (N := some 14) (v := ?_) (a' := ?_) #[true, false, true, true, false, false, true, true, false, false, false, false] rfl rfl (take_ofW HT_.out HW_.out (by kernel_rfl)) (fun _ _ _ h => h) (Or.inl ⟨by rfl, ?_⟩) hHeld ?_ ?_
    rotate_left
    · rintro w' ⟨s0, s1, s2, s3⟩
      go_simp
      with_reducible rfl
    rotate_left
    · simp only [Act.put, List.setIfInBounds_toArray, List.set_cons_zero, List.set_cons_succ, i64_w, i32_w]
      rfl
    refine one_ (i := 1) (N := some 8) #[true, true, true, true, false, false, true, true, false, false, false, false] rfl rfl (one_of HT_.out (by kernel_rfl)) (by decide) (fun K hK => ?_)
    refine goes_ Try.func38 (by kernel_rfl) rfl #[.agg #[.slice A0_0 l0_0.length c0_0, .int .i64 a0_1, .slice A0_2 l0_2.length c0_2, .int .i64 a0_3]] (by rfl) rfl rfl qz20 ?_
    with_reducible refine (skolemref35_table.calls k _ _ l0_0 a0_1 _ _ l0_2 a0_3 t278 _ ?side1 ?side2 ?side3 ?side4 A4.out).mono ?_
    (case side1 => exact qz1)
    (case side2 => exact HC0_0.out)
    (case side3 => exact qz2)
    (case side4 => exact HC0_2.out)
    rintro e w13 ⟨v279, rfl, ho0, hb⟩
    refine ⟨_, rfl, ?_⟩
    have n0_ := Aside0.mk (Kd.S_lower ho0 (below_size qz10))
    have n1_ := Aside0.mk (blk_below (g := gb276) (o := .cells #[.slice A0_0 l0_0.length c0_0, .int .i64 a0_1, .slice A0_2 l0_2.length c0_2, .int .i64 a0_3] 25 (0, 0)) qz26 hb)
    have n2_ := Aside0.mk (below_step qz10 hb)
    clear BK276
    clear HB
    have HO280 := n0_
    have BK276 := n1_
    have HB := n2_
    clear n0_ n1_ n2_
    (try clear hb)
    (try clear hb2)
    (try clear hk)
    (try clear hi)
    (try clear ho0)
    obtain ⟨Ao14, co14, eo14⟩ := Kd.S_slice HO280.out
    (first | subst eo14 | (injection eo14 with f1_ f2_ f3_; have f4_ := f1_.symm; have f5_ := f3_.symm; clear f1_ f2_ f3_; subst f4_; subst f5_))
    have p281 : 0 ≤ (a0_3 : Int) := of_decide_eq_true qz36
    have q281 : a0_3 < (t278.length : Int) := of_decide_eq_true qz36
    obtain ⟨ad281, A281_0, c281_0, e281, hx281_0, hl281_0, hi281_0⟩ := at_L7 (Kd.S_reads' HO280.out).2.2 a0_3 p281 q281
    cases e281
    obtain ⟨ce281, hce281, hMe281, hcc281⟩ := Kd.S_get HO280.out [] a0_3 p281 (by first | exact q281 | exact of_decide_eq_true qz36 | (have e_ := (Kd.S_reads' HO280.out).1; omega))
    obtain ⟨ve281_0, rfl, ge281_0⟩ := hMe281
    have hv281_0 := hcc281 0 _ rfl
    rw [Nat.add_zero, show ((Kd.slice 4 Kd.bool)).sz = 1 from rfl, Nat.mul_one] at hv281_0
    replace hv281_0 := Option.some.inj (hv281_0.symm.trans hx281_0)
    rw [hv281_0] at ge281_0
    have HL281_0 := Aside0.mk (show Kd.R Kd.bool 4 _ _ _ _ (rd_L7 t278 a0_3) from ge281_0)
    clear hv281_0 ge281_0
    clear hcc281 hce281
    have HR281_0 := Aside0.mk hi281_0
    have HC281_0 := Aside0.mk hl281_0
    clear hi281_0 hl281_0
    replace p281 := eq_true p281
    replace q281 := eq_true q281
    have p282 : 0 ≤ (a0_1 : Int) := of_decide_eq_true qz36
    have q282 : a0_1 < ((rd_L7 t278 a0_3).length : Int) := of_decide_eq_true qz36
    obtain ⟨ad282, e282, hx282_0⟩ := Kd.at_bool (by repeat (first | (with_reducible exact HR281_0.out) | (with_reducible refine Kd.C_alloc ?_ _) | (with_reducible refine Kd.C_drewN ?_ _) | (with_reducible refine Kd.C_drew ?_) | exact HR281_0.out)) a0_1 p282 q282
    cases e282
    replace p282 := eq_true p282
    replace q282 := eq_true q282
    refine hK.out _ _ ⟨(blk_cell BK276.out 0).trans rfl, (blk_cell BK276.out 1).trans rfl, (blk_cell BK276.out 2).trans rfl, (blk_cell BK276.out 3).trans rfl⟩ (fun hHeld => ?_)
    clear hK K
    replace hHeld := And.intro (hHeld.1) (And.intro (hHeld.2.1) (And.intro (hHeld.2.2.1) (And.intro (hHeld.2.2.2) (And.intro (hx281_0) (hx282_0)))))
    refine wpAnyLast_change (S' := fun w' => w'.cell? ⟨gb276, 0, none⟩ = some (.slice A0_0 l0_0.length c0_0) ∧ w'.cell? ⟨gb276, 1, none⟩ = some (.int .i64 a0_1) ∧ w'.cell? ⟨gb276, 2, none⟩ = some (.slice A0_2 l0_2.length c0_2) ∧ w'.cell? ⟨gb276, 3, none⟩ = some (.int .i64 a0_3) ∧ w'.cell? (ad281.add (a0_3).toNat) = some (.slice (some ad282) (rd_L7 t278 a0_3).length c281_0) ∧ w'.cell? (ad282.add (a0_1).toNat) = some (.bool (rdOf false (rd_L7 t278 a0_3) a0_1))) (fun _ h => ⟨h.1, h.2.1, h.2.2.1, h.2.2.2.1⟩) _ _ _ _ hHeld ?_
    refine norm_ (a' := ?_) ?_ ?_
    rotate_left
    · show Act.put _ (some 8) _ = _
      simp only [Act.put, List.setIfInBounds_toArray, List.set_cons_zero, List.set_cons_succ, i64_w, i32_w]
      rfl
    refine pure_ (i := 4) (N := some 11) (v := ?_) (a' := ?_) #[true, true, true, true, true, false, true, true, false, false, false, false] rfl rfl (any_of HT_.out (by kernel_rfl)) (fun _ _ _ h => h) (Or.inl ⟨by rfl, ?_⟩) ?_ ?_
    rotate_left
    · intro w'
      go_simp
      with_reducible rfl
    rotate_left
    · simp only [Act.put, List.setIfInBounds_toArray, List.set_cons_zero, List.set_cons_succ, i64_w, i32_w]
      rfl
    refine take_ (i := 5) (N := some 12) (v := ?_) (a' := ?_) #[true, true, true, true, true, true, true, true, false, false, false, false] rfl rfl (take_ofW HT_.out HW_.out (by kernel_rfl)) (fun _ _ _ h => h) (Or.inl ⟨by rfl, ?_⟩) hHeld ?_ ?_
    rotate_left
    · rintro w' ⟨s0, s1, s2, s3, s4, s5⟩
      go_simp
      with_reducible rfl
    rotate_left
    · simp only [Act.put, List.setIfInBounds_toArray, List.set_cons_zero, List.set_cons_succ, i64_w, i32_w]
      rfl
    refine pure_ (i := 8) (N := some 15) (v := ?_) (a' := ?_) #[true, true, true, true, true, true, true, true, true, false, false, false] rfl rfl (any_of HT_.out (by kernel_rfl)) (fun _ _ _ h => h) (Or.inl ⟨by rfl, ?_⟩) ?_ ?_
    rotate_left
    · intro w'
      go_simp
      with_reducible rfl
    rotate_left
    · simp only [Act.put, List.setIfInBounds_toArray, List.set_cons_zero, List.set_cons_succ, i64_w, i32_w]
      rfl
    refine take_ (i := 9) (N := some 16) (v := ?_) (a' := ?_) #[true, true, true, true, true, true, true, true, true, true, false, false] rfl rfl (take_ofW HT_.out HW_.out (by kernel_rfl)) (fun _ _ _ h => h) (Or.inl ⟨by rfl, ?_⟩) hHeld ?_ ?_
    rotate_left
    · rintro w' ⟨s0, s1, s2, s3, s4, s5⟩
      go_simp
      with_reducible rfl
    rotate_left
    · simp only [Act.put, List.setIfInBounds_toArray, List.set_cons_zero, List.set_cons_succ, i64_w, i32_w]
      rfl
    refine pure_ (i := 10) (N := some 2) (v := ?_) (a' := ?_) #[true, true, true, true, true, true, true, true, true, true, true, false] rfl rfl (any_of HT_.out (by kernel_rfl)) (fun _ _ _ h => h) (Or.inl ⟨by rfl, ?_⟩) ?_ ?_
    rotate_left
    · intro w'
      go_simp
      with_reducible rfl
    rotate_left
    · simp only [Act.put, List.setIfInBounds_toArray, List.set_cons_zero, List.set_cons_succ, i64_w, i32_w]
      rfl
    refine pure_ (i := 11) (N := some 3) (v := ?_) (a' := ?_) #[true, true, true, true, true, true, true, true, true, true, true, true] rfl rfl (any_of HT_.out (by kernel_rfl)) (fun _ _ _ h => h) (Or.inl ⟨by rfl, ?_⟩) ?_ ?_
    rotate_left
    · intro w'
      go_simp
      with_reducible rfl
    rotate_left
    · simp only [Act.put, List.setIfInBounds_toArray, List.set_cons_zero, List.set_cons_succ, i64_w, i32_w]
      rfl
    refine done_ (done_of HT_.out (by kernel_rfl)) ?_
    try go_wp2
    go_ret2
    exact ⟨by first | rfl | (simp [errW_none, errW_some] <;> rfl) | (simp [*, errW_none, errW_some] <;> rfl), by repeat (first | (with_reducible first | exact HB.out | apply below_alloc | apply pw_below_drewN | apply below_drew1 | refine below_set ?_ GE276.out) | exact HB.out)⟩
  · replace c3 := Bool.eq_false_iff.mpr c3
    subst c3
    have H1 : (some (false, 2)) = some (r1, r2) := by rw [if_neg (show ¬ (false = true) by decide)] at H; exact H
    clear H
    have H := H1
    clear H1
    simp only [Option.some.injEq, Prod.mk.injEq] at H
    obtain ⟨rfl, rfl⟩ := H
    go_enter Try.func15, Try.ntmps15
    go_wp2_with (first | ((with_reducible refine gate_dst (N := 1) rfl ?_); refine box_event ?hg (N := 1) ?hd (cs := #[.slice A0_0 l0_0.length c0_0, .int .i64 a0_1, .slice A0_2 l0_2.length c0_2, .int .i64 a0_3]) (t := 25) ?hr ?_; (case hd => rfl); (case hg => rfl); (case hr => exact qz38); intro gb276 hg w15 hbox hb; have n0_ := Aside0.mk (below_step qz21 hb); have n1_ := Aside0.mk (hbox); have n2_ := Aside0.mk ((by rw [hg]; exact (below_size qz21) : w.heap.size ≤ gb276)); have n3_ := Aside0.mk ((by rw [hg]; exact (below_size qz21) : w.heap.size ≤ gb276)); clear HB; have HB := n0_; have BK276 := n1_; have GW276 := n2_; have GE276 := n3_; clear n0_ n1_ n2_ n3_; clear hb hbox hg; have hcz16_0 : w15.cell? ⟨gb276, 0, none⟩ = some (.slice A0_0 l0_0.length c0_0) := (blk_cell BK276.out 0).trans rfl; have hcz16_1 : w15.cell? ⟨gb276, 1, none⟩ = some (.int .i64 a0_1) := (blk_cell BK276.out 1).trans rfl; have hcz16_2 : w15.cell? ⟨gb276, 2, none⟩ = some (.slice A0_2 l0_2.length c0_2) := (blk_cell BK276.out 2).trans rfl; have hcz16_3 : w15.cell? ⟨gb276, 3, none⟩ = some (.int .i64 a0_3) := (blk_cell BK276.out 3).trans rfl; have hfz16_0 := blk_frozen BK276.out 0; have hfz16_1 := blk_frozen BK276.out 1; have hfz16_2 := blk_frozen BK276.out 2; have hfz16_3 := blk_frozen BK276.out 3) | ((with_reducible refine gate_callee (f := 19) rfl ?_); refine goesL_ (some 5) rfl rfl Try.func19 (by kernel_rfl) rfl #[.agg #[.slice A0_0 l0_0.length c0_0, .int .i64 a0_1, .slice A0_2 l0_2.length c0_2, .int .i64 a0_3]] rfl qz20 ?_; (with_reducible refine (skolemref35_May.calls k _ _ l0_0 a0_1 _ _ l0_2 a0_3 false _ ?side1 ?side2 ?side3 ?side4 A2.out).mono ?_); (case side1 => exact qz1); (case side2 => exact HC0_0.out); (case side3 => exact qz2); (case side4 => exact HC0_2.out); rintro e w17 ⟨rfl, hb⟩; refine ⟨_, rfl, ?_⟩; have n0_ := Aside0.mk (blk_below (g := gb276) (o := .cells #[.slice A0_0 l0_0.length c0_0, .int .i64 a0_1, .slice A0_2 l0_2.length c0_2, .int .i64 a0_3] 25 (0, 0)) qz26 hb); have n1_ := Aside0.mk (below_step qz10 hb); clear BK276; clear HB; have BK276 := n0_; have HB := n1_; clear n0_ n1_; (try clear hb); (try clear hb2); (try clear hk); (try clear hi)))
    go_ret2
    exact ⟨by first | rfl | (simp [errW_none, errW_some] <;> rfl) | (simp [*, errW_none, errW_some] <;> rfl), by repeat (first | (with_reducible first | exact HB.out | apply below_alloc | apply pw_below_drewN | apply below_drew1 | refine below_set ?_ GE276.out) | exact HB.out)⟩

end Go.Proofs.Ytjlehbncpjccmaa.Q
namespace Go.Proofs.Ytjlehbncpjccmaa.Q
open Go.RowKit Go.Proofs.YtjlehbncpjccmaaW.PrintWords Go.Proofs.YtjlehbncpjccmaaW.PrintLast Go.Proofs.YtjlehbncpjccmaaW.PrintMore
attribute [local go_sem] max2_int min2_int max_two min_two max_three min_three max_four min_four   -- for this text's walks alone
set_option linter.unusedVariables false
set_option linter.unusedSimpArgs false

/-! ### skolemref35_Guide: function 17 -/
mutual
def skolemref35_Guide.l0 : Nat → List (List Bool) → List (List Int) → Int → List (S55) → Int → List Int → Int → Option ((List (List Int)) × Int)
  | 0, _, _, _, _, _, _, _ => none
  | k + 1, x4, x5, x6, x284000, x284001, x284002, x284003 => if x6 < x284003 then (skolemref35_Guide.l1 k x4 x5 x6 ([] : List Int) 0 x284000 x284001 x284002 x284003) else (some (x5, 0))
def skolemref35_Guide.l1 : Nat → List (List Bool) → List (List Int) → Int → List Int → Int → List (S55) → Int → List Int → Int → Option ((List (List Int)) × Int)
  | 0, _, _, _, _, _, _, _, _, _ => none
  | k + 1, x4, x5, x6, x7, x8, x284000, x284001, x284002, x284003 => if x8 < (x284000.length : Int) then (if 0 ≤ x8 then (skolemref35_Guide.l2 k x4 x5 x6 x7 x8 (-1) ((rd_T55 x284000 x8).f1) (wrap64 ((((rd_T55 x284000 x8).f1).length : Int) - 1)) x284000 x284001 x284002 x284003) else (none)) else (if x5.length < 5864062014805 then (skolemref35_Guide.l0 k x4 (x5 ++ [x7]) (wrap64 (x6 + 1)) x284000 x284001 x284002 x284003) else (none))
def skolemref35_Guide.l2 : Nat → List (List Bool) → List (List Int) → Int → List Int → Int → Int → List Int → Int → List (S55) → Int → List Int → Int → Option ((List (List Int)) × Int)
  | 0, _, _, _, _, _, _, _, _, _, _, _, _ => none
  | k + 1, x4, x5, x6, x7, x8, x9, x10, x11, x284000, x284001, x284002, x284003 => if x11 ≥ 0 then (if 0 ≤ x8 then (if x8 < (x284000.length : Int) then (if (rd_T55 x284000 x8).f0 = true then ((skolemref05_In.f k x284002 x8).bind fun t293 => (if t293 = true then (skolemref35_Guide.l2 k x4 x5 x6 x7 x8 x9 x10 (wrap64 (x11 - 1)) x284000 x284001 x284002 x284003) else (if 0 ≤ x6 then (if x6 < (x4.length : Int) then (if 0 ≤ x11 then (if x11 < (x10.length : Int) then (if 0 ≤ (rd x10 x11) then (if (rd x10 x11) < ((rd_L7 x4 x6).length : Int) then (if rdOf false (rd_L7 x4 x6) (rd x10 x11) = true then (skolemref35_Guide.l2 k x4 x5 x6 x7 x8 x11 x10 (wrap64 (x11 - 1)) x284000 x284001 x284002 x284003) else (skolemref35_Guide.l2 k x4 x5 x6 x7 x8 x9 x10 (wrap64 (x11 - 1)) x284000 x284001 x284002 x284003)) else (none)) else (none)) else (none)) else (none)) else (none)) else (none)))) else (skolemref35_Guide.l2 k x4 x5 x6 x7 x8 x9 x10 (wrap64 (x11 - 1)) x284000 x284001 x284002 x284003)) else (none)) else (none)) else (if x7.length < 17592186044416 then (skolemref35_Guide.l1 k x4 x5 x6 (x7 ++ [x9]) (wrap64 (x8 + 1)) x284000 x284001 x284002 x284003) else (none))
end
def skolemref35_Guide.f (k : Nat) (l0_0 : List (S55)) (a0_1 : Int) (l0_2 : List Int) (a0_3 : Int) : Option ((List (List Int)) × Int) := (skolemref35_May.f k l0_0 a0_1 l0_2 a0_3).bind fun t284 => (if t284 = true then ((skolemref35_table.f k l0_0 a0_1 l0_2 a0_3).bind fun t285 => (skolemref35_Guide.l0 k t285 ([] : List (List Int)) 0 l0_0 a0_1 l0_2 a0_3)) else (some (([] : List (List Int)), 2)))
theorem skolemref35_Guide.mono_l : ∀ k, (∀ y0 y1 y2 y3 y4 y5 y6, LeO (skolemref35_Guide.l0 k y0 y1 y2 y3 y4 y5 y6) (skolemref35_Guide.l0 (k + 1) y0 y1 y2 y3 y4 y5 y6)) ∧ (∀ y0 y1 y2 y3 y4 y5 y6 y7 y8, LeO (skolemref35_Guide.l1 k y0 y1 y2 y3 y4 y5 y6 y7 y8) (skolemref35_Guide.l1 (k + 1) y0 y1 y2 y3 y4 y5 y6 y7 y8)) ∧ (∀ y0 y1 y2 y3 y4 y5 y6 y7 y8 y9 y10 y11, LeO (skolemref35_Guide.l2 k y0 y1 y2 y3 y4 y5 y6 y7 y8 y9 y10 y11) (skolemref35_Guide.l2 (k + 1) y0 y1 y2 y3 y4 y5 y6 y7 y8 y9 y10 y11))
  | 0 => ⟨fun _ _ _ _ _ _ _ r h => by simp [skolemref35_Guide.l0] at h, fun _ _ _ _ _ _ _ _ _ r h => by simp [skolemref35_Guide.l1] at h, fun _ _ _ _ _ _ _ _ _ _ _ _ r h => by simp [skolemref35_Guide.l2] at h⟩
  | k + 1 => by
    obtain ⟨ih0, ih1, ih2⟩ := skolemref35_Guide.mono_l k
    refine ⟨?_, ?_, ?_⟩
    · intro y0 y1 y2 y3 y4 y5 y6
      unfold skolemref35_Guide.l0
      repeat' first
      | (with_reducible exact ih0 _ _ _ _ _ _ _)
      | (with_reducible exact ih1 _ _ _ _ _ _ _ _ _)
      | (with_reducible exact ih2 _ _ _ _ _ _ _ _ _ _ _ _)
      | (with_reducible exact skolemref05_In.mono _ _ _)
      | (with_reducible exact skolemref35_May.mono _ _ _ _ _)
      | (with_reducible exact skolemref35_table.mono _ _ _ _ _)
      | (with_reducible exact LeO.refl _)
      | (with_reducible exact LeO.none _)
      | (with_reducible refine LeO.ite ?_ ?_)
      | (with_reducible refine LeO.bind ?_ (fun _ => ?_))
      | exact ih0 _ _ _ _ _ _ _
      | exact ih1 _ _ _ _ _ _ _ _ _
      | exact ih2 _ _ _ _ _ _ _ _ _ _ _ _
      | exact skolemref05_In.mono _ _ _
      | exact skolemref35_May.mono _ _ _ _ _
      | exact skolemref35_table.mono _ _ _ _ _
      | exact LeO.none _
      | refine LeO.ite ?_ ?_
      | refine LeO.bind ?_ (fun _ => ?_)
    · intro y0 y1 y2 y3 y4 y5 y6 y7 y8
      unfold skolemref35_Guide.l1
      repeat' first
      | (with_reducible exact ih0 _ _ _ _ _ _ _)
      | (with_reducible exact ih1 _ _ _ _ _ _ _ _ _)
      | (with_reducible exact ih2 _ _ _ _ _ _ _ _ _ _ _ _)
      | (with_reducible exact skolemref05_In.mono _ _ _)
      | (with_reducible exact skolemref35_May.mono _ _ _ _ _)
      | (with_reducible exact skolemref35_table.mono _ _ _ _ _)
      | (with_reducible exact LeO.refl _)
      | (with_reducible exact LeO.none _)
      | (with_reducible refine LeO.ite ?_ ?_)
      | (with_reducible refine LeO.bind ?_ (fun _ => ?_))
      | exact ih0 _ _ _ _ _ _ _
      | exact ih1 _ _ _ _ _ _ _ _ _
      | exact ih2 _ _ _ _ _ _ _ _ _ _ _ _
      | exact skolemref05_In.mono _ _ _
      | exact skolemref35_May.mono _ _ _ _ _
      | exact skolemref35_table.mono _ _ _ _ _
      | exact LeO.none _
      | refine LeO.ite ?_ ?_
      | refine LeO.bind ?_ (fun _ => ?_)
    · intro y0 y1 y2 y3 y4 y5 y6 y7 y8 y9 y10 y11
      unfold skolemref35_Guide.l2
      repeat' first
      | (with_reducible exact ih0 _ _ _ _ _ _ _)
      | (with_reducible exact ih1 _ _ _ _ _ _ _ _ _)
      | (with_reducible exact ih2 _ _ _ _ _ _ _ _ _ _ _ _)
      | (with_reducible exact skolemref05_In.mono _ _ _)
      | (with_reducible exact skolemref35_May.mono _ _ _ _ _)
      | (with_reducible exact skolemref35_table.mono _ _ _ _ _)
      | (with_reducible exact LeO.refl _)
      | (with_reducible exact LeO.none _)
      | (with_reducible refine LeO.ite ?_ ?_)
      | (with_reducible refine LeO.bind ?_ (fun _ => ?_))
      | exact ih0 _ _ _ _ _ _ _
      | exact ih1 _ _ _ _ _ _ _ _ _
      | exact ih2 _ _ _ _ _ _ _ _ _ _ _ _
      | exact skolemref05_In.mono _ _ _
      | exact skolemref35_May.mono _ _ _ _ _
      | exact skolemref35_table.mono _ _ _ _ _
      | exact LeO.none _
      | refine LeO.ite ?_ ?_
      | refine LeO.bind ?_ (fun _ => ?_)
theorem skolemref35_Guide.mono : ∀ a0 a1 a2 a3 k, LeO (skolemref35_Guide.f k a0 a1 a2 a3) (skolemref35_Guide.f (k + 1) a0 a1 a2 a3) := by
  intro a0 a1 a2 a3 k
  obtain ⟨ih0, ih1, ih2⟩ := skolemref35_Guide.mono_l k
  unfold skolemref35_Guide.f
  repeat' first
      | (with_reducible exact ih0 _ _ _ _ _ _ _)
      | (with_reducible exact ih1 _ _ _ _ _ _ _ _ _)
      | (with_reducible exact ih2 _ _ _ _ _ _ _ _ _ _ _ _)
      | (with_reducible exact skolemref05_In.mono _ _ _)
      | (with_reducible exact skolemref35_May.mono _ _ _ _ _)
      | (with_reducible exact skolemref35_table.mono _ _ _ _ _)
      | (with_reducible exact LeO.refl _)
      | (with_reducible exact LeO.none _)
      | (with_reducible refine LeO.ite ?_ ?_)
      | (with_reducible refine LeO.bind ?_ (fun _ => ?_))
      | exact ih0 _ _ _ _ _ _ _
      | exact ih1 _ _ _ _ _ _ _ _ _
      | exact ih2 _ _ _ _ _ _ _ _ _ _ _ _
      | exact skolemref05_In.mono _ _ _
      | exact skolemref35_May.mono _ _ _ _ _
      | exact skolemref35_table.mono _ _ _ _ _
      | exact LeO.none _
      | refine LeO.ite ?_ ?_
      | refine LeO.bind ?_ (fun _ => ?_)
set_option maxHeartbeats 8000000 in
set_option maxRecDepth 100000 in
theorem skolemref35_Guide.calls (k : Nat) (A0_0 : Option Addr) (c0_0 : Nat) (l0_0 : List (S55)) (a0_1 : Int) (A0_2 : Option Addr) (c0_2 : Nat) (l0_2 : List Int) (a0_3 : Int) (r1 : List (List Int)) (r2 : Int) (w : World) (hr0_0 : Kd.C k55 w A0_0 l0_0.length l0_0) (hc0_0 : l0_0.length ≤ c0_0) (hr0_2 : Kd.C (Kd.int .i64) w A0_2 l0_2.length l0_2) (hc0_2 : l0_2.length ≤ c0_2) (h : skolemref35_Guide.f k l0_0 a0_1 l0_2 a0_3 = some (r1, r2)) :
    Calls Try.prog 17 #[.agg #[.slice A0_0 l0_0.length c0_0, .int .i64 a0_1, .slice A0_2 l0_2.length c0_2, .int .i64 a0_3]] w fun e w' => ∃ v0_ : Value, e = .returned (.tuple #[v0_, .int .i64 r2]) ∧ Kd.S (Kd.slice 3 (Kd.int .i64)) 23 w' w.heap.size (fun _ => True) v0_ r1 ∧ Below w.heap.size w w' := by
  have hu25 := Try.underlying25
  have HR0_0 := Aside0.mk hr0_0
  have HC0_0 := Aside0.mk hc0_0
  clear hr0_0 hc0_0
  have HR0_2 := Aside0.mk hr0_2
  have HC0_2 := Aside0.mk hc0_2
  clear hr0_2 hc0_2
  have HB := Aside0.mk (Below.refl w.heap.size w)
  have H : ((skolemref35_May.f k l0_0 a0_1 l0_2 a0_3).bind fun t284 => (if t284 = true then ((skolemref35_table.f k l0_0 a0_1 l0_2 a0_3).bind fun t285 => (skolemref35_Guide.l0 k t285 ([] : List (List Int)) 0 l0_0 a0_1 l0_2 a0_3)) else (some (([] : List (List Int)), 2)))) = some (r1, r2) := h
  clear h
  replace H := Option.bind_eq_some_iff.mp H
  obtain ⟨t284, A20, H⟩ := H
  replace H : (if t284 = true then ((skolemref35_table.f k l0_0 a0_1 l0_2 a0_3).bind fun t285 => (skolemref35_Guide.l0 k t285 ([] : List (List Int)) 0 l0_0 a0_1 l0_2 a0_3)) else (some (([] : List (List Int)), 2))) = some (r1, r2) := H
  have A2 := Aside0.mk A20
  clear A20
  by_cases c3 : t284 = true
  · subst c3
    have H1 : ((skolemref35_table.f k l0_0 a0_1 l0_2 a0_3).bind fun t285 => (skolemref35_Guide.l0 k t285 ([] : List (List Int)) 0 l0_0 a0_1 l0_2 a0_3)) = some (r1, r2) := by rw [if_pos rfl] at H; exact H
    clear H
    have H := H1
    clear H1
    replace H := Option.bind_eq_some_iff.mp H
    obtain ⟨t285, A40, H⟩ := H
    replace H : (skolemref35_Guide.l0 k t285 ([] : List (List Int)) 0 l0_0 a0_1 l0_2 a0_3) = some (r1, r2) := H
    have A4 := Aside0.mk A40
    clear A40
    have H' := Aside0.mk H
    clear H
    go_enter Try.func17, Try.ntmps17
    go_wp2_with (first | ((with_reducible refine gate_dst (N := 1) rfl ?_); refine box_event ?hg (N := 1) ?hd (cs := #[.slice A0_0 l0_0.length c0_0, .int .i64 a0_1, .slice A0_2 l0_2.length c0_2, .int .i64 a0_3]) (t := 25) ?hr ?_; (case hd => rfl); (case hg => rfl); (case hr => exact qz38); intro gb283 hg w5 hbox hb; have n0_ := Aside0.mk (below_step qz21 hb); have n1_ := Aside0.mk (hbox); have n2_ := Aside0.mk ((by rw [hg]; exact (below_size qz21) : w.heap.size ≤ gb283)); have n3_ := Aside0.mk ((by rw [hg]; exact (below_size qz21) : w.heap.size ≤ gb283)); clear HB; have HB := n0_; have BK283 := n1_; have GW283 := n2_; have GE283 := n3_; clear n0_ n1_ n2_ n3_; clear hb hbox hg; have hcz6_0 : w5.cell? ⟨gb283, 0, none⟩ = some (.slice A0_0 l0_0.length c0_0) := (blk_cell BK283.out 0).trans rfl; have hcz6_1 : w5.cell? ⟨gb283, 1, none⟩ = some (.int .i64 a0_1) := (blk_cell BK283.out 1).trans rfl; have hcz6_2 : w5.cell? ⟨gb283, 2, none⟩ = some (.slice A0_2 l0_2.length c0_2) := (blk_cell BK283.out 2).trans rfl; have hcz6_3 : w5.cell? ⟨gb283, 3, none⟩ = some (.int .i64 a0_3) := (blk_cell BK283.out 3).trans rfl; have hfz6_0 := blk_frozen BK283.out 0; have hfz6_1 := blk_frozen BK283.out 1; have hfz6_2 := blk_frozen BK283.out 2; have hfz6_3 := blk_frozen BK283.out 3) | (go_at_call 19; (with_reducible refine (skolemref35_May.calls k _ _ l0_0 a0_1 _ _ l0_2 a0_3 true _ ?side1 ?side2 ?side3 ?side4 A2.out).mono ?_); (case side1 => exact qz1); (case side2 => exact HC0_0.out); (case side3 => exact qz2); (case side4 => exact HC0_2.out); rintro e w7 ⟨rfl, hb⟩; have n0_ := Aside0.mk (blk_below (g := gb283) (o := .cells #[.slice A0_0 l0_0.length c0_0, .int .i64 a0_1, .slice A0_2 l0_2.length c0_2, .int .i64 a0_3] 25 (0, 0)) qz27 hb); have n1_ := Aside0.mk (below_step qz11 hb); clear BK283; clear HB; have BK283 := n0_; have HB := n1_; clear n0_ n1_; (try clear hb); (try clear hb2); (try clear hk); (try clear hi); have hcz8_0 : w7.cell? ⟨gb283, 0, none⟩ = some (.slice A0_0 l0_0.length c0_0) := (blk_cell BK283.out 0).trans rfl; have hcz8_1 : w7.cell? ⟨gb283, 1, none⟩ = some (.int .i64 a0_1) := (blk_cell BK283.out 1).trans rfl; have hcz8_2 : w7.cell? ⟨gb283, 2, none⟩ = some (.slice A0_2 l0_2.length c0_2) := (blk_cell BK283.out 2).trans rfl; have hcz8_3 : w7.cell? ⟨gb283, 3, none⟩ = some (.int .i64 a0_3) := (blk_cell BK283.out 3).trans rfl; have hfz8_0 := blk_frozen BK283.out 0; have hfz8_1 := blk_frozen BK283.out 1; have hfz8_2 := blk_frozen BK283.out 2; have hfz8_3 := blk_frozen BK283.out 3) | (go_at_call 38; (with_reducible refine (skolemref35_table.calls k _ _ l0_0 a0_1 _ _ l0_2 a0_3 t285 _ ?side1 ?side2 ?side3 ?side4 A4.out).mono ?_); (case side1 => exact qz1); (case side2 => exact HC0_0.out); (case side3 => exact qz2); (case side4 => exact HC0_2.out); rintro e w9 ⟨v286, rfl, ho0, hb⟩; have n0_ := Aside0.mk (Kd.S_lower ho0 (below_size qz11)); have n1_ := Aside0.mk (blk_below (g := gb283) (o := .cells #[.slice A0_0 l0_0.length c0_0, .int .i64 a0_1, .slice A0_2 l0_2.length c0_2, .int .i64 a0_3] 25 (0, 0)) qz27 hb); have n2_ := Aside0.mk (below_step qz11 hb); clear BK283; clear HB; have HO287 := n0_; have BK283 := n1_; have HB := n2_; clear n0_ n1_ n2_; (try clear hb); (try clear hb2); (try clear hk); (try clear hi); (try clear ho0)))
    repeat (go_quiet (first | ((with_reducible refine gate_dst (N := 1) rfl ?_); refine box_event ?hg (N := 1) ?hd (cs := #[.slice A0_0 l0_0.length c0_0, .int .i64 a0_1, .slice A0_2 l0_2.length c0_2, .int .i64 a0_3]) (t := 25) ?hr ?_; (case hd => rfl); (case hg => rfl); (case hr => exact qz38); intro gb283 hg w5 hbox hb; have n0_ := Aside0.mk (below_step qz21 hb); have n1_ := Aside0.mk (hbox); have n2_ := Aside0.mk ((by rw [hg]; exact (below_size qz21) : w.heap.size ≤ gb283)); have n3_ := Aside0.mk ((by rw [hg]; exact (below_size qz21) : w.heap.size ≤ gb283)); clear HB; have HB := n0_; have BK283 := n1_; have GW283 := n2_; have GE283 := n3_; clear n0_ n1_ n2_ n3_; clear hb hbox hg; have hcz6_0 : w5.cell? ⟨gb283, 0, none⟩ = some (.slice A0_0 l0_0.length c0_0) := (blk_cell BK283.out 0).trans rfl; have hcz6_1 : w5.cell? ⟨gb283, 1, none⟩ = some (.int .i64 a0_1) := (blk_cell BK283.out 1).trans rfl; have hcz6_2 : w5.cell? ⟨gb283, 2, none⟩ = some (.slice A0_2 l0_2.length c0_2) := (blk_cell BK283.out 2).trans rfl; have hcz6_3 : w5.cell? ⟨gb283, 3, none⟩ = some (.int .i64 a0_3) := (blk_cell BK283.out 3).trans rfl; have hfz6_0 := blk_frozen BK283.out 0; have hfz6_1 := blk_frozen BK283.out 1; have hfz6_2 := blk_frozen BK283.out 2; have hfz6_3 := blk_frozen BK283.out 3) | (go_at_call 19; (with_reducible refine (skolemref35_May.calls k _ _ l0_0 a0_1 _ _ l0_2 a0_3 true _ ?side1 ?side2 ?side3 ?side4 A2.out).mono ?_); (case side1 => exact qz1); (case side2 => exact HC0_0.out); (case side3 => exact qz2); (case side4 => exact HC0_2.out); rintro e w7 ⟨rfl, hb⟩; have n0_ := Aside0.mk (blk_below (g := gb283) (o := .cells #[.slice A0_0 l0_0.length c0_0, .int .i64 a0_1, .slice A0_2 l0_2.length c0_2, .int .i64 a0_3] 25 (0, 0)) qz27 hb); have n1_ := Aside0.mk (below_step qz11 hb); clear BK283; clear HB; have BK283 := n0_; have HB := n1_; clear n0_ n1_; (try clear hb); (try clear hb2); (try clear hk); (try clear hi); have hcz8_0 : w7.cell? ⟨gb283, 0, none⟩ = some (.slice A0_0 l0_0.length c0_0) := (blk_cell BK283.out 0).trans rfl; have hcz8_1 : w7.cell? ⟨gb283, 1, none⟩ = some (.int .i64 a0_1) := (blk_cell BK283.out 1).trans rfl; have hcz8_2 : w7.cell? ⟨gb283, 2, none⟩ = some (.slice A0_2 l0_2.length c0_2) := (blk_cell BK283.out 2).trans rfl; have hcz8_3 : w7.cell? ⟨gb283, 3, none⟩ = some (.int .i64 a0_3) := (blk_cell BK283.out 3).trans rfl; have hfz8_0 := blk_frozen BK283.out 0; have hfz8_1 := blk_frozen BK283.out 1; have hfz8_2 := blk_frozen BK283.out 2; have hfz8_3 := blk_frozen BK283.out 3) | (go_at_call 38; (with_reducible refine (skolemref35_table.calls k _ _ l0_0 a0_1 _ _ l0_2 a0_3 t285 _ ?side1 ?side2 ?side3 ?side4 A4.out).mono ?_); (case side1 => exact qz1); (case side2 => exact HC0_0.out); (case side3 => exact qz2); (case side4 => exact HC0_2.out); rintro e w9 ⟨v286, rfl, ho0, hb⟩; have n0_ := Aside0.mk (Kd.S_lower ho0 (below_size qz11)); have n1_ := Aside0.mk (blk_below (g := gb283) (o := .cells #[.slice A0_0 l0_0.length c0_0, .int .i64 a0_1, .slice A0_2 l0_2.length c0_2, .int .i64 a0_3] 25 (0, 0)) qz27 hb); have n2_ := Aside0.mk (below_step qz11 hb); clear BK283; clear HB; have HO287 := n0_; have BK283 := n1_; have HB := n2_; clear n0_ n1_ n2_; (try clear hb); (try clear hb2); (try clear hk); (try clear hi); (try clear ho0))); try go_wp2_with (first | ((with_reducible refine gate_dst (N := 1) rfl ?_); refine box_event ?hg (N := 1) ?hd (cs := #[.slice A0_0 l0_0.length c0_0, .int .i64 a0_1, .slice A0_2 l0_2.length c0_2, .int .i64 a0_3]) (t := 25) ?hr ?_; (case hd => rfl); (case hg => rfl); (case hr => exact qz38); intro gb283 hg w5 hbox hb; have n0_ := Aside0.mk (below_step qz21 hb); have n1_ := Aside0.mk (hbox); have n2_ := Aside0.mk ((by rw [hg]; exact (below_size qz21) : w.heap.size ≤ gb283)); have n3_ := Aside0.mk ((by rw [hg]; exact (below_size qz21) : w.heap.size ≤ gb283)); clear HB; have HB := n0_; have BK283 := n1_; have GW283 := n2_; have GE283 := n3_; clear n0_ n1_ n2_ n3_; clear hb hbox hg; have hcz6_0 : w5.cell? ⟨gb283, 0, none⟩ = some (.slice A0_0 l0_0.length c0_0) := (blk_cell BK283.out 0).trans rfl; have hcz6_1 : w5.cell? ⟨gb283, 1, none⟩ = some (.int .i64 a0_1) := (blk_cell BK283.out 1).trans rfl; have hcz6_2 : w5.cell? ⟨gb283, 2, none⟩ = some (.slice A0_2 l0_2.length c0_2) := (blk_cell BK283.out 2).trans rfl; have hcz6_3 : w5.cell? ⟨gb283, 3, none⟩ = some (.int .i64 a0_3) := (blk_cell BK283.out 3).trans rfl; have hfz6_0 := blk_frozen BK283.out 0; have hfz6_1 := blk_frozen BK283.out 1; have hfz6_2 := blk_frozen BK283.out 2; have hfz6_3 := blk_frozen BK283.out 3) | (go_at_call 19; (with_reducible refine (skolemref35_May.calls k _ _ l0_0 a0_1 _ _ l0_2 a0_3 true _ ?side1 ?side2 ?side3 ?side4 A2.out).mono ?_); (case side1 => exact qz1); (case side2 => exact HC0_0.out); (case side3 => exact qz2); (case side4 => exact HC0_2.out); rintro e w7 ⟨rfl, hb⟩; have n0_ := Aside0.mk (blk_below (g := gb283) (o := .cells #[.slice A0_0 l0_0.length c0_0, .int .i64 a0_1, .slice A0_2 l0_2.length c0_2, .int .i64 a0_3] 25 (0, 0)) qz27 hb); have n1_ := Aside0.mk (below_step qz11 hb); clear BK283; clear HB; have BK283 := n0_; have HB := n1_; clear n0_ n1_; (try clear hb); (try clear hb2); (try clear hk); (try clear hi); have hcz8_0 : w7.cell? ⟨gb283, 0, none⟩ = some (.slice A0_0 l0_0.length c0_0) := (blk_cell BK283.out 0).trans rfl; have hcz8_1 : w7.cell? ⟨gb283, 1, none⟩ = some (.int .i64 a0_1) := (blk_cell BK283.out 1).trans rfl; have hcz8_2 : w7.cell? ⟨gb283, 2, none⟩ = some (.slice A0_2 l0_2.length c0_2) := (blk_cell BK283.out 2).trans rfl; have hcz8_3 : w7.cell? ⟨gb283, 3, none⟩ = some (.int .i64 a0_3) := (blk_cell BK283.out 3).trans rfl; have hfz8_0 := blk_frozen BK283.out 0; have hfz8_1 := blk_frozen BK283.out 1; have hfz8_2 := blk_frozen BK283.out 2; have hfz8_3 := blk_frozen BK283.out 3) | (go_at_call 38; (with_reducible refine (skolemref35_table.calls k _ _ l0_0 a0_1 _ _ l0_2 a0_3 t285 _ ?side1 ?side2 ?side3 ?side4 A4.out).mono ?_); (case side1 => exact qz1); (case side2 => exact HC0_0.out); (case side3 => exact qz2); (case side4 => exact HC0_2.out); rintro e w9 ⟨v286, rfl, ho0, hb⟩; have n0_ := Aside0.mk (Kd.S_lower ho0 (below_size qz11)); have n1_ := Aside0.mk (blk_below (g := gb283) (o := .cells #[.slice A0_0 l0_0.length c0_0, .int .i64 a0_1, .slice A0_2 l0_2.length c0_2, .int .i64 a0_3] 25 (0, 0)) qz27 hb); have n2_ := Aside0.mk (below_step qz11 hb); clear BK283; clear HB; have HO287 := n0_; have BK283 := n1_; have HB := n2_; clear n0_ n1_ n2_; (try clear hb); (try clear hb2); (try clear hk); (try clear hi); (try clear ho0))))
    go_loopg [5, 6] k (fun kq v5 v6 w' => ∃ (x5_1 : List (List Int)) (x6_1 : Int), v6 = .int .i64 x6_1 ∧ Aside0 (skolemref35_Guide.l0 kq t285 x5_1 x6_1 l0_0 a0_1 l0_2 a0_3 = some (r1, r2)) ∧ Aside0 (kq ≤ k) ∧ Aside0 (Kd.S (Kd.slice 4 Kd.bool) 79 w' w.heap.size (fun _ => True) v286 t285) ∧ Aside0 (Kd.S (Kd.slice 3 (Kd.int .i64)) 23 w' w.heap.size (fun _ => True) v5 x5_1) ∧ Aside0 (w'.heap[gb283]? = some (.cells #[(.slice A0_0 l0_0.length c0_0), .int .i64 a0_1, (.slice A0_2 l0_2.length c0_2), .int .i64 a0_3] 25 (0, 0))) ∧ Aside0 (Below w.heap.size w w'))
    case atStart => exact ⟨(([] : List (List Int))), (0), qz37, H', ⟨Nat.le_refl _⟩, ⟨by (with_reducible repeat (first | apply Kd.S_alloc | apply Kd.S_drewN | apply Kd.S_drew)); exact HO287.out⟩, ⟨by first | exact Kd.S_nil _ _ _ _ _ | exact Kd.N_nil _ _ _ _ _ | exact Kd.V_nil _ _ _ _ _ | exact Kd.Q_nil _ _ _ _ _ | exact Kd.R_nil _ _ _ _ _⟩, ⟨by (with_reducible repeat (first | refine blk_drewN ?_ _ | refine blk_drew ?_ | refine blk_alloc ?_ _)); exact BK283.out⟩, ⟨by repeat (first | (with_reducible first | exact HB.out | apply below_alloc | apply pw_below_drewN | apply below_drew1 | refine below_set ?_ GE283.out) | exact HB.out)⟩⟩
    case round =>
      clear H'
      try clear c1
      try clear p2
      try clear c3
      try clear hcz6_0
      try clear hcz6_1
      try clear hcz6_2
      try clear hcz6_3
      try clear hcz8_0
      try clear hcz8_1
      try clear hcz8_2
      try clear hcz8_3
      try clear hfz6_0
      try clear hfz6_1
      try clear hfz6_2
      try clear hfz6_3
      try clear hfz8_0
      try clear hfz8_1
      try clear hfz8_2
      try clear hfz8_3
      obtain ⟨x5_1, x6_1, rfl, HA, HK1, HO_4, HO_5, BK283, HB⟩ := hrel
      cases gk with
      | zero => exact absurd HA.out (by simp [skolemref35_Guide.l0])
      | succ k1 =>
        have H := HA.out
        clear HA
        simp only [skolemref35_Guide.l0] at H
        by_cases c10 : x6_1 < a0_3
        · rw [if_pos c10] at H
          have c10b0 : decide (x6_1 < a0_3) = true := decide_eq_true c10
          clear c10
          have H' := Aside0.mk H
          clear H
          have hcz11_0 : wr.cell? ⟨gb283, 0, none⟩ = some (.slice A0_0 l0_0.length c0_0) := (blk_cell BK283.out 0).trans rfl
          have hcz11_1 : wr.cell? ⟨gb283, 1, none⟩ = some (.int .i64 a0_1) := (blk_cell BK283.out 1).trans rfl
          have hcz11_2 : wr.cell? ⟨gb283, 2, none⟩ = some (.slice A0_2 l0_2.length c0_2) := (blk_cell BK283.out 2).trans rfl
          have hcz11_3 : wr.cell? ⟨gb283, 3, none⟩ = some (.int .i64 a0_3) := (blk_cell BK283.out 3).trans rfl
          have hfz11_0 := blk_frozen BK283.out 0
          have hfz11_1 := blk_frozen BK283.out 1
          have hfz11_2 := blk_frozen BK283.out 2
          have hfz11_3 := blk_frozen BK283.out 3
          go_wp2
          repeat (go_quiet (fail); try go_wp2)
          go_loopg [7, 8] k1 (fun kq v7 v8 w' => ∃ (x7_2 : List Int) (x8_2 : Int), v8 = .int .i64 x8_2 ∧ Aside0 (skolemref35_Guide.l1 kq t285 x5_1 x6_1 x7_2 x8_2 l0_0 a0_1 l0_2 a0_3 = some (r1, r2)) ∧ Aside0 (kq ≤ k1) ∧ Aside0 (Kd.S (Kd.slice 4 Kd.bool) 79 w' w.heap.size (fun _ => True) v286 t285) ∧ Aside0 (Kd.S (Kd.slice 3 (Kd.int .i64)) 23 w' w.heap.size (fun k_ => some k_ ≠ (v7 : Value).ownBlock) u5 x5_1) ∧ Aside0 (Kd.R (Kd.int .i64) 3 w' w.heap.size (fun _ => True) v7 x7_2) ∧ Aside0 (w'.heap[gb283]? = some (.cells #[(.slice A0_0 l0_0.length c0_0), .int .i64 a0_1, (.slice A0_2 l0_2.length c0_2), .int .i64 a0_3] 25 (0, 0))) ∧ Aside0 (Below w.heap.size w w'))
          case atStart => exact ⟨(([] : List Int)), (0), qz37, H', ⟨Nat.le_refl _⟩, ⟨by (with_reducible repeat (first | apply Kd.S_alloc | apply Kd.S_drewN | apply Kd.S_drew)); exact HO_4.out⟩, ⟨by (with_reducible repeat (first | apply Kd.S_alloc | apply Kd.S_drewN | apply Kd.S_drew)); exact Kd.S_mono HO_5.out (fun _ hk => (by simp [Value.ownBlock]))⟩, ⟨by first | exact Kd.R_nil _ _ _ _ _ | exact Kd.N_nil _ _ _ _ _ | exact Kd.V_nil _ _ _ _ _ | exact Kd.Q_nil _ _ _ _ _ | exact Kd.S_nil _ _ _ _ _⟩, ⟨by (with_reducible repeat (first | refine blk_drewN ?_ _ | refine blk_drew ?_ | refine blk_alloc ?_ _)); exact BK283.out⟩, ⟨by repeat (first | (with_reducible first | exact HB.out | apply below_alloc | apply pw_below_drewN | apply below_drew1 | refine below_set ?_ GE283.out) | exact HB.out)⟩⟩
          case round =>
            clear H'
            try clear c1
            try clear p2
            try clear c3
            try clear c10
            try clear c10b0
            try clear hcz11_0
            try clear hcz11_1
            try clear hcz11_2
            try clear hcz11_3
            try clear hcz6_0
            try clear hcz6_1
            try clear hcz6_2
            try clear hcz6_3
            try clear hcz8_0
            try clear hcz8_1
            try clear hcz8_2
            try clear hcz8_3
            try clear hfz11_0
            try clear hfz11_1
            try clear hfz11_2
            try clear hfz11_3
            try clear hfz6_0
            try clear hfz6_1
            try clear hfz6_2
            try clear hfz6_3
            try clear hfz8_0
            try clear hfz8_1
            try clear hfz8_2
            try clear hfz8_3
            try clear p2
            obtain ⟨x7_2, x8_2, rfl, HA, HK2, HO_4, HO_5, HO_7, BK283, HB⟩ := hrel
            cases gk with
            | zero => exact absurd HA.out (by simp [skolemref35_Guide.l1])
            | succ k2 =>
              have H := HA.out
              clear HA
              simp only [skolemref35_Guide.l1] at H
              by_cases c12 : x8_2 < (l0_0.length : Int)
              · rw [if_pos c12] at H
                have c12b0 : decide (x8_2 < (l0_0.length : Int)) = true := decide_eq_true c12
                clear c12
                by_cases c13 : 0 ≤ x8_2
                case neg => rw [if_neg c13] at H; exact absurd H (by simp)
                rw [if_pos c13] at H
                have c13b0 : decide (0 ≤ x8_2) = true := decide_eq_true c13
                clear c13
                have H' := Aside0.mk H
                clear H
                have hcz14_0 : wr.cell? ⟨gb283, 0, none⟩ = some (.slice A0_0 l0_0.length c0_0) := (blk_cell BK283.out 0).trans rfl
                have hcz14_1 : wr.cell? ⟨gb283, 1, none⟩ = some (.int .i64 a0_1) := (blk_cell BK283.out 1).trans rfl
                have hcz14_2 : wr.cell? ⟨gb283, 2, none⟩ = some (.slice A0_2 l0_2.length c0_2) := (blk_cell BK283.out 2).trans rfl
                have hcz14_3 : wr.cell? ⟨gb283, 3, none⟩ = some (.int .i64 a0_3) := (blk_cell BK283.out 3).trans rfl
                have hfz14_0 := blk_frozen BK283.out 0
                have hfz14_1 := blk_frozen BK283.out 1
                have hfz14_2 := blk_frozen BK283.out 2
                have hfz14_3 := blk_frozen BK283.out 3
                have p291 : 0 ≤ (x8_2 : Int) := of_decide_eq_true qz36
                have q291 : x8_2 < (l0_0.length : Int) := of_decide_eq_true qz36
                obtain ⟨ad291, A291_1, c291_1, e291, hx291_0, hx291_1, hl291_1, hi291_1⟩ := at_T55 HR0_0.out x8_2 p291 q291
                cases e291
                replace hx291_0 := (HB.out.cell (World.block_lt_of_cell? w _ hx291_0)).trans hx291_0
                replace hx291_1 := (HB.out.cell (World.block_lt_of_cell? w _ hx291_1)).trans hx291_1
                have HR291_1 := Aside0.mk hi291_1
                have HC291_1 := Aside0.mk hl291_1
                clear hi291_1 hl291_1
                replace p291 := eq_true p291
                replace q291 := eq_true q291
                go_wp2
                repeat (go_quiet (fail); try go_wp2)
                go_loopg [9, 11] k2 (fun kq v9 v11 w' => ∃ (x9_3 : Int) (x11_3 : Int), v9 = .int .i64 x9_3 ∧ v11 = .int .i64 x11_3 ∧ Aside0 (skolemref35_Guide.l2 kq t285 x5_1 x6_1 x7_2 x8_2 x9_3 ((rd_T55 l0_0 x8_2).f1) x11_3 l0_0 a0_1 l0_2 a0_3 = some (r1, r2)) ∧ Aside0 (kq ≤ k2) ∧ Aside0 (Kd.S (Kd.slice 4 Kd.bool) 79 w' w.heap.size (fun _ => True) v286 t285) ∧ Aside0 (Kd.S (Kd.slice 3 (Kd.int .i64)) 23 w' w.heap.size (fun k_ => some k_ ≠ (u7 : Value).ownBlock) u5 x5_1) ∧ Aside0 (Kd.R (Kd.int .i64) 3 w' w.heap.size (fun _ => True) u7 x7_2) ∧ Aside0 (w'.heap[gb283]? = some (.cells #[(.slice (some ad291) l0_0.length c0_0), .int .i64 a0_1, (.slice A0_2 l0_2.length c0_2), .int .i64 a0_3] 25 (0, 0))) ∧ Aside0 (Below w.heap.size w w'))
                case atStart => exact ⟨((-1)), (wrap64 ((((rd_T55 l0_0 x8_2).f1).length : Int) - 1)), qz37, qz37, H', ⟨Nat.le_refl _⟩, ⟨by (with_reducible repeat (first | apply Kd.S_alloc | apply Kd.S_drewN | apply Kd.S_drew)); exact HO_4.out⟩, ⟨by (with_reducible repeat (first | apply Kd.S_alloc | apply Kd.S_drewN | apply Kd.S_drew)); exact HO_5.out⟩, ⟨by (with_reducible repeat (first | apply Kd.R_alloc | apply Kd.R_drewN | apply Kd.R_drew)); exact HO_7.out⟩, ⟨by (with_reducible repeat (first | refine blk_drewN ?_ _ | refine blk_drew ?_ | refine blk_alloc ?_ _)); exact BK283.out⟩, ⟨by repeat (first | (with_reducible first | exact HB.out | apply below_alloc | apply pw_below_drewN | apply below_drew1 | refine below_set ?_ GE283.out) | exact HB.out)⟩⟩
                case round =>
                  clear H'
                  try clear c1
                  try clear c2
                  try clear p2
                  try clear q2
                  try clear hx2
                  try clear c3
                  try clear p6
                  try clear c10
                  try clear c10b0
                  try clear c12
                  try clear c12b0
                  try clear c13
                  try clear c13b0
                  try clear hcz11_0
                  try clear hcz11_1
                  try clear hcz11_2
                  try clear hcz11_3
                  try clear hcz14_0
                  try clear hcz14_1
                  try clear hcz14_2
                  try clear hcz14_3
                  try clear hcz6_0
                  try clear hcz6_1
                  try clear hcz6_2
                  try clear hcz6_3
                  try clear hcz8_0
                  try clear hcz8_1
                  try clear hcz8_2
                  try clear hcz8_3
                  try clear hfz11_0
                  try clear hfz11_1
                  try clear hfz11_2
                  try clear hfz11_3
                  try clear hfz14_0
                  try clear hfz14_1
                  try clear hfz14_2
                  try clear hfz14_3
                  try clear hfz6_0
                  try clear hfz6_1
                  try clear hfz6_2
                  try clear hfz6_3
                  try clear hfz8_0
                  try clear hfz8_1
                  try clear hfz8_2
                  try clear hfz8_3
                  try clear hx291_0
                  try clear hx291_1
                  try clear p2
                  try clear p291
                  try clear q291
                  obtain ⟨x9_3, x11_3, rfl, rfl, HA, HK3, HO_4, HO_5, HO_7, BK283, HB⟩ := hrel
                  cases gk with
                  | zero => exact absurd HA.out (by simp [skolemref35_Guide.l2])
                  | succ k3 =>
                    have H := HA.out
                    clear HA
                    simp only [skolemref35_Guide.l2] at H
                    by_cases c15 : x11_3 ≥ 0
                    · rw [if_pos c15] at H
                      have c15b0 : decide (0 ≤ x11_3) = true := decide_eq_true c15
                      clear c15
                      by_cases c16 : 0 ≤ x8_2
                      case neg => rw [if_neg c16] at H; exact absurd H (by simp)
                      rw [if_pos c16] at H
                      have c16b0 : decide (0 ≤ x8_2) = true := decide_eq_true c16
                      clear c16
                      by_cases c17 : x8_2 < (l0_0.length : Int)
                      case neg => rw [if_neg c17] at H; exact absurd H (by simp)
                      rw [if_pos c17] at H
                      have c17b0 : decide (x8_2 < (l0_0.length : Int)) = true := decide_eq_true c17
                      clear c17
                      obtain ⟨bq18, hbq18⟩ : ∃ b_ : Bool, b_ = ((rd_T55 l0_0 x8_2).f0) := ⟨_, rfl⟩
                      replace H : (if bq18 = true then ((skolemref05_In.f k3 l0_2 x8_2).bind fun t293 => (if t293 = true then (skolemref35_Guide.l2 k3 t285 x5_1 x6_1 x7_2 x8_2 x9_3 ((rd_T55 l0_0 x8_2).f1) (wrap64 (x11_3 - 1)) l0_0 a0_1 l0_2 a0_3) else (if 0 ≤ x6_1 then (if x6_1 < (t285.length : Int) then (if 0 ≤ x11_3 then (if x11_3 < (((rd_T55 l0_0 x8_2).f1).length : Int) then (if 0 ≤ (rd ((rd_T55 l0_0 x8_2).f1) x11_3) then (if (rd ((rd_T55 l0_0 x8_2).f1) x11_3) < ((rd_L7 t285 x6_1).length : Int) then (if rdOf false (rd_L7 t285 x6_1) (rd ((rd_T55 l0_0 x8_2).f1) x11_3) = true then (skolemref35_Guide.l2 k3 t285 x5_1 x6_1 x7_2 x8_2 x11_3 ((rd_T55 l0_0 x8_2).f1) (wrap64 (x11_3 - 1)) l0_0 a0_1 l0_2 a0_3) else (skolemref35_Guide.l2 k3 t285 x5_1 x6_1 x7_2 x8_2 x9_3 ((rd_T55 l0_0 x8_2).f1) (wrap64 (x11_3 - 1)) l0_0 a0_1 l0_2 a0_3)) else (none)) else (none)) else (none)) else (none)) else (none)) else (none)))) else (skolemref35_Guide.l2 k3 t285 x5_1 x6_1 x7_2 x8_2 x9_3 ((rd_T55 l0_0 x8_2).f1) (wrap64 (x11_3 - 1)) l0_0 a0_1 l0_2 a0_3)) = some (r1, r2) := by rw [← hbq18] at H; exact H
                      have Nbq18 := Aside0.mk hbq18
                      clear hbq18
                      by_cases c19 : bq18 = true
                      · subst c19
                        have H1 : ((skolemref05_In.f k3 l0_2 x8_2).bind fun t293 => (if t293 = true then (skolemref35_Guide.l2 k3 t285 x5_1 x6_1 x7_2 x8_2 x9_3 ((rd_T55 l0_0 x8_2).f1) (wrap64 (x11_3 - 1)) l0_0 a0_1 l0_2 a0_3) else (if 0 ≤ x6_1 then (if x6_1 < (t285.length : Int) then (if 0 ≤ x11_3 then (if x11_3 < (((rd_T55 l0_0 x8_2).f1).length : Int) then (if 0 ≤ (rd ((rd_T55 l0_0 x8_2).f1) x11_3) then (if (rd ((rd_T55 l0_0 x8_2).f1) x11_3) < ((rd_L7 t285 x6_1).length : Int) then (if rdOf false (rd_L7 t285 x6_1) (rd ((rd_T55 l0_0 x8_2).f1) x11_3) = true then (skolemref35_Guide.l2 k3 t285 x5_1 x6_1 x7_2 x8_2 x11_3 ((rd_T55 l0_0 x8_2).f1) (wrap64 (x11_3 - 1)) l0_0 a0_1 l0_2 a0_3) else (skolemref35_Guide.l2 k3 t285 x5_1 x6_1 x7_2 x8_2 x9_3 ((rd_T55 l0_0 x8_2).f1) (wrap64 (x11_3 - 1)) l0_0 a0_1 l0_2 a0_3)) else (none)) else (none)) else (none)) else (none)) else (none)) else (none)))) = some (r1, r2) := by rw [if_pos rfl] at H; exact H
                        clear H
                        have H := H1
                        clear H1
                        replace H := Option.bind_eq_some_iff.mp H
                        obtain ⟨t293, A200, H⟩ := H
                        replace H : (if t293 = true then (skolemref35_Guide.l2 k3 t285 x5_1 x6_1 x7_2 x8_2 x9_3 ((rd_T55 l0_0 x8_2).f1) (wrap64 (x11_3 - 1)) l0_0 a0_1 l0_2 a0_3) else (if 0 ≤ x6_1 then (if x6_1 < (t285.length : Int) then (if 0 ≤ x11_3 then (if x11_3 < (((rd_T55 l0_0 x8_2).f1).length : Int) then (if 0 ≤ (rd ((rd_T55 l0_0 x8_2).f1) x11_3) then (if (rd ((rd_T55 l0_0 x8_2).f1) x11_3) < ((rd_L7 t285 x6_1).length : Int) then (if rdOf false (rd_L7 t285 x6_1) (rd ((rd_T55 l0_0 x8_2).f1) x11_3) = true then (skolemref35_Guide.l2 k3 t285 x5_1 x6_1 x7_2 x8_2 x11_3 ((rd_T55 l0_0 x8_2).f1) (wrap64 (x11_3 - 1)) l0_0 a0_1 l0_2 a0_3) else (skolemref35_Guide.l2 k3 t285 x5_1 x6_1 x7_2 x8_2 x9_3 ((rd_T55 l0_0 x8_2).f1) (wrap64 (x11_3 - 1)) l0_0 a0_1 l0_2 a0_3)) else (none)) else (none)) else (none)) else (none)) else (none)) else (none))) = some (r1, r2) := H
                        have A20 := Aside0.mk A200
                        clear A200
                        by_cases c21 : t293 = true
                        · subst c21
                          have H1 : (skolemref35_Guide.l2 k3 t285 x5_1 x6_1 x7_2 x8_2 x9_3 ((rd_T55 l0_0 x8_2).f1) (wrap64 (x11_3 - 1)) l0_0 a0_1 l0_2 a0_3) = some (r1, r2) := by rw [if_pos rfl] at H; exact H
                          clear H
                          have H := H1
                          clear H1
                          have H' := Aside0.mk H
                          clear H
                          have hcz22_0 : wr.cell? ⟨gb283, 0, none⟩ = some (.slice (some ad291) l0_0.length c0_0) := (blk_cell BK283.out 0).trans rfl
                          have hcz22_1 : wr.cell? ⟨gb283, 1, none⟩ = some (.int .i64 a0_1) := (blk_cell BK283.out 1).trans rfl
                          have hcz22_2 : wr.cell? ⟨gb283, 2, none⟩ = some (.slice A0_2 l0_2.length c0_2) := (blk_cell BK283.out 2).trans rfl
                          have hcz22_3 : wr.cell? ⟨gb283, 3, none⟩ = some (.int .i64 a0_3) := (blk_cell BK283.out 3).trans rfl
                          have hfz22_0 := blk_frozen BK283.out 0
                          have hfz22_1 := blk_frozen BK283.out 1
                          have hfz22_2 := blk_frozen BK283.out 2
                          have hfz22_3 := blk_frozen BK283.out 3
                          have p292 : 0 ≤ (x8_2 : Int) := of_decide_eq_true qz36
                          have q292 : x8_2 < (l0_0.length : Int) := of_decide_eq_true qz36
                          obtain ⟨ad292, A292_1, c292_1, e292, hx292_0, hx292_1, hl292_1, hi292_1⟩ := at_T55 HR0_0.out x8_2 p292 q292
                          (try rw [← Nbq18.out] at hx292_0)
                          obtain rfl : ad291 = ad292 := (by injection e292)
                          replace hx292_0 := (HB.out.cell (World.block_lt_of_cell? w _ hx292_0)).trans hx292_0
                          replace hx292_1 := (HB.out.cell (World.block_lt_of_cell? w _ hx292_1)).trans hx292_1
                          have HR292_1 := Aside0.mk hi292_1
                          have HC292_1 := Aside0.mk hl292_1
                          clear hi292_1 hl292_1
                          replace p292 := eq_true p292
                          replace q292 := eq_true q292
                          go_wp2_with (first | (go_at_call 41; (with_reducible refine (skolemref05_In.calls k3 _ _ l0_2 x8_2 true _ ?side1 ?side2 A20.out).mono ?_); (case side1 => exact qz2); (case side2 => exact HC0_2.out); rintro e w' ⟨rfl, ⟨nd, rfl⟩⟩; (try exact qz17)))
                          repeat (go_quiet (first | (go_at_call 41; (with_reducible refine (skolemref05_In.calls k3 _ _ l0_2 x8_2 true _ ?side1 ?side2 A20.out).mono ?_); (case side1 => exact qz2); (case side2 => exact HC0_2.out); rintro e w' ⟨rfl, ⟨nd, rfl⟩⟩; (try exact qz17))); try go_wp2_with (first | (go_at_call 41; (with_reducible refine (skolemref05_In.calls k3 _ _ l0_2 x8_2 true _ ?side1 ?side2 A20.out).mono ?_); (case side1 => exact qz2); (case side2 => exact HC0_2.out); rintro e w' ⟨rfl, ⟨nd, rfl⟩⟩; (try exact qz17))))
                          go_roundg k3
                          case measure => have := HK1.out; have := HK2.out; have := HK3.out; omega
                          case rel => exact ⟨(x9_3), (wrap64 (x11_3 - 1)), qz37, qz37, H', ⟨by have := HK1.out; have := HK2.out; have := HK3.out; omega⟩, ⟨by (with_reducible repeat (first | apply Kd.S_alloc | apply Kd.S_drewN | apply Kd.S_drew)); exact HO_4.out⟩, ⟨by (with_reducible repeat (first | apply Kd.S_alloc | apply Kd.S_drewN | apply Kd.S_drew)); exact HO_5.out⟩, ⟨by (with_reducible repeat (first | apply Kd.R_alloc | apply Kd.R_drewN | apply Kd.R_drew)); exact HO_7.out⟩, ⟨by (with_reducible repeat (first | refine blk_drewN ?_ _ | refine blk_drew ?_ | refine blk_alloc ?_ _)); exact BK283.out⟩, ⟨by repeat (first | (with_reducible first | exact HB.out | apply below_alloc | apply pw_below_drewN | apply below_drew1 | refine below_set ?_ GE283.out) | exact HB.out)⟩⟩
                        · replace c21 := Bool.eq_false_iff.mpr c21
                          subst c21
                          have H1 : (if 0 ≤ x6_1 then (if x6_1 < (t285.length : Int) then (if 0 ≤ x11_3 then (if x11_3 < (((rd_T55 l0_0 x8_2).f1).length : Int) then (if 0 ≤ (rd ((rd_T55 l0_0 x8_2).f1) x11_3) then (if (rd ((rd_T55 l0_0 x8_2).f1) x11_3) < ((rd_L7 t285 x6_1).length : Int) then (if rdOf false (rd_L7 t285 x6_1) (rd ((rd_T55 l0_0 x8_2).f1) x11_3) = true then (skolemref35_Guide.l2 k3 t285 x5_1 x6_1 x7_2 x8_2 x11_3 ((rd_T55 l0_0 x8_2).f1) (wrap64 (x11_3 - 1)) l0_0 a0_1 l0_2 a0_3) else (skolemref35_Guide.l2 k3 t285 x5_1 x6_1 x7_2 x8_2 x9_3 ((rd_T55 l0_0 x8_2).f1) (wrap64 (x11_3 - 1)) l0_0 a0_1 l0_2 a0_3)) else (none)) else (none)) else (none)) else (none)) else (none)) else (none)) = some (r1, r2) := by rw [if_neg (show ¬ (false = true) by decide)] at H; exact H
                          clear H
                          have H := H1
                          clear H1
                          by_cases c23 : 0 ≤ x6_1
                          case neg => rw [if_neg c23] at H; exact absurd H (by simp)
                          rw [if_pos c23] at H
                          have c23b0 : decide (0 ≤ x6_1) = true := decide_eq_true c23
                          clear c23
                          by_cases c24 : x6_1 < (t285.length : Int)
                          case neg => rw [if_neg c24] at H; exact absurd H (by simp)
                          rw [if_pos c24] at H
                          have c24b0 : decide (x6_1 < (t285.length : Int)) = true := decide_eq_true c24
                          clear c24
                          by_cases c25 : 0 ≤ x11_3
                          case neg => rw [if_neg c25] at H; exact absurd H (by simp)
                          rw [if_pos c25] at H
                          have c25b0 : decide (0 ≤ x11_3) = true := decide_eq_true c25
                          clear c25
                          by_cases c26 : x11_3 < (((rd_T55 l0_0 x8_2).f1).length : Int)
                          case neg => rw [if_neg c26] at H; exact absurd H (by simp)
                          rw [if_pos c26] at H
                          have c26b0 : decide (x11_3 < (((rd_T55 l0_0 x8_2).f1).length : Int)) = true := decide_eq_true c26
                          clear c26
                          by_cases c27 : 0 ≤ (rd ((rd_T55 l0_0 x8_2).f1) x11_3)
                          case neg => rw [if_neg c27] at H; exact absurd H (by simp)
                          rw [if_pos c27] at H
                          have c27b0 : decide (0 ≤ (rd ((rd_T55 l0_0 x8_2).f1) x11_3)) = true := decide_eq_true c27
                          clear c27
                          by_cases c28 : (rd ((rd_T55 l0_0 x8_2).f1) x11_3) < ((rd_L7 t285 x6_1).length : Int)
                          case neg => rw [if_neg c28] at H; exact absurd H (by simp)
                          rw [if_pos c28] at H
                          have c28b0 : decide ((rd ((rd_T55 l0_0 x8_2).f1) x11_3) < ((rd_L7 t285 x6_1).length : Int)) = true := decide_eq_true c28
                          clear c28
                          obtain ⟨bq29, hbq29⟩ : ∃ b_ : Bool, b_ = (rdOf false (rd_L7 t285 x6_1) (rd ((rd_T55 l0_0 x8_2).f1) x11_3)) := ⟨_, rfl⟩
                          replace H : (if bq29 = true then (skolemref35_Guide.l2 k3 t285 x5_1 x6_1 x7_2 x8_2 x11_3 ((rd_T55 l0_0 x8_2).f1) (wrap64 (x11_3 - 1)) l0_0 a0_1 l0_2 a0_3) else (skolemref35_Guide.l2 k3 t285 x5_1 x6_1 x7_2 x8_2 x9_3 ((rd_T55 l0_0 x8_2).f1) (wrap64 (x11_3 - 1)) l0_0 a0_1 l0_2 a0_3)) = some (r1, r2) := by rw [← hbq29] at H; exact H
                          have Nbq29 := Aside0.mk hbq29
                          clear hbq29
                          by_cases c30 : bq29 = true
                          · subst c30
                            have H1 : (skolemref35_Guide.l2 k3 t285 x5_1 x6_1 x7_2 x8_2 x11_3 ((rd_T55 l0_0 x8_2).f1) (wrap64 (x11_3 - 1)) l0_0 a0_1 l0_2 a0_3) = some (r1, r2) := by rw [if_pos rfl] at H; exact H
                            clear H
                            have H := H1
                            clear H1
                            have H' := Aside0.mk H
                            clear H
                            have hcz31_0 : wr.cell? ⟨gb283, 0, none⟩ = some (.slice (some ad291) l0_0.length c0_0) := (blk_cell BK283.out 0).trans rfl
                            have hcz31_1 : wr.cell? ⟨gb283, 1, none⟩ = some (.int .i64 a0_1) := (blk_cell BK283.out 1).trans rfl
                            have hcz31_2 : wr.cell? ⟨gb283, 2, none⟩ = some (.slice A0_2 l0_2.length c0_2) := (blk_cell BK283.out 2).trans rfl
                            have hcz31_3 : wr.cell? ⟨gb283, 3, none⟩ = some (.int .i64 a0_3) := (blk_cell BK283.out 3).trans rfl
                            have hfz31_0 := blk_frozen BK283.out 0
                            have hfz31_1 := blk_frozen BK283.out 1
                            have hfz31_2 := blk_frozen BK283.out 2
                            have hfz31_3 := blk_frozen BK283.out 3
                            have p292 : 0 ≤ (x8_2 : Int) := of_decide_eq_true qz36
                            have q292 : x8_2 < (l0_0.length : Int) := of_decide_eq_true qz36
                            obtain ⟨ad292, A292_1, c292_1, e292, hx292_0, hx292_1, hl292_1, hi292_1⟩ := at_T55 HR0_0.out x8_2 p292 q292
                            (try rw [← Nbq18.out] at hx292_0)
                            (try rw [← Nbq29.out] at hx292_0)
                            obtain rfl : ad291 = ad292 := (by injection e292)
                            replace hx292_0 := (HB.out.cell (World.block_lt_of_cell? w _ hx292_0)).trans hx292_0
                            replace hx292_1 := (HB.out.cell (World.block_lt_of_cell? w _ hx292_1)).trans hx292_1
                            have HR292_1 := Aside0.mk hi292_1
                            have HC292_1 := Aside0.mk hl292_1
                            clear hi292_1 hl292_1
                            replace p292 := eq_true p292
                            replace q292 := eq_true q292
                            go_wp2_with (first | (go_at_call 41; (with_reducible refine (skolemref05_In.calls k3 _ _ l0_2 x8_2 false _ ?side1 ?side2 A20.out).mono ?_); (case side1 => exact qz2); (case side2 => exact HC0_2.out); rintro e w' ⟨rfl, ⟨nd, rfl⟩⟩; (try exact qz17); obtain ⟨Ao32, co32, eo32⟩ := Kd.S_slice HO_4.out; subst eo32; have p294 : 0 ≤ (x6_1 : Int) := of_decide_eq_true qz36; have q294 : x6_1 < (t285.length : Int) := of_decide_eq_true qz36; obtain ⟨ad294, A294_0, c294_0, e294, hx294_0, hl294_0, hi294_0⟩ := at_L7 (Kd.S_reads' HO_4.out).2.2 x6_1 p294 q294; cases e294; obtain ⟨ce294, hce294, hMe294, hcc294⟩ := Kd.S_get HO_4.out [] x6_1 p294 (by first | exact q294 | exact of_decide_eq_true qz36 | (have e_ := (Kd.S_reads' HO_4.out).1; omega)); obtain ⟨ve294_0, rfl, ge294_0⟩ := hMe294; have hv294_0 := hcc294 0 _ rfl; rw [Nat.add_zero, show ((Kd.slice 4 Kd.bool)).sz = 1 from rfl, Nat.mul_one] at hv294_0; replace hv294_0 := Option.some.inj (hv294_0.symm.trans hx294_0); rw [hv294_0] at ge294_0; have HL294_0 := Aside0.mk (show Kd.R Kd.bool 4 _ _ _ _ (rd_L7 t285 x6_1) from ge294_0); clear hv294_0 ge294_0; clear hcc294 hce294; have HR294_0 := Aside0.mk hi294_0; have HC294_0 := Aside0.mk hl294_0; clear hi294_0 hl294_0; replace p294 := eq_true p294; replace q294 := eq_true q294; have p295 : 0 ≤ (x11_3 : Int) := of_decide_eq_true qz36; have q295 : x11_3 < (((rd_T55 l0_0 x8_2).f1).length : Int) := of_decide_eq_true qz36; obtain ⟨ad295, e295, hx295_0⟩ := Kd.at_int HR291_1.out x11_3 p295 q295; cases e295; replace hx295_0 := (HB.out.cell (World.block_lt_of_cell? w _ hx295_0)).trans hx295_0; replace p295 := eq_true p295; replace q295 := eq_true q295; have p296 : 0 ≤ ((rd ((rd_T55 l0_0 x8_2).f1) x11_3) : Int) := of_decide_eq_true qz36; have q296 : (rd ((rd_T55 l0_0 x8_2).f1) x11_3) < ((rd_L7 t285 x6_1).length : Int) := of_decide_eq_true qz36; obtain ⟨ad296, e296, hx296_0⟩ := Kd.at_bool qz0 (rd ((rd_T55 l0_0 x8_2).f1) x11_3) p296 q296; (try rw [← Nbq18.out] at hx296_0); (try rw [← Nbq29.out] at hx296_0); cases e296; replace p296 := eq_true p296; replace q296 := eq_true q296))
                            repeat (go_quiet (first | (go_at_call 41; (with_reducible refine (skolemref05_In.calls k3 _ _ l0_2 x8_2 false _ ?side1 ?side2 A20.out).mono ?_); (case side1 => exact qz2); (case side2 => exact HC0_2.out); rintro e w' ⟨rfl, ⟨nd, rfl⟩⟩; (try exact qz17); obtain ⟨Ao32, co32, eo32⟩ := Kd.S_slice HO_4.out; subst eo32; have p294 : 0 ≤ (x6_1 : Int) := of_decide_eq_true qz36; have q294 : x6_1 < (t285.length : Int) := of_decide_eq_true qz36; obtain ⟨ad294, A294_0, c294_0, e294, hx294_0, hl294_0, hi294_0⟩ := at_L7 (Kd.S_reads' HO_4.out).2.2 x6_1 p294 q294; cases e294; obtain ⟨ce294, hce294, hMe294, hcc294⟩ := Kd.S_get HO_4.out [] x6_1 p294 (by first | exact q294 | exact of_decide_eq_true qz36 | (have e_ := (Kd.S_reads' HO_4.out).1; omega)); obtain ⟨ve294_0, rfl, ge294_0⟩ := hMe294; have hv294_0 := hcc294 0 _ rfl; rw [Nat.add_zero, show ((Kd.slice 4 Kd.bool)).sz = 1 from rfl, Nat.mul_one] at hv294_0; replace hv294_0 := Option.some.inj (hv294_0.symm.trans hx294_0); rw [hv294_0] at ge294_0; have HL294_0 := Aside0.mk (show Kd.R Kd.bool 4 _ _ _ _ (rd_L7 t285 x6_1) from ge294_0); clear hv294_0 ge294_0; clear hcc294 hce294; have HR294_0 := Aside0.mk hi294_0; have HC294_0 := Aside0.mk hl294_0; clear hi294_0 hl294_0; replace p294 := eq_true p294; replace q294 := eq_true q294; have p295 : 0 ≤ (x11_3 : Int) := of_decide_eq_true qz36; have q295 : x11_3 < (((rd_T55 l0_0 x8_2).f1).length : Int) := of_decide_eq_true qz36; obtain ⟨ad295, e295, hx295_0⟩ := Kd.at_int HR291_1.out x11_3 p295 q295; cases e295; replace hx295_0 := (HB.out.cell (World.block_lt_of_cell? w _ hx295_0)).trans hx295_0; replace p295 := eq_true p295; replace q295 := eq_true q295; have p296 : 0 ≤ ((rd ((rd_T55 l0_0 x8_2).f1) x11_3) : Int) := of_decide_eq_true qz36; have q296 : (rd ((rd_T55 l0_0 x8_2).f1) x11_3) < ((rd_L7 t285 x6_1).length : Int) := of_decide_eq_true qz36; obtain ⟨ad296, e296, hx296_0⟩ := Kd.at_bool qz0 (rd ((rd_T55 l0_0 x8_2).f1) x11_3) p296 q296; (try rw [← Nbq18.out] at hx296_0); (try rw [← Nbq29.out] at hx296_0); cases e296; replace p296 := eq_true p296; replace q296 := eq_true q296)); try go_wp2_with (first | (go_at_call 41; (with_reducible refine (skolemref05_In.calls k3 _ _ l0_2 x8_2 false _ ?side1 ?side2 A20.out).mono ?_); (case side1 => exact qz2); (case side2 => exact HC0_2.out); rintro e w' ⟨rfl, ⟨nd, rfl⟩⟩; (try exact qz17); obtain ⟨Ao32, co32, eo32⟩ := Kd.S_slice HO_4.out; subst eo32; have p294 : 0 ≤ (x6_1 : Int) := of_decide_eq_true qz36; have q294 : x6_1 < (t285.length : Int) := of_decide_eq_true qz36; obtain ⟨ad294, A294_0, c294_0, e294, hx294_0, hl294_0, hi294_0⟩ := at_L7 (Kd.S_reads' HO_4.out).2.2 x6_1 p294 q294; cases e294; obtain ⟨ce294, hce294, hMe294, hcc294⟩ := Kd.S_get HO_4.out [] x6_1 p294 (by first | exact q294 | exact of_decide_eq_true qz36 | (have e_ := (Kd.S_reads' HO_4.out).1; omega)); obtain ⟨ve294_0, rfl, ge294_0⟩ := hMe294; have hv294_0 := hcc294 0 _ rfl; rw [Nat.add_zero, show ((Kd.slice 4 Kd.bool)).sz = 1 from rfl, Nat.mul_one] at hv294_0; replace hv294_0 := Option.some.inj (hv294_0.symm.trans hx294_0); rw [hv294_0] at ge294_0; have HL294_0 := Aside0.mk (show Kd.R Kd.bool 4 _ _ _ _ (rd_L7 t285 x6_1) from ge294_0); clear hv294_0 ge294_0; clear hcc294 hce294; have HR294_0 := Aside0.mk hi294_0; have HC294_0 := Aside0.mk hl294_0; clear hi294_0 hl294_0; replace p294 := eq_true p294; replace q294 := eq_true q294; have p295 : 0 ≤ (x11_3 : Int) := of_decide_eq_true qz36; have q295 : x11_3 < (((rd_T55 l0_0 x8_2).f1).length : Int) := of_decide_eq_true qz36; obtain ⟨ad295, e295, hx295_0⟩ := Kd.at_int HR291_1.out x11_3 p295 q295; cases e295; replace hx295_0 := (HB.out.cell (World.block_lt_of_cell? w _ hx295_0)).trans hx295_0; replace p295 := eq_true p295; replace q295 := eq_true q295; have p296 : 0 ≤ ((rd ((rd_T55 l0_0 x8_2).f1) x11_3) : Int) := of_decide_eq_true qz36; have q296 : (rd ((rd_T55 l0_0 x8_2).f1) x11_3) < ((rd_L7 t285 x6_1).length : Int) := of_decide_eq_true qz36; obtain ⟨ad296, e296, hx296_0⟩ := Kd.at_bool qz0 (rd ((rd_T55 l0_0 x8_2).f1) x11_3) p296 q296; (try rw [← Nbq18.out] at hx296_0); (try rw [← Nbq29.out] at hx296_0); cases e296; replace p296 := eq_true p296; replace q296 := eq_true q296)))
                            go_roundg k3
                            case measure => have := HK1.out; have := HK2.out; have := HK3.out; omega
                            case rel => exact ⟨(x11_3), (wrap64 (x11_3 - 1)), qz37, qz37, H', ⟨by have := HK1.out; have := HK2.out; have := HK3.out; omega⟩, ⟨by (with_reducible repeat (first | apply Kd.S_alloc | apply Kd.S_drewN | apply Kd.S_drew)); exact HO_4.out⟩, ⟨by (with_reducible repeat (first | apply Kd.S_alloc | apply Kd.S_drewN | apply Kd.S_drew)); exact HO_5.out⟩, ⟨by (with_reducible repeat (first | apply Kd.R_alloc | apply Kd.R_drewN | apply Kd.R_drew)); exact HO_7.out⟩, ⟨by (with_reducible repeat (first | refine blk_drewN ?_ _ | refine blk_drew ?_ | refine blk_alloc ?_ _)); exact BK283.out⟩, ⟨by repeat (first | (with_reducible first | exact HB.out | apply below_alloc | apply pw_below_drewN | apply below_drew1 | refine below_set ?_ GE283.out) | exact HB.out)⟩⟩
                          · replace c30 := Bool.eq_false_iff.mpr c30
                            subst c30
                            have H1 : (skolemref35_Guide.l2 k3 t285 x5_1 x6_1 x7_2 x8_2 x9_3 ((rd_T55 l0_0 x8_2).f1) (wrap64 (x11_3 - 1)) l0_0 a0_1 l0_2 a0_3) = some (r1, r2) := by rw [if_neg (show ¬ (false = true) by decide)] at H; exact H
                            clear H
                            have H := H1
                            clear H1
                            have H' := Aside0.mk H
                            clear H
                            have hcz33_0 : wr.cell? ⟨gb283, 0, none⟩ = some (.slice (some ad291) l0_0.length c0_0) := (blk_cell BK283.out 0).trans rfl
                            have hcz33_1 : wr.cell? ⟨gb283, 1, none⟩ = some (.int .i64 a0_1) := (blk_cell BK283.out 1).trans rfl
                            have hcz33_2 : wr.cell? ⟨gb283, 2, none⟩ = some (.slice A0_2 l0_2.length c0_2) := (blk_cell BK283.out 2).trans rfl
                            have hcz33_3 : wr.cell? ⟨gb283, 3, none⟩ = some (.int .i64 a0_3) := (blk_cell BK283.out 3).trans rfl
                            have hfz33_0 := blk_frozen BK283.out 0
                            have hfz33_1 := blk_frozen BK283.out 1
                            have hfz33_2 := blk_frozen BK283.out 2
                            have hfz33_3 := blk_frozen BK283.out 3
                            have p292 : 0 ≤ (x8_2 : Int) := of_decide_eq_true qz36
                            have q292 : x8_2 < (l0_0.length : Int) := of_decide_eq_true qz36
                            obtain ⟨ad292, A292_1, c292_1, e292, hx292_0, hx292_1, hl292_1, hi292_1⟩ := at_T55 HR0_0.out x8_2 p292 q292
                            (try rw [← Nbq18.out] at hx292_0)
                            (try rw [← Nbq29.out] at hx292_0)
                            obtain rfl : ad291 = ad292 := (by injection e292)
                            replace hx292_0 := (HB.out.cell (World.block_lt_of_cell? w _ hx292_0)).trans hx292_0
                            replace hx292_1 := (HB.out.cell (World.block_lt_of_cell? w _ hx292_1)).trans hx292_1
                            have HR292_1 := Aside0.mk hi292_1
                            have HC292_1 := Aside0.mk hl292_1
                            clear hi292_1 hl292_1
                            replace p292 := eq_true p292
                            replace q292 := eq_true q292
                            go_wp2_with (first | (go_at_call 41; (with_reducible refine (skolemref05_In.calls k3 _ _ l0_2 x8_2 false _ ?side1 ?side2 A20.out).mono ?_); (case side1 => exact qz2); (case side2 => exact HC0_2.out); rintro e w' ⟨rfl, ⟨nd, rfl⟩⟩; (try exact qz17); obtain ⟨Ao34, co34, eo34⟩ := Kd.S_slice HO_4.out; subst eo34; have p294 : 0 ≤ (x6_1 : Int) := of_decide_eq_true qz36; have q294 : x6_1 < (t285.length : Int) := of_decide_eq_true qz36; obtain ⟨ad294, A294_0, c294_0, e294, hx294_0, hl294_0, hi294_0⟩ := at_L7 (Kd.S_reads' HO_4.out).2.2 x6_1 p294 q294; cases e294; obtain ⟨ce294, hce294, hMe294, hcc294⟩ := Kd.S_get HO_4.out [] x6_1 p294 (by first | exact q294 | exact of_decide_eq_true qz36 | (have e_ := (Kd.S_reads' HO_4.out).1; omega)); obtain ⟨ve294_0, rfl, ge294_0⟩ := hMe294; have hv294_0 := hcc294 0 _ rfl; rw [Nat.add_zero, show ((Kd.slice 4 Kd.bool)).sz = 1 from rfl, Nat.mul_one] at hv294_0; replace hv294_0 := Option.some.inj (hv294_0.symm.trans hx294_0); rw [hv294_0] at ge294_0; have HL294_0 := Aside0.mk (show Kd.R Kd.bool 4 _ _ _ _ (rd_L7 t285 x6_1) from ge294_0); clear hv294_0 ge294_0; clear hcc294 hce294; have HR294_0 := Aside0.mk hi294_0; have HC294_0 := Aside0.mk hl294_0; clear hi294_0 hl294_0; replace p294 := eq_true p294; replace q294 := eq_true q294; have p295 : 0 ≤ (x11_3 : Int) := of_decide_eq_true qz36; have q295 : x11_3 < (((rd_T55 l0_0 x8_2).f1).length : Int) := of_decide_eq_true qz36; obtain ⟨ad295, e295, hx295_0⟩ := Kd.at_int HR291_1.out x11_3 p295 q295; cases e295; replace hx295_0 := (HB.out.cell (World.block_lt_of_cell? w _ hx295_0)).trans hx295_0; replace p295 := eq_true p295; replace q295 := eq_true q295; have p296 : 0 ≤ ((rd ((rd_T55 l0_0 x8_2).f1) x11_3) : Int) := of_decide_eq_true qz36; have q296 : (rd ((rd_T55 l0_0 x8_2).f1) x11_3) < ((rd_L7 t285 x6_1).length : Int) := of_decide_eq_true qz36; obtain ⟨ad296, e296, hx296_0⟩ := Kd.at_bool qz0 (rd ((rd_T55 l0_0 x8_2).f1) x11_3) p296 q296; (try rw [← Nbq18.out] at hx296_0); (try rw [← Nbq29.out] at hx296_0); cases e296; replace p296 := eq_true p296; replace q296 := eq_true q296))
                            repeat (go_quiet (first | (go_at_call 41; (with_reducible refine (skolemref05_In.calls k3 _ _ l0_2 x8_2 false _ ?side1 ?side2 A20.out).mono ?_); (case side1 => exact qz2); (case side2 => exact HC0_2.out); rintro e w' ⟨rfl, ⟨nd, rfl⟩⟩; (try exact qz17); obtain ⟨Ao34, co34, eo34⟩ := Kd.S_slice HO_4.out; subst eo34; have p294 : 0 ≤ (x6_1 : Int) := of_decide_eq_true qz36; have q294 : x6_1 < (t285.length : Int) := of_decide_eq_true qz36; obtain ⟨ad294, A294_0, c294_0, e294, hx294_0, hl294_0, hi294_0⟩ := at_L7 (Kd.S_reads' HO_4.out).2.2 x6_1 p294 q294; cases e294; obtain ⟨ce294, hce294, hMe294, hcc294⟩ := Kd.S_get HO_4.out [] x6_1 p294 (by first | exact q294 | exact of_decide_eq_true qz36 | (have e_ := (Kd.S_reads' HO_4.out).1; omega)); obtain ⟨ve294_0, rfl, ge294_0⟩ := hMe294; have hv294_0 := hcc294 0 _ rfl; rw [Nat.add_zero, show ((Kd.slice 4 Kd.bool)).sz = 1 from rfl, Nat.mul_one] at hv294_0; replace hv294_0 := Option.some.inj (hv294_0.symm.trans hx294_0); rw [hv294_0] at ge294_0; have HL294_0 := Aside0.mk (show Kd.R Kd.bool 4 _ _ _ _ (rd_L7 t285 x6_1) from ge294_0); clear hv294_0 ge294_0; clear hcc294 hce294; have HR294_0 := Aside0.mk hi294_0; have HC294_0 := Aside0.mk hl294_0; clear hi294_0 hl294_0; replace p294 := eq_true p294; replace q294 := eq_true q294; have p295 : 0 ≤ (x11_3 : Int) := of_decide_eq_true qz36; have q295 : x11_3 < (((rd_T55 l0_0 x8_2).f1).length : Int) := of_decide_eq_true qz36; obtain ⟨ad295, e295, hx295_0⟩ := Kd.at_int HR291_1.out x11_3 p295 q295; cases e295; replace hx295_0 := (HB.out.cell (World.block_lt_of_cell? w _ hx295_0)).trans hx295_0; replace p295 := eq_true p295; replace q295 := eq_true q295; have p296 : 0 ≤ ((rd ((rd_T55 l0_0 x8_2).f1) x11_3) : Int) := of_decide_eq_true qz36; have q296 : (rd ((rd_T55 l0_0 x8_2).f1) x11_3) < ((rd_L7 t285 x6_1).length : Int) := of_decide_eq_true qz36; obtain ⟨ad296, e296, hx296_0⟩ := Kd.at_bool qz0 (rd ((rd_T55 l0_0 x8_2).f1) x11_3) p296 q296; (try rw [← Nbq18.out] at hx296_0); (try rw [← Nbq29.out] at hx296_0); cases e296; replace p296 := eq_true p296; replace q296 := eq_true q296)); try go_wp2_with (first | (go_at_call 41; (with_reducible refine (skolemref05_In.calls k3 _ _ l0_2 x8_2 false _ ?side1 ?side2 A20.out).mono ?_); (case side1 => exact qz2); (case side2 => exact HC0_2.out); rintro e w' ⟨rfl, ⟨nd, rfl⟩⟩; (try exact qz17); obtain ⟨Ao34, co34, eo34⟩ := Kd.S_slice HO_4.out; subst eo34; have p294 : 0 ≤ (x6_1 : Int) := of_decide_eq_true qz36; have q294 : x6_1 < (t285.length : Int) := of_decide_eq_true qz36; obtain ⟨ad294, A294_0, c294_0, e294, hx294_0, hl294_0, hi294_0⟩ := at_L7 (Kd.S_reads' HO_4.out).2.2 x6_1 p294 q294; cases e294; obtain ⟨ce294, hce294, hMe294, hcc294⟩ := Kd.S_get HO_4.out [] x6_1 p294 (by first | exact q294 | exact of_decide_eq_true qz36 | (have e_ := (Kd.S_reads' HO_4.out).1; omega)); obtain ⟨ve294_0, rfl, ge294_0⟩ := hMe294; have hv294_0 := hcc294 0 _ rfl; rw [Nat.add_zero, show ((Kd.slice 4 Kd.bool)).sz = 1 from rfl, Nat.mul_one] at hv294_0; replace hv294_0 := Option.some.inj (hv294_0.symm.trans hx294_0); rw [hv294_0] at ge294_0; have HL294_0 := Aside0.mk (show Kd.R Kd.bool 4 _ _ _ _ (rd_L7 t285 x6_1) from ge294_0); clear hv294_0 ge294_0; clear hcc294 hce294; have HR294_0 := Aside0.mk hi294_0; have HC294_0 := Aside0.mk hl294_0; clear hi294_0 hl294_0; replace p294 := eq_true p294; replace q294 := eq_true q294; have p295 : 0 ≤ (x11_3 : Int) := of_decide_eq_true qz36; have q295 : x11_3 < (((rd_T55 l0_0 x8_2).f1).length : Int) := of_decide_eq_true qz36; obtain ⟨ad295, e295, hx295_0⟩ := Kd.at_int HR291_1.out x11_3 p295 q295; cases e295; replace hx295_0 := (HB.out.cell (World.block_lt_of_cell? w _ hx295_0)).trans hx295_0; replace p295 := eq_true p295; replace q295 := eq_true q295; have p296 : 0 ≤ ((rd ((rd_T55 l0_0 x8_2).f1) x11_3) : Int) := of_decide_eq_true qz36; have q296 : (rd ((rd_T55 l0_0 x8_2).f1) x11_3) < ((rd_L7 t285 x6_1).length : Int) := of_decide_eq_true qz36; obtain ⟨ad296, e296, hx296_0⟩ := Kd.at_bool qz0 (rd ((rd_T55 l0_0 x8_2).f1) x11_3) p296 q296; (try rw [← Nbq18.out] at hx296_0); (try rw [← Nbq29.out] at hx296_0); cases e296; replace p296 := eq_true p296; replace q296 := eq_true q296)))
                            go_roundg k3
                            case measure => have := HK1.out; have := HK2.out; have := HK3.out; omega
                            case rel => exact ⟨(x9_3), (wrap64 (x11_3 - 1)), qz37, qz37, H', ⟨by have := HK1.out; have := HK2.out; have := HK3.out; omega⟩, ⟨by (with_reducible repeat (first | apply Kd.S_alloc | apply Kd.S_drewN | apply Kd.S_drew)); exact HO_4.out⟩, ⟨by (with_reducible repeat (first | apply Kd.S_alloc | apply Kd.S_drewN | apply Kd.S_drew)); exact HO_5.out⟩, ⟨by (with_reducible repeat (first | apply Kd.R_alloc | apply Kd.R_drewN | apply Kd.R_drew)); exact HO_7.out⟩, ⟨by (with_reducible repeat (first | refine blk_drewN ?_ _ | refine blk_drew ?_ | refine blk_alloc ?_ _)); exact BK283.out⟩, ⟨by repeat (first | (with_reducible first | exact HB.out | apply below_alloc | apply pw_below_drewN | apply below_drew1 | refine below_set ?_ GE283.out) | exact HB.out)⟩⟩
                      · replace c19 := Bool.eq_false_iff.mpr c19
                        subst c19
                        have H1 : (skolemref35_Guide.l2 k3 t285 x5_1 x6_1 x7_2 x8_2 x9_3 ((rd_T55 l0_0 x8_2).f1) (wrap64 (x11_3 - 1)) l0_0 a0_1 l0_2 a0_3) = some (r1, r2) := by rw [if_neg (show ¬ (false = true) by decide)] at H; exact H
                        clear H
                        have H := H1
                        clear H1
                        have H' := Aside0.mk H
                        clear H
                        have hcz35_0 : wr.cell? ⟨gb283, 0, none⟩ = some (.slice (some ad291) l0_0.length c0_0) := (blk_cell BK283.out 0).trans rfl
                        have hcz35_1 : wr.cell? ⟨gb283, 1, none⟩ = some (.int .i64 a0_1) := (blk_cell BK283.out 1).trans rfl
                        have hcz35_2 : wr.cell? ⟨gb283, 2, none⟩ = some (.slice A0_2 l0_2.length c0_2) := (blk_cell BK283.out 2).trans rfl
                        have hcz35_3 : wr.cell? ⟨gb283, 3, none⟩ = some (.int .i64 a0_3) := (blk_cell BK283.out 3).trans rfl
                        have hfz35_0 := blk_frozen BK283.out 0
                        have hfz35_1 := blk_frozen BK283.out 1
                        have hfz35_2 := blk_frozen BK283.out 2
                        have hfz35_3 := blk_frozen BK283.out 3
                        have p292 : 0 ≤ (x8_2 : Int) := of_decide_eq_true qz36
                        have q292 : x8_2 < (l0_0.length : Int) := of_decide_eq_true qz36
                        obtain ⟨ad292, A292_1, c292_1, e292, hx292_0, hx292_1, hl292_1, hi292_1⟩ := at_T55 HR0_0.out x8_2 p292 q292
                        (try rw [← Nbq18.out] at hx292_0)
                        obtain rfl : ad291 = ad292 := (by injection e292)
                        replace hx292_0 := (HB.out.cell (World.block_lt_of_cell? w _ hx292_0)).trans hx292_0
                        replace hx292_1 := (HB.out.cell (World.block_lt_of_cell? w _ hx292_1)).trans hx292_1
                        have HR292_1 := Aside0.mk hi292_1
                        have HC292_1 := Aside0.mk hl292_1
                        clear hi292_1 hl292_1
                        replace p292 := eq_true p292
                        replace q292 := eq_true q292
                        go_wp2
                        repeat (go_quiet (fail); try go_wp2)
                        go_roundg k3
                        case measure => have := HK1.out; have := HK2.out; have := HK3.out; omega
                        case rel => exact ⟨(x9_3), (wrap64 (x11_3 - 1)), qz37, qz37, H', ⟨by have := HK1.out; have := HK2.out; have := HK3.out; omega⟩, ⟨by (with_reducible repeat (first | apply Kd.S_alloc | apply Kd.S_drewN | apply Kd.S_drew)); exact HO_4.out⟩, ⟨by (with_reducible repeat (first | apply Kd.S_alloc | apply Kd.S_drewN | apply Kd.S_drew)); exact HO_5.out⟩, ⟨by (with_reducible repeat (first | apply Kd.R_alloc | apply Kd.R_drewN | apply Kd.R_drew)); exact HO_7.out⟩, ⟨by (with_reducible repeat (first | refine blk_drewN ?_ _ | refine blk_drew ?_ | refine blk_alloc ?_ _)); exact BK283.out⟩, ⟨by repeat (first | (with_reducible first | exact HB.out | apply below_alloc | apply pw_below_drewN | apply below_drew1 | refine below_set ?_ GE283.out) | exact HB.out)⟩⟩
                    · rw [if_neg c15] at H
                      have c15b0 : decide (0 ≤ x11_3) = false := decide_eq_false c15
                      clear c15
                      by_cases c36 : x7_2.length < 17592186044416
                      case neg => rw [if_neg c36] at H; exact absurd H (by simp)
                      rw [if_pos c36] at H
                      have LMc36 := Aside0.mk c36
                      clear c36
                      obtain ⟨y297, hy297⟩ : ∃ y_ : List Int, y_ = (x7_2 ++ [x9_3]) := ⟨_, rfl⟩
                      replace H : (skolemref35_Guide.l1 k3 t285 x5_1 x6_1 y297 (wrap64 (x8_2 + 1)) l0_0 a0_1 l0_2 a0_3) = some (r1, r2) := by first | (rw [hy297]; with_reducible exact H) | (have H2_ := (Option.bind_some _ _).symm.trans H; rw [hy297]; with_reducible exact H2_) | (have H2_ := (Option.bind_some _ _).symm.trans H; with_reducible exact H2_) | with_reducible exact H | (rw [hy297]; exact H) | exact H
                      have Ny297 := Aside0.mk hy297
                      clear hy297
                      have H' := Aside0.mk H
                      clear H
                      go_wp2_with (first | ((with_reducible refine gate_builtin (b := .append) (xs := #[.tmp 69, .tmp 71]) rfl ?_); at_builtin; refine Kd.R_append (Kd.int .i64) (w0 := w) w.heap.size rfl (.tmp 69) (.tmp 71) 23 3 (.int .i64 0) 8 rfl Try.underlying23 info3 rfl (by decide) (by omega) u7 x7_2 x9_3 [.int .i64 x9_3] (fun _ => True) (fun _ => False) rfl rfl ?aP (fun _ hk => hk.elim) ?aF ?aO ?aB ?aS ?aL ?_; (case aP => exact rfl); (case aB => exact qz11); (case aF => exact (fun _ _ => trivial)); (case aO => exact qz33); (case aS => exact (below_size qz11)); (case aL => have := LMc36.out; omega); intro v298 w37 ho hb hg hat; rw [← Ny297.out] at ho; have n0_ := Aside0.mk (Kd.S_over' qz34 (Kd.R_typed qz33) (by decide) hg); have n1_ := Aside0.mk (Kd.S_after (ok := (fun _ => True)) qz19 hg hat); have n2_ := Aside0.mk (blk_grown (g := gb283) (o := .cells #[.slice (some ad291) l0_0.length c0_0, .int .i64 a0_1, .slice A0_2 l0_2.length c0_2, .int .i64 a0_3] 25 (0, 0)) qz27 hg (Kd.R_ne HO_7.out BK283.out (by decide))); have n3_ := Aside0.mk (hb); have n4_ := Aside0.mk (ho); clear HO_4; clear HO_5; clear BK283; clear HB; clear HO_7; have HO_4 := n0_; have HO_5 := n1_; have BK283 := n2_; have HB := n3_; have HO299 := n4_; clear n0_ n1_ n2_ n3_ n4_; clear ho hb hg hat))
                      repeat (go_quiet (first | ((with_reducible refine gate_builtin (b := .append) (xs := #[.tmp 69, .tmp 71]) rfl ?_); at_builtin; refine Kd.R_append (Kd.int .i64) (w0 := w) w.heap.size rfl (.tmp 69) (.tmp 71) 23 3 (.int .i64 0) 8 rfl Try.underlying23 info3 rfl (by decide) (by omega) u7 x7_2 x9_3 [.int .i64 x9_3] (fun _ => True) (fun _ => False) rfl rfl ?aP (fun _ hk => hk.elim) ?aF ?aO ?aB ?aS ?aL ?_; (case aP => exact rfl); (case aB => exact qz11); (case aF => exact (fun _ _ => trivial)); (case aO => exact qz33); (case aS => exact (below_size qz11)); (case aL => have := LMc36.out; omega); intro v298 w37 ho hb hg hat; rw [← Ny297.out] at ho; have n0_ := Aside0.mk (Kd.S_over' qz34 (Kd.R_typed qz33) (by decide) hg); have n1_ := Aside0.mk (Kd.S_after (ok := (fun _ => True)) qz19 hg hat); have n2_ := Aside0.mk (blk_grown (g := gb283) (o := .cells #[.slice (some ad291) l0_0.length c0_0, .int .i64 a0_1, .slice A0_2 l0_2.length c0_2, .int .i64 a0_3] 25 (0, 0)) qz27 hg (Kd.R_ne HO_7.out BK283.out (by decide))); have n3_ := Aside0.mk (hb); have n4_ := Aside0.mk (ho); clear HO_4; clear HO_5; clear BK283; clear HB; clear HO_7; have HO_4 := n0_; have HO_5 := n1_; have BK283 := n2_; have HB := n3_; have HO299 := n4_; clear n0_ n1_ n2_ n3_ n4_; clear ho hb hg hat)); try go_wp2_with (first | ((with_reducible refine gate_builtin (b := .append) (xs := #[.tmp 69, .tmp 71]) rfl ?_); at_builtin; refine Kd.R_append (Kd.int .i64) (w0 := w) w.heap.size rfl (.tmp 69) (.tmp 71) 23 3 (.int .i64 0) 8 rfl Try.underlying23 info3 rfl (by decide) (by omega) u7 x7_2 x9_3 [.int .i64 x9_3] (fun _ => True) (fun _ => False) rfl rfl ?aP (fun _ hk => hk.elim) ?aF ?aO ?aB ?aS ?aL ?_; (case aP => exact rfl); (case aB => exact qz11); (case aF => exact (fun _ _ => trivial)); (case aO => exact qz33); (case aS => exact (below_size qz11)); (case aL => have := LMc36.out; omega); intro v298 w37 ho hb hg hat; rw [← Ny297.out] at ho; have n0_ := Aside0.mk (Kd.S_over' qz34 (Kd.R_typed qz33) (by decide) hg); have n1_ := Aside0.mk (Kd.S_after (ok := (fun _ => True)) qz19 hg hat); have n2_ := Aside0.mk (blk_grown (g := gb283) (o := .cells #[.slice (some ad291) l0_0.length c0_0, .int .i64 a0_1, .slice A0_2 l0_2.length c0_2, .int .i64 a0_3] 25 (0, 0)) qz27 hg (Kd.R_ne HO_7.out BK283.out (by decide))); have n3_ := Aside0.mk (hb); have n4_ := Aside0.mk (ho); clear HO_4; clear HO_5; clear BK283; clear HB; clear HO_7; have HO_4 := n0_; have HO_5 := n1_; have BK283 := n2_; have HB := n3_; have HO299 := n4_; clear n0_ n1_ n2_ n3_ n4_; clear ho hb hg hat)))
                      go_roundg k3
                      case measure => have := HK1.out; have := HK2.out; have := HK3.out; omega
                      case rel => exact ⟨(y297), (wrap64 (x8_2 + 1)), qz37, H', ⟨by have := HK1.out; have := HK2.out; have := HK3.out; omega⟩, ⟨by (with_reducible repeat (first | apply Kd.S_alloc | apply Kd.S_drewN | apply Kd.S_drew)); exact HO_4.out⟩, ⟨by (with_reducible repeat (first | apply Kd.S_alloc | apply Kd.S_drewN | apply Kd.S_drew)); exact Kd.S_mono HO_5.out (fun _ hk => hk.2)⟩, ⟨by (with_reducible repeat (first | apply Kd.R_alloc | apply Kd.R_drewN | apply Kd.R_drew)); exact HO299.out⟩, ⟨by (with_reducible repeat (first | refine blk_drewN ?_ _ | refine blk_drew ?_ | refine blk_alloc ?_ _)); exact BK283.out⟩, ⟨by repeat (first | (with_reducible first | exact HB.out | apply below_alloc | apply pw_below_drewN | apply below_drew1 | refine below_set ?_ GE283.out) | exact HB.out)⟩⟩
              · rw [if_neg c12] at H
                have c12b0 : decide (x8_2 < (l0_0.length : Int)) = false := decide_eq_false c12
                clear c12
                by_cases c38 : x5_1.length < 5864062014805
                case neg => rw [if_neg c38] at H; exact absurd H (by simp)
                rw [if_pos c38] at H
                have LMc38 := Aside0.mk c38
                clear c38
                obtain ⟨y288, hy288⟩ : ∃ y_ : List (List Int), y_ = (x5_1 ++ [x7_2]) := ⟨_, rfl⟩
                replace H : (skolemref35_Guide.l0 k2 t285 y288 (wrap64 (x6_1 + 1)) l0_0 a0_1 l0_2 a0_3) = some (r1, r2) := by first | (rw [hy288]; with_reducible exact H) | (have H2_ := (Option.bind_some _ _).symm.trans H; rw [hy288]; with_reducible exact H2_) | (have H2_ := (Option.bind_some _ _).symm.trans H; with_reducible exact H2_) | with_reducible exact H | (rw [hy288]; exact H) | exact H
                have Ny288 := Aside0.mk hy288
                clear hy288
                have H' := Aside0.mk H
                clear H
                have hcz39_0 : wr.cell? ⟨gb283, 0, none⟩ = some (.slice A0_0 l0_0.length c0_0) := (blk_cell BK283.out 0).trans rfl
                have hcz39_1 : wr.cell? ⟨gb283, 1, none⟩ = some (.int .i64 a0_1) := (blk_cell BK283.out 1).trans rfl
                have hcz39_2 : wr.cell? ⟨gb283, 2, none⟩ = some (.slice A0_2 l0_2.length c0_2) := (blk_cell BK283.out 2).trans rfl
                have hcz39_3 : wr.cell? ⟨gb283, 3, none⟩ = some (.int .i64 a0_3) := (blk_cell BK283.out 3).trans rfl
                have hfz39_0 := blk_frozen BK283.out 0
                have hfz39_1 := blk_frozen BK283.out 1
                have hfz39_2 := blk_frozen BK283.out 2
                have hfz39_3 := blk_frozen BK283.out 3
                obtain ⟨Ao41, co41, eo41⟩ := Kd.R_slice HO_7.out
                subst eo41
                go_wp2_with (first | ((with_reducible refine gate_builtin (b := .append) (xs := #[.tmp 73, .tmp 75]) rfl ?_); at_builtin; refine Kd.S_append (Kd.slice 3 (Kd.int .i64)) (w0 := w) w.heap.size rfl (.tmp 73) (.tmp 75) 41 23 (.slice none 0 0) 24 rfl Try.underlying41 info23 rfl (by decide) (by omega) u5 x5_1 x7_2 [.slice Ao41 x7_2.length co41] (fun _ => True) (fun k_ => some k_ = (.slice Ao41 x7_2.length co41 : Value).ownBlock) rfl rfl ?aP (fun k_ hk_ => ((Kd.R_mono (ok' := fun k_ => ((fun _ => True)) k_ ∧ some k_ ≠ (u5 : Value).ownBlock) (Kd.R_apart' (HO_7.out) (Kd.S_typed HO_5.out) (by decide)) (fun k_ hk => ⟨trivial, hk.2⟩))).1 k_ hk_.symm) ?aF ?aO ?aB ?aS ?aL ?_; (case aP => exact Kd.M_row (Kd.R_mono (Kd.R_tight rfl (Kd.R_mono (ok' := fun k_ => ((fun _ => True)) k_ ∧ some k_ ≠ (u5 : Value).ownBlock) (Kd.R_apart' (HO_7.out) (Kd.S_typed HO_5.out) (by decide)) (fun k_ hk => ⟨trivial, hk.2⟩))) (fun _ h_ => h_))); (case aB => exact qz11); (case aF => exact (fun _ _ => trivial)); (case aO => exact qz16); (case aS => exact (below_size qz11)); (case aL => have := LMc38.out; omega); intro v289 w40 ho hb hg hat; rw [← Ny288.out] at ho; have n0_ := Aside0.mk (Kd.S_over' qz34 (Kd.S_typed (by (with_reducible repeat (first | apply Kd.S_alloc | apply Kd.S_drewN | apply Kd.S_drew)); exact HO_5.out)) (by decide) hg); have n1_ := Aside0.mk (blk_grown (g := gb283) (o := .cells #[.slice A0_0 l0_0.length c0_0, .int .i64 a0_1, .slice A0_2 l0_2.length c0_2, .int .i64 a0_3] 25 (0, 0)) qz27 hg (Kd.S_ne HO_5.out BK283.out (by decide))); have n2_ := Aside0.mk (hb); have n3_ := Aside0.mk (ho); clear HO_4; clear BK283; clear HB; clear HO_5; clear HO_7; have HO_4 := n0_; have BK283 := n1_; have HB := n2_; have HO290 := n3_; clear n0_ n1_ n2_ n3_; clear ho hb hg hat))
                repeat (go_quiet (first | ((with_reducible refine gate_builtin (b := .append) (xs := #[.tmp 73, .tmp 75]) rfl ?_); at_builtin; refine Kd.S_append (Kd.slice 3 (Kd.int .i64)) (w0 := w) w.heap.size rfl (.tmp 73) (.tmp 75) 41 23 (.slice none 0 0) 24 rfl Try.underlying41 info23 rfl (by decide) (by omega) u5 x5_1 x7_2 [.slice Ao41 x7_2.length co41] (fun _ => True) (fun k_ => some k_ = (.slice Ao41 x7_2.length co41 : Value).ownBlock) rfl rfl ?aP (fun k_ hk_ => ((Kd.R_mono (ok' := fun k_ => ((fun _ => True)) k_ ∧ some k_ ≠ (u5 : Value).ownBlock) (Kd.R_apart' (HO_7.out) (Kd.S_typed HO_5.out) (by decide)) (fun k_ hk => ⟨trivial, hk.2⟩))).1 k_ hk_.symm) ?aF ?aO ?aB ?aS ?aL ?_; (case aP => exact Kd.M_row (Kd.R_mono (Kd.R_tight rfl (Kd.R_mono (ok' := fun k_ => ((fun _ => True)) k_ ∧ some k_ ≠ (u5 : Value).ownBlock) (Kd.R_apart' (HO_7.out) (Kd.S_typed HO_5.out) (by decide)) (fun k_ hk => ⟨trivial, hk.2⟩))) (fun _ h_ => h_))); (case aB => exact qz11); (case aF => exact (fun _ _ => trivial)); (case aO => exact qz16); (case aS => exact (below_size qz11)); (case aL => have := LMc38.out; omega); intro v289 w40 ho hb hg hat; rw [← Ny288.out] at ho; have n0_ := Aside0.mk (Kd.S_over' qz34 (Kd.S_typed (by (with_reducible repeat (first | apply Kd.S_alloc | apply Kd.S_drewN | apply Kd.S_drew)); exact HO_5.out)) (by decide) hg); have n1_ := Aside0.mk (blk_grown (g := gb283) (o := .cells #[.slice A0_0 l0_0.length c0_0, .int .i64 a0_1, .slice A0_2 l0_2.length c0_2, .int .i64 a0_3] 25 (0, 0)) qz27 hg (Kd.S_ne HO_5.out BK283.out (by decide))); have n2_ := Aside0.mk (hb); have n3_ := Aside0.mk (ho); clear HO_4; clear BK283; clear HB; clear HO_5; clear HO_7; have HO_4 := n0_; have BK283 := n1_; have HB := n2_; have HO290 := n3_; clear n0_ n1_ n2_ n3_; clear ho hb hg hat)); try go_wp2_with (first | ((with_reducible refine gate_builtin (b := .append) (xs := #[.tmp 73, .tmp 75]) rfl ?_); at_builtin; refine Kd.S_append (Kd.slice 3 (Kd.int .i64)) (w0 := w) w.heap.size rfl (.tmp 73) (.tmp 75) 41 23 (.slice none 0 0) 24 rfl Try.underlying41 info23 rfl (by decide) (by omega) u5 x5_1 x7_2 [.slice Ao41 x7_2.length co41] (fun _ => True) (fun k_ => some k_ = (.slice Ao41 x7_2.length co41 : Value).ownBlock) rfl rfl ?aP (fun k_ hk_ => ((Kd.R_mono (ok' := fun k_ => ((fun _ => True)) k_ ∧ some k_ ≠ (u5 : Value).ownBlock) (Kd.R_apart' (HO_7.out) (Kd.S_typed HO_5.out) (by decide)) (fun k_ hk => ⟨trivial, hk.2⟩))).1 k_ hk_.symm) ?aF ?aO ?aB ?aS ?aL ?_; (case aP => exact Kd.M_row (Kd.R_mono (Kd.R_tight rfl (Kd.R_mono (ok' := fun k_ => ((fun _ => True)) k_ ∧ some k_ ≠ (u5 : Value).ownBlock) (Kd.R_apart' (HO_7.out) (Kd.S_typed HO_5.out) (by decide)) (fun k_ hk => ⟨trivial, hk.2⟩))) (fun _ h_ => h_))); (case aB => exact qz11); (case aF => exact (fun _ _ => trivial)); (case aO => exact qz16); (case aS => exact (below_size qz11)); (case aL => have := LMc38.out; omega); intro v289 w40 ho hb hg hat; rw [← Ny288.out] at ho; have n0_ := Aside0.mk (Kd.S_over' qz34 (Kd.S_typed (by (with_reducible repeat (first | apply Kd.S_alloc | apply Kd.S_drewN | apply Kd.S_drew)); exact HO_5.out)) (by decide) hg); have n1_ := Aside0.mk (blk_grown (g := gb283) (o := .cells #[.slice A0_0 l0_0.length c0_0, .int .i64 a0_1, .slice A0_2 l0_2.length c0_2, .int .i64 a0_3] 25 (0, 0)) qz27 hg (Kd.S_ne HO_5.out BK283.out (by decide))); have n2_ := Aside0.mk (hb); have n3_ := Aside0.mk (ho); clear HO_4; clear BK283; clear HB; clear HO_5; clear HO_7; have HO_4 := n0_; have BK283 := n1_; have HB := n2_; have HO290 := n3_; clear n0_ n1_ n2_ n3_; clear ho hb hg hat)))
                go_roundg k2
                case measure => have := HK1.out; have := HK2.out; omega
                case rel => exact ⟨(y288), (wrap64 (x6_1 + 1)), qz37, H', ⟨by have := HK1.out; have := HK2.out; omega⟩, ⟨by (with_reducible repeat (first | apply Kd.S_alloc | apply Kd.S_drewN | apply Kd.S_drew)); exact HO_4.out⟩, ⟨by (with_reducible repeat (first | apply Kd.S_alloc | apply Kd.S_drewN | apply Kd.S_drew)); exact HO290.out⟩, ⟨by (with_reducible repeat (first | refine blk_drewN ?_ _ | refine blk_drew ?_ | refine blk_alloc ?_ _)); exact BK283.out⟩, ⟨by repeat (first | (with_reducible first | exact HB.out | apply below_alloc | apply pw_below_drewN | apply below_drew1 | refine below_set ?_ GE283.out) | exact HB.out)⟩⟩
        · rw [if_neg c10] at H
          have c10b0 : decide (x6_1 < a0_3) = false := decide_eq_false c10
          clear c10
          simp only [Option.some.injEq, Prod.mk.injEq] at H
          obtain ⟨rfl, rfl⟩ := H
          have hcz42_0 : wr.cell? ⟨gb283, 0, none⟩ = some (.slice A0_0 l0_0.length c0_0) := (blk_cell BK283.out 0).trans rfl
          have hcz42_1 : wr.cell? ⟨gb283, 1, none⟩ = some (.int .i64 a0_1) := (blk_cell BK283.out 1).trans rfl
          have hcz42_2 : wr.cell? ⟨gb283, 2, none⟩ = some (.slice A0_2 l0_2.length c0_2) := (blk_cell BK283.out 2).trans rfl
          have hcz42_3 : wr.cell? ⟨gb283, 3, none⟩ = some (.int .i64 a0_3) := (blk_cell BK283.out 3).trans rfl
          have hfz42_0 := blk_frozen BK283.out 0
          have hfz42_1 := blk_frozen BK283.out 1
          have hfz42_2 := blk_frozen BK283.out 2
          have hfz42_3 := blk_frozen BK283.out 3
          go_wp2
          repeat (go_quiet (fail); try go_wp2)
          go_ret2
          exact ⟨_, by first | rfl | (simp [errW_none, errW_some] <;> rfl) | (simp [*, errW_none, errW_some] <;> rfl), by (with_reducible repeat (first | apply Kd.S_alloc | apply Kd.S_drewN | apply Kd.S_drew)); exact HO_5.out, by repeat (first | (with_reducible first | exact HB.out | apply below_alloc | apply pw_below_drewN | apply below_drew1 | refine below_set ?_ GE283.out) | exact HB.out)⟩
  · replace c3 := Bool.eq_false_iff.mpr c3
    subst c3
    have H1 : (some (([] : List (List Int)), 2)) = some (r1, r2) := by rw [if_neg (show ¬ (false = true) by decide)] at H; exact H
    clear H
    have H := H1
    clear H1
    simp only [Option.some.injEq, Prod.mk.injEq] at H
    obtain ⟨rfl, rfl⟩ := H
    go_enter Try.func17, Try.ntmps17
    go_wp2_with (first | ((with_reducible refine gate_dst (N := 1) rfl ?_); refine box_event ?hg (N := 1) ?hd (cs := #[.slice A0_0 l0_0.length c0_0, .int .i64 a0_1, .slice A0_2 l0_2.length c0_2, .int .i64 a0_3]) (t := 25) ?hr ?_; (case hd => rfl); (case hg => rfl); (case hr => exact qz38); intro gb283 hg w43 hbox hb; have n0_ := Aside0.mk (below_step qz21 hb); have n1_ := Aside0.mk (hbox); have n2_ := Aside0.mk ((by rw [hg]; exact (below_size qz21) : w.heap.size ≤ gb283)); have n3_ := Aside0.mk ((by rw [hg]; exact (below_size qz21) : w.heap.size ≤ gb283)); clear HB; have HB := n0_; have BK283 := n1_; have GW283 := n2_; have GE283 := n3_; clear n0_ n1_ n2_ n3_; clear hb hbox hg; have hcz44_0 : w43.cell? ⟨gb283, 0, none⟩ = some (.slice A0_0 l0_0.length c0_0) := (blk_cell BK283.out 0).trans rfl; have hcz44_1 : w43.cell? ⟨gb283, 1, none⟩ = some (.int .i64 a0_1) := (blk_cell BK283.out 1).trans rfl; have hcz44_2 : w43.cell? ⟨gb283, 2, none⟩ = some (.slice A0_2 l0_2.length c0_2) := (blk_cell BK283.out 2).trans rfl; have hcz44_3 : w43.cell? ⟨gb283, 3, none⟩ = some (.int .i64 a0_3) := (blk_cell BK283.out 3).trans rfl; have hfz44_0 := blk_frozen BK283.out 0; have hfz44_1 := blk_frozen BK283.out 1; have hfz44_2 := blk_frozen BK283.out 2; have hfz44_3 := blk_frozen BK283.out 3) | (go_at_call 19; (with_reducible refine (skolemref35_May.calls k _ _ l0_0 a0_1 _ _ l0_2 a0_3 false _ ?side1 ?side2 ?side3 ?side4 A2.out).mono ?_); (case side1 => exact qz1); (case side2 => exact HC0_0.out); (case side3 => exact qz2); (case side4 => exact HC0_2.out); rintro e w45 ⟨rfl, hb⟩; have n0_ := Aside0.mk (blk_below (g := gb283) (o := .cells #[.slice A0_0 l0_0.length c0_0, .int .i64 a0_1, .slice A0_2 l0_2.length c0_2, .int .i64 a0_3] 25 (0, 0)) qz27 hb); have n1_ := Aside0.mk (below_step qz11 hb); clear BK283; clear HB; have BK283 := n0_; have HB := n1_; clear n0_ n1_; (try clear hb); (try clear hb2); (try clear hk); (try clear hi)))
    repeat (go_quiet (first | ((with_reducible refine gate_dst (N := 1) rfl ?_); refine box_event ?hg (N := 1) ?hd (cs := #[.slice A0_0 l0_0.length c0_0, .int .i64 a0_1, .slice A0_2 l0_2.length c0_2, .int .i64 a0_3]) (t := 25) ?hr ?_; (case hd => rfl); (case hg => rfl); (case hr => exact qz38); intro gb283 hg w43 hbox hb; have n0_ := Aside0.mk (below_step qz21 hb); have n1_ := Aside0.mk (hbox); have n2_ := Aside0.mk ((by rw [hg]; exact (below_size qz21) : w.heap.size ≤ gb283)); have n3_ := Aside0.mk ((by rw [hg]; exact (below_size qz21) : w.heap.size ≤ gb283)); clear HB; have HB := n0_; have BK283 := n1_; have GW283 := n2_; have GE283 := n3_; clear n0_ n1_ n2_ n3_; clear hb hbox hg; have hcz44_0 : w43.cell? ⟨gb283, 0, none⟩ = some (.slice A0_0 l0_0.length c0_0) := (blk_cell BK283.out 0).trans rfl; have hcz44_1 : w43.cell? ⟨gb283, 1, none⟩ = some (.int .i64 a0_1) := (blk_cell BK283.out 1).trans rfl; have hcz44_2 : w43.cell? ⟨gb283, 2, none⟩ = some (.slice A0_2 l0_2.length c0_2) := (blk_cell BK283.out 2).trans rfl; have hcz44_3 : w43.cell? ⟨gb283, 3, none⟩ = some (.int .i64 a0_3) := (blk_cell BK283.out 3).trans rfl; have hfz44_0 := blk_frozen BK283.out 0; have hfz44_1 := blk_frozen BK283.out 1; have hfz44_2 := blk_frozen BK283.out 2; have hfz44_3 := blk_frozen BK283.out 3) | (go_at_call 19; (with_reducible refine (skolemref35_May.calls k _ _ l0_0 a0_1 _ _ l0_2 a0_3 false _ ?side1 ?side2 ?side3 ?side4 A2.out).mono ?_); (case side1 => exact qz1); (case side2 => exact HC0_0.out); (case side3 => exact qz2); (case side4 => exact HC0_2.out); rintro e w45 ⟨rfl, hb⟩; have n0_ := Aside0.mk (blk_below (g := gb283) (o := .cells #[.slice A0_0 l0_0.length c0_0, .int .i64 a0_1, .slice A0_2 l0_2.length c0_2, .int .i64 a0_3] 25 (0, 0)) qz27 hb); have n1_ := Aside0.mk (below_step qz11 hb); clear BK283; clear HB; have BK283 := n0_; have HB := n1_; clear n0_ n1_; (try clear hb); (try clear hb2); (try clear hk); (try clear hi))); try go_wp2_with (first | ((with_reducible refine gate_dst (N := 1) rfl ?_); refine box_event ?hg (N := 1) ?hd (cs := #[.slice A0_0 l0_0.length c0_0, .int .i64 a0_1, .slice A0_2 l0_2.length c0_2, .int .i64 a0_3]) (t := 25) ?hr ?_; (case hd => rfl); (case hg => rfl); (case hr => exact qz38); intro gb283 hg w43 hbox hb; have n0_ := Aside0.mk (below_step qz21 hb); have n1_ := Aside0.mk (hbox); have n2_ := Aside0.mk ((by rw [hg]; exact (below_size qz21) : w.heap.size ≤ gb283)); have n3_ := Aside0.mk ((by rw [hg]; exact (below_size qz21) : w.heap.size ≤ gb283)); clear HB; have HB := n0_; have BK283 := n1_; have GW283 := n2_; have GE283 := n3_; clear n0_ n1_ n2_ n3_; clear hb hbox hg; have hcz44_0 : w43.cell? ⟨gb283, 0, none⟩ = some (.slice A0_0 l0_0.length c0_0) := (blk_cell BK283.out 0).trans rfl; have hcz44_1 : w43.cell? ⟨gb283, 1, none⟩ = some (.int .i64 a0_1) := (blk_cell BK283.out 1).trans rfl; have hcz44_2 : w43.cell? ⟨gb283, 2, none⟩ = some (.slice A0_2 l0_2.length c0_2) := (blk_cell BK283.out 2).trans rfl; have hcz44_3 : w43.cell? ⟨gb283, 3, none⟩ = some (.int .i64 a0_3) := (blk_cell BK283.out 3).trans rfl; have hfz44_0 := blk_frozen BK283.out 0; have hfz44_1 := blk_frozen BK283.out 1; have hfz44_2 := blk_frozen BK283.out 2; have hfz44_3 := blk_frozen BK283.out 3) | (go_at_call 19; (with_reducible refine (skolemref35_May.calls k _ _ l0_0 a0_1 _ _ l0_2 a0_3 false _ ?side1 ?side2 ?side3 ?side4 A2.out).mono ?_); (case side1 => exact qz1); (case side2 => exact HC0_0.out); (case side3 => exact qz2); (case side4 => exact HC0_2.out); rintro e w45 ⟨rfl, hb⟩; have n0_ := Aside0.mk (blk_below (g := gb283) (o := .cells #[.slice A0_0 l0_0.length c0_0, .int .i64 a0_1, .slice A0_2 l0_2.length c0_2, .int .i64 a0_3] 25 (0, 0)) qz27 hb); have n1_ := Aside0.mk (below_step qz11 hb); clear BK283; clear HB; have BK283 := n0_; have HB := n1_; clear n0_ n1_; (try clear hb); (try clear hb2); (try clear hk); (try clear hi))))
    go_ret2
    exact ⟨_, by first | rfl | (simp [errW_none, errW_some] <;> rfl) | (simp [*, errW_none, errW_some] <;> rfl), by first | exact Kd.S_nil _ _ _ _ _ | exact Kd.N_nil _ _ _ _ _ | exact Kd.V_nil _ _ _ _ _ | exact Kd.Q_nil _ _ _ _ _ | exact Kd.R_nil _ _ _ _ _, by repeat (first | (with_reducible first | exact HB.out | apply below_alloc | apply pw_below_drewN | apply below_drew1 | refine below_set ?_ GE283.out) | exact HB.out)⟩

end Go.Proofs.Ytjlehbncpjccmaa.Q
namespace Go.Proofs.Ytjlehbncpjccmaa.Q
open Go.RowKit Go.Proofs.YtjlehbncpjccmaaW.PrintWords Go.Proofs.YtjlehbncpjccmaaW.PrintLast Go.Proofs.YtjlehbncpjccmaaW.PrintMore
set_option linter.unusedVariables false
set_option linter.unusedSimpArgs false

theorem bset_step {cur : List Bool} {n j : Nat} {e : Nat → Bool} {v : Bool} (hl : cur.length = n) (hj : j < n) (h : ∀ m, m < j → cur.getD m false = e m) (hv : v = e j) : (cur.set j v).length = n ∧ ∀ m, m < j + 1 → (cur.set j v).getD m false = e m := by
  refine ⟨by simp [hl], fun m hm => ?_⟩
  rw [List.getD_eq_getElem?_getD, List.getElem?_set]
  by_cases hmj : j = m
  · subst hmj; simp [hv, hl, hj]
  · rw [if_neg hmj, ← List.getD_eq_getElem?_getD]
    exact h m (by omega)
theorem bset_done {cur : List Bool} {n : Nat} {e : Nat → Bool} (hl : cur.length = n) (h : ∀ m, m < n → cur.getD m false = e m) : cur = (List.range n).map e := by
  apply List.ext_getElem
  · simp [hl]
  · intro i hi hi'
    have := h i (by omega)
    rw [List.getD_eq_getElem?_getD, List.getElem?_eq_getElem hi] at this
    simpa using this
/-- The table's row for one move more. -/
def entR (ps : List S55) (gs : List Int) (prev : List Bool) (j : Nat) : Bool :=
  decide ((j : Int) ∈ gs) || (decide (((rd_T55 ps (j : Int)).f1.length : Int) > 0) && (if (rd_T55 ps (j : Int)).f0 then (rd_T55 ps (j : Int)).f1.any (rdOf false prev) else (rd_T55 ps (j : Int)).f1.all (rdOf false prev)))
def rowT (ps : List S55) (gs : List Int) : Nat → List Bool
  | 0 => (List.range ps.length).map fun (j : Nat) => decide ((j : Int) ∈ gs)
  | n + 1 => (List.range ps.length).map (entR ps gs (rowT ps gs n))
theorem rowT_length (ps : List S55) (gs : List Int) : ∀ n, (rowT ps gs n).length = ps.length
  | 0 => by simp [rowT]
  | n + 1 => by simp [rowT]
def tabT (ps : List S55) (gs : List Int) (n : Nat) : List (List Bool) := (List.range n).map (rowT ps gs)
theorem tab_get (ps : List S55) (gs : List Int) (n i : Nat) (h : i < n) : rd_L7 (tabT ps gs n) (i : Int) = rowT ps gs i := by
  simp [rd_L7, tabT, List.getD_eq_getElem?_getD, h]
section
variable (ps : List S55) (st : Int) (gs : List Int) (mv : Int)
theorem table_zero (hs : Small ps gs) (tab : List (List Bool)) (cur : List Bool) (i : Nat) (tl : List Int) (s a : Bool) (hcl : cur.length = ps.length) (hi : i < ps.length) {v : List (List Bool)}
    (hv : Ev (fun k => skolemref35_table.l1 k tab 0 (cur.set i (decide ((i : Int) ∈ gs))) ((i + 1 : Nat) : Int) ps st gs mv) v) (j : Int) :
    Ev (fun k => skolemref35_table.l2 k tab 0 cur (i : Int) tl s a j ps st gs mv) v := by
  refine Ev.succ ?_
  simp only [skolemref35_table.l2]
  have hin := in_ev gs (i : Int) (by have := hs.ng; omega)
  have hnp := hs.np
  have hmain : Ev (fun k => (skolemref05_In.f k gs (i : Int)).bind fun t261 => (if t261 = true then (if (0 : Int) ≤ (i : Int) then (if (i : Int) < (cur.length : Int) then (skolemref35_table.l1 k tab 0 (cur.set (i : Int).toNat true) (wrap64 ((i : Int) + 1)) ps st gs mv) else (none)) else (none)) else (if (0 : Int) ≤ (i : Int) then (if (i : Int) < (cur.length : Int) then (skolemref35_table.l1 k tab 0 (cur.set (i : Int).toNat false) (wrap64 ((i : Int) + 1)) ps st gs mv) else (none)) else (none)))) v := by
    refine Ev.bind hin ?_
    simp only [if_pos (show (0 : Int) ≤ (i : Int) by omega), if_pos (show (i : Int) < (cur.length : Int) by omega), w_nat i (by omega), Int.toNat_natCast]
    by_cases hx : (i : Int) ∈ gs
    · simp only [hx, decide_true, if_true] at hv ⊢
      exact hv
    · simp only [hx, decide_false, Bool.false_eq_true, if_false] at hv ⊢
      exact hv
  by_cases hj : j < (tl.length : Int)
  · simp only [if_pos hj, if_neg (show ¬ ((0 : Int) > 0) by omega)]
    exact hmain
  · simp only [if_neg hj, if_neg (show ¬ ((0 : Int) > 0) by omega)]
    exact hmain
theorem table_l2 (hs : Small ps gs) (tab : List (List Bool)) (n : Nat) (hn : n < 100) (prev : List Bool) (hpr : rd_L7 tab (n : Int) = prev) (htl : tab.length = n + 1) (hpl : prev.length = ps.length) (cur : List Bool) (i : Nat) (hcl : cur.length = ps.length) (hi : i < ps.length) (tl : List Int) (ht : tl = (rd_T55 ps (i : Int)).f1) (hlen : tl.length ≤ 20)
    (hin : ∀ x ∈ tl, 0 ≤ x ∧ x < (ps.length : Int)) {v : List (List Bool)} : ∀ (m j : Nat) (s a : Bool), j + m = tl.length →
    Ev (fun k => skolemref35_table.l1 k tab ((n + 1 : Nat) : Int) (cur.set i (decide ((i : Int) ∈ gs) || (decide ((tl.length : Int) > 0) && (if (rd_T55 ps (i : Int)).f0 then s || (tl.drop j).any (rdOf false prev) else a && (tl.drop j).all (rdOf false prev))))) ((i + 1 : Nat) : Int) ps st gs mv) v →
    Ev (fun k => skolemref35_table.l2 k tab ((n + 1 : Nat) : Int) cur (i : Int) tl s a (j : Int) ps st gs mv) v
  | 0, j, s, a, h, hv => by
    refine Ev.succ ?_
    simp only [skolemref35_table.l2]
    simp only [if_neg (show ¬ ((j : Int) < (tl.length : Int)) by omega)]
    have hgi := in_ev gs (i : Int) (by have := hs.ng; omega)
    have hnp := hs.np
    rw [List.drop_of_length_le (show tl.length ≤ j by omega)] at hv
    simp only [List.any_nil, List.all_nil, Bool.or_false, Bool.and_true] at hv
    refine Ev.bind hgi ?_
    simp only [if_pos (show (0 : Int) ≤ (i : Int) by omega), if_pos (show (i : Int) < (cur.length : Int) by omega), if_pos (show (i : Int) < (ps.length : Int) by omega), w_nat i (by omega), Int.toNat_natCast, if_pos (show ((n + 1 : Nat) : Int) > 0 by omega)]
    by_cases hx : (i : Int) ∈ gs
    · simp only [hx, decide_true, if_true, Bool.true_or] at hv ⊢
      exact hv
    · simp only [hx, decide_false, Bool.false_eq_true, if_false, Bool.false_or] at hv ⊢
      by_cases hl : (tl.length : Int) > 0
      · simp only [hl, decide_true, if_true, Bool.true_and] at hv ⊢
        cases hf : (rd_T55 ps (i : Int)).f0 with
        | true =>
          simp only [hf, if_true] at hv ⊢
          cases s with
          | true => simp only [if_true]; exact hv
          | false => simp only [Bool.false_eq_true, if_false]; exact hv
        | false =>
          simp only [hf, Bool.false_eq_true, if_false] at hv ⊢
          exact hv
      · simp only [hl, decide_false, if_false, Bool.false_and] at hv ⊢
        exact hv
  | m + 1, j, s, a, h, hv => by
    refine Ev.succ ?_
    have hj : j < tl.length := by omega
    have ih := fun s a => table_l2 hs tab n hn prev hpr htl hpl cur i hcl hi tl ht hlen hin (v := v) m (j + 1) s a (by omega)
    rw [drop_rd tl j hj] at hv
    simp only [List.any_cons, List.all_cons] at hv
    have hmem : rd tl (j : Int) ∈ tl := List.mem_of_mem_drop (drop_rd tl j hj ▸ List.mem_cons_self)
    have hr := hin _ hmem
    simp only [skolemref35_table.l2]
    have hw : wrap64 (((n + 1 : Nat) : Int) - 1) = (n : Int) := by rw [w_id (by omega)]; omega
    simp only [if_pos (show (j : Int) < (tl.length : Int) by omega), if_pos (show ((n + 1 : Nat) : Int) > 0 by omega), hw, if_pos (show (0 : Int) ≤ (n : Int) by omega), if_pos (show (n : Int) < (tab.length : Int) by omega), if_pos (show (0 : Int) ≤ (j : Int) by omega), if_pos hr.1, hpr, if_pos (show rd tl (j : Int) < (prev.length : Int) by omega), w_nat j (by omega)]
    generalize rdOf false prev (rd tl (j : Int)) = u at hv ⊢
    cases s with
    | true =>
      simp only [if_true]
      cases a with
      | true =>
        simp only [if_true]
        exact ih true u (by simpa using hv)
      | false =>
        simp only [Bool.false_eq_true, if_false]
        exact ih true false (by simpa using hv)
    | false =>
      simp only [Bool.false_eq_true, if_false]
      cases a with
      | true =>
        simp only [if_true]
        exact ih u u (by simpa using hv)
      | false =>
        simp only [Bool.false_eq_true, if_false]
        exact ih u false (by simpa using hv)
theorem table_l1 (hs : Small ps gs) (hto : ∀ x ∈ ps, ∀ v ∈ x.f1, 0 ≤ v ∧ v < (ps.length : Int)) (n : Nat) (hn : n ≤ 50) {v : List (List Bool)}
    (hv : Ev (fun k => skolemref35_table.l0 k (tabT ps gs n ++ [rowT ps gs n]) ((n + 1 : Nat) : Int) ps st gs mv) v) : ∀ (m i : Nat) (cur : List Bool), i + m = ps.length → cur.length = ps.length →
    (∀ q, q < i → cur.getD q false = (rowT ps gs n).getD q false) →
    Ev (fun k => skolemref35_table.l1 k (tabT ps gs n) (n : Int) cur (i : Int) ps st gs mv) v
  | 0, i, cur, h, hc, hq => by
    refine Ev.succ ?_
    simp only [skolemref35_table.l1]
    have hcur : cur = rowT ps gs n := by
      apply List.ext_getElem (by rw [hc, rowT_length])
      intro q h1 h2
      have := hq q (by omega)
      rw [List.getD_eq_getElem?_getD, List.getElem?_eq_getElem h1, List.getD_eq_getElem?_getD, List.getElem?_eq_getElem h2] at this
      simpa using this
    have hl : (tabT ps gs n).length = n := by simp [tabT]
    simp only [if_neg (show ¬ ((i : Int) < (cur.length : Int)) by omega), hl, if_pos (show n < 5864062014805 by omega), w_nat n (by omega)]
    rw [hcur]
    exact hv
  | m + 1, i, cur, h, hc, hq => by
    refine Ev.succ ?_
    simp only [skolemref35_table.l1]
    have hnp := hs.np
    have hi : i < ps.length := by omega
    have hmem : rd_T55 ps (i : Int) ∈ ps := List.mem_of_mem_drop (drop_55 ps i hi ▸ List.mem_cons_self)
    simp only [if_pos (show (i : Int) < (cur.length : Int) by omega), if_pos (show (0 : Int) ≤ (i : Int) by omega), if_pos (show (i : Int) < (ps.length : Int) by omega)]
    have hset : ∀ e, e = (rowT ps gs n).getD i false → Ev (fun k => skolemref35_table.l1 k (tabT ps gs n) (n : Int) (cur.set i e) ((i + 1 : Nat) : Int) ps st gs mv) v := by
      intro e he
      have h2 := bset_step (e := fun q => (rowT ps gs n).getD q false) hc hi hq he
      exact table_l1 hs hto n hn hv m (i + 1) _ (by omega) h2.1 h2.2
    cases n with
    | zero =>
      refine table_zero ps st gs mv hs _ cur i _ _ _ hc hi (hset _ ?_) _
      simp [rowT, List.getD_eq_getElem?_getD, hi]
    | succ n =>
      refine table_l2 ps st gs mv hs _ n (by omega) (rowT ps gs n) (tab_get ps gs (n + 1) n (by omega)) (by simp [tabT]) (rowT_length _ _ _) cur i hc hi _ rfl (hs.nt _ hmem) (hto _ hmem) (rd_T55 ps (i : Int)).f1.length 0 false true (by omega) (hset _ ?_)
      simp [rowT, List.getD_eq_getElem?_getD, hi, entR]
theorem table_l0 (hs : Small ps gs) (hto : ∀ x ∈ ps, ∀ v ∈ x.f1, 0 ≤ v ∧ v < (ps.length : Int)) (N : Nat) (hN : N ≤ 49) (hmv : mv = (N : Int)) : ∀ (m n : Nat), n + m = N + 1 →
    Ev (fun k => skolemref35_table.l0 k (tabT ps gs n) (n : Int) ps st gs mv) (tabT ps gs (N + 1))
  | 0, n, h => by
    refine Ev.succ ?_
    simp only [skolemref35_table.l0]
    simp only [if_neg (show ¬ ((n : Int) ≤ mv) by omega)]
    exact (Ev.const _).cong (by rw [show n = N + 1 by omega])
  | m + 1, n, h => by
    refine Ev.succ ?_
    have hnp := hs.np
    simp only [skolemref35_table.l0]
    simp only [if_pos (show (n : Int) ≤ mv by omega), if_pos (show (0 : Int) ≤ (ps.length : Int) by omega), Int.toNat_natCast, if_pos (show ps.length ≤ 281474976710656 by omega)]
    have ih := table_l0 hs hto N hN hmv m (n + 1) (by omega)
    rw [tabT, List.range_succ, List.map_append] at ih
    exact table_l1 ps st gs mv hs hto n (by omega) ih ps.length 0 _ (by omega) (by simp) (fun q hq => absurd hq (by omega))
end
theorem table_ev (ps : List S55) (st : Int) (gs : List Int) (mv : Int) (hs : Small ps gs) (h : mayB ps st gs mv = true) : Ev (fun k => skolemref35_table.f k ps st gs mv) (tabT ps gs (mv.toNat + 1)) := by
  have hmv := mayB_mv h
  exact table_l0 ps st gs mv hs (mayB_to2 h) mv.toNat (by omega) (by omega) (mv.toNat + 1) 0 (by omega)

theorem win_row (ps : List S55) (gs : List Int) (hp : ps.length ≤ 16) (hto : ∀ x ∈ ps, ∀ v ∈ x.f1, 0 ≤ v ∧ v < (ps.length : Int)) : ∀ (n j : Nat), j < ps.length → (winSet ps gs n).getD j false = (rowT ps gs n).getD j false
  | 0, j, h => by
    rw [winSet, gset_get gs j (by omega)]
    simp [rowT, List.getD_eq_getElem?_getD, h]
  | n + 1, j, h => by
    have ih := win_row ps gs hp hto n
    rw [winSet, befS, bstep_get _ ps 0 _ j (by rw [gset_length]; omega), gset_get gs j (by omega), decide_eq_true (show 0 ≤ j ∧ j < 0 + ps.length by omega), Bool.true_and, winB_eq]
    have hx : ps.getD (j - 0) z55 = rd_T55 ps (j : Int) := by simp [rd_T55]
    have hmem : rd_T55 ps (j : Int) ∈ ps := List.mem_of_mem_drop (drop_55 ps j h ▸ List.mem_cons_self)
    rw [hx]
    have hval : ∀ v ∈ (rd_T55 ps (j : Int)).f1, rdOf false (winSet ps gs n) v = rdOf false (rowT ps gs n) v := fun v hv => by
      have := hto _ hmem v hv
      exact ih v.toNat (by omega)
    have h1 : (rd_T55 ps (j : Int)).f1.any (rdOf false (winSet ps gs n)) = (rd_T55 ps (j : Int)).f1.any (rdOf false (rowT ps gs n)) := by
      rw [Bool.eq_iff_iff, List.any_eq_true, List.any_eq_true]
      exact ⟨fun ⟨v, hv, h⟩ => ⟨v, hv, (hval v hv) ▸ h⟩, fun ⟨v, hv, h⟩ => ⟨v, hv, (hval v hv).symm ▸ h⟩⟩
    have h2 : (rd_T55 ps (j : Int)).f1.all (rdOf false (winSet ps gs n)) = (rd_T55 ps (j : Int)).f1.all (rdOf false (rowT ps gs n)) := by
      rw [Bool.eq_iff_iff, List.all_eq_true, List.all_eq_true]
      exact ⟨fun h v hv => (hval v hv) ▸ h v hv, fun h v hv => (hval v hv).symm ▸ h v hv⟩
    rw [h1, h2]
    simp [rowT, List.getD_eq_getElem?_getD, h, entR]
theorem Wins_ev (ps : List S55) (st : Int) (gs : List Int) (mv : Int) (hs : Small ps gs) : Ev (fun k => skolemref35_Wins.f k ps st gs mv) (if mayB ps st gs mv then ((winSet ps gs mv.toNat).getD st.toNat false, 0) else (false, 2)) := by
  simp only [skolemref35_Wins.f]
  refine Ev.bind (may_ev ps st gs mv hs) ?_
  cases hm : mayB ps st gs mv with
  | false =>
    simp only [Bool.false_eq_true, if_false]
    exact Ev.const _
  | true =>
    simp only [if_true]
    have hmv := mayB_mv hm
    have hf := mayB_facts hm
    refine Ev.bind (table_ev ps st gs mv hs hm) ?_
    have hl : (tabT ps gs (mv.toNat + 1)).length = mv.toNat + 1 := by simp [tabT]
    have hg := tab_get ps gs (mv.toNat + 1) mv.toNat (by omega)
    rw [show ((mv.toNat : Nat) : Int) = mv by omega] at hg
    simp only [if_pos hmv.1, hl, if_pos (show mv < ((mv.toNat + 1 : Nat) : Int) by omega), hg, rowT_length, if_pos hf.2.1.1, if_pos hf.2.1.2]
    refine (Ev.const _).cong ?_
    rw [win_row ps gs hf.1 (mayB_to2 hm) mv.toNat st.toNat (by omega)]
    rfl

theorem idxF_snoc {α : Type} (p : α → Bool) : ∀ (xs : List α) (y : α) (i : Int), 0 ≤ i → idxF p (xs ++ [y]) i = if 0 ≤ idxF p xs i then idxF p xs i else if p y then i + xs.length else -1
  | [], y, i, h => by
    simp [idxF]
  | x :: xs, y, i, h => by
    simp only [List.cons_append, idxF, List.length_cons]
    split
    · first | rfl | (rw [if_pos h])
    · rw [idxF_snoc p xs y (i + 1) (by omega)]
      split
      · rfl
      · split
        · omega
        · rfl
section
variable (ps : List S55) (st : Int) (gs : List Int) (mv : Int)
def firstB (p : Int → Bool) (l : List Int) (best : Int) : Int := if 0 ≤ idxF p l 0 then idxF p l 0 else best
def selG (ps : List S55) (gs : List Int) (s : List Bool) (j : Nat) (v : Int) : Bool := (rd_T55 ps (j : Int)).f0 && (!(decide ((j : Int) ∈ gs)) && rdOf false s v)
theorem guide_l2 (hs : Small ps gs) (tab : List (List Bool)) (i : Nat) (row : List Bool) (hrow : rd_L7 tab (i : Int) = row) (hti : i < tab.length) (hrl : row.length = ps.length) (out : List (List Int)) (acc : List Int) (hacc : acc.length ≤ 30) (j : Nat) (hj : j < ps.length) (tl : List Int) (hlen : tl.length ≤ 20)
    (hin : ∀ x ∈ tl, 0 ≤ x ∧ x < (ps.length : Int)) {v : List (List Int) × Int} : ∀ (m : Nat) (best : Int), m ≤ tl.length →
    Ev (fun k => skolemref35_Guide.l1 k tab out (i : Int) (acc ++ [firstB (selG ps gs row j) (tl.take m) best]) ((j + 1 : Nat) : Int) ps st gs mv) v →
    Ev (fun k => skolemref35_Guide.l2 k tab out (i : Int) acc (j : Int) best tl ((m : Int) - 1) ps st gs mv) v
  | 0, best, h, hv => by
    refine Ev.succ ?_
    have hnp := hs.np
    simp only [skolemref35_Guide.l2]
    simp only [if_neg (show ¬ (((0 : Nat) : Int) - 1 ≥ 0) by omega), if_pos (show acc.length < 17592186044416 by omega), w_nat j (by omega)]
    simpa [firstB, idxF] using hv
  | m + 1, best, h, hv => by
    refine Ev.succ ?_
    have hnp := hs.np
    simp only [skolemref35_Guide.l2]
    rw [show ((m + 1 : Nat) : Int) - 1 = (m : Int) by omega]
    have hmem : rd tl (m : Int) ∈ tl := List.mem_of_mem_drop (drop_rd tl m (by omega) ▸ List.mem_cons_self)
    have hr := hin _ hmem
    have htake : tl.take (m + 1) = tl.take m ++ [rd tl (m : Int)] := by
      rw [List.take_succ_eq_append_getElem (by omega)]
      simp [rd, List.getD_eq_getElem?_getD, List.getElem?_eq_getElem (show m < tl.length by omega)]
    have hfst : firstB (selG ps gs row j) (tl.take (m + 1)) best = firstB (selG ps gs row j) (tl.take m) (if selG ps gs row j (rd tl (m : Int)) then (m : Int) else best) := by
      simp only [firstB, htake, idxF_snoc _ _ _ (0 : Int) (Int.le_refl _), List.length_take, show min m tl.length = m by omega, Int.zero_add]
      by_cases h1 : 0 ≤ idxF (selG ps gs row j) (tl.take m) 0
      · simp only [if_pos h1]
      · simp only [if_neg h1]
        by_cases h2 : selG ps gs row j (rd tl (m : Int)) = true
        · simp only [if_pos h2]
          rw [if_pos (by omega)]
        · simp only [if_neg h2]
          rw [if_neg (by omega)]
    rw [hfst] at hv
    simp only [if_pos (show (m : Int) ≥ 0 by omega), if_pos (show (0 : Int) ≤ (j : Int) by omega), if_pos (show (j : Int) < (ps.length : Int) by omega), w_id (show -9223372036854775808 ≤ (m : Int) - 1 ∧ (m : Int) - 1 < 9223372036854775808 by omega)]
    have hgi := in_ev gs (j : Int) (by have := hs.ng; omega)
    have ih := fun best => guide_l2 hs tab i row hrow hti hrl out acc hacc j hj tl hlen hin (v := v) m best (by omega)
    cases hf : (rd_T55 ps (j : Int)).f0 with
    | false =>
      simp only [Bool.false_eq_true, if_false]
      refine ih best ?_
      simpa [selG, hf] using hv
    | true =>
      simp only [if_true]
      refine Ev.bind hgi ?_
      by_cases hg : (j : Int) ∈ gs
      · simp only [hg, decide_true, if_true]
        refine ih best ?_
        simpa [selG, hf, hg] using hv
      · simp only [hg, decide_false, Bool.false_eq_true, if_false, hrow, if_pos (show (0 : Int) ≤ (i : Int) by omega), if_pos (show (i : Int) < (tab.length : Int) by omega), if_pos (show (0 : Int) ≤ (m : Int) by omega), if_pos (show (m : Int) < (tl.length : Int) by omega), if_pos hr.1, if_pos (show rd tl (m : Int) < (row.length : Int) by omega)]
        cases hs2 : rdOf false row (rd tl (m : Int)) with
        | true =>
          simp only [if_true]
          refine ih (m : Int) ?_
          simpa [selG, hf, hg, hs2] using hv
        | false =>
          simp only [Bool.false_eq_true, if_false]
          refine ih best ?_
          simpa [selG, hf, hg, hs2] using hv
def entT (ps : List S55) (gs : List Int) (row : List Bool) (j : Nat) : Int := firstB (selG ps gs row j) (rd_T55 ps (j : Int)).f1 (-1)
theorem guide_l1 (hs : Small ps gs) (hto : ∀ x ∈ ps, ∀ v ∈ x.f1, 0 ≤ v ∧ v < (ps.length : Int)) (tab : List (List Bool)) (i : Nat) (hi : i < 100) (row : List Bool) (hrow : rd_L7 tab (i : Int) = row) (hti : i < tab.length) (hrl : row.length = ps.length) (out : List (List Int)) (hout : out.length ≤ 100) {v : List (List Int) × Int}
    (hv : Ev (fun k => skolemref35_Guide.l0 k tab (out ++ [(List.range ps.length).map (entT ps gs row)]) ((i + 1 : Nat) : Int) ps st gs mv) v) : ∀ (m j : Nat), j + m = ps.length →
    Ev (fun k => skolemref35_Guide.l1 k tab out (i : Int) ((List.range j).map (entT ps gs row)) (j : Int) ps st gs mv) v
  | 0, j, h => by
    refine Ev.succ ?_
    simp only [skolemref35_Guide.l1]
    simp only [if_neg (show ¬ ((j : Int) < (ps.length : Int)) by omega), if_pos (show out.length < 5864062014805 by omega), w_nat i (by omega)]
    rw [show j = ps.length by omega]
    exact hv
  | m + 1, j, h => by
    refine Ev.succ ?_
    have hnp := hs.np
    have hj : j < ps.length := by omega
    have hmem : rd_T55 ps (j : Int) ∈ ps := List.mem_of_mem_drop (drop_55 ps j hj ▸ List.mem_cons_self)
    have hlen := hs.nt _ hmem
    have ih := guide_l1 hs hto tab i hi row hrow hti hrl out hout hv m (j + 1) (by omega)
    simp only [skolemref35_Guide.l1]
    simp only [if_pos (show (j : Int) < (ps.length : Int) by omega), if_pos (show (0 : Int) ≤ (j : Int) by omega), w_id (show -9223372036854775808 ≤ (((rd_T55 ps (j : Int)).f1.length : Int)) - 1 ∧ (((rd_T55 ps (j : Int)).f1.length : Int)) - 1 < 9223372036854775808 by omega)]
    refine guide_l2 ps st gs mv hs tab i row hrow hti hrl out _ (by simp; omega) j hj (rd_T55 ps (j : Int)).f1 hlen (hto _ hmem) (rd_T55 ps (j : Int)).f1.length (-1) (Nat.le_refl _) ?_
    rw [List.range_succ, List.map_append] at ih
    rw [List.take_length]
    exact ih
theorem guide_l0 (hs : Small ps gs) (hto : ∀ x ∈ ps, ∀ v ∈ x.f1, 0 ≤ v ∧ v < (ps.length : Int)) (N : Nat) (hN : N ≤ 49) (hmv : mv = (N : Int)) : ∀ (m i : Nat), i + m = N →
    Ev (fun k => skolemref35_Guide.l0 k (tabT ps gs (N + 1)) ((List.range i).map fun q => (List.range ps.length).map (entT ps gs (rowT ps gs q))) (i : Int) ps st gs mv) ((List.range N).map fun q => (List.range ps.length).map (entT ps gs (rowT ps gs q)), 0)
  | 0, i, h => by
    refine Ev.succ ?_
    simp only [skolemref35_Guide.l0]
    simp only [if_neg (show ¬ ((i : Int) < mv) by omega)]
    exact (Ev.const _).cong (by rw [show i = N by omega])
  | m + 1, i, h => by
    refine Ev.succ ?_
    have ih := guide_l0 hs hto N hN hmv m (i + 1) (by omega)
    simp only [skolemref35_Guide.l0]
    simp only [if_pos (show (i : Int) < mv by omega)]
    rw [List.range_succ, List.map_append] at ih
    exact guide_l1 ps st gs mv hs hto _ i (by omega) (rowT ps gs i) (tab_get ps gs (N + 1) i (by omega)) (by simp [tabT]; omega) (rowT_length _ _ _) _ (by simp; omega) ih ps.length 0 (by omega)
end
theorem entT_eq (ps : List S55) (st : Int) (gs : List Int) (mv : Int) (h : mayB ps st gs mv = true) (n j : Nat) (hj : j < ps.length) : entT ps gs (rowT ps gs n) j = entG ps (gset gs) (winSet ps gs n) j := by
  have hf := mayB_facts h
  have hto := mayB_to2 h
  have hx : ps.getD j z55 = rd_T55 ps (j : Int) := by simp [rd_T55]
  have hmem : rd_T55 ps (j : Int) ∈ ps := List.mem_of_mem_drop (drop_55 ps j hj ▸ List.mem_cons_self)
  have hidx : ∀ (p q : Int → Bool) (l : List Int) (i : Int), (∀ v ∈ l, p v = q v) → idxF p l i = idxF q l i := by
    intro p q l
    induction l with
    | nil => intro i _; rfl
    | cons a r ih =>
      intro i hpq
      simp only [idxF]
      rw [hpq a List.mem_cons_self, ih (i + 1) (fun v hv => hpq v (List.mem_cons_of_mem _ hv))]
  have hnone : ∀ (l : List Int) (i : Int), idxF (fun _ => false) l i = -1 := by
    intro l
    induction l with
    | nil => intro i; rfl
    | cons a r ih => intro i; simp [idxF, ih]
  unfold entT entG
  rw [hx, gset_get gs j (by omega)]
  cases h1 : (rd_T55 ps (j : Int)).f0 && !(decide ((j : Int) ∈ gs)) with
  | false =>
    simp only [Bool.false_eq_true, if_false]
    have : selG ps gs (rowT ps gs n) j = fun _ => false := funext fun v => by
      rw [selG, ← Bool.and_assoc, h1, Bool.false_and]
    rw [this, firstB, hnone, if_neg (by omega)]
  | true =>
    simp only [if_true]
    have hsel : ∀ v ∈ (rd_T55 ps (j : Int)).f1, selG ps gs (rowT ps gs n) j v = (winSet ps gs n).getD v.toNat false := fun v hv => by
      have hvv := hto _ hmem v hv
      rw [selG, ← Bool.and_assoc, h1, Bool.true_and, win_row ps gs hf.1 hto n v.toNat (by omega)]
      rfl
    rw [firstB, hidx _ _ _ 0 hsel]
    by_cases h2 : 0 ≤ idxF (fun v => (winSet ps gs n).getD v.toNat false) (rd_T55 ps (j : Int)).f1 0
    · rw [if_pos h2]
    · rw [if_neg h2]
      have := idxF_ge (fun v => (winSet ps gs n).getD v.toNat false) (rd_T55 ps (j : Int)).f1 0 (Int.le_refl _)
      omega
theorem Guide_ev (ps : List S55) (st : Int) (gs : List Int) (mv : Int) (hs : Small ps gs) : Ev (fun k => skolemref35_Guide.f k ps st gs mv) (if mayB ps st gs mv then (guideF ps gs mv.toNat, 0) else ([], 2)) := by
  simp only [skolemref35_Guide.f]
  refine Ev.bind (may_ev ps st gs mv hs) ?_
  cases hm : mayB ps st gs mv with
  | false =>
    simp only [Bool.false_eq_true, if_false]
    exact Ev.const _
  | true =>
    simp only [if_true]
    have hmv := mayB_mv hm
    refine Ev.bind (table_ev ps st gs mv hs hm) ?_
    refine (guide_l0 ps st gs mv hs (mayB_to2 hm) mv.toNat (by omega) (by omega) mv.toNat 0 (by omega)).cong ?_
    congr 1
    apply List.map_congr_left
    intro i _
    apply List.map_congr_left
    intro j hj
    exact entT_eq ps st gs mv hm i j (by simpa using hj)
end Go.Proofs.Ytjlehbncpjccmaa.Q
namespace Go.Proofs.Ytjlehbncpjccmaa.Q
open Go.RowKit Go.Proofs.YtjlehbncpjccmaaW.PrintWords Go.Proofs.YtjlehbncpjccmaaW.PrintLast Go.Proofs.YtjlehbncpjccmaaW.PrintMore
set_option linter.unusedVariables false
set_option linter.unusedSimpArgs false

theorem guideF_length (ps : List S55) (gs : List Int) (n : Nat) : (guideF ps gs n).length = n := by simp [guideF]
theorem guideF_rows (ps : List S55) (gs : List Int) (n : Nat) : ∀ x ∈ guideF ps gs n, x.length = ps.length := by
  intro x hx
  obtain ⟨i, _, rfl⟩ := List.mem_map.1 hx
  simp [rowG]
end Go.Proofs.Ytjlehbncpjccmaa.Q
namespace Go.Proofs.Ytjlehbncpjccmaa.Q
open Go.RowKit Go.Proofs.YtjlehbncpjccmaaW.PrintWords Go.Proofs.YtjlehbncpjccmaaW.PrintLast Go.Proofs.YtjlehbncpjccmaaW.PrintMore
attribute [local go_sem] max2_int min2_int max_two min_two max_three min_three max_four min_four   -- for this text's walks alone
set_option linter.unusedVariables false
set_option linter.unusedSimpArgs false

/-! ### skolemlaw35_PuzzleRules: function 3 -/
def skolemlaw35_PuzzleRules.f (k : Nat) (l0_0 : List (S55)) (a0_1 : Int) (l0_2 : List Int) (a0_3 : Int) (a1 : Int) (a2 : Bool) : Option (Bool) := (skolemlaw35_large.f k l0_0 a0_1 l0_2 a0_3).bind fun t301 => (if t301 = true then ((skolemlaw35_head.f k).bind fun t302 => (some t302)) else ((puzzle_Width.f l0_0 a0_1 l0_2 a0_3).bind fun bt303 => ((skolemref35_Width.f k l0_0 a0_1 l0_2 a0_3).bind fun bt305 => ((puzzle_Choice.f l0_0 a0_1 l0_2 a0_3 a1 a2).bind fun bt307 => ((skolemref35_Choice.f k l0_0 a0_1 l0_2 a0_3 a1 a2).bind fun bt311 => ((puzzle_Wins.f l0_0 a0_1 l0_2 a0_3).bind fun bt315 => ((skolemref35_Wins.f k l0_0 a0_1 l0_2 a0_3).bind fun bt317 => ((puzzle_Guide.f l0_0 a0_1 l0_2 a0_3).bind fun bt319 => ((skolemref35_Guide.f k l0_0 a0_1 l0_2 a0_3).bind fun bt323 => ((puzzle_May.f l0_0 a0_1 l0_2 a0_3).bind fun t327 => ((skolemref35_May.f k l0_0 a0_1 l0_2 a0_3).bind fun t328 => (if (t327 == t328) = true then (if bt303.1 = bt305.1 then (if bt303.2 = bt305.2 then ((skolemref03_Ints.f k bt307.1 bt311.1).bind fun t329 => (if t329 = true then (if bt307.2 = bt311.2 then (if (bt315.1 == bt317.1) = true then (if bt315.2 = bt317.2 then ((skolemref03_Lists.f k bt319.1 bt323.1).bind fun t330 => (if t330 = true then (if bt319.2 = bt323.2 then ((skolemlaw35_head.f k).bind fun t331 => (some t331)) else (some false)) else (some false))) else (some false)) else (some false)) else (some false)) else (some false))) else (some false)) else (some false)) else (some false)))))))))))))
theorem skolemlaw35_PuzzleRules.mono : ∀ a0 a1 a2 a3 a4 a5 k, LeO (skolemlaw35_PuzzleRules.f k a0 a1 a2 a3 a4 a5) (skolemlaw35_PuzzleRules.f (k + 1) a0 a1 a2 a3 a4 a5) := by
  intro a0 a1 a2 a3 a4 a5 k
  unfold skolemlaw35_PuzzleRules.f
  repeat' first
      | (with_reducible exact skolemlaw35_head.mono _)
      | (with_reducible exact skolemlaw35_large.mono _ _ _ _ _)
      | (with_reducible exact skolemref03_Ints.mono _ _ _)
      | (with_reducible exact skolemref03_Lists.mono _ _ _)
      | (with_reducible exact skolemref35_Choice.mono _ _ _ _ _ _ _)
      | (with_reducible exact skolemref35_Guide.mono _ _ _ _ _)
      | (with_reducible exact skolemref35_May.mono _ _ _ _ _)
      | (with_reducible exact skolemref35_Width.mono _ _ _ _ _)
      | (with_reducible exact skolemref35_Wins.mono _ _ _ _ _)
      | (with_reducible exact LeO.refl _)
      | (with_reducible exact LeO.none _)
      | (with_reducible refine LeO.ite ?_ ?_)
      | (with_reducible refine LeO.bind ?_ (fun _ => ?_))
      | exact skolemlaw35_head.mono _
      | exact skolemlaw35_large.mono _ _ _ _ _
      | exact skolemref03_Ints.mono _ _ _
      | exact skolemref03_Lists.mono _ _ _
      | exact skolemref35_Choice.mono _ _ _ _ _ _ _
      | exact skolemref35_Guide.mono _ _ _ _ _
      | exact skolemref35_May.mono _ _ _ _ _
      | exact skolemref35_Width.mono _ _ _ _ _
      | exact skolemref35_Wins.mono _ _ _ _ _
      | exact LeO.none _
      | refine LeO.ite ?_ ?_
      | refine LeO.bind ?_ (fun _ => ?_)
def skolemlaw35_PuzzleRules.T11 : Bool × List (List Nat × List Nat) := (true, [([], []), ([0], [0]), ([], []), ([2, 1], [2]), ([1, 3], [1, 3]), ([4, 3], [4]), ([5], [5]), ([5], [5]), ([6, 7, 5], [5, 6, 7]), ([5, 8], [5, 8]), ([9, 5], [9]), ([10], [10]), ([10], [10]), ([11, 12, 10], [10, 11, 12]), ([10, 13], [10, 13]), ([14, 10], [14]), ([15], [15]), ([15], [15]), ([16, 17, 15, 15], [15, 16, 17]), ([15, 18], [15, 18]), ([19, 18], [19]), ([20], [20]), ([20], [20]), ([21, 22, 20], [20, 21, 22]), ([20, 23], [20, 23]), ([24, 20, 0, 1, 2, 3, 4, 5, 6, 7, 8, 9, 10, 11, 12, 13, 14, 15, 16, 17, 18, 19, 20, 21, 22, 23, 24], [24])])
def skolemlaw35_PuzzleRules.B11 : List Nat := [0, 1, 0, 7, 15, 31, 63, 63, 255, 511, 1023, 2047, 2047, 8191, 16383, 32767, 65535, 65535, 262143, 524287, 1048575, 2097151, 2097151, 8388607, 16777215, 33554431]
theorem skolemlaw35_PuzzleRules.tab11 : rtab .any (opsOf Try.f3 11) = skolemlaw35_PuzzleRules.T11 := by kernel_rfl
theorem skolemlaw35_PuzzleRules.bits11 : waitsOk skolemlaw35_PuzzleRules.T11.2 skolemlaw35_PuzzleRules.B11 = true := by kernel_rfl
set_option maxHeartbeats 8000000 in
set_option maxRecDepth 100000 in
theorem skolemlaw35_PuzzleRules.callsT (k : Nat) (A0_0 : Option Addr) (c0_0 : Nat) (l0_0 : List (S55)) (a0_1 : Int) (A0_2 : Option Addr) (c0_2 : Nat) (l0_2 : List Int) (a0_3 : Int) (a1 : Int) (a2 : Bool) (r : Bool) (hr_ : r = true) (w : World) (hr0_0 : Kd.C k55 w A0_0 l0_0.length l0_0) (hc0_0 : l0_0.length ≤ c0_0) (hr0_2 : Kd.C (Kd.int .i64) w A0_2 l0_2.length l0_2) (hc0_2 : l0_2.length ≤ c0_2) (h : skolemlaw35_PuzzleRules.f k l0_0 a0_1 l0_2 a0_3 a1 a2 = some r) :
    Calls Try.prog 3 #[.agg #[.slice A0_0 l0_0.length c0_0, .int .i64 a0_1, .slice A0_2 l0_2.length c0_2, .int .i64 a0_3], .int .i64 a1, .bool a2] w fun e w' => e = .returned (.bool r) ∧ Below w.heap.size w w' := by
  have hu25 := Try.underlying25
  have HR0_0 := Aside0.mk hr0_0
  have HC0_0 := Aside0.mk hc0_0
  clear hr0_0 hc0_0
  have HR0_2 := Aside0.mk hr0_2
  have HC0_2 := Aside0.mk hc0_2
  clear hr0_2 hc0_2
  have HT_ := Aside0.mk hr_
  clear hr_
  have HB := Aside0.mk (Below.refl w.heap.size w)
  have H : ((skolemlaw35_large.f k l0_0 a0_1 l0_2 a0_3).bind fun t301 => (if t301 = true then ((skolemlaw35_head.f k).bind fun t302 => (some t302)) else ((puzzle_Width.f l0_0 a0_1 l0_2 a0_3).bind fun bt303 => ((skolemref35_Width.f k l0_0 a0_1 l0_2 a0_3).bind fun bt305 => ((puzzle_Choice.f l0_0 a0_1 l0_2 a0_3 a1 a2).bind fun bt307 => ((skolemref35_Choice.f k l0_0 a0_1 l0_2 a0_3 a1 a2).bind fun bt311 => ((puzzle_Wins.f l0_0 a0_1 l0_2 a0_3).bind fun bt315 => ((skolemref35_Wins.f k l0_0 a0_1 l0_2 a0_3).bind fun bt317 => ((puzzle_Guide.f l0_0 a0_1 l0_2 a0_3).bind fun bt319 => ((skolemref35_Guide.f k l0_0 a0_1 l0_2 a0_3).bind fun bt323 => ((puzzle_May.f l0_0 a0_1 l0_2 a0_3).bind fun t327 => ((skolemref35_May.f k l0_0 a0_1 l0_2 a0_3).bind fun t328 => (if (t327 == t328) = true then (if bt303.1 = bt305.1 then (if bt303.2 = bt305.2 then ((skolemref03_Ints.f k bt307.1 bt311.1).bind fun t329 => (if t329 = true then (if bt307.2 = bt311.2 then (if (bt315.1 == bt317.1) = true then (if bt315.2 = bt317.2 then ((skolemref03_Lists.f k bt319.1 bt323.1).bind fun t330 => (if t330 = true then (if bt319.2 = bt323.2 then ((skolemlaw35_head.f k).bind fun t331 => (some t331)) else (some false)) else (some false))) else (some false)) else (some false)) else (some false)) else (some false))) else (some false)) else (some false)) else (some false)))))))))))))) = some r := h
  clear h
  replace H := Option.bind_eq_some_iff.mp H
  obtain ⟨t301, A40, H⟩ := H
  replace H : (if t301 = true then ((skolemlaw35_head.f k).bind fun t302 => (some t302)) else ((puzzle_Width.f l0_0 a0_1 l0_2 a0_3).bind fun bt303 => ((skolemref35_Width.f k l0_0 a0_1 l0_2 a0_3).bind fun bt305 => ((puzzle_Choice.f l0_0 a0_1 l0_2 a0_3 a1 a2).bind fun bt307 => ((skolemref35_Choice.f k l0_0 a0_1 l0_2 a0_3 a1 a2).bind fun bt311 => ((puzzle_Wins.f l0_0 a0_1 l0_2 a0_3).bind fun bt315 => ((skolemref35_Wins.f k l0_0 a0_1 l0_2 a0_3).bind fun bt317 => ((puzzle_Guide.f l0_0 a0_1 l0_2 a0_3).bind fun bt319 => ((skolemref35_Guide.f k l0_0 a0_1 l0_2 a0_3).bind fun bt323 => ((puzzle_May.f l0_0 a0_1 l0_2 a0_3).bind fun t327 => ((skolemref35_May.f k l0_0 a0_1 l0_2 a0_3).bind fun t328 => (if (t327 == t328) = true then (if bt303.1 = bt305.1 then (if bt303.2 = bt305.2 then ((skolemref03_Ints.f k bt307.1 bt311.1).bind fun t329 => (if t329 = true then (if bt307.2 = bt311.2 then (if (bt315.1 == bt317.1) = true then (if bt315.2 = bt317.2 then ((skolemref03_Lists.f k bt319.1 bt323.1).bind fun t330 => (if t330 = true then (if bt319.2 = bt323.2 then ((skolemlaw35_head.f k).bind fun t331 => (some t331)) else (some false)) else (some false))) else (some false)) else (some false)) else (some false)) else (some false))) else (some false)) else (some false)) else (some false))))))))))))) = some r := H
  have A4 := Aside0.mk A40
  clear A40
  by_cases c5 : t301 = true
  · subst c5
    have H1 : ((skolemlaw35_head.f k).bind fun t302 => (some t302)) = some r := by rw [if_pos rfl] at H; exact H
    clear H
    have H := H1
    clear H1
    replace H := Option.bind_eq_some_iff.mp H
    obtain ⟨t302, A60, H⟩ := H
    replace H : (some t302) = some r := H
    have A6 := Aside0.mk A60
    clear A60
    obtain rfl := Option.some.inj H
    go_enter Try.func3, Try.ntmps3
    go_wp2_with (first | ((with_reducible refine gate_dst (N := 3) rfl ?_); refine box_event ?hg (N := 3) ?hd (cs := #[.slice A0_0 l0_0.length c0_0, .int .i64 a0_1, .slice A0_2 l0_2.length c0_2, .int .i64 a0_3]) (t := 25) ?hr ?_; (case hd => rfl); (case hg => rfl); (case hr => exact qz38); intro gb300 hg w7 hbox hb; have n0_ := Aside0.mk (below_step qz21 hb); have n1_ := Aside0.mk (hbox); have n2_ := Aside0.mk ((by rw [hg]; exact (below_size qz21) : w.heap.size ≤ gb300)); have n3_ := Aside0.mk ((by rw [hg]; exact (below_size qz21) : w.heap.size ≤ gb300)); clear HB; have HB := n0_; have BK300 := n1_; have GW300 := n2_; have GE300 := n3_; clear n0_ n1_ n2_ n3_; clear hb hbox hg; have hcz8_0 : w7.cell? ⟨gb300, 0, none⟩ = some (.slice A0_0 l0_0.length c0_0) := (blk_cell BK300.out 0).trans rfl; have hcz8_1 : w7.cell? ⟨gb300, 1, none⟩ = some (.int .i64 a0_1) := (blk_cell BK300.out 1).trans rfl; have hcz8_2 : w7.cell? ⟨gb300, 2, none⟩ = some (.slice A0_2 l0_2.length c0_2) := (blk_cell BK300.out 2).trans rfl; have hcz8_3 : w7.cell? ⟨gb300, 3, none⟩ = some (.int .i64 a0_3) := (blk_cell BK300.out 3).trans rfl; have hfz8_0 := blk_frozen BK300.out 0; have hfz8_1 := blk_frozen BK300.out 1; have hfz8_2 := blk_frozen BK300.out 2; have hfz8_3 := blk_frozen BK300.out 3) | ((with_reducible refine gate_callee (f := 8) rfl ?_); refine goesL_ (some 25) rfl rfl Try.func8 (by kernel_rfl) rfl #[.agg #[.slice A0_0 l0_0.length c0_0, .int .i64 a0_1, .slice A0_2 l0_2.length c0_2, .int .i64 a0_3]] rfl qz20 ?_; (with_reducible refine (skolemlaw35_large.calls k _ _ l0_0 a0_1 _ _ l0_2 a0_3 true _ ?side1 ?side2 ?side3 ?side4 A4.out).mono ?_); (case side1 => exact qz1); (case side2 => exact HC0_0.out); (case side3 => exact qz2); (case side4 => exact HC0_2.out); rintro e w9 ⟨rfl, hb⟩; refine ⟨_, rfl, ?_⟩; have n0_ := Aside0.mk (blk_below (g := gb300) (o := .cells #[.slice A0_0 l0_0.length c0_0, .int .i64 a0_1, .slice A0_2 l0_2.length c0_2, .int .i64 a0_3] 25 (0, 0)) qz28 hb); have n1_ := Aside0.mk (below_step qz12 hb); clear BK300; clear HB; have BK300 := n0_; have HB := n1_; clear n0_ n1_; (try clear hb); (try clear hb2); (try clear hk); (try clear hi)) | ((with_reducible refine gate_callee (f := 9) rfl ?_); refine goesL_ (some 26) rfl rfl Try.func9 (by kernel_rfl) rfl #[] rfl qz20 ?_; (with_reducible refine (skolemlaw35_head.calls k  t302 _ A6.out).mono ?_); rintro e w10 ⟨rfl, hb⟩; refine ⟨_, rfl, ?_⟩; have n0_ := Aside0.mk (blk_below (g := gb300) (o := .cells #[.slice A0_0 l0_0.length c0_0, .int .i64 a0_1, .slice A0_2 l0_2.length c0_2, .int .i64 a0_3] 25 (0, 0)) qz28 hb); have n1_ := Aside0.mk (below_step qz12 hb); clear BK300; clear HB; have BK300 := n0_; have HB := n1_; clear n0_ n1_; (try clear hb); (try clear hb2); (try clear hk); (try clear hi)))
    go_ret
    exact ⟨by first | rfl | (simp [errW_none, errW_some] <;> rfl) | (simp [*, errW_none, errW_some] <;> rfl), by repeat (first | (with_reducible first | exact HB.out | apply below_alloc | apply pw_below_drewN | apply below_drew1 | refine below_set ?_ GE300.out) | exact HB.out)⟩
  · replace c5 := Bool.eq_false_iff.mpr c5
    subst c5
    have H1 : ((puzzle_Width.f l0_0 a0_1 l0_2 a0_3).bind fun bt303 => ((skolemref35_Width.f k l0_0 a0_1 l0_2 a0_3).bind fun bt305 => ((puzzle_Choice.f l0_0 a0_1 l0_2 a0_3 a1 a2).bind fun bt307 => ((skolemref35_Choice.f k l0_0 a0_1 l0_2 a0_3 a1 a2).bind fun bt311 => ((puzzle_Wins.f l0_0 a0_1 l0_2 a0_3).bind fun bt315 => ((skolemref35_Wins.f k l0_0 a0_1 l0_2 a0_3).bind fun bt317 => ((puzzle_Guide.f l0_0 a0_1 l0_2 a0_3).bind fun bt319 => ((skolemref35_Guide.f k l0_0 a0_1 l0_2 a0_3).bind fun bt323 => ((puzzle_May.f l0_0 a0_1 l0_2 a0_3).bind fun t327 => ((skolemref35_May.f k l0_0 a0_1 l0_2 a0_3).bind fun t328 => (if (t327 == t328) = true then (if bt303.1 = bt305.1 then (if bt303.2 = bt305.2 then ((skolemref03_Ints.f k bt307.1 bt311.1).bind fun t329 => (if t329 = true then (if bt307.2 = bt311.2 then (if (bt315.1 == bt317.1) = true then (if bt315.2 = bt317.2 then ((skolemref03_Lists.f k bt319.1 bt323.1).bind fun t330 => (if t330 = true then (if bt319.2 = bt323.2 then ((skolemlaw35_head.f k).bind fun t331 => (some t331)) else (some false)) else (some false))) else (some false)) else (some false)) else (some false)) else (some false))) else (some false)) else (some false)) else (some false)))))))))))) = some r := by rw [if_neg (show ¬ (false = true) by decide)] at H; exact H
    clear H
    have H := H1
    clear H1
    replace H := Option.bind_eq_some_iff.mp H
    obtain ⟨⟨t303, t304⟩, A110, H⟩ := H
    replace H : ((skolemref35_Width.f k l0_0 a0_1 l0_2 a0_3).bind fun bt305 => ((puzzle_Choice.f l0_0 a0_1 l0_2 a0_3 a1 a2).bind fun bt307 => ((skolemref35_Choice.f k l0_0 a0_1 l0_2 a0_3 a1 a2).bind fun bt311 => ((puzzle_Wins.f l0_0 a0_1 l0_2 a0_3).bind fun bt315 => ((skolemref35_Wins.f k l0_0 a0_1 l0_2 a0_3).bind fun bt317 => ((puzzle_Guide.f l0_0 a0_1 l0_2 a0_3).bind fun bt319 => ((skolemref35_Guide.f k l0_0 a0_1 l0_2 a0_3).bind fun bt323 => ((puzzle_May.f l0_0 a0_1 l0_2 a0_3).bind fun t327 => ((skolemref35_May.f k l0_0 a0_1 l0_2 a0_3).bind fun t328 => (if (t327 == t328) = true then (if t303 = bt305.1 then (if t304 = bt305.2 then ((skolemref03_Ints.f k bt307.1 bt311.1).bind fun t329 => (if t329 = true then (if bt307.2 = bt311.2 then (if (bt315.1 == bt317.1) = true then (if bt315.2 = bt317.2 then ((skolemref03_Lists.f k bt319.1 bt323.1).bind fun t330 => (if t330 = true then (if bt319.2 = bt323.2 then ((skolemlaw35_head.f k).bind fun t331 => (some t331)) else (some false)) else (some false))) else (some false)) else (some false)) else (some false)) else (some false))) else (some false)) else (some false)) else (some false))))))))))) = some r := H
    have A11 := Aside0.mk A110
    clear A110
    replace H := Option.bind_eq_some_iff.mp H
    obtain ⟨⟨t305, t306⟩, A120, H⟩ := H
    replace H : ((puzzle_Choice.f l0_0 a0_1 l0_2 a0_3 a1 a2).bind fun bt307 => ((skolemref35_Choice.f k l0_0 a0_1 l0_2 a0_3 a1 a2).bind fun bt311 => ((puzzle_Wins.f l0_0 a0_1 l0_2 a0_3).bind fun bt315 => ((skolemref35_Wins.f k l0_0 a0_1 l0_2 a0_3).bind fun bt317 => ((puzzle_Guide.f l0_0 a0_1 l0_2 a0_3).bind fun bt319 => ((skolemref35_Guide.f k l0_0 a0_1 l0_2 a0_3).bind fun bt323 => ((puzzle_May.f l0_0 a0_1 l0_2 a0_3).bind fun t327 => ((skolemref35_May.f k l0_0 a0_1 l0_2 a0_3).bind fun t328 => (if (t327 == t328) = true then (if t303 = t305 then (if t304 = t306 then ((skolemref03_Ints.f k bt307.1 bt311.1).bind fun t329 => (if t329 = true then (if bt307.2 = bt311.2 then (if (bt315.1 == bt317.1) = true then (if bt315.2 = bt317.2 then ((skolemref03_Lists.f k bt319.1 bt323.1).bind fun t330 => (if t330 = true then (if bt319.2 = bt323.2 then ((skolemlaw35_head.f k).bind fun t331 => (some t331)) else (some false)) else (some false))) else (some false)) else (some false)) else (some false)) else (some false))) else (some false)) else (some false)) else (some false)))))))))) = some r := H
    have A12 := Aside0.mk A120
    clear A120
    replace H := Option.bind_eq_some_iff.mp H
    obtain ⟨⟨t307, t310⟩, A130, H⟩ := H
    replace H : ((skolemref35_Choice.f k l0_0 a0_1 l0_2 a0_3 a1 a2).bind fun bt311 => ((puzzle_Wins.f l0_0 a0_1 l0_2 a0_3).bind fun bt315 => ((skolemref35_Wins.f k l0_0 a0_1 l0_2 a0_3).bind fun bt317 => ((puzzle_Guide.f l0_0 a0_1 l0_2 a0_3).bind fun bt319 => ((skolemref35_Guide.f k l0_0 a0_1 l0_2 a0_3).bind fun bt323 => ((puzzle_May.f l0_0 a0_1 l0_2 a0_3).bind fun t327 => ((skolemref35_May.f k l0_0 a0_1 l0_2 a0_3).bind fun t328 => (if (t327 == t328) = true then (if t303 = t305 then (if t304 = t306 then ((skolemref03_Ints.f k t307 bt311.1).bind fun t329 => (if t329 = true then (if t310 = bt311.2 then (if (bt315.1 == bt317.1) = true then (if bt315.2 = bt317.2 then ((skolemref03_Lists.f k bt319.1 bt323.1).bind fun t330 => (if t330 = true then (if bt319.2 = bt323.2 then ((skolemlaw35_head.f k).bind fun t331 => (some t331)) else (some false)) else (some false))) else (some false)) else (some false)) else (some false)) else (some false))) else (some false)) else (some false)) else (some false))))))))) = some r := H
    have A13 := Aside0.mk A130
    clear A130
    replace H := Option.bind_eq_some_iff.mp H
    obtain ⟨⟨t311, t314⟩, A140, H⟩ := H
    replace H : ((puzzle_Wins.f l0_0 a0_1 l0_2 a0_3).bind fun bt315 => ((skolemref35_Wins.f k l0_0 a0_1 l0_2 a0_3).bind fun bt317 => ((puzzle_Guide.f l0_0 a0_1 l0_2 a0_3).bind fun bt319 => ((skolemref35_Guide.f k l0_0 a0_1 l0_2 a0_3).bind fun bt323 => ((puzzle_May.f l0_0 a0_1 l0_2 a0_3).bind fun t327 => ((skolemref35_May.f k l0_0 a0_1 l0_2 a0_3).bind fun t328 => (if (t327 == t328) = true then (if t303 = t305 then (if t304 = t306 then ((skolemref03_Ints.f k t307 t311).bind fun t329 => (if t329 = true then (if t310 = t314 then (if (bt315.1 == bt317.1) = true then (if bt315.2 = bt317.2 then ((skolemref03_Lists.f k bt319.1 bt323.1).bind fun t330 => (if t330 = true then (if bt319.2 = bt323.2 then ((skolemlaw35_head.f k).bind fun t331 => (some t331)) else (some false)) else (some false))) else (some false)) else (some false)) else (some false)) else (some false))) else (some false)) else (some false)) else (some false)))))))) = some r := H
    have A14 := Aside0.mk A140
    clear A140
    replace H := Option.bind_eq_some_iff.mp H
    obtain ⟨⟨t315, t316⟩, A150, H⟩ := H
    replace H : ((skolemref35_Wins.f k l0_0 a0_1 l0_2 a0_3).bind fun bt317 => ((puzzle_Guide.f l0_0 a0_1 l0_2 a0_3).bind fun bt319 => ((skolemref35_Guide.f k l0_0 a0_1 l0_2 a0_3).bind fun bt323 => ((puzzle_May.f l0_0 a0_1 l0_2 a0_3).bind fun t327 => ((skolemref35_May.f k l0_0 a0_1 l0_2 a0_3).bind fun t328 => (if (t327 == t328) = true then (if t303 = t305 then (if t304 = t306 then ((skolemref03_Ints.f k t307 t311).bind fun t329 => (if t329 = true then (if t310 = t314 then (if (t315 == bt317.1) = true then (if t316 = bt317.2 then ((skolemref03_Lists.f k bt319.1 bt323.1).bind fun t330 => (if t330 = true then (if bt319.2 = bt323.2 then ((skolemlaw35_head.f k).bind fun t331 => (some t331)) else (some false)) else (some false))) else (some false)) else (some false)) else (some false)) else (some false))) else (some false)) else (some false)) else (some false))))))) = some r := H
    have A15 := Aside0.mk A150
    clear A150
    replace H := Option.bind_eq_some_iff.mp H
    obtain ⟨⟨t317, t318⟩, A160, H⟩ := H
    replace H : ((puzzle_Guide.f l0_0 a0_1 l0_2 a0_3).bind fun bt319 => ((skolemref35_Guide.f k l0_0 a0_1 l0_2 a0_3).bind fun bt323 => ((puzzle_May.f l0_0 a0_1 l0_2 a0_3).bind fun t327 => ((skolemref35_May.f k l0_0 a0_1 l0_2 a0_3).bind fun t328 => (if (t327 == t328) = true then (if t303 = t305 then (if t304 = t306 then ((skolemref03_Ints.f k t307 t311).bind fun t329 => (if t329 = true then (if t310 = t314 then (if (t315 == t317) = true then (if t316 = t318 then ((skolemref03_Lists.f k bt319.1 bt323.1).bind fun t330 => (if t330 = true then (if bt319.2 = bt323.2 then ((skolemlaw35_head.f k).bind fun t331 => (some t331)) else (some false)) else (some false))) else (some false)) else (some false)) else (some false)) else (some false))) else (some false)) else (some false)) else (some false)))))) = some r := H
    have A16 := Aside0.mk A160
    clear A160
    replace H := Option.bind_eq_some_iff.mp H
    obtain ⟨⟨t319, t322⟩, A170, H⟩ := H
    replace H : ((skolemref35_Guide.f k l0_0 a0_1 l0_2 a0_3).bind fun bt323 => ((puzzle_May.f l0_0 a0_1 l0_2 a0_3).bind fun t327 => ((skolemref35_May.f k l0_0 a0_1 l0_2 a0_3).bind fun t328 => (if (t327 == t328) = true then (if t303 = t305 then (if t304 = t306 then ((skolemref03_Ints.f k t307 t311).bind fun t329 => (if t329 = true then (if t310 = t314 then (if (t315 == t317) = true then (if t316 = t318 then ((skolemref03_Lists.f k t319 bt323.1).bind fun t330 => (if t330 = true then (if t322 = bt323.2 then ((skolemlaw35_head.f k).bind fun t331 => (some t331)) else (some false)) else (some false))) else (some false)) else (some false)) else (some false)) else (some false))) else (some false)) else (some false)) else (some false))))) = some r := H
    have A17 := Aside0.mk A170
    clear A170
    replace H := Option.bind_eq_some_iff.mp H
    obtain ⟨⟨t323, t326⟩, A180, H⟩ := H
    replace H : ((puzzle_May.f l0_0 a0_1 l0_2 a0_3).bind fun t327 => ((skolemref35_May.f k l0_0 a0_1 l0_2 a0_3).bind fun t328 => (if (t327 == t328) = true then (if t303 = t305 then (if t304 = t306 then ((skolemref03_Ints.f k t307 t311).bind fun t329 => (if t329 = true then (if t310 = t314 then (if (t315 == t317) = true then (if t316 = t318 then ((skolemref03_Lists.f k t319 t323).bind fun t330 => (if t330 = true then (if t322 = t326 then ((skolemlaw35_head.f k).bind fun t331 => (some t331)) else (some false)) else (some false))) else (some false)) else (some false)) else (some false)) else (some false))) else (some false)) else (some false)) else (some false)))) = some r := H
    have A18 := Aside0.mk A180
    clear A180
    replace H := Option.bind_eq_some_iff.mp H
    obtain ⟨t327, A190, H⟩ := H
    replace H : ((skolemref35_May.f k l0_0 a0_1 l0_2 a0_3).bind fun t328 => (if (t327 == t328) = true then (if t303 = t305 then (if t304 = t306 then ((skolemref03_Ints.f k t307 t311).bind fun t329 => (if t329 = true then (if t310 = t314 then (if (t315 == t317) = true then (if t316 = t318 then ((skolemref03_Lists.f k t319 t323).bind fun t330 => (if t330 = true then (if t322 = t326 then ((skolemlaw35_head.f k).bind fun t331 => (some t331)) else (some false)) else (some false))) else (some false)) else (some false)) else (some false)) else (some false))) else (some false)) else (some false)) else (some false))) = some r := H
    have A19 := Aside0.mk A190
    clear A190
    replace H := Option.bind_eq_some_iff.mp H
    obtain ⟨t328, A200, H⟩ := H
    replace H : (if (t327 == t328) = true then (if t303 = t305 then (if t304 = t306 then ((skolemref03_Ints.f k t307 t311).bind fun t329 => (if t329 = true then (if t310 = t314 then (if (t315 == t317) = true then (if t316 = t318 then ((skolemref03_Lists.f k t319 t323).bind fun t330 => (if t330 = true then (if t322 = t326 then ((skolemlaw35_head.f k).bind fun t331 => (some t331)) else (some false)) else (some false))) else (some false)) else (some false)) else (some false)) else (some false))) else (some false)) else (some false)) else (some false)) = some r := H
    have A20 := Aside0.mk A200
    clear A200
    by_cases c21 : (t327 == t328) = true
    · rw [if_pos c21] at H
      have c21b0 : (t327 == t328) = true := c21
      (try (have c21b1 : decide (t327 = t328) = true := by simpa using c21))
      (try (have c21b2 : (t327 == t328) = true := by simpa using c21))
      clear c21
      by_cases c22 : t303 = t305
      · rw [if_pos c22] at H
        have c22b0 : (t303 == t305) = true := beq_iff_eq.mpr c22
        have c22b1 : (t303 != t305) = false := bne_eq_false_iff_eq.mpr c22
        clear c22
        by_cases c23 : t304 = t306
        · rw [if_pos c23] at H
          have c23b0 : (t304 == t306) = true := beq_iff_eq.mpr c23
          have c23b1 : (t304 != t306) = false := bne_eq_false_iff_eq.mpr c23
          clear c23
          replace H := Option.bind_eq_some_iff.mp H
          obtain ⟨t329, A240, H⟩ := H
          replace H : (if t329 = true then (if t310 = t314 then (if (t315 == t317) = true then (if t316 = t318 then ((skolemref03_Lists.f k t319 t323).bind fun t330 => (if t330 = true then (if t322 = t326 then ((skolemlaw35_head.f k).bind fun t331 => (some t331)) else (some false)) else (some false))) else (some false)) else (some false)) else (some false)) else (some false)) = some r := H
          have A24 := Aside0.mk A240
          clear A240
          by_cases c25 : t329 = true
          · subst c25
            have H1 : (if t310 = t314 then (if (t315 == t317) = true then (if t316 = t318 then ((skolemref03_Lists.f k t319 t323).bind fun t330 => (if t330 = true then (if t322 = t326 then ((skolemlaw35_head.f k).bind fun t331 => (some t331)) else (some false)) else (some false))) else (some false)) else (some false)) else (some false)) = some r := by rw [if_pos rfl] at H; exact H
            clear H
            have H := H1
            clear H1
            by_cases c26 : t310 = t314
            · rw [if_pos c26] at H
              have c26b0 : (t310 == t314) = true := beq_iff_eq.mpr c26
              have c26b1 : (t310 != t314) = false := bne_eq_false_iff_eq.mpr c26
              clear c26
              by_cases c27 : (t315 == t317) = true
              · rw [if_pos c27] at H
                have c27b0 : (t315 == t317) = true := c27
                (try (have c27b1 : decide (t315 = t317) = true := by simpa using c27))
                (try (have c27b2 : (t315 == t317) = true := by simpa using c27))
                clear c27
                by_cases c28 : t316 = t318
                · rw [if_pos c28] at H
                  have c28b0 : (t316 == t318) = true := beq_iff_eq.mpr c28
                  have c28b1 : (t316 != t318) = false := bne_eq_false_iff_eq.mpr c28
                  clear c28
                  replace H := Option.bind_eq_some_iff.mp H
                  obtain ⟨t330, A290, H⟩ := H
                  replace H : (if t330 = true then (if t322 = t326 then ((skolemlaw35_head.f k).bind fun t331 => (some t331)) else (some false)) else (some false)) = some r := H
                  have A29 := Aside0.mk A290
                  clear A290
                  by_cases c30 : t330 = true
                  · subst c30
                    have H1 : (if t322 = t326 then ((skolemlaw35_head.f k).bind fun t331 => (some t331)) else (some false)) = some r := by rw [if_pos rfl] at H; exact H
                    clear H
                    have H := H1
                    clear H1
                    by_cases c31 : t322 = t326
                    · rw [if_pos c31] at H
                      have c31b0 : (t322 == t326) = true := beq_iff_eq.mpr c31
                      have c31b1 : (t322 != t326) = false := bne_eq_false_iff_eq.mpr c31
                      clear c31
                      replace H := Option.bind_eq_some_iff.mp H
                      obtain ⟨t331, A320, H⟩ := H
                      replace H : (some t331) = some r := H
                      have A32 := Aside0.mk A320
                      clear A320
                      obtain rfl := Option.some.inj H
                      go_enter Try.func3, Try.ntmps3
                      try go_wp2_with (first | ((with_reducible refine gate_dst (N := 3) rfl ?_); refine box_event ?hg (N := 3) ?hd (cs := #[.slice A0_0 l0_0.length c0_0, .int .i64 a0_1, .slice A0_2 l0_2.length c0_2, .int .i64 a0_3]) (t := 25) ?hr ?_; (case hd => rfl); (case hg => rfl); (case hr => exact qz38); intro gb300 hg w33 hbox hb; have n0_ := Aside0.mk (below_step qz21 hb); have n1_ := Aside0.mk (hbox); have n2_ := Aside0.mk ((by rw [hg]; exact (below_size qz21) : w.heap.size ≤ gb300)); have n3_ := Aside0.mk ((by rw [hg]; exact (below_size qz21) : w.heap.size ≤ gb300)); clear HB; have HB := n0_; have BK300 := n1_; have GW300 := n2_; have GE300 := n3_; clear n0_ n1_ n2_ n3_; clear hb hbox hg; have hcz34_0 : w33.cell? ⟨gb300, 0, none⟩ = some (.slice A0_0 l0_0.length c0_0) := (blk_cell BK300.out 0).trans rfl; have hcz34_1 : w33.cell? ⟨gb300, 1, none⟩ = some (.int .i64 a0_1) := (blk_cell BK300.out 1).trans rfl; have hcz34_2 : w33.cell? ⟨gb300, 2, none⟩ = some (.slice A0_2 l0_2.length c0_2) := (blk_cell BK300.out 2).trans rfl; have hcz34_3 : w33.cell? ⟨gb300, 3, none⟩ = some (.int .i64 a0_3) := (blk_cell BK300.out 3).trans rfl; have hfz34_0 := blk_frozen BK300.out 0; have hfz34_1 := blk_frozen BK300.out 1; have hfz34_2 := blk_frozen BK300.out 2; have hfz34_3 := blk_frozen BK300.out 3) | ((with_reducible refine gate_callee (f := 8) rfl ?_); refine goesL_ (some 25) rfl rfl Try.func8 (by kernel_rfl) rfl #[.agg #[.slice A0_0 l0_0.length c0_0, .int .i64 a0_1, .slice A0_2 l0_2.length c0_2, .int .i64 a0_3]] rfl qz20 ?_; (with_reducible refine (skolemlaw35_large.calls k _ _ l0_0 a0_1 _ _ l0_2 a0_3 false _ ?side1 ?side2 ?side3 ?side4 A4.out).mono ?_); (case side1 => exact qz1); (case side2 => exact HC0_0.out); (case side3 => exact qz2); (case side4 => exact HC0_2.out); rintro e w35 ⟨rfl, hb⟩; refine ⟨_, rfl, ?_⟩; have n0_ := Aside0.mk (blk_below (g := gb300) (o := .cells #[.slice A0_0 l0_0.length c0_0, .int .i64 a0_1, .slice A0_2 l0_2.length c0_2, .int .i64 a0_3] 25 (0, 0)) qz28 hb); have n1_ := Aside0.mk (below_step qz12 hb); clear BK300; clear HB; have BK300 := n0_; have HB := n1_; clear n0_ n1_; (try clear hb); (try clear hb2); (try clear hk); (try clear hi); have hcz36_0 : w35.cell? ⟨gb300, 0, none⟩ = some (.slice A0_0 l0_0.length c0_0) := (blk_cell BK300.out 0).trans rfl; have hcz36_1 : w35.cell? ⟨gb300, 1, none⟩ = some (.int .i64 a0_1) := (blk_cell BK300.out 1).trans rfl; have hcz36_2 : w35.cell? ⟨gb300, 2, none⟩ = some (.slice A0_2 l0_2.length c0_2) := (blk_cell BK300.out 2).trans rfl; have hcz36_3 : w35.cell? ⟨gb300, 3, none⟩ = some (.int .i64 a0_3) := (blk_cell BK300.out 3).trans rfl; have hfz36_0 := blk_frozen BK300.out 0; have hfz36_1 := blk_frozen BK300.out 1; have hfz36_2 := blk_frozen BK300.out 2; have hfz36_3 := blk_frozen BK300.out 3) | ((with_reducible refine gate_callee (f := 10) rfl ?_); refine goesL_ (some 29) rfl rfl Try.func10 (by kernel_rfl) rfl #[.agg #[.slice A0_0 l0_0.length c0_0, .int .i64 a0_1, .slice A0_2 l0_2.length c0_2, .int .i64 a0_3]] rfl qz20 ?_; (with_reducible refine (puzzle_Width.calls _ _ l0_0 a0_1 _ _ l0_2 a0_3 t303 t304 _ ?side1 ?side2 ?side3 ?side4 A11.out).mono ?_); (case side1 => exact qz1); (case side2 => exact HC0_0.out); (case side3 => exact qz2); (case side4 => exact HC0_2.out); rintro e w37 ⟨rfl, hb⟩; refine ⟨_, rfl, ?_⟩; have n0_ := Aside0.mk (blk_below (g := gb300) (o := .cells #[.slice A0_0 l0_0.length c0_0, .int .i64 a0_1, .slice A0_2 l0_2.length c0_2, .int .i64 a0_3] 25 (0, 0)) qz28 hb); have n1_ := Aside0.mk (below_step qz12 hb); clear BK300; clear HB; have BK300 := n0_; have HB := n1_; clear n0_ n1_; (try clear hb); (try clear hb2); (try clear hk); (try clear hi); have hcz38_0 : w37.cell? ⟨gb300, 0, none⟩ = some (.slice A0_0 l0_0.length c0_0) := (blk_cell BK300.out 0).trans rfl; have hcz38_1 : w37.cell? ⟨gb300, 1, none⟩ = some (.int .i64 a0_1) := (blk_cell BK300.out 1).trans rfl; have hcz38_2 : w37.cell? ⟨gb300, 2, none⟩ = some (.slice A0_2 l0_2.length c0_2) := (blk_cell BK300.out 2).trans rfl; have hcz38_3 : w37.cell? ⟨gb300, 3, none⟩ = some (.int .i64 a0_3) := (blk_cell BK300.out 3).trans rfl; have hfz38_0 := blk_frozen BK300.out 0; have hfz38_1 := blk_frozen BK300.out 1; have hfz38_2 := blk_frozen BK300.out 2; have hfz38_3 := blk_frozen BK300.out 3) | ((with_reducible refine gate_callee (f := 11) rfl ?_); refine goesL_ (some 34) rfl rfl Try.func11 (by kernel_rfl) rfl #[.agg #[.slice A0_0 l0_0.length c0_0, .int .i64 a0_1, .slice A0_2 l0_2.length c0_2, .int .i64 a0_3]] rfl qz20 ?_; (with_reducible refine (skolemref35_Width.calls k _ _ l0_0 a0_1 _ _ l0_2 a0_3 t305 t306 _ ?side1 ?side2 ?side3 ?side4 A12.out).mono ?_); (case side1 => exact qz1); (case side2 => exact HC0_0.out); (case side3 => exact qz2); (case side4 => exact HC0_2.out); rintro e w39 ⟨rfl, hb⟩; refine ⟨_, rfl, ?_⟩; have n0_ := Aside0.mk (blk_below (g := gb300) (o := .cells #[.slice A0_0 l0_0.length c0_0, .int .i64 a0_1, .slice A0_2 l0_2.length c0_2, .int .i64 a0_3] 25 (0, 0)) qz28 hb); have n1_ := Aside0.mk (below_step qz12 hb); clear BK300; clear HB; have BK300 := n0_; have HB := n1_; clear n0_ n1_; (try clear hb); (try clear hb2); (try clear hk); (try clear hi); have hcz40_0 : w39.cell? ⟨gb300, 0, none⟩ = some (.slice A0_0 l0_0.length c0_0) := (blk_cell BK300.out 0).trans rfl; have hcz40_1 : w39.cell? ⟨gb300, 1, none⟩ = some (.int .i64 a0_1) := (blk_cell BK300.out 1).trans rfl; have hcz40_2 : w39.cell? ⟨gb300, 2, none⟩ = some (.slice A0_2 l0_2.length c0_2) := (blk_cell BK300.out 2).trans rfl; have hcz40_3 : w39.cell? ⟨gb300, 3, none⟩ = some (.int .i64 a0_3) := (blk_cell BK300.out 3).trans rfl; have hfz40_0 := blk_frozen BK300.out 0; have hfz40_1 := blk_frozen BK300.out 1; have hfz40_2 := blk_frozen BK300.out 2; have hfz40_3 := blk_frozen BK300.out 3) | ((with_reducible refine gate_callee (f := 12) rfl ?_); refine goesL_ (some 41) rfl rfl Try.func12 (by kernel_rfl) rfl #[.agg #[.slice A0_0 l0_0.length c0_0, .int .i64 a0_1, .slice A0_2 l0_2.length c0_2, .int .i64 a0_3], .int .i64 a1, .bool a2] rfl qz20 ?_; (with_reducible refine (puzzle_Choice.calls _ _ l0_0 a0_1 _ _ l0_2 a0_3 a1 a2 t307 t310 _ ?side1 ?side2 ?side3 ?side4 A13.out).mono ?_); (case side1 => exact qz1); (case side2 => exact HC0_0.out); (case side3 => exact qz2); (case side4 => exact HC0_2.out); rintro e w41 ⟨v308, rfl, ho0, hb⟩; refine ⟨_, rfl, ?_⟩; have n0_ := Aside0.mk (Kd.R_lower ho0 (below_size qz12)); have n1_ := Aside0.mk (blk_below (g := gb300) (o := .cells #[.slice A0_0 l0_0.length c0_0, .int .i64 a0_1, .slice A0_2 l0_2.length c0_2, .int .i64 a0_3] 25 (0, 0)) qz28 hb); have n2_ := Aside0.mk (below_step qz12 hb); clear BK300; clear HB; have HO309 := n0_; have BK300 := n1_; have HB := n2_; clear n0_ n1_ n2_; (try clear hb); (try clear hb2); (try clear hk); (try clear hi); (try clear ho0); have hcz42_0 : w41.cell? ⟨gb300, 0, none⟩ = some (.slice A0_0 l0_0.length c0_0) := (blk_cell BK300.out 0).trans rfl; have hcz42_1 : w41.cell? ⟨gb300, 1, none⟩ = some (.int .i64 a0_1) := (blk_cell BK300.out 1).trans rfl; have hcz42_2 : w41.cell? ⟨gb300, 2, none⟩ = some (.slice A0_2 l0_2.length c0_2) := (blk_cell BK300.out 2).trans rfl; have hcz42_3 : w41.cell? ⟨gb300, 3, none⟩ = some (.int .i64 a0_3) := (blk_cell BK300.out 3).trans rfl; have hfz42_0 := blk_frozen BK300.out 0; have hfz42_1 := blk_frozen BK300.out 1; have hfz42_2 := blk_frozen BK300.out 2; have hfz42_3 := blk_frozen BK300.out 3) | ((with_reducible refine gate_callee (f := 13) rfl ?_); refine goesL_ (some 48) rfl rfl Try.func13 (by kernel_rfl) rfl #[.agg #[.slice A0_0 l0_0.length c0_0, .int .i64 a0_1, .slice A0_2 l0_2.length c0_2, .int .i64 a0_3], .int .i64 a1, .bool a2] rfl qz20 ?_; (with_reducible refine (skolemref35_Choice.calls k _ _ l0_0 a0_1 _ _ l0_2 a0_3 a1 a2 t311 t314 _ ?side1 ?side2 ?side3 ?side4 A14.out).mono ?_); (case side1 => exact qz1); (case side2 => exact HC0_0.out); (case side3 => exact qz2); (case side4 => exact HC0_2.out); rintro e w43 ⟨v312, rfl, ho0, hb⟩; refine ⟨_, rfl, ?_⟩; have n0_ := Aside0.mk (Kd.R_elder' qz30 (Kd.R_base ho0) hb); have n1_ := Aside0.mk (Kd.R_lower (Kd.R_new' ho0 (Kd.R_lt qz30)) (below_size qz12)); have n2_ := Aside0.mk (blk_below (g := gb300) (o := .cells #[.slice A0_0 l0_0.length c0_0, .int .i64 a0_1, .slice A0_2 l0_2.length c0_2, .int .i64 a0_3] 25 (0, 0)) qz28 hb); have n3_ := Aside0.mk (below_step qz12 hb); clear HO309; clear BK300; clear HB; have HO309 := n0_; have HO313 := n1_; have BK300 := n2_; have HB := n3_; clear n0_ n1_ n2_ n3_; (try clear hb); (try clear hb2); (try clear hk); (try clear hi); (try clear ho0); have hcz44_0 : w43.cell? ⟨gb300, 0, none⟩ = some (.slice A0_0 l0_0.length c0_0) := (blk_cell BK300.out 0).trans rfl; have hcz44_1 : w43.cell? ⟨gb300, 1, none⟩ = some (.int .i64 a0_1) := (blk_cell BK300.out 1).trans rfl; have hcz44_2 : w43.cell? ⟨gb300, 2, none⟩ = some (.slice A0_2 l0_2.length c0_2) := (blk_cell BK300.out 2).trans rfl; have hcz44_3 : w43.cell? ⟨gb300, 3, none⟩ = some (.int .i64 a0_3) := (blk_cell BK300.out 3).trans rfl; have hfz44_0 := blk_frozen BK300.out 0; have hfz44_1 := blk_frozen BK300.out 1; have hfz44_2 := blk_frozen BK300.out 2; have hfz44_3 := blk_frozen BK300.out 3) | ((with_reducible refine gate_callee (f := 14) rfl ?_); refine goesL_ (some 53) rfl rfl Try.func14 (by kernel_rfl) rfl #[.agg #[.slice A0_0 l0_0.length c0_0, .int .i64 a0_1, .slice A0_2 l0_2.length c0_2, .int .i64 a0_3]] rfl qz20 ?_; (with_reducible refine (puzzle_Wins.calls _ _ l0_0 a0_1 _ _ l0_2 a0_3 t315 t316 _ ?side1 ?side2 ?side3 ?side4 A15.out).mono ?_); (case side1 => exact qz1); (case side2 => exact HC0_0.out); (case side3 => exact qz2); (case side4 => exact HC0_2.out); rintro e w45 ⟨rfl, hb⟩; refine ⟨_, rfl, ?_⟩; have n0_ := Aside0.mk (Kd.R_below qz30 hb); have n1_ := Aside0.mk (Kd.R_below qz31 hb); have n2_ := Aside0.mk (blk_below (g := gb300) (o := .cells #[.slice A0_0 l0_0.length c0_0, .int .i64 a0_1, .slice A0_2 l0_2.length c0_2, .int .i64 a0_3] 25 (0, 0)) qz28 hb); have n3_ := Aside0.mk (below_step qz12 hb); clear HO309; clear HO313; clear BK300; clear HB; have HO309 := n0_; have HO313 := n1_; have BK300 := n2_; have HB := n3_; clear n0_ n1_ n2_ n3_; (try clear hb); (try clear hb2); (try clear hk); (try clear hi); have hcz46_0 : w45.cell? ⟨gb300, 0, none⟩ = some (.slice A0_0 l0_0.length c0_0) := (blk_cell BK300.out 0).trans rfl; have hcz46_1 : w45.cell? ⟨gb300, 1, none⟩ = some (.int .i64 a0_1) := (blk_cell BK300.out 1).trans rfl; have hcz46_2 : w45.cell? ⟨gb300, 2, none⟩ = some (.slice A0_2 l0_2.length c0_2) := (blk_cell BK300.out 2).trans rfl; have hcz46_3 : w45.cell? ⟨gb300, 3, none⟩ = some (.int .i64 a0_3) := (blk_cell BK300.out 3).trans rfl; have hfz46_0 := blk_frozen BK300.out 0; have hfz46_1 := blk_frozen BK300.out 1; have hfz46_2 := blk_frozen BK300.out 2; have hfz46_3 := blk_frozen BK300.out 3) | ((with_reducible refine gate_callee (f := 15) rfl ?_); refine goesL_ (some 58) rfl rfl Try.func15 (by kernel_rfl) rfl #[.agg #[.slice A0_0 l0_0.length c0_0, .int .i64 a0_1, .slice A0_2 l0_2.length c0_2, .int .i64 a0_3]] rfl qz20 ?_; (with_reducible refine (skolemref35_Wins.calls k _ _ l0_0 a0_1 _ _ l0_2 a0_3 t317 t318 _ ?side1 ?side2 ?side3 ?side4 A16.out).mono ?_); (case side1 => exact qz1); (case side2 => exact HC0_0.out); (case side3 => exact qz2); (case side4 => exact HC0_2.out); rintro e w47 ⟨rfl, hb⟩; refine ⟨_, rfl, ?_⟩; have n0_ := Aside0.mk (Kd.R_below qz30 hb); have n1_ := Aside0.mk (Kd.R_below qz31 hb); have n2_ := Aside0.mk (blk_below (g := gb300) (o := .cells #[.slice A0_0 l0_0.length c0_0, .int .i64 a0_1, .slice A0_2 l0_2.length c0_2, .int .i64 a0_3] 25 (0, 0)) qz28 hb); have n3_ := Aside0.mk (below_step qz12 hb); clear HO309; clear HO313; clear BK300; clear HB; have HO309 := n0_; have HO313 := n1_; have BK300 := n2_; have HB := n3_; clear n0_ n1_ n2_ n3_; (try clear hb); (try clear hb2); (try clear hk); (try clear hi); have hcz48_0 : w47.cell? ⟨gb300, 0, none⟩ = some (.slice A0_0 l0_0.length c0_0) := (blk_cell BK300.out 0).trans rfl; have hcz48_1 : w47.cell? ⟨gb300, 1, none⟩ = some (.int .i64 a0_1) := (blk_cell BK300.out 1).trans rfl; have hcz48_2 : w47.cell? ⟨gb300, 2, none⟩ = some (.slice A0_2 l0_2.length c0_2) := (blk_cell BK300.out 2).trans rfl; have hcz48_3 : w47.cell? ⟨gb300, 3, none⟩ = some (.int .i64 a0_3) := (blk_cell BK300.out 3).trans rfl; have hfz48_0 := blk_frozen BK300.out 0; have hfz48_1 := blk_frozen BK300.out 1; have hfz48_2 := blk_frozen BK300.out 2; have hfz48_3 := blk_frozen BK300.out 3) | ((with_reducible refine gate_callee (f := 16) rfl ?_); refine goesL_ (some 63) rfl rfl Try.func16 (by kernel_rfl) rfl #[.agg #[.slice A0_0 l0_0.length c0_0, .int .i64 a0_1, .slice A0_2 l0_2.length c0_2, .int .i64 a0_3]] rfl qz20 ?_; (with_reducible refine (puzzle_Guide.calls _ _ l0_0 a0_1 _ _ l0_2 a0_3 t319 t322 _ ?side1 ?side2 ?side3 ?side4 A17.out).mono ?_); (case side1 => exact qz1); (case side2 => exact HC0_0.out); (case side3 => exact qz2); (case side4 => exact HC0_2.out); rintro e w49 ⟨v320, rfl, ho0, hb⟩; refine ⟨_, rfl, ?_⟩; have n0_ := Aside0.mk (Kd.R_below qz30 hb); have n1_ := Aside0.mk (Kd.R_below qz31 hb); have n2_ := Aside0.mk (Kd.S_lower (Kd.S_new' (Kd.S_new' ho0 (Kd.R_lt qz30)) (Kd.R_lt qz31)) (below_size qz12)); have n3_ := Aside0.mk (blk_below (g := gb300) (o := .cells #[.slice A0_0 l0_0.length c0_0, .int .i64 a0_1, .slice A0_2 l0_2.length c0_2, .int .i64 a0_3] 25 (0, 0)) qz28 hb); have n4_ := Aside0.mk (below_step qz12 hb); clear HO309; clear HO313; clear BK300; clear HB; have HO309 := n0_; have HO313 := n1_; have HO321 := n2_; have BK300 := n3_; have HB := n4_; clear n0_ n1_ n2_ n3_ n4_; (try clear hb); (try clear hb2); (try clear hk); (try clear hi); (try clear ho0); have hcz50_0 : w49.cell? ⟨gb300, 0, none⟩ = some (.slice A0_0 l0_0.length c0_0) := (blk_cell BK300.out 0).trans rfl; have hcz50_1 : w49.cell? ⟨gb300, 1, none⟩ = some (.int .i64 a0_1) := (blk_cell BK300.out 1).trans rfl; have hcz50_2 : w49.cell? ⟨gb300, 2, none⟩ = some (.slice A0_2 l0_2.length c0_2) := (blk_cell BK300.out 2).trans rfl; have hcz50_3 : w49.cell? ⟨gb300, 3, none⟩ = some (.int .i64 a0_3) := (blk_cell BK300.out 3).trans rfl; have hfz50_0 := blk_frozen BK300.out 0; have hfz50_1 := blk_frozen BK300.out 1; have hfz50_2 := blk_frozen BK300.out 2; have hfz50_3 := blk_frozen BK300.out 3) | ((with_reducible refine gate_callee (f := 17) rfl ?_); refine goesL_ (some 68) rfl rfl Try.func17 (by kernel_rfl) rfl #[.agg #[.slice A0_0 l0_0.length c0_0, .int .i64 a0_1, .slice A0_2 l0_2.length c0_2, .int .i64 a0_3]] rfl qz20 ?_; (with_reducible refine (skolemref35_Guide.calls k _ _ l0_0 a0_1 _ _ l0_2 a0_3 t323 t326 _ ?side1 ?side2 ?side3 ?side4 A18.out).mono ?_); (case side1 => exact qz1); (case side2 => exact HC0_0.out); (case side3 => exact qz2); (case side4 => exact HC0_2.out); rintro e w51 ⟨v324, rfl, ho0, hb⟩; refine ⟨_, rfl, ?_⟩; have n0_ := Aside0.mk (Kd.R_below qz30 hb); have n1_ := Aside0.mk (Kd.R_below qz31 hb); have n2_ := Aside0.mk (Kd.S_elder' qz32 (Kd.S_base ho0) hb); have n3_ := Aside0.mk (Kd.S_lower (Kd.S_new' (Kd.S_new' (Kd.S_new' ho0 (Kd.R_lt qz30)) (Kd.R_lt qz31)) (Kd.S_lt qz32)) (below_size qz12)); have n4_ := Aside0.mk (blk_below (g := gb300) (o := .cells #[.slice A0_0 l0_0.length c0_0, .int .i64 a0_1, .slice A0_2 l0_2.length c0_2, .int .i64 a0_3] 25 (0, 0)) qz28 hb); have n5_ := Aside0.mk (below_step qz12 hb); clear HO309; clear HO313; clear HO321; clear BK300; clear HB; have HO309 := n0_; have HO313 := n1_; have HO321 := n2_; have HO325 := n3_; have BK300 := n4_; have HB := n5_; clear n0_ n1_ n2_ n3_ n4_ n5_; (try clear hb); (try clear hb2); (try clear hk); (try clear hi); (try clear ho0)))
                      have n0_ := Aside0.mk (Kd.R_drew HO309.out)
                      have n1_ := Aside0.mk (Kd.R_drew HO313.out)
                      have n2_ := Aside0.mk (Kd.S_drew HO321.out)
                      have n3_ := Aside0.mk (Kd.S_drew HO325.out)
                      have n4_ := Aside0.mk (blk_drew BK300.out)
                      have n5_ := Aside0.mk (below_drew1 HB.out)
                      clear HO309
                      clear HO313
                      clear HO321
                      clear HO325
                      clear BK300
                      clear HB
                      have HO309 := n0_
                      have HO313 := n1_
                      have HO321 := n2_
                      have HO325 := n3_
                      have BK300 := n4_
                      have HB := n5_
                      clear n0_ n1_ n2_ n3_ n4_ n5_
                      refine start_ (n := 26) (S := fun w' => w'.cell? ⟨gb300, 0, none⟩ = some (.slice A0_0 l0_0.length c0_0) ∧ w'.cell? ⟨gb300, 1, none⟩ = some (.int .i64 a0_1) ∧ w'.cell? ⟨gb300, 2, none⟩ = some (.slice A0_2 l0_2.length c0_2) ∧ w'.cell? ⟨gb300, 3, none⟩ = some (.int .i64 a0_3)) (ds := []) #[false, false, false, false, false, false, false, false, false, false, false, false, false, false, false, false, false, false, false, false, false, false, false, false, false, false] (by kernel_rfl) rfl rfl ⟨(blk_cell BK300.out 0).trans rfl, (blk_cell BK300.out 1).trans rfl, (blk_cell BK300.out 2).trans rfl, (blk_cell BK300.out 3).trans rfl⟩ (fun hHeld => ?_); refine with_tabW skolemlaw35_PuzzleRules.tab11 skolemlaw35_PuzzleRules.bits11 (fun HT_ HW_ => ?_)
                      generalize w51.drew = w52 at HO309 HO313 HO321 HO325 BK300 HB hHeld ⊢
                      refine take_ (i := 0) (N := some 71) (v := ?_) (a' := ?_) #[true, false, false, false, false, false, false, false, false, false, false, false, false, false, false, false, false, false, false, false, false, false, false, false, false, false] rfl rfl (take_ofW HT_.out HW_.out (by kernel_rfl)) (fun _ _ _ h => h) (Or.inl ⟨by rfl, ?_⟩) hHeld ?_ ?_
                      rotate_left
                      · rintro w' ⟨s0, s1, s2, s3⟩
                        go_simp
                        with_reducible rfl
                      rotate_left
                      · simp only [Act.put, List.setIfInBounds_toArray, List.set_cons_zero, List.set_cons_succ, i64_w, i32_w]
                        rfl
                      refine take_ (i := 2) (N := some 73) (v := ?_) (a' := ?_) #[true, false, true, false, false, false, false, false, false, false, false, false, false, false, false, false, false, false, false, false, false, false, false, false, false, false] rfl rfl (take_ofW HT_.out HW_.out (by kernel_rfl)) (fun _ _ _ h => h) (Or.inl ⟨by rfl, ?_⟩) hHeld ?_ ?_
                      rotate_left
                      · rintro w' ⟨s0, s1, s2, s3⟩
                        go_simp
                        with_reducible rfl
                      rotate_left
                      · simp only [Act.put, List.setIfInBounds_toArray, List.set_cons_zero, List.set_cons_succ, i64_w, i32_w]
                        rfl
                      refine one_ (i := 1) (N := some 72) #[true, true, true, false, false, false, false, false, false, false, false, false, false, false, false, false, false, false, false, false, false, false, false, false, false, false] rfl rfl (one_of HT_.out (by kernel_rfl)) (by decide) (fun K hK => ?_)
                      refine goes_ Try.func18 (by kernel_rfl) rfl #[.agg #[.slice A0_0 l0_0.length c0_0, .int .i64 a0_1, .slice A0_2 l0_2.length c0_2, .int .i64 a0_3]] (by rfl) rfl rfl qz20 ?_
                      with_reducible refine (puzzle_May.calls _ _ l0_0 a0_1 _ _ l0_2 a0_3 t327 _ ?side1 ?side2 ?side3 ?side4 A19.out).mono ?_
                      (case side1 => exact qz1)
                      (case side2 => exact HC0_0.out)
                      (case side3 => exact qz2)
                      (case side4 => exact HC0_2.out)
                      rintro e w53 ⟨rfl, hb⟩
                      refine ⟨_, rfl, ?_⟩
                      have n0_ := Aside0.mk (Kd.R_below qz30 hb)
                      have n1_ := Aside0.mk (Kd.R_below qz31 hb)
                      have n2_ := Aside0.mk (Kd.S_below qz32 hb)
                      have n3_ := Aside0.mk (Kd.S_below (by (with_reducible repeat (first | apply Kd.S_alloc | apply Kd.S_drewN | apply Kd.S_drew)); exact HO325.out) hb)
                      have n4_ := Aside0.mk (blk_below (g := gb300) (o := .cells #[.slice A0_0 l0_0.length c0_0, .int .i64 a0_1, .slice A0_2 l0_2.length c0_2, .int .i64 a0_3] 25 (0, 0)) qz28 hb)
                      have n5_ := Aside0.mk (below_step qz12 hb)
                      clear HO309
                      clear HO313
                      clear HO321
                      clear HO325
                      clear BK300
                      clear HB
                      have HO309 := n0_
                      have HO313 := n1_
                      have HO321 := n2_
                      have HO325 := n3_
                      have BK300 := n4_
                      have HB := n5_
                      clear n0_ n1_ n2_ n3_ n4_ n5_
                      (try clear hb)
                      (try clear hb2)
                      (try clear hk)
                      (try clear hi)
                      refine hK.out _ _ ⟨(blk_cell BK300.out 0).trans rfl, (blk_cell BK300.out 1).trans rfl, (blk_cell BK300.out 2).trans rfl, (blk_cell BK300.out 3).trans rfl⟩ (fun hHeld => ?_)
                      clear hK K
                      refine norm_ (a' := ?_) ?_ ?_
                      rotate_left
                      · show Act.put _ (some 72) _ = _
                        simp only [Act.put, List.setIfInBounds_toArray, List.set_cons_zero, List.set_cons_succ, i64_w, i32_w]
                        rfl
                      refine one_ (i := 3) (N := some 74) #[true, true, true, true, false, false, false, false, false, false, false, false, false, false, false, false, false, false, false, false, false, false, false, false, false, false] rfl rfl (one_of HT_.out (by kernel_rfl)) (by decide) (fun K hK => ?_)
                      refine goes_ Try.func19 (by kernel_rfl) rfl #[.agg #[.slice A0_0 l0_0.length c0_0, .int .i64 a0_1, .slice A0_2 l0_2.length c0_2, .int .i64 a0_3]] (by rfl) rfl rfl qz20 ?_
                      with_reducible refine (skolemref35_May.calls k _ _ l0_0 a0_1 _ _ l0_2 a0_3 t328 _ ?side1 ?side2 ?side3 ?side4 A20.out).mono ?_
                      (case side1 => exact qz1)
                      (case side2 => exact HC0_0.out)
                      (case side3 => exact qz2)
                      (case side4 => exact HC0_2.out)
                      rintro e w54 ⟨rfl, hb⟩
                      refine ⟨_, rfl, ?_⟩
                      have n0_ := Aside0.mk (Kd.R_below qz30 hb)
                      have n1_ := Aside0.mk (Kd.R_below qz31 hb)
                      have n2_ := Aside0.mk (Kd.S_below qz32 hb)
                      have n3_ := Aside0.mk (Kd.S_below (by (with_reducible repeat (first | apply Kd.S_alloc | apply Kd.S_drewN | apply Kd.S_drew)); exact HO325.out) hb)
                      have n4_ := Aside0.mk (blk_below (g := gb300) (o := .cells #[.slice A0_0 l0_0.length c0_0, .int .i64 a0_1, .slice A0_2 l0_2.length c0_2, .int .i64 a0_3] 25 (0, 0)) qz28 hb)
                      have n5_ := Aside0.mk (below_step qz12 hb)
                      clear HO309
                      clear HO313
                      clear HO321
                      clear HO325
                      clear BK300
                      clear HB
                      have HO309 := n0_
                      have HO313 := n1_
                      have HO321 := n2_
                      have HO325 := n3_
                      have BK300 := n4_
                      have HB := n5_
                      clear n0_ n1_ n2_ n3_ n4_ n5_
                      (try clear hb)
                      (try clear hb2)
                      (try clear hk)
                      (try clear hi)
                      obtain ⟨Ao55, co55, eo55⟩ := Kd.R_slice HO309.out
                      (first | subst eo55 | (injection eo55 with f1_ f2_ f3_; have f4_ := f1_.symm; have f5_ := f3_.symm; clear f1_ f2_ f3_; subst f4_; subst f5_))
                      obtain ⟨Ao56, co56, eo56⟩ := Kd.R_slice HO313.out
                      (first | subst eo56 | (injection eo56 with f1_ f2_ f3_; have f4_ := f1_.symm; have f5_ := f3_.symm; clear f1_ f2_ f3_; subst f4_; subst f5_))
                      refine hK.out _ _ ⟨(blk_cell BK300.out 0).trans rfl, (blk_cell BK300.out 1).trans rfl, (blk_cell BK300.out 2).trans rfl, (blk_cell BK300.out 3).trans rfl⟩ (fun hHeld => ?_)
                      clear hK K
                      refine norm_ (a' := ?_) ?_ ?_
                      rotate_left
                      · show Act.put _ (some 74) _ = _
                        simp only [Act.put, List.setIfInBounds_toArray, List.set_cons_zero, List.set_cons_succ, i64_w, i32_w]
                        rfl
                      refine pure_ (i := 4) (N := some 75) (v := ?_) (a' := ?_) #[true, true, true, true, true, false, false, false, false, false, false, false, false, false, false, false, false, false, false, false, false, false, false, false, false, false] rfl rfl (any_of HT_.out (by kernel_rfl)) (fun _ _ _ h => h) (Or.inl ⟨by rfl, ?_⟩) ?_ ?_
                      rotate_left
                      · intro w'
                        go_simp
                        with_reducible rfl
                      rotate_left
                      · simp only [Act.put, List.setIfInBounds_toArray, List.set_cons_zero, List.set_cons_succ, i64_w, i32_w]
                        rfl
                      refine pure_ (i := 5) (N := some 76) (v := ?_) (a' := ?_) #[true, true, true, true, true, true, false, false, false, false, false, false, false, false, false, false, false, false, false, false, false, false, false, false, false, false] rfl rfl (any_of HT_.out (by kernel_rfl)) (fun _ _ _ h => h) (Or.inl ⟨by rfl, ?_⟩) ?_ ?_
                      rotate_left
                      · intro w'
                        go_simp
                        with_reducible rfl
                      rotate_left
                      · simp only [Act.put, List.setIfInBounds_toArray, List.set_cons_zero, List.set_cons_succ, i64_w, i32_w]
                        rfl
                      refine pure_ (i := 6) (N := some 77) (v := ?_) (a' := ?_) #[true, true, true, true, true, true, true, false, false, false, false, false, false, false, false, false, false, false, false, false, false, false, false, false, false, false] rfl rfl (any_of HT_.out (by kernel_rfl)) (fun _ _ _ h => h) (Or.inl ⟨by rfl, ?_⟩) ?_ ?_
                      rotate_left
                      · intro w'
                        go_simp
                        with_reducible rfl
                      rotate_left
                      · simp only [Act.put, List.setIfInBounds_toArray, List.set_cons_zero, List.set_cons_succ, i64_w, i32_w]
                        rfl
                      refine pure_ (i := 7) (N := some 78) (v := ?_) (a' := ?_) #[true, true, true, true, true, true, true, true, false, false, false, false, false, false, false, false, false, false, false, false, false, false, false, false, false, false] rfl rfl (any_of HT_.out (by kernel_rfl)) (fun _ _ _ h => h) (Or.inl ⟨by rfl, ?_⟩) ?_ ?_
                      rotate_left
                      · intro w'
                        go_simp
                        with_reducible rfl
                      rotate_left
                      · simp only [Act.put, List.setIfInBounds_toArray, List.set_cons_zero, List.set_cons_succ, i64_w, i32_w]
                        rfl
                      refine pure_ (i := 8) (N := some 79) (v := ?_) (a' := ?_) #[true, true, true, true, true, true, true, true, true, false, false, false, false, false, false, false, false, false, false, false, false, false, false, false, false, false] rfl rfl (any_of HT_.out (by kernel_rfl)) (fun _ _ _ h => h) (Or.inl ⟨by rfl, ?_⟩) ?_ ?_
                      rotate_left
                      · intro w'
                        go_simp
                        with_reducible rfl
                      rotate_left
                      · simp only [Act.put, List.setIfInBounds_toArray, List.set_cons_zero, List.set_cons_succ, i64_w, i32_w]
                        rfl
                      refine pure_ (i := 9) (N := some 80) (v := ?_) (a' := ?_) #[true, true, true, true, true, true, true, true, true, true, false, false, false, false, false, false, false, false, false, false, false, false, false, false, false, false] rfl rfl (any_of HT_.out (by kernel_rfl)) (fun _ _ _ h => h) (Or.inl ⟨by rfl, ?_⟩) ?_ ?_
                      rotate_left
                      · intro w'
                        go_simp
                        with_reducible rfl
                      rotate_left
                      · simp only [Act.put, List.setIfInBounds_toArray, List.set_cons_zero, List.set_cons_succ, i64_w, i32_w]
                        rfl
                      refine pure_ (i := 10) (N := some 81) (v := ?_) (a' := ?_) #[true, true, true, true, true, true, true, true, true, true, true, false, false, false, false, false, false, false, false, false, false, false, false, false, false, false] rfl rfl (any_of HT_.out (by kernel_rfl)) (fun _ _ _ h => h) (Or.inl ⟨by rfl, ?_⟩) ?_ ?_
                      rotate_left
                      · intro w'
                        go_simp
                        with_reducible rfl
                      rotate_left
                      · simp only [Act.put, List.setIfInBounds_toArray, List.set_cons_zero, List.set_cons_succ, i64_w, i32_w]
                        rfl
                      refine pure_ (i := 11) (N := some 82) (v := ?_) (a' := ?_) #[true, true, true, true, true, true, true, true, true, true, true, true, false, false, false, false, false, false, false, false, false, false, false, false, false, false] rfl rfl (any_of HT_.out (by kernel_rfl)) (fun _ _ _ h => h) (Or.inl ⟨by rfl, ?_⟩) ?_ ?_
                      rotate_left
                      · intro w'
                        go_simp
                        with_reducible rfl
                      rotate_left
                      · simp only [Act.put, List.setIfInBounds_toArray, List.set_cons_zero, List.set_cons_succ, i64_w, i32_w]
                        rfl
                      refine pure_ (i := 12) (N := some 83) (v := ?_) (a' := ?_) #[true, true, true, true, true, true, true, true, true, true, true, true, true, false, false, false, false, false, false, false, false, false, false, false, false, false] rfl rfl (any_of HT_.out (by kernel_rfl)) (fun _ _ _ h => h) (Or.inl ⟨by rfl, ?_⟩) ?_ ?_
                      rotate_left
                      · intro w'
                        go_simp
                        with_reducible rfl
                      rotate_left
                      · simp only [Act.put, List.setIfInBounds_toArray, List.set_cons_zero, List.set_cons_succ, i64_w, i32_w]
                        rfl
                      refine pure_ (i := 13) (N := some 84) (v := ?_) (a' := ?_) #[true, true, true, true, true, true, true, true, true, true, true, true, true, true, false, false, false, false, false, false, false, false, false, false, false, false] rfl rfl (any_of HT_.out (by kernel_rfl)) (fun _ _ _ h => h) (Or.inl ⟨by rfl, ?_⟩) ?_ ?_
                      rotate_left
                      · intro w'
                        go_simp
                        with_reducible rfl
                      rotate_left
                      · simp only [Act.put, List.setIfInBounds_toArray, List.set_cons_zero, List.set_cons_succ, i64_w, i32_w]
                        rfl
                      refine pure_ (i := 14) (N := some 85) (v := ?_) (a' := ?_) #[true, true, true, true, true, true, true, true, true, true, true, true, true, true, true, false, false, false, false, false, false, false, false, false, false, false] rfl rfl (any_of HT_.out (by kernel_rfl)) (fun _ _ _ h => h) (Or.inl ⟨by rfl, ?_⟩) ?_ ?_
                      rotate_left
                      · intro w'
                        go_simp
                        with_reducible rfl
                      rotate_left
                      · simp only [Act.put, List.setIfInBounds_toArray, List.set_cons_zero, List.set_cons_succ, i64_w, i32_w]
                        rfl
                      refine pure_ (i := 15) (N := some 86) (v := ?_) (a' := ?_) #[true, true, true, true, true, true, true, true, true, true, true, true, true, true, true, true, false, false, false, false, false, false, false, false, false, false] rfl rfl (any_of HT_.out (by kernel_rfl)) (fun _ _ _ h => h) (Or.inl ⟨by rfl, ?_⟩) ?_ ?_
                      rotate_left
                      · intro w'
                        go_simp
                        with_reducible rfl
                      rotate_left
                      · simp only [Act.put, List.setIfInBounds_toArray, List.set_cons_zero, List.set_cons_succ, i64_w, i32_w]
                        rfl
                      refine pure_ (i := 16) (N := some 87) (v := ?_) (a' := ?_) #[true, true, true, true, true, true, true, true, true, true, true, true, true, true, true, true, true, false, false, false, false, false, false, false, false, false] rfl rfl (any_of HT_.out (by kernel_rfl)) (fun _ _ _ h => h) (Or.inl ⟨by rfl, ?_⟩) ?_ ?_
                      rotate_left
                      · intro w'
                        go_simp
                        with_reducible rfl
                      rotate_left
                      · simp only [Act.put, List.setIfInBounds_toArray, List.set_cons_zero, List.set_cons_succ, i64_w, i32_w]
                        rfl
                      refine pure_ (i := 17) (N := some 88) (v := ?_) (a' := ?_) #[true, true, true, true, true, true, true, true, true, true, true, true, true, true, true, true, true, true, false, false, false, false, false, false, false, false] rfl rfl (any_of HT_.out (by kernel_rfl)) (fun _ _ _ h => h) (Or.inl ⟨by rfl, ?_⟩) ?_ ?_
                      rotate_left
                      · intro w'
                        go_simp
                        with_reducible rfl
                      rotate_left
                      · simp only [Act.put, List.setIfInBounds_toArray, List.set_cons_zero, List.set_cons_succ, i64_w, i32_w]
                        rfl
                      refine one_ (i := 18) (N := some 89) #[true, true, true, true, true, true, true, true, true, true, true, true, true, true, true, true, true, true, true, false, false, false, false, false, false, false] rfl rfl (one_of HT_.out (by kernel_rfl)) (by decide) (fun K hK => ?_)
                      refine goes_ Try.func20 (by kernel_rfl) rfl #[.slice Ao55 t307.length co55, .slice Ao56 t311.length co56] (by rfl) rfl rfl qz20 ?_
                      with_reducible refine (skolemref03_Ints.calls k _ _ t307 _ _ t311 true _ ?side1 ?side2 ?side3 ?side4 A24.out).mono ?_
                      (case side1 => exact (by repeat (first | exact (Kd.R_reads' HO309.out).2.2 | (with_reducible refine Kd.C_alloc ?_ _) | (with_reducible refine Kd.C_drewN ?_ _) | (with_reducible refine Kd.C_drew ?_))))
                      (case side2 => exact (Kd.R_reads' HO309.out).2.1)
                      (case side3 => exact (by repeat (first | exact (Kd.R_reads' HO313.out).2.2 | (with_reducible refine Kd.C_alloc ?_ _) | (with_reducible refine Kd.C_drewN ?_ _) | (with_reducible refine Kd.C_drew ?_))))
                      (case side4 => exact (Kd.R_reads' HO313.out).2.1)
                      rintro e w' ⟨rfl, ⟨nd, rfl⟩⟩
                      refine ⟨_, rfl, ?_⟩
                      refine hK.out _ _ ⟨(blk_cell BK300.out 0).trans rfl, (blk_cell BK300.out 1).trans rfl, (blk_cell BK300.out 2).trans rfl, (blk_cell BK300.out 3).trans rfl⟩ (fun hHeld => ?_)
                      clear hK K
                      refine norm_ (a' := ?_) ?_ ?_
                      rotate_left
                      · show Act.put _ (some 89) _ = _
                        simp only [Act.put, List.setIfInBounds_toArray, List.set_cons_zero, List.set_cons_succ, i64_w, i32_w]
                        rfl
                      refine pure_ (i := 19) (N := some 90) (v := ?_) (a' := ?_) #[true, true, true, true, true, true, true, true, true, true, true, true, true, true, true, true, true, true, true, true, false, false, false, false, false, false] rfl rfl (any_of HT_.out (by kernel_rfl)) (fun _ _ _ h => h) (Or.inl ⟨by rfl, ?_⟩) ?_ ?_
                      rotate_left
                      · intro w'
                        go_simp
                        with_reducible rfl
                      rotate_left
                      · simp only [Act.put, List.setIfInBounds_toArray, List.set_cons_zero, List.set_cons_succ, i64_w, i32_w]
                        rfl
                      refine pure_ (i := 20) (N := some 91) (v := ?_) (a' := ?_) #[true, true, true, true, true, true, true, true, true, true, true, true, true, true, true, true, true, true, true, true, true, false, false, false, false, false] rfl rfl (any_of HT_.out (by kernel_rfl)) (fun _ _ _ h => h) (Or.inl ⟨by rfl, ?_⟩) ?_ ?_
                      rotate_left
                      · intro w'
                        go_simp
                        with_reducible rfl
                      rotate_left
                      · simp only [Act.put, List.setIfInBounds_toArray, List.set_cons_zero, List.set_cons_succ, i64_w, i32_w]
                        rfl
                      refine pure_ (i := 21) (N := some 92) (v := ?_) (a' := ?_) #[true, true, true, true, true, true, true, true, true, true, true, true, true, true, true, true, true, true, true, true, true, true, false, false, false, false] rfl rfl (any_of HT_.out (by kernel_rfl)) (fun _ _ _ h => h) (Or.inl ⟨by rfl, ?_⟩) ?_ ?_
                      rotate_left
                      · intro w'
                        go_simp
                        with_reducible rfl
                      rotate_left
                      · simp only [Act.put, List.setIfInBounds_toArray, List.set_cons_zero, List.set_cons_succ, i64_w, i32_w]
                        rfl
                      refine pure_ (i := 22) (N := some 93) (v := ?_) (a' := ?_) #[true, true, true, true, true, true, true, true, true, true, true, true, true, true, true, true, true, true, true, true, true, true, true, false, false, false] rfl rfl (any_of HT_.out (by kernel_rfl)) (fun _ _ _ h => h) (Or.inl ⟨by rfl, ?_⟩) ?_ ?_
                      rotate_left
                      · intro w'
                        go_simp
                        with_reducible rfl
                      rotate_left
                      · simp only [Act.put, List.setIfInBounds_toArray, List.set_cons_zero, List.set_cons_succ, i64_w, i32_w]
                        rfl
                      refine pure_ (i := 23) (N := some 94) (v := ?_) (a' := ?_) #[true, true, true, true, true, true, true, true, true, true, true, true, true, true, true, true, true, true, true, true, true, true, true, true, false, false] rfl rfl (any_of HT_.out (by kernel_rfl)) (fun _ _ _ h => h) (Or.inl ⟨by rfl, ?_⟩) ?_ ?_
                      rotate_left
                      · intro w'
                        go_simp
                        with_reducible rfl
                      rotate_left
                      · simp only [Act.put, List.setIfInBounds_toArray, List.set_cons_zero, List.set_cons_succ, i64_w, i32_w]
                        rfl
                      refine pure_ (i := 24) (N := some 95) (v := ?_) (a' := ?_) #[true, true, true, true, true, true, true, true, true, true, true, true, true, true, true, true, true, true, true, true, true, true, true, true, true, false] rfl rfl (any_of HT_.out (by kernel_rfl)) (fun _ _ _ h => h) (Or.inl ⟨by rfl, ?_⟩) ?_ ?_
                      rotate_left
                      · intro w'
                        go_simp
                        with_reducible rfl
                      rotate_left
                      · simp only [Act.put, List.setIfInBounds_toArray, List.set_cons_zero, List.set_cons_succ, i64_w, i32_w]
                        rfl
                      refine pure_ (i := 25) (N := some 23) (v := ?_) (a' := ?_) #[true, true, true, true, true, true, true, true, true, true, true, true, true, true, true, true, true, true, true, true, true, true, true, true, true, true] rfl rfl (any_of HT_.out (by kernel_rfl)) (fun _ _ _ h => h) (Or.inl ⟨by rfl, ?_⟩) ?_ ?_
                      rotate_left
                      · intro w'
                        go_simp
                        with_reducible rfl
                      rotate_left
                      · simp only [Act.put, List.setIfInBounds_toArray, List.set_cons_zero, List.set_cons_succ, i64_w, i32_w]
                        rfl
                      refine done_ (done_of HT_.out (by kernel_rfl)) ?_
                      obtain ⟨Ao57, co57, eo57⟩ := Kd.S_slice HO321.out
                      subst eo57
                      obtain ⟨Ao58, co58, eo58⟩ := Kd.S_slice HO325.out
                      subst eo58
                      try go_wp2_with (first | (go_at_call 21; (with_reducible refine (skolemref03_Lists.calls k _ _ t319 _ _ t323 true _ ?side1 ?side2 ?side3 ?side4 A29.out).mono ?_); (case side1 => exact (by repeat (first | exact (Kd.S_reads' HO321.out).2.2 | (with_reducible refine Kd.C_alloc ?_ _) | (with_reducible refine Kd.C_drewN ?_ _) | (with_reducible refine Kd.C_drew ?_)))); (case side2 => exact (Kd.S_reads' HO321.out).2.1); (case side3 => exact (by repeat (first | exact (Kd.S_reads' HO325.out).2.2 | (with_reducible refine Kd.C_alloc ?_ _) | (with_reducible refine Kd.C_drewN ?_ _) | (with_reducible refine Kd.C_drew ?_)))); (case side4 => exact (Kd.S_reads' HO325.out).2.1); rintro e w' ⟨rfl, ⟨nd, rfl⟩⟩) | (go_at_call 9; (with_reducible refine (skolemlaw35_head.calls k  t331 _ A32.out).mono ?_); rintro e w59 ⟨rfl, hb⟩; have n0_ := Aside0.mk (Kd.R_below qz30 hb); have n1_ := Aside0.mk (Kd.R_below qz31 hb); have n2_ := Aside0.mk (Kd.S_below qz32 hb); have n3_ := Aside0.mk (Kd.S_below (by (with_reducible repeat (first | apply Kd.S_alloc | apply Kd.S_drewN | apply Kd.S_drew)); exact HO325.out) hb); have n4_ := Aside0.mk (blk_below (g := gb300) (o := .cells #[.slice A0_0 l0_0.length c0_0, .int .i64 a0_1, .slice A0_2 l0_2.length c0_2, .int .i64 a0_3] 25 (0, 0)) qz28 hb); have n5_ := Aside0.mk (below_step qz12 hb); clear HO309; clear HO313; clear HO321; clear HO325; clear BK300; clear HB; have HO309 := n0_; have HO313 := n1_; have HO321 := n2_; have HO325 := n3_; have BK300 := n4_; have HB := n5_; clear n0_ n1_ n2_ n3_ n4_ n5_; (try clear hb); (try clear hb2); (try clear hk); (try clear hi)))
                      go_ret
                      exact ⟨by first | rfl | (simp [errW_none, errW_some] <;> rfl) | (simp [*, errW_none, errW_some] <;> rfl), by repeat (first | (with_reducible first | exact HB.out | apply below_alloc | apply pw_below_drewN | apply below_drew1 | refine below_set ?_ GE300.out) | exact HB.out)⟩
                    · rw [if_neg c31] at H
                      have c31b0 : (t322 == t326) = false := beq_eq_false_iff_ne.mpr c31
                      have c31b1 : (t322 != t326) = true := bne_iff_ne.mpr c31
                      exact absurd ((Option.some.inj H).trans HT_.out) (by decide)
                  · replace c30 := Bool.eq_false_iff.mpr c30
                    subst c30
                    have H1 : (some false) = some r := by rw [if_neg (show ¬ (false = true) by decide)] at H; exact H
                    clear H
                    have H := H1
                    clear H1
                    exact absurd ((Option.some.inj H).trans HT_.out) (by decide)
                · rw [if_neg c28] at H
                  have c28b0 : (t316 == t318) = false := beq_eq_false_iff_ne.mpr c28
                  have c28b1 : (t316 != t318) = true := bne_iff_ne.mpr c28
                  exact absurd ((Option.some.inj H).trans HT_.out) (by decide)
              · rw [if_neg c27] at H
                have c27b0 : (t315 == t317) = false := by simpa using c27
                (try (have c27b1 : decide (t315 = t317) = false := by simpa using c27))
                (try (have c27b2 : (t315 == t317) = false := by simpa using c27))
                (try (have c27b3 : ¬ (t315 = t317) := by simpa using c27))
                clear c27
                exact absurd ((Option.some.inj H).trans HT_.out) (by decide)
            · rw [if_neg c26] at H
              have c26b0 : (t310 == t314) = false := beq_eq_false_iff_ne.mpr c26
              have c26b1 : (t310 != t314) = true := bne_iff_ne.mpr c26
              exact absurd ((Option.some.inj H).trans HT_.out) (by decide)
          · replace c25 := Bool.eq_false_iff.mpr c25
            subst c25
            have H1 : (some false) = some r := by rw [if_neg (show ¬ (false = true) by decide)] at H; exact H
            clear H
            have H := H1
            clear H1
            exact absurd ((Option.some.inj H).trans HT_.out) (by decide)
        · rw [if_neg c23] at H
          have c23b0 : (t304 == t306) = false := beq_eq_false_iff_ne.mpr c23
          have c23b1 : (t304 != t306) = true := bne_iff_ne.mpr c23
          exact absurd ((Option.some.inj H).trans HT_.out) (by decide)
      · rw [if_neg c22] at H
        have c22b0 : (t303 == t305) = false := beq_eq_false_iff_ne.mpr c22
        have c22b1 : (t303 != t305) = true := bne_iff_ne.mpr c22
        exact absurd ((Option.some.inj H).trans HT_.out) (by decide)
    · rw [if_neg c21] at H
      have c21b0 : (t327 == t328) = false := by simpa using c21
      (try (have c21b1 : decide (t327 = t328) = false := by simpa using c21))
      (try (have c21b2 : (t327 == t328) = false := by simpa using c21))
      (try (have c21b3 : ¬ (t327 = t328) := by simpa using c21))
      clear c21
      exact absurd ((Option.some.inj H).trans HT_.out) (by decide)

end Go.Proofs.Ytjlehbncpjccmaa.Q
namespace Go.Proofs.Ytjlehbncpjccmaa.Q
open Go.RowKit Go.Proofs.YtjlehbncpjccmaaW.PrintWords Go.Proofs.YtjlehbncpjccmaaW.PrintLast Go.Proofs.YtjlehbncpjccmaaW.PrintMore
set_option linter.unusedVariables false
set_option linter.unusedSimpArgs false

theorem rules_ev (ps : List S55) (st : Int) (gs : List Int) (mv : Int) (t : Int) (mine : Bool) : Ev (fun k => skolemlaw35_PuzzleRules.f k ps st gs mv t mine) true := by
  simp only [skolemlaw35_PuzzleRules.f]
  refine Ev.bind (large_ev ps st gs mv) ?_
  cases hl : largeB ps gs with
  | true =>
    simp only [if_true]
    exact head_end
  | false =>
    have hs := small_of hl
    simp only [Bool.false_eq_true, if_false, puzzle_Width.f, puzzle_Choice.f, puzzle_Wins.f, puzzle_Guide.f, puzzle_May.f, Option.bind_some]
    refine Ev.bind (Width_ev ps st gs mv hs) ?_
    refine Ev.bind (Choice_ev ps st gs mv hs t mine) ?_
    refine Ev.bind (Wins_ev ps st gs mv hs) ?_
    refine Ev.bind (Guide_ev ps st gs mv hs) ?_
    refine Ev.bind (may_ev ps st gs mv hs) ?_
    obtain ⟨cl, hcl⟩ : ∃ cl : List Int × Int, (if mayB ps st gs mv then (if 1 ≤ t ∧ t ≤ mv then (choiceF (widthP ps) t mine, 0) else ([], 4)) else ([], 2)) = cl := ⟨_, rfl⟩
    obtain ⟨gl, hgl⟩ : ∃ gl : List (List Int) × Int, (if mayB ps st gs mv then (guideF ps gs mv.toNat, 0) else ([], 2)) = gl := ⟨_, rfl⟩
    have h1 : (cl.1.length : Int) ≤ 9223372036854775807 := by
      rw [← hcl]
      have := widthP_le ps
      split
      · split
        · simp only [choiceF_length]; omega
        · simp
      · simp
    have h2 : (gl.1.length : Int) ≤ 9223372036854775807 ∧ ∀ x ∈ gl.1, (x.length : Int) ≤ 9223372036854775807 := by
      rw [← hgl]
      cases hm : mayB ps st gs mv with
      | false => simp
      | true =>
        have hmv := mayB_mv hm
        have hp := (mayB_facts hm).1
        simp only [if_true, guideF_length]
        exact ⟨by omega, fun x hx => by rw [guideF_rows ps gs _ x hx]; omega⟩
    rw [hcl, hgl]
    simp only [beq_self_eq_true, if_true]
    refine Ev.bind (ints_ev _ _ h1) ?_
    simp only [decide_true, if_true]
    refine Ev.bind (lists_ev _ _ h2.1 h2.2) ?_
    simp only [decide_true, if_true]
    exact head_end
end Go.Proofs.Ytjlehbncpjccmaa.Q
namespace Go.Proofs.Ytjlehbncpjccmaa.Q
open Go.ChangeShapes Go.WideShapes Go.ChangeAt Go.RowKit Go.Proofs.YtjlehbncpjccmaaW.PrintWords Go.Proofs.YtjlehbncpjccmaaW.PrintLast Go.Proofs.YtjlehbncpjccmaaW.PrintMore
set_option linter.unusedVariables false
set_option linter.unusedSimpArgs false
namespace RowPuzzleRules
set_option maxRecDepth 100000 in
theorem lifted (os : Os) (started : os.Started) (H : Type) (enc : TypeId × Value → H) :
    ReturnsInHanded {} Try.checked os 3 .any (Rows.puzzleRulesSpec.pre6 enc Try.prog Try.f3 Rows.puzzleRulesRow.domain false) (Rows.puzzleRulesSpec.post enc Try.prog Try.f3 false true false false) := by
  refine returnsInHanded_of_change_sized (C := Try.checked) own started (by kernel_rfl) Try.func3
    (ChangeSpec.witness6 (enc := enc) (C := Try.checked) false ⟨#[], #[.agg #[.slice none 0 0, .int .i64 0, .slice none 0 0, .int .i64 0], .int .i64 0, .bool false], []⟩ 8 (by kernel_rfl) (by kernel_rfl) (by kernel_rfl) (by kernel_rfl)) ?_
  intro W base args ds gs before hval0 hW hcnd hsz0 _
  have hval : ∀ (j : Nat) t v, Try.f3.params[j]? = some t → args[j]? = some v → Value.okWide Try.prog W .any base t v := hval0
  have hW' := hW
  obtain ⟨p, q, hA0, hV, rfl, hfz, hnd⟩ := hW
  have hA : DataW.TrodAll enc Try.prog W 0 (fun _ => true) true Try.f3.params.toList args.toList ds p := hA0
  rw [Try.params3] at hA hval
  obtain ⟨v0, vs0, d0, ds0, p0, q0, hargs, rfl, rfl, h0, r0⟩ := trodAll_cons hA
  obtain ⟨v1, vs1, d1, ds1, p1, q1, rfl, rfl, rfl, h1, r1⟩ := trodAll_cons r0
  obtain ⟨v2, vs2, d2, ds2, p2, q2, rfl, rfl, rfl, h2, r2⟩ := trodAll_cons r1
  obtain ⟨rfl, rfl, rfl⟩ := trodAll_nil r2
  obtain rfl : args = #[v0, v1, v2] := by cases args; simp_all
  obtain ⟨rfl, rfl⟩ := trodVars_none hV
  have k0 := h0
  have lt0 : ∀ x ∈ p0, x.block < W.heap.size := by obtain ⟨m, hm⟩ := k0; exact DataW.trod_lt m _ _ _ hm
  obtain ⟨A0_0, c0_0, l0_0, a0_1, A0_2, c0_2, l0_2, a0_3, rfl, hr0_0, hc0_0, hr0_2, hc0_2⟩ := open_puzzle (hval 0 25 v0 rfl rfl) h0
  obtain ⟨a1, rfl, rfl, rfl, w1⟩ := open_int Try.underlying3 (hval 1 3 v1 rfl rfl) h1
  obtain ⟨a2, rfl, rfl, rfl⟩ := open_bool Try.underlying4 (hval 2 4 v2 rfl rfl) h2
  clear hA0 hval0 hsz0
  obtain ⟨k, hk⟩ := (rules_ev l0_0 a0_1 l0_2 a0_3 a1 a2).some'
  refine (skolemlaw35_PuzzleRules.callsT k _ _ l0_0 a0_1 _ _ l0_2 a0_3 a1 a2 true rfl W hr0_0 hc0_0 hr0_2 hc0_2 hk).mono fun e W' ⟨he, bel⟩ => ?_
  subst he
  exact ⟨_, rfl, _, _, _, [], _, [], hW', trodAll_mk1 (shut_bool Try.underlying4 _), (trodAll_cons_mk (Below.trod laidOut (by kernel_rfl) (of_decide_eq_true (by kernel_rfl)) k0 bel lt0) (trodAll_cons_mk (shut_int Try.underlying3 w1) (trodAll_cons_mk (shut_bool Try.underlying4 _) trodAll_mk0))), rfl, bel.frame _, fun h => by cases h⟩
theorem over : Rows.puzzleRulesRow.holds Try.pinned (OpenSpec.ofChange Rows.puzzleRulesSpec) :=
  OpenClaim.holds_of_wide 3 Try.f3 rfl rfl rfl rfl rfl rfl rfl ⟨rfl, rfl, rfl, rfl, rfl⟩ rfl rfl rfl rfl rfl (by kernel_rfl) Try.func3 (by kernel_rfl)
    (of_decide_eq_true (by kernel_rfl)) (by unfold Func.isWrapper; first | (rw [if_pos (by decide +kernel)]; kernel_rfl) | (rw [if_neg (by decide +kernel)]; exact ⟨rfl, rfl⟩))
    (fun os started H enc _ => lifted os started H enc)
theorem proved : Rows.PuzzleRulesSaid := over
end RowPuzzleRules
end Go.Proofs.Ytjlehbncpjccmaa.Q
namespace Go.Proofs.Ytjlehbncpjccmaa
/-- The row, under a short name, for the claim. -/
theorem puzzleRules_holds : Rows.PuzzleRulesSaid := Q.RowPuzzleRules.proved
#print axioms puzzleRules_holds
end Go.Proofs.Ytjlehbncpjccmaa
