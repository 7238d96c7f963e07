/-
  Proved: the law PuzzleRules returns true for every input (puzzle, move, side), and the input reads as it did.
  Part 3 of 4. Conditions: none. Written for this claim by programs of this work (extprint.py, gen_*.py, assemble.py) and by hand.
-/
import Derived.Test.YtjlehbncpjccmaaXR2
import Derived.Outline
namespace Go.Proofs.Ytjlehbncpjccmaa.Q
open Go.RowKit Go.Proofs.YtjlehbncpjccmaaW.PrintWords Go.Proofs.YtjlehbncpjccmaaW.PrintLast Go.Proofs.YtjlehbncpjccmaaW.PrintMore
attribute [local go_sem] max2_int min2_int max_two min_two max_three min_three max_four min_four
set_option linter.unusedVariables false
set_option linter.unusedSimpArgs false

def absA (x : Int) : Int := mx x (wrap64 (-x))
def normB : Int → List Int → Bool
  | _, [] => true
  | last, x :: r => decide (1 ≤ absA x ∧ absA x ≤ 65536) && (decide (last < absA x) && normB (absA x) r)
theorem normal_l (l : List Int) (hl : (l.length : Int) ≤ 9223372036854775807) : ∀ (n i : Nat) (last : Int), i + n = l.length → aig_normal.l0 (n + 1) last l (l.length : Int) (i : Int) = some (normB last (l.drop i))
  | 0, i, last, h => by
    rw [List.drop_of_length_le (by omega), aig_normal.l0, if_neg (by omega)]
    rfl
  | n + 1, i, last, h => by
    have hi : i < l.length := by omega
    have ih := normal_l l hl n (i + 1) (absA (rd l (i : Int))) (by omega)
    have hd : l.drop i = rd l (i : Int) :: l.drop (i + 1) := by
      rw [List.drop_eq_getElem_cons hi]
      simp [rd, List.getD_eq_getElem?_getD, List.getElem?_eq_getElem hi]
    rw [hd, normB, aig_normal.l0, if_pos (by omega), if_pos (by omega), if_pos (by omega)]
    rw [show mx (rd l (i : Int)) (wrap64 (-(rd l (i : Int)))) = absA (rd l (i : Int)) from rfl]
    rw [show wrap64 ((i : Int) + 1) = ((i + 1 : Nat) : Int) by rw [w_id (by omega)]; omega]
    generalize absA (rd l (i : Int)) = v at ih ⊢
    rw [ih]
    unfold aig_variable.f
    by_cases h1 : v ≥ 1
    · rw [if_pos h1]
      by_cases h2 : v ≤ 65536
      · by_cases h3 : v ≤ last
        · simp [h1, h2, h3, show ¬ (last < v) by omega]
        · simp [h1, h2, h3, show last < v by omega]
      · simp [h1, h2]
    · simp [h1]
theorem normal_f (l : List Int) (hl : (l.length : Int) ≤ 9223372036854775807) : aig_normal.f (l.length + 1) l = some (normB 0 l) := normal_l l hl l.length 0 0 (by omega)
def puzzle_Play.f (l0_0 : List S55) (a0_1 : Int) (l0_2 : List Int) (a0_3 : Int) (l1 : List Int) : Option (List Int × Int) :=
  some (if mayB l0_0 a0_1 l0_2 a0_3 && normB 0 l1 then (playF l0_0 a0_1 a0_3 (fun v => decide (v ∈ l1)), 0) else ([], 2))
section
variable {P : Program} {ops : Array Oper} {Q : Exit → Act → World → Prop}
theorem map_event {rest : List Oper} {o : Oper} {a : Act} {W : World} (hgd : o.guard = none) {N : Tmp} (_hd : o.dst = some N)
    (hrun : (execOp a.eval o).run P W = .ok (.value (.map (some W.heap.size))) (W.alloc (.map #[] 0)))
    (h : ∀ g, g = W.heap.size → ∀ w1, w1.heap[g]? = some (.map #[] 0) → Below W.heap.size W w1 → wpList P ops Q rest (a.put o.dst (.map (some g))) w1) : wpList P ops Q (o :: rest) a W :=
  Kd.event_run hgd hrun (h _ rfl _ (blk_new W _) (below_alloc (Below.refl _ _) _))
end
theorem keys_none {w : World} {r : Nat} (h : w.heap[r]? = some (.map #[] 0)) : KeysT [] w r := ⟨#[], 0, h, by simp, by simp⟩
theorem take_rev (l : List Int) (i : Nat) (h : i < l.length) : (l.take (i + 1)).reverse = rd l (i : Int) :: (l.take i).reverse := by
  rw [List.take_succ_eq_append_getElem h]
  simp [rd, List.getD_eq_getElem?_getD, List.getElem?_eq_getElem h]
set_option maxHeartbeats 6400000 in
set_option maxRecDepth 100000 in
theorem puzzle_Play.calls (A0_0 : Option Addr) (c0_0 : Nat) (l0_0 : List (S55)) (a0_1 : Int) (A0_2 : Option Addr) (c0_2 : Nat) (l0_2 : List Int) (a0_3 : Int) (A1 : Option Addr) (c1 : Nat) (l1 : List Int) (r1 : List Int) (r2 : Int) (w : World) (hr0_0 : Kd.C k55 w A0_0 l0_0.length l0_0) (hc0_0 : l0_0.length ≤ c0_0) (hr0_2 : Kd.C (Kd.int .i64) w A0_2 l0_2.length l0_2) (hc0_2 : l0_2.length ≤ c0_2) (hr1 : Kd.C (Kd.int .i64) w A1 l1.length l1) (hc1 : l1.length ≤ c1) (h : puzzle_Play.f l0_0 a0_1 l0_2 a0_3 l1 = some (r1, r2)) :
    Calls Try.prog 22 #[.agg #[.slice A0_0 l0_0.length c0_0, .int .i64 a0_1, .slice A0_2 l0_2.length c0_2, .int .i64 a0_3], .slice A1 l1.length c1] w fun e w' => ∃ v0_ : Value, e = .returned (.tuple #[v0_, .int .i64 r2]) ∧ Kd.R (Kd.int .i64) 3 w' w.heap.size (fun _ => True) v0_ r1 ∧ Below w.heap.size w w' := by
  have HPL := Aside0.mk (fun (W : World) (hb : Below w.heap.size w W) (L : List Int) (mr : Nat) => play.calls A0_0 c0_0 l0_0 a0_1 A0_2 c0_2 l0_2 a0_3 L mr W (Kd.C_below hr0_0 hb) hc0_0 (Kd.C_below hr0_2 hb) hc0_2)
  have hl1 : (l1.length : Int) ≤ 9223372036854775807 := by have := hr1.2.1; omega
  have HL1 := Aside0.mk hl1
  have HE := Aside0.mk (fun (W : World) (hb : Below w.heap.size w W) => eval0.calls (l1.length + 1) A1 c1 l1 _ W (Kd.C_below hr1 hb) hc1 (normal_f l1 hl1))
  have HR3 := Aside0.mk hr1
  have HR0 := Aside0.mk hr0_0
  have HR2 := Aside0.mk hr0_2
  have HB := Aside0.mk (Below.refl w.heap.size w)
  have HO := Aside0.mk (fun (W : World) (hb : Below w.heap.size w W) => open.calls A0_0 c0_0 l0_0 a0_1 A0_2 c0_2 l0_2 a0_3 W (Kd.C_below hr0_0 hb) hc0_0 (Kd.C_below hr0_2 hb) hc0_2)
  clear hr0_0 hr0_2
  unfold openV at HO
  clear hr1 hl1
  unfold puzzle_Play.f at h
  cases hm : mayB l0_0 a0_1 l0_2 a0_3 with
  | false =>
    simp only [hm, Bool.false_eq_true, if_false, Bool.false_and] at HO h
    obtain ⟨rfl, rfl⟩ := Prod.mk.inj (Option.some.inj h)
    clear h hm HPL
    obtain ⟨ev, hev⟩ : ∃ ev : Int, (if normB 0 l1 = true then (0 : Int) else 2) = ev := ⟨_, rfl⟩
    rw [hev] at HE
    clear hev
    go_enter Try.func22, Try.ntmps22
    go_wp2_with (first | ((with_reducible refine gate_dst (N := 2) rfl ?_); (try (refine gate_guard (by rfl) ?_; dsimp only)); refine box_event ?hg (N := 2) ?hd (cs := #[.slice A0_0 l0_0.length c0_0, .int .i64 a0_1, .slice A0_2 l0_2.length c0_2, .int .i64 a0_3]) (t := 25) ?hr ?_; (case hd => rfl); (case hg => rfl); (case hr => exact qz38); intro b1 hb1_ w_b1 hbox hb_; have n0_ := Aside0.mk (below_then HB.out HB.out.size hb_); have Bb1 := Aside0.mk hbox; clear hbox; have G1 := Aside0.mk (by rw [hb1_]; exact HB.out.size : w.heap.size ≤ b1); clear hb_; clear hb1_; (try clear HB); have HB := n0_; clear n0_) | ((with_reducible refine gate_dst (N := 14) rfl ?_); (try (refine gate_guard (by rfl) ?_; dsimp only)); refine wpList_load_row rfl 25 (.tmp 2) rfl b1 rfl 25 (#[.slice A0_0 l0_0.length c0_0, .int .i64 a0_1, .slice A0_2 l0_2.length c0_2, .int .i64 a0_3]) (0, 0) _ Bb1.out Try.underlying25 rfl info25n ?_) | ((with_reducible refine gate_callee (f := 32) rfl ?_); (try (refine gate_guard (by rfl) ?_; dsimp only)); refine goesL_ (some 15) rfl rfl Try.func32 (by kernel_rfl) rfl #[.agg #[.slice A0_0 l0_0.length c0_0, .int .i64 a0_1, .slice A0_2 l0_2.length c0_2, .int .i64 a0_3]] rfl qz35 ?_; refine (HO.out _ HB.out).mono ?_; rintro e_ w_ ⟨rfl, hb_⟩; have Cb1 := Aside0.mk ((hb_.block _ (blk_lt Bb1.out)).trans Bb1.out); have HB1 := Aside0.mk (below_then HB.out HB.out.size hb_); clear Bb1 HB hb_; have HB := HB1; clear HB1; refine ⟨_, rfl, ?_⟩) | ((with_reducible refine gate_dst (N := 6) rfl ?_); (try (refine gate_guard (by rfl) ?_; dsimp only)); refine box_event ?hg (N := 6) ?hd (cs := #[.slice none 0 0, .int .i64 0, .slice none 0 0, .int .i64 0, .int .i64 0]) (t := 69) ?hr ?_; (case hd => rfl); (case hg => rfl); (case hr => exact qz38); intro b4 hb4_ w_b4 hbox hb_; have n0_ := Aside0.mk (below_then HB.out HB.out.size hb_); have Bb4 := Aside0.mk hbox; clear hbox; have G4 := Aside0.mk (by rw [hb4_]; exact HB.out.size : w.heap.size ≤ b4); have Db1 := Aside0.mk ((hb_.block _ (blk_lt Cb1.out)).trans Cb1.out); have N14 := Aside0.mk (by have := blk_lt Cb1.out; omega : b1 ≠ b4); clear Cb1; clear hb_; clear hb4_; (try clear HB); have HB := n0_; clear n0_) | ((with_reducible refine gate_store (t := 69) (p := 6) rfl ?_); refine wpList_store_rowTo rfl 69 (.tmp 6) (.tmp 16) rfl rfl b4 (#[.slice none 0 0, .int .i64 0, .slice none 0 0, .int .i64 0, .int .i64 0]) rfl rfl 69 (#[.slice none 0 0, .int .i64 0, .slice none 0 0, .int .i64 0, .int .i64 0]) Bb4.out info69n rfl (by simp [Value.oneCell']) ?_; refine named_world _ ?_; intro w4 hw_; have B4 : Aside0 (w4.heap[b4]? = some (.cells #[.slice none 0 0, .int .i64 0, .slice none 0 0, .int .i64 0, .int .i64 0] 69 (0, 0))) := ⟨by rw [hw_]; exact setRow_heap _ _ _ _ _ _ Bb4.out⟩; have B1 : Aside0 (w4.heap[b1]? = some (.cells #[.slice A0_0 l0_0.length c0_0, .int .i64 a0_1, .slice A0_2 l0_2.length c0_2, .int .i64 a0_3] 25 (0, 0))) := ⟨by rw [hw_, setRow_other _ _ _ _ N14.out]; exact Db1.out⟩; have HB1 : Aside0 (Below w.heap.size w w4) := ⟨by rw [hw_]; exact below_setRow HB.out G4.out _⟩; clear Bb4 Db1 HB; have HB := HB1; clear HB1; have f0 : w4.cell? ⟨b4, 4, none⟩ = some (.int .i64 0) := (blk_cell B4.out 4).trans rfl; have f1 : w4.cell? ⟨b1, 3, none⟩ = some (.int .i64 a0_3) := (blk_cell B1.out 3).trans rfl; have f2 : w4.cell? ⟨b1, 1, none⟩ = some (.int .i64 a0_1) := (blk_cell B1.out 1).trans rfl; have f3 : w4.cell? ⟨b1, 0, none⟩ = some (.slice A0_0 l0_0.length c0_0) := (blk_cell B1.out 0).trans rfl; clear hw_) | ((with_reducible refine gate_callee (f := 46) rfl ?_); (try (refine gate_guard (by rfl) ?_; dsimp only)); refine goesL_ (some 21) rfl rfl Try.func46 (by kernel_rfl) rfl #[.agg #[.slice none 0 0, .slice none 0 0], .int .i64 0, .slice A1 l1.length c1] rfl qz35 ?_; refine (HE.out _ HB.out).mono ?_; rintro e_ w_ ⟨rfl, hb_⟩; have C4 := Aside0.mk (blk_below B4.out hb_); have HB1 := Aside0.mk (below_then HB.out HB.out.size hb_); clear B4 HB hb_ f0 f1 f2 f3; have HB := HB1; clear HB1; refine ⟨_, rfl, ?_⟩))
    go_ret2
    exact ⟨_, rfl, Kd.R_nil _ _ _ _ _, HB.out⟩
  | true =>
    have HM := Aside0.mk hm
    simp only [hm, if_true, Bool.true_and] at HO h
    cases hn : normB 0 l1 with
    | false =>
      simp only [hn, Bool.false_eq_true, if_false] at HE h
      obtain ⟨rfl, rfl⟩ := Prod.mk.inj (Option.some.inj h)
      clear h hm hn HPL
      go_enter Try.func22, Try.ntmps22
      go_wp2_with (first | ((with_reducible refine gate_dst (N := 2) rfl ?_); (try (refine gate_guard (by rfl) ?_; dsimp only)); refine box_event ?hg (N := 2) ?hd (cs := #[.slice A0_0 l0_0.length c0_0, .int .i64 a0_1, .slice A0_2 l0_2.length c0_2, .int .i64 a0_3]) (t := 25) ?hr ?_; (case hd => rfl); (case hg => rfl); (case hr => exact qz38); intro b1 hb1_ w_b1 hbox hb_; have n0_ := Aside0.mk (below_then HB.out HB.out.size hb_); have Bb1 := Aside0.mk hbox; clear hbox; have G1 := Aside0.mk (by rw [hb1_]; exact HB.out.size : w.heap.size ≤ b1); clear hb_; clear hb1_; (try clear HB); have HB := n0_; clear n0_) | ((with_reducible refine gate_dst (N := 14) rfl ?_); (try (refine gate_guard (by rfl) ?_; dsimp only)); refine wpList_load_row rfl 25 (.tmp 2) rfl b1 rfl 25 (#[.slice A0_0 l0_0.length c0_0, .int .i64 a0_1, .slice A0_2 l0_2.length c0_2, .int .i64 a0_3]) (0, 0) _ Bb1.out Try.underlying25 rfl info25n ?_) | ((with_reducible refine gate_callee (f := 32) rfl ?_); (try (refine gate_guard (by rfl) ?_; dsimp only)); refine goesL_ (some 15) rfl rfl Try.func32 (by kernel_rfl) rfl #[.agg #[.slice A0_0 l0_0.length c0_0, .int .i64 a0_1, .slice A0_2 l0_2.length c0_2, .int .i64 a0_3]] rfl qz35 ?_; refine (HO.out _ HB.out).mono ?_; rintro e_ w_ ⟨rfl, hb_⟩; have Cb1 := Aside0.mk ((hb_.block _ (blk_lt Bb1.out)).trans Bb1.out); have HB1 := Aside0.mk (below_then HB.out HB.out.size hb_); clear Bb1 HB hb_; have HB := HB1; clear HB1; refine ⟨_, rfl, ?_⟩) | ((with_reducible refine gate_dst (N := 6) rfl ?_); (try (refine gate_guard (by rfl) ?_; dsimp only)); refine box_event ?hg (N := 6) ?hd (cs := #[.slice none 0 0, .int .i64 0, .slice none 0 0, .int .i64 0, .int .i64 0]) (t := 69) ?hr ?_; (case hd => rfl); (case hg => rfl); (case hr => exact qz38); intro b4 hb4_ w_b4 hbox hb_; have n0_ := Aside0.mk (below_then HB.out HB.out.size hb_); have Bb4 := Aside0.mk hbox; clear hbox; have G4 := Aside0.mk (by rw [hb4_]; exact HB.out.size : w.heap.size ≤ b4); have Db1 := Aside0.mk ((hb_.block _ (blk_lt Cb1.out)).trans Cb1.out); have N14 := Aside0.mk (by have := blk_lt Cb1.out; omega : b1 ≠ b4); clear Cb1; clear hb_; clear hb4_; (try clear HB); have HB := n0_; clear n0_) | ((with_reducible refine gate_store (t := 69) (p := 6) rfl ?_); refine wpList_store_rowTo rfl 69 (.tmp 6) (.tmp 16) rfl rfl b4 (#[.slice A0_0 l0_0.length c0_0, .int .i64 a0_1, .slice A0_2 l0_2.length c0_2, .int .i64 a0_3, .int .i64 (widthP l0_0)]) rfl rfl 69 (#[.slice none 0 0, .int .i64 0, .slice none 0 0, .int .i64 0, .int .i64 0]) Bb4.out info69n rfl (by simp [Value.oneCell']) ?_; refine named_world _ ?_; intro w4 hw_; have B4 : Aside0 (w4.heap[b4]? = some (.cells #[.slice A0_0 l0_0.length c0_0, .int .i64 a0_1, .slice A0_2 l0_2.length c0_2, .int .i64 a0_3, .int .i64 (widthP l0_0)] 69 (0, 0))) := ⟨by rw [hw_]; exact setRow_heap _ _ _ _ _ _ Bb4.out⟩; have B1 : Aside0 (w4.heap[b1]? = some (.cells #[.slice A0_0 l0_0.length c0_0, .int .i64 a0_1, .slice A0_2 l0_2.length c0_2, .int .i64 a0_3] 25 (0, 0))) := ⟨by rw [hw_, setRow_other _ _ _ _ N14.out]; exact Db1.out⟩; have HB1 : Aside0 (Below w.heap.size w w4) := ⟨by rw [hw_]; exact below_setRow HB.out G4.out _⟩; clear Bb4 Db1 HB; have HB := HB1; clear HB1; have f0 : w4.cell? ⟨b4, 4, none⟩ = some (.int .i64 (widthP l0_0)) := (blk_cell B4.out 4).trans rfl; have f1 : w4.cell? ⟨b1, 3, none⟩ = some (.int .i64 a0_3) := (blk_cell B1.out 3).trans rfl; have f2 : w4.cell? ⟨b1, 1, none⟩ = some (.int .i64 a0_1) := (blk_cell B1.out 1).trans rfl; have f3 : w4.cell? ⟨b1, 0, none⟩ = some (.slice A0_0 l0_0.length c0_0) := (blk_cell B1.out 0).trans rfl; clear hw_) | ((with_reducible refine gate_callee (f := 46) rfl ?_); (try (refine gate_guard (by rfl) ?_; dsimp only)); refine goesL_ (some 21) rfl rfl Try.func46 (by kernel_rfl) rfl #[.agg #[.slice none 0 0, .slice none 0 0], .int .i64 0, .slice A1 l1.length c1] rfl qz35 ?_; refine (HE.out _ HB.out).mono ?_; rintro e_ w_ ⟨rfl, hb_⟩; have C4 := Aside0.mk (blk_below B4.out hb_); have HB1 := Aside0.mk (below_then HB.out HB.out.size hb_); clear B4 HB hb_ f0 f1 f2 f3; have HB := HB1; clear HB1; refine ⟨_, rfl, ?_⟩))
      go_ret2
      exact ⟨_, rfl, Kd.R_nil _ _ _ _ _, HB.out⟩
    | true =>
      simp only [hn, if_true] at HE h
      obtain ⟨rfl, rfl⟩ := Prod.mk.inj (Option.some.inj h)
      clear h hm hn
      go_enter Try.func22, Try.ntmps22
      go_wp2_with (first | ((with_reducible refine gate_dst (N := 2) rfl ?_); (try (refine gate_guard (by rfl) ?_; dsimp only)); refine box_event ?hg (N := 2) ?hd (cs := #[.slice A0_0 l0_0.length c0_0, .int .i64 a0_1, .slice A0_2 l0_2.length c0_2, .int .i64 a0_3]) (t := 25) ?hr ?_; (case hd => rfl); (case hg => rfl); (case hr => exact qz38); intro b1 hb1_ w_b1 hbox hb_; have n0_ := Aside0.mk (below_then HB.out HB.out.size hb_); have Bb1 := Aside0.mk hbox; clear hbox; have G1 := Aside0.mk (by rw [hb1_]; exact HB.out.size : w.heap.size ≤ b1); clear hb_; clear hb1_; (try clear HB); have HB := n0_; clear n0_) | ((with_reducible refine gate_dst (N := 14) rfl ?_); (try (refine gate_guard (by rfl) ?_; dsimp only)); refine wpList_load_row rfl 25 (.tmp 2) rfl b1 rfl 25 (#[.slice A0_0 l0_0.length c0_0, .int .i64 a0_1, .slice A0_2 l0_2.length c0_2, .int .i64 a0_3]) (0, 0) _ Bb1.out Try.underlying25 rfl info25n ?_) | ((with_reducible refine gate_callee (f := 32) rfl ?_); (try (refine gate_guard (by rfl) ?_; dsimp only)); refine goesL_ (some 15) rfl rfl Try.func32 (by kernel_rfl) rfl #[.agg #[.slice A0_0 l0_0.length c0_0, .int .i64 a0_1, .slice A0_2 l0_2.length c0_2, .int .i64 a0_3]] rfl qz35 ?_; refine (HO.out _ HB.out).mono ?_; rintro e_ w_ ⟨rfl, hb_⟩; have Cb1 := Aside0.mk ((hb_.block _ (blk_lt Bb1.out)).trans Bb1.out); have HB1 := Aside0.mk (below_then HB.out HB.out.size hb_); clear Bb1 HB hb_; have HB := HB1; clear HB1; refine ⟨_, rfl, ?_⟩) | ((with_reducible refine gate_dst (N := 6) rfl ?_); (try (refine gate_guard (by rfl) ?_; dsimp only)); refine box_event ?hg (N := 6) ?hd (cs := #[.slice none 0 0, .int .i64 0, .slice none 0 0, .int .i64 0, .int .i64 0]) (t := 69) ?hr ?_; (case hd => rfl); (case hg => rfl); (case hr => exact qz38); intro b4 hb4_ w_b4 hbox hb_; have n0_ := Aside0.mk (below_then HB.out HB.out.size hb_); have Bb4 := Aside0.mk hbox; clear hbox; have G4 := Aside0.mk (by rw [hb4_]; exact HB.out.size : w.heap.size ≤ b4); have Db1 := Aside0.mk ((hb_.block _ (blk_lt Cb1.out)).trans Cb1.out); have N14 := Aside0.mk (by have := blk_lt Cb1.out; omega : b1 ≠ b4); clear Cb1; clear hb_; clear hb4_; (try clear HB); have HB := n0_; clear n0_) | ((with_reducible refine gate_store (t := 69) (p := 6) rfl ?_); refine wpList_store_rowTo rfl 69 (.tmp 6) (.tmp 16) rfl rfl b4 (#[.slice A0_0 l0_0.length c0_0, .int .i64 a0_1, .slice A0_2 l0_2.length c0_2, .int .i64 a0_3, .int .i64 (widthP l0_0)]) rfl rfl 69 (#[.slice none 0 0, .int .i64 0, .slice none 0 0, .int .i64 0, .int .i64 0]) Bb4.out info69n rfl (by simp [Value.oneCell']) ?_; refine named_world _ ?_; intro w4 hw_; have B4 : Aside0 (w4.heap[b4]? = some (.cells #[.slice A0_0 l0_0.length c0_0, .int .i64 a0_1, .slice A0_2 l0_2.length c0_2, .int .i64 a0_3, .int .i64 (widthP l0_0)] 69 (0, 0))) := ⟨by rw [hw_]; exact setRow_heap _ _ _ _ _ _ Bb4.out⟩; have B1 : Aside0 (w4.heap[b1]? = some (.cells #[.slice A0_0 l0_0.length c0_0, .int .i64 a0_1, .slice A0_2 l0_2.length c0_2, .int .i64 a0_3] 25 (0, 0))) := ⟨by rw [hw_, setRow_other _ _ _ _ N14.out]; exact Db1.out⟩; have HB1 : Aside0 (Below w.heap.size w w4) := ⟨by rw [hw_]; exact below_setRow HB.out G4.out _⟩; clear Bb4 Db1 HB; have HB := HB1; clear HB1; have f0 : w4.cell? ⟨b4, 4, none⟩ = some (.int .i64 (widthP l0_0)) := (blk_cell B4.out 4).trans rfl; have f1 : w4.cell? ⟨b1, 3, none⟩ = some (.int .i64 a0_3) := (blk_cell B1.out 3).trans rfl; have f2 : w4.cell? ⟨b1, 1, none⟩ = some (.int .i64 a0_1) := (blk_cell B1.out 1).trans rfl; have f3 : w4.cell? ⟨b1, 0, none⟩ = some (.slice A0_0 l0_0.length c0_0) := (blk_cell B1.out 0).trans rfl; clear hw_) | ((with_reducible refine gate_callee (f := 46) rfl ?_); (try (refine gate_guard (by rfl) ?_; dsimp only)); refine goesL_ (some 21) rfl rfl Try.func46 (by kernel_rfl) rfl #[.agg #[.slice none 0 0, .slice none 0 0], .int .i64 0, .slice A1 l1.length c1] rfl qz35 ?_; refine (HE.out _ HB.out).mono ?_; rintro e_ w_ ⟨rfl, hb_⟩; have C4 := Aside0.mk (blk_below B4.out hb_); have HB1 := Aside0.mk (below_then HB.out HB.out.size hb_); clear B4 HB hb_ f0 f1 f2 f3; have HB := HB1; clear HB1; refine ⟨_, rfl, ?_⟩) | ((with_reducible refine gate_dst (N := 30) rfl ?_); refine map_event rfl (N := 30) rfl (by rfl) ?_; intro b30 hb30_ w30 hmap_ hb_; have D4 := Aside0.mk (blk_below C4.out hb_); have N30 := Aside0.mk (by have := blk_lt C4.out; omega : b4 ≠ b30); have G30 := Aside0.mk (by rw [hb30_]; exact HB.out.size : w.heap.size ≤ b30); have HK0 := Aside0.mk (keys_none hmap_); have HB1 := Aside0.mk (below_then HB.out HB.out.size hb_); clear C4 HB hb_ hmap_ hb30_; have HB := HB1; clear HB1; have x0_ := True.intro))
      clear x0_
      go_loopg [33] l1.length (fun kq v33 wr => ∃ (x : Int), v33 = .int .i64 x ∧ Aside0 (∃ i : Nat, x = i ∧ kq + i = l1.length ∧ KeysT (l1.take i).reverse wr b30) ∧ Aside0 (wr.heap[b4]? = some (.cells #[.slice A0_0 l0_0.length c0_0, .int .i64 a0_1, .slice A0_2 l0_2.length c0_2, .int .i64 a0_3, .int .i64 (widthP l0_0)] 69 (0, 0))) ∧ Aside0 (Below w.heap.size w wr))
      case atStart => exact ⟨0, rfl, ⟨0, rfl, by omega, HK0.out⟩, D4, HB⟩
      case round =>
        clear HK0 D4 HB
        obtain ⟨x, rfl, HI, D4, HB⟩ := hrel
        obtain ⟨wi, rfl⟩ : ∃ wi : World, wi = wr := ⟨_, rfl⟩
        by_cases hxl : x < (l1.length : Int)
        · have hxl' := decide_eq_true hxl
          obtain ⟨ki, rfl⟩ : ∃ ki, gk = ki + 1 := ⟨gk - 1, by obtain ⟨i, rfl, h1, _⟩ := HI.out; omega⟩
          have hx0 : 0 ≤ x := by obtain ⟨i, rfl, _⟩ := HI.out; omega
          have HR4 := Aside0.mk (Kd.C_below HR3.out HB.out)
          obtain ⟨ae, rfl, hcell⟩ := Kd.at_int HR4.out x hx0 hxl
          obtain ⟨vx, hvx⟩ : ∃ vx, rd l1 x = vx := ⟨_, rfl⟩
          have HVX := Aside0.mk hvx
          have HXP := Aside0.mk (And.intro hx0 hxl)
          have HK1 : Aside0 (∃ L, KeysT L wi b30 ∧ ∀ i : Nat, x = i → (l1.take (i + 1)).reverse = vx :: L) := ⟨by
            obtain ⟨i, rfl, h1, h2⟩ := HI.out
            refine ⟨_, h2, fun j hj => ?_⟩
            obtain rfl : i = j := by omega
            rw [← hvx]
            exact take_rev l1 i (by omega)⟩
          rw [hvx] at hcell
          have q1 := eq_true hx0
          have q2 := eq_true hxl
          clear hvx hx0 hxl
          obtain ⟨L, HK2⟩ := HK1.out
          have HK3 := Aside0.mk HK2
          clear HK2
          go_wp2_with (first | ((with_reducible refine gate_update (t := 92) rfl ?_); obtain ⟨w5, hr_, hk_, ho_, hb_⟩ := update_keys u92 Try.underlying3 HK3.out.1 vx; refine update_event rfl rfl rfl rfl rfl rfl hr_ ?_; have HK5 := Aside0.mk hk_; have D5 := Aside0.mk ((ho_ b4 N30.out).trans D4.out); have HB5 := Aside0.mk (HB.out.trans (hb_ _ G30.out)); clear hr_ hk_ ho_ hb_))
          go_roundg ki
          case measure => omega
          case rel =>
            refine ⟨x + 1, by rw [show wrap64 (x + 1) = x + 1 by have := HL1.out; have := HXP.out; unfold wrap64; omega], ⟨?_⟩, D5, HB5⟩
            obtain ⟨i, rfl, h1, h2⟩ := HI.out
            have hQ := HXP.out
            exact ⟨i + 1, by omega, by omega, by rw [HK3.out.2 i rfl]; exact HK5.out⟩
        · have hxl' := decide_eq_false hxl
          have HKE : Aside0 (KeysT l1.reverse wi b30) := ⟨by
            obtain ⟨i, rfl, h1, h2⟩ := HI.out
            rw [List.take_of_length_le (by omega)] at h2
            exact h2⟩
          have HPE : Aside0 (∀ W (hb : Below w.heap.size w W) (hk : KeysT l1.reverse W b30), Calls Try.prog 47 #[.agg #[.slice A0_0 l0_0.length c0_0, .int .i64 a0_1, .slice A0_2 l0_2.length c0_2, .int .i64 a0_3, .int .i64 (widthP l0_0)], .func (.func 48) #[.map (some b30)] #[]] W fun e w' => ∃ v0_ : Value, e = .returned v0_ ∧ Kd.R (Kd.int .i64) 3 w' W.heap.size (fun _ => True) v0_ (playF l0_0 a0_1 a0_3 fun v => decide (v ∈ l1)) ∧ Below W.heap.size W w') := ⟨fun W hb hk => by
            have h := HPL.out W hb l1.reverse b30 hk HM.out
            simp only [List.mem_reverse] at h
            exact h⟩
          clear hxl
          go_wp2_with (first | ((with_reducible refine gate_dst (N := 40) rfl ?_); (try (refine gate_guard (by rfl) ?_; dsimp only)); refine wpList_load_row rfl 69 (.tmp 6) rfl b4 rfl 69 (#[.slice A0_0 l0_0.length c0_0, .int .i64 a0_1, .slice A0_2 l0_2.length c0_2, .int .i64 a0_3, .int .i64 (widthP l0_0)]) (0, 0) _ D4.out Try.underlying69 rfl info69n ?_) | ((with_reducible refine gate_callee (f := 47) rfl ?_); (try (refine gate_guard (by rfl) ?_; dsimp only)); refine goesL_ (some 43) rfl rfl Try.func47 (by kernel_rfl) rfl #[.agg #[.slice A0_0 l0_0.length c0_0, .int .i64 a0_1, .slice A0_2 l0_2.length c0_2, .int .i64 a0_3, .int .i64 (widthP l0_0)], .func (.func 48) #[.map (some b30)] #[]] rfl qz35 ?_; refine (HPE.out _ HB.out HKE.out).mono ?_; rintro e_ w_ ⟨v0_, rfl, hR_, hb_⟩; have HX := Aside0.mk (Kd.R_lower hR_ HB.out.size); have HB5 := Aside0.mk (below_then HB.out HB.out.size hb_); clear hb_ hR_; refine ⟨_, rfl, ?_⟩))
          go_ret2
          exact ⟨_, rfl, HX.out, HB5.out⟩
end Go.Proofs.Ytjlehbncpjccmaa.Q
namespace Go.Proofs.Ytjlehbncpjccmaa.Q
open Go.RowKit Go.Proofs.YtjlehbncpjccmaaW.PrintWords Go.Proofs.YtjlehbncpjccmaaW.PrintLast Go.Proofs.YtjlehbncpjccmaaW.PrintMore
attribute [local go_sem] max2_int min2_int max_two min_two max_three min_three max_four min_four
set_option linter.unusedVariables false
set_option linter.unusedSimpArgs false

section
variable {P : Program} {ops : Array Oper} {Q : Exit → Act → World → Prop}
/-- A slice that is built: its block has a name. -/
theorem slice_event {rest : List Oper} {o : Oper} {a : Act} {W : World} (hgd : o.guard = none) {N : Tmp} (_hd : o.dst = some N) {cs : Array Value} {t n : Nat}
    (hrun : (execOp a.eval o).run P W = .ok (.value (.slice (some ⟨W.heap.size, 0, none⟩) n n)) (W.alloc (.cells cs t (0, 0))))
    (h : ∀ g, ∀ w1, w1.heap[g]? = some (.cells cs t (0, 0)) → Below W.heap.size W w1 → wpList P ops Q rest (a.put o.dst (.slice (some ⟨g, 0, none⟩) n n)) w1) : wpList P ops Q (o :: rest) a W :=
  Kd.event_run hgd hrun (h _ _ (blk_new W _) (below_alloc (Below.refl _ _) _))
end
theorem C_ints {W : World} {b : Nat} (xs : List Int) {cs : Array Value} (h : W.heap[b]? = some (.cells cs 3 (0, 0))) (hc : cs = (xs.map (Value.int .i64)).toArray) (hl : xs.length ≤ 1000) : Kd.C (Kd.int .i64) W (some ⟨b, 0, none⟩) xs.length xs := by
  subst hc
  refine ⟨rfl, by omega, fun _ => ⟨_, rfl, fun j p hp => ⟨[.int .i64 p], rfl, rfl, fun i u hu => ?_⟩⟩⟩
  have hj := (List.getElem?_eq_some_iff.1 hp).1
  have hi : i = 0 := by have := (List.getElem?_eq_some_iff.1 hu).1; simp at this; omega
  subst hi
  simp at hu
  subst hu
  have ha : (⟨b, 0, none⟩ : Addr).add (j * (Kd.int .i64).sz + 0) = ⟨b, j, none⟩ := by
    show (⟨b, 0, none⟩ : Addr).add (j * 1 + 0) = _
    unfold Addr.add
    split
    · congr 1; omega
    · simp
  rw [ha]
  refine (blk_cell h j).trans ?_
  simp [hp]
theorem C_lists {W : World} {b : Nat} (xs : List (List Int)) {cs : Array Value} (h : W.heap[b]? = some (.cells cs 23 (0, 0))) (hl : xs.length ≤ 1000)
    (hv : ∀ (j : Nat) (x : List Int), xs[j]? = some x → ∃ (A : Option Addr) (c : Nat), cs[j]? = some (Value.slice A x.length c) ∧ x.length ≤ c ∧ Kd.C (Kd.int .i64) W A x.length x) : Kd.C (Kd.slice 3 (Kd.int .i64)) W (some ⟨b, 0, none⟩) xs.length xs := by
  refine ⟨rfl, by omega, fun _ => ⟨_, rfl, fun j p hp => ?_⟩⟩
  obtain ⟨A, c, hcs, hlc, hC⟩ := hv j p hp
  refine ⟨[.slice A p.length c], rfl, ⟨A, c, rfl, hlc, hC⟩, fun i u hu => ?_⟩
  have hi : i = 0 := by have := (List.getElem?_eq_some_iff.1 hu).1; simp at this; omega
  subst hi
  simp at hu
  subst hu
  have ha : (⟨b, 0, none⟩ : Addr).add (j * (Kd.slice 3 (Kd.int .i64)).sz + 0) = ⟨b, j, none⟩ := by
    show (⟨b, 0, none⟩ : Addr).add (j * 1 + 0) = _
    unfold Addr.add
    split
    · congr 1; omega
    · simp
  rw [ha]
  exact (blk_cell h j).trans hcs
def exP : List S55 := [⟨true, [1, 2]⟩, ⟨false, [0, 3]⟩, ⟨false, [3, 3]⟩, ⟨true, []⟩]
set_option maxHeartbeats 6400000 in
set_option maxRecDepth 100000 in
theorem head.calls (w : World) : Calls Try.prog 9 #[] w fun e w' => e = .returned (.bool true) ∧ Below w.heap.size w w' := by
  have HB := Aside0.mk (Below.refl w.heap.size w)
  go_enter Try.func9, Try.ntmps9
  go_wp2_with (first | ((with_reducible refine gate_callee (f := 31) rfl ?_); (try (refine gate_guard (by rfl) ?_; dsimp only)); refine goesL_ (some 19) rfl rfl Try.func31 (by kernel_rfl) rfl #[.int .i64 2] rfl qz35 ?_; refine (skolemlaw35_example.calls 2 exP 0 [3] 2 _ rfl).mono ?_; rintro e_ w_ ⟨v0_, v2_, rfl, hN_, hR_, hb_⟩; obtain ⟨A0, c0, rfl, hc0_, hr0_⟩ := Kd.N_reads hN_; obtain ⟨A2, c2, rfl, hc2_, hr2_⟩ := Kd.R_reads hR_; have K0 := Aside0.mk hc0_; have K2 := Aside0.mk hc2_; have HBn_ := Aside0.mk (below_then HB.out HB.out.size hb_); clear HB hb_ ; have HB := HBn_; clear HBn_; have R0 := Aside0.mk hr0_; have R2 := Aside0.mk hr2_; clear hN_ hR_ hr0_ hr2_ hc0_ hc2_; refine ⟨_, rfl, ?_⟩) | ((with_reducible refine gate_dst (N := 1) rfl ?_); refine box_event ?hg (N := 1) ?hd (cs := #[.slice none 0 0, .int .i64 0, .slice none 0 0, .int .i64 0]) (t := 25) ?hr ?_; (case hd => rfl); (case hg => rfl); (case hr => exact qz38); intro b1 hb1_ w_b1 hbox hb_; have G1 := Aside0.mk (by rw [hb1_]; exact HB.out.size : w.heap.size ≤ b1); have Bb1 := Aside0.mk hbox; have R0n := Aside0.mk (Kd.C_below R0.out hb_); have R2n := Aside0.mk (Kd.C_below R2.out hb_); have HBn_ := Aside0.mk (below_then HB.out HB.out.size hb_); have N1 := Aside0.mk hb1_; have HBx := Aside0.mk hb_; clear HB hb_ hbox; have HB := HBn_; clear HBn_) | ((with_reducible refine gate_store (t := 25) (p := 1) rfl ?_); refine wpList_store_rowTo rfl 25 (.tmp 1) (.tmp 19) rfl rfl b1 (#[.slice A0 exP.length c0, .int .i64 0, .slice A2 ([3] : List Int).length c2, .int .i64 2]) rfl rfl 25 (#[.slice none 0 0, .int .i64 0, .slice none 0 0, .int .i64 0]) Bb1.out info25n rfl (by simp [Value.oneCell']) ?_; refine named_world _ ?_; intro w1 hw_; have B1 : Aside0 (w1.heap[b1]? = some (.cells #[.slice A0 exP.length c0, .int .i64 0, .slice A2 ([3] : List Int).length c2, .int .i64 2] 25 (0, 0))) := ⟨by rw [hw_]; exact setRow_heap _ _ _ _ _ _ Bb1.out⟩; have hbs_ := below_setRow HBx.out (by rw [N1.out]; exact Nat.le_refl _ : _ ≤ b1) (#[.slice A0 exP.length c0, .int .i64 0, .slice A2 ([3] : List Int).length c2, .int .i64 2]); rw [← hw_] at hbs_; have R0v1 := Aside0.mk (Kd.C_below R0.out hbs_); have R2v1 := Aside0.mk (Kd.C_below R2.out hbs_); have HB1 : Aside0 (Below w.heap.size w w1) := ⟨by rw [hw_]; exact below_setRow HB.out G1.out _⟩; clear Bb1 HB R0 R2 R0n R2n hbs_ HBx N1 hb1_; have HB := HB1; clear HB1; clear hw_) | ((with_reducible refine gate_dst (N := 21) rfl ?_); (try (refine gate_guard (by rfl) ?_; dsimp only)); refine wpList_load_row rfl 25 (.tmp 1) rfl b1 rfl 25 (#[.slice A0 exP.length c0, .int .i64 0, .slice A2 ([3] : List Int).length c2, .int .i64 2]) (0, 0) _ B1.out Try.underlying25 rfl info25n ?_) | ((with_reducible refine gate_callee (f := 10) rfl ?_); (try (refine gate_guard (by rfl) ?_; dsimp only)); refine goesL_ (some 22) rfl rfl Try.func10 (by kernel_rfl) rfl #[.agg #[.slice A0 exP.length c0, .int .i64 0, .slice A2 ([3] : List Int).length c2, .int .i64 2]] rfl qz35 ?_; refine (puzzle_Width.calls A0 c0 exP 0 A2 c2 [3] 2 1 0 _ R0v1.out K0.out R2v1.out K2.out (by kernel_rfl)).mono ?_; rintro e_ w_ ⟨rfl, hb_⟩; have R0v2 := Aside0.mk (Kd.C_below R0v1.out hb_); have R2v2 := Aside0.mk (Kd.C_below R2v1.out hb_); have B1v1 := Aside0.mk (blk_below B1.out hb_); have HBn_ := Aside0.mk (below_then HB.out HB.out.size hb_); clear HB hb_ R0v1 R2v1 B1; have HB := HBn_; clear HBn_; refine ⟨_, rfl, ?_⟩) | ((with_reducible refine gate_callee (f := 31) rfl ?_); (try (refine gate_guard (by rfl) ?_; dsimp only)); refine goesL_ (some 26) rfl rfl Try.func31 (by kernel_rfl) rfl #[.int .i64 1] rfl qz35 ?_; refine (skolemlaw35_example.calls 1 exP 0 [3] 1 _ rfl).mono ?_; rintro e_ w_ ⟨v0_, v2_, rfl, hN_, hR_, hb_⟩; obtain ⟨A1, c1, rfl, hc1_, hr0_⟩ := Kd.N_reads hN_; obtain ⟨A3, c3, rfl, hc3_, hr2_⟩ := Kd.R_reads hR_; have K1 := Aside0.mk hc1_; have K3 := Aside0.mk hc3_; have R0v3 := Aside0.mk (Kd.C_below R0v2.out hb_); have R2v3 := Aside0.mk (Kd.C_below R2v2.out hb_); have B1v2 := Aside0.mk (blk_below B1v1.out hb_); have HBn_ := Aside0.mk (below_then HB.out HB.out.size hb_); clear HB hb_ R0v2 R2v2 B1v1; have HB := HBn_; clear HBn_; have R1 := Aside0.mk hr0_; have R3 := Aside0.mk hr2_; clear hN_ hR_ hr0_ hr2_ hc1_ hc3_; refine ⟨_, rfl, ?_⟩) | ((with_reducible refine gate_callee (f := 14) rfl ?_); (try (refine gate_guard (by rfl) ?_; dsimp only)); refine goesL_ (some 27) rfl rfl Try.func14 (by kernel_rfl) rfl #[.agg #[.slice A1 exP.length c1, .int .i64 0, .slice A3 ([3] : List Int).length c3, .int .i64 1]] rfl qz35 ?_; refine (puzzle_Wins.calls A1 c1 exP 0 A3 c3 [3] 1 false 0 _ R1.out K1.out R3.out K3.out (by kernel_rfl)).mono ?_; rintro e_ w_ ⟨rfl, hb_⟩; have R0v4 := Aside0.mk (Kd.C_below R0v3.out hb_); have R2v4 := Aside0.mk (Kd.C_below R2v3.out hb_); have B1v3 := Aside0.mk (blk_below B1v2.out hb_); have R1v1 := Aside0.mk (Kd.C_below R1.out hb_); have R3v1 := Aside0.mk (Kd.C_below R3.out hb_); have HBn_ := Aside0.mk (below_then HB.out HB.out.size hb_); clear HB hb_ R0v3 R2v3 B1v2 R1 R3; have HB := HBn_; clear HBn_; refine ⟨_, rfl, ?_⟩) | ((with_reducible refine gate_dst (N := 31) rfl ?_); (try (refine gate_guard (by rfl) ?_; dsimp only)); refine wpList_load_row rfl 25 (.tmp 1) rfl b1 rfl 25 (#[.slice A0 exP.length c0, .int .i64 0, .slice A2 ([3] : List Int).length c2, .int .i64 2]) (0, 0) _ B1v3.out Try.underlying25 rfl info25n ?_) | ((with_reducible refine gate_callee (f := 14) rfl ?_); (try (refine gate_guard (by rfl) ?_; dsimp only)); refine goesL_ (some 32) rfl rfl Try.func14 (by kernel_rfl) rfl #[.agg #[.slice A0 exP.length c0, .int .i64 0, .slice A2 ([3] : List Int).length c2, .int .i64 2]] rfl qz35 ?_; refine (puzzle_Wins.calls A0 c0 exP 0 A2 c2 [3] 2 true 0 _ R0v4.out K0.out R2v4.out K2.out (by kernel_rfl)).mono ?_; rintro e_ w_ ⟨rfl, hb_⟩; have R0v5 := Aside0.mk (Kd.C_below R0v4.out hb_); have R2v5 := Aside0.mk (Kd.C_below R2v4.out hb_); have B1v4 := Aside0.mk (blk_below B1v3.out hb_); have HBn_ := Aside0.mk (below_then HB.out HB.out.size hb_); clear HB hb_ R0v4 R2v4 B1v3; have HB := HBn_; clear HBn_; refine ⟨_, rfl, ?_⟩) | ((with_reducible refine gate_dst (N := 36) rfl ?_); (try (refine gate_guard (by rfl) ?_; dsimp only)); refine wpList_load_row rfl 25 (.tmp 1) rfl b1 rfl 25 (#[.slice A0 exP.length c0, .int .i64 0, .slice A2 ([3] : List Int).length c2, .int .i64 2]) (0, 0) _ B1v4.out Try.underlying25 rfl info25n ?_) | ((with_reducible refine gate_callee (f := 12) rfl ?_); (try (refine gate_guard (by rfl) ?_; dsimp only)); refine goesL_ (some 37) rfl rfl Try.func12 (by kernel_rfl) rfl #[.agg #[.slice A0 exP.length c0, .int .i64 0, .slice A2 ([3] : List Int).length c2, .int .i64 2], .int .i64 2, .bool false] rfl qz35 ?_; refine (puzzle_Choice.calls A0 c0 exP 0 A2 c2 [3] 2 2 false [4] 0 _ R0v5.out K0.out R2v5.out K2.out (by kernel_rfl)).mono ?_; rintro e_ w_ ⟨v_, rfl, hR_, hb_⟩; obtain ⟨A8, c8, rfl, hc8_, hr_⟩ := Kd.R_reads hR_; have K8 := Aside0.mk hc8_; have R0v6 := Aside0.mk (Kd.C_below R0v5.out hb_); have R2v6 := Aside0.mk (Kd.C_below R2v5.out hb_); have B1v5 := Aside0.mk (blk_below B1v4.out hb_); have HBn_ := Aside0.mk (below_then HB.out HB.out.size hb_); clear HB hb_ R0v5 R2v5 B1v4; have HB := HBn_; clear HBn_; have R8 := Aside0.mk hr_; clear hR_ hr_ hc8_; refine ⟨_, rfl, ?_⟩) | ((with_reducible refine gate_dst (N := 41) rfl ?_); (try (refine gate_guard (by rfl) ?_; dsimp only)); refine wpList_load_row rfl 25 (.tmp 1) rfl b1 rfl 25 (#[.slice A0 exP.length c0, .int .i64 0, .slice A2 ([3] : List Int).length c2, .int .i64 2]) (0, 0) _ B1v5.out Try.underlying25 rfl info25n ?_) | ((with_reducible refine gate_callee (f := 16) rfl ?_); (try (refine gate_guard (by rfl) ?_; dsimp only)); refine goesL_ (some 42) rfl rfl Try.func16 (by kernel_rfl) rfl #[.agg #[.slice A0 exP.length c0, .int .i64 0, .slice A2 ([3] : List Int).length c2, .int .i64 2]] rfl qz35 ?_; refine (puzzle_Guide.calls A0 c0 exP 0 A2 c2 [3] 2 [[-1, -1, -1, -1], [1, -1, -1, -1]] 0 _ R0v6.out K0.out R2v6.out K2.out (by kernel_rfl)).mono ?_; rintro e_ w_ ⟨v_, rfl, hR_, hb_⟩; obtain ⟨A10, c10, rfl, hc10_, hr_⟩ := Kd.R_reads (Kd.S_R hR_); have K10 := Aside0.mk hc10_; have R0v7 := Aside0.mk (Kd.C_below R0v6.out hb_); have R2v7 := Aside0.mk (Kd.C_below R2v6.out hb_); have B1v6 := Aside0.mk (blk_below B1v5.out hb_); have R8v1 := Aside0.mk (Kd.C_below R8.out hb_); have HBn_ := Aside0.mk (below_then HB.out HB.out.size hb_); clear HB hb_ R0v6 R2v6 B1v5 R8; have HB := HBn_; clear HBn_; have R10 := Aside0.mk hr_; clear hR_ hr_ hc10_; refine ⟨_, rfl, ?_⟩) | ((with_reducible refine gate_dst (N := 46) rfl ?_); (try (refine gate_guard (by rfl) ?_; dsimp only)); refine wpList_load_row rfl 25 (.tmp 1) rfl b1 rfl 25 (#[.slice A0 exP.length c0, .int .i64 0, .slice A2 ([3] : List Int).length c2, .int .i64 2]) (0, 0) _ B1v6.out Try.underlying25 rfl info25n ?_) | ((with_reducible refine gate_dst (N := 47) rfl ?_); (try (refine gate_guard (by rfl) ?_; dsimp only)); refine slice_event ?hg (N := 47) ?hd (cs := #[.int .i64 (1)]) (t := 3) (n := 1) ?hr ?_; (case hd => rfl); (case hg => rfl); (case hr => exact qz38); intro p1 w_ hbox hb_; have R0v8 := Aside0.mk (Kd.C_below R0v7.out hb_); have R2v8 := Aside0.mk (Kd.C_below R2v7.out hb_); have B1v7 := Aside0.mk (blk_below B1v6.out hb_); have R8v2 := Aside0.mk (Kd.C_below R8v1.out hb_); have R10v1 := Aside0.mk (Kd.C_below R10.out hb_); have HBn_ := Aside0.mk (below_then HB.out HB.out.size hb_); clear HB hb_ R0v7 R2v7 B1v6 R8v1 R10; have HB := HBn_; clear HBn_; have Sp1 := Aside0.mk (C_ints (W := w_) [(1)] hbox rfl (by decide)); clear hbox) | ((with_reducible refine gate_callee (f := 22) rfl ?_); (try (refine gate_guard (by rfl) ?_; dsimp only)); refine goesL_ (some 48) rfl rfl Try.func22 (by kernel_rfl) rfl #[.agg #[.slice A0 exP.length c0, .int .i64 0, .slice A2 ([3] : List Int).length c2, .int .i64 2], .slice (some ⟨p1, 0, none⟩) ([1] : List Int).length 1] rfl qz35 ?_; refine (puzzle_Play.calls A0 c0 exP 0 A2 c2 [3] 2 ((some ⟨p1, 0, none⟩)) 1 [1] [0, 2, 3] 0 _ R0v8.out K0.out R2v8.out K2.out Sp1.out (by decide) (by kernel_rfl)).mono ?_; rintro e_ w_ ⟨v_, rfl, hR_, hb_⟩; obtain ⟨A12, c12, rfl, hc12_, hr_⟩ := Kd.R_reads hR_; have K12 := Aside0.mk hc12_; have R0v9 := Aside0.mk (Kd.C_below R0v8.out hb_); have R2v9 := Aside0.mk (Kd.C_below R2v8.out hb_); have B1v8 := Aside0.mk (blk_below B1v7.out hb_); have R8v3 := Aside0.mk (Kd.C_below R8v2.out hb_); have R10v2 := Aside0.mk (Kd.C_below R10v1.out hb_); have Sp1v1 := Aside0.mk (Kd.C_below Sp1.out hb_); have HBn_ := Aside0.mk (below_then HB.out HB.out.size hb_); clear HB hb_ R0v8 R2v8 B1v7 R8v2 R10v1 Sp1; have HB := HBn_; clear HBn_; have R12 := Aside0.mk hr_; clear hR_ hr_ hc12_; refine ⟨_, rfl, ?_⟩) | ((with_reducible refine gate_dst (N := 52) rfl ?_); (try (refine gate_guard (by rfl) ?_; dsimp only)); refine wpList_load_row rfl 25 (.tmp 1) rfl b1 rfl 25 (#[.slice A0 exP.length c0, .int .i64 0, .slice A2 ([3] : List Int).length c2, .int .i64 2]) (0, 0) _ B1v8.out Try.underlying25 rfl info25n ?_) | ((with_reducible refine gate_dst (N := 53) rfl ?_); (try (refine gate_guard (by rfl) ?_; dsimp only)); refine slice_event ?hg (N := 53) ?hd (cs := #[.int .i64 (1), .int .i64 (4)]) (t := 3) (n := 2) ?hr ?_; (case hd => rfl); (case hg => rfl); (case hr => exact qz38); intro p2 w_ hbox hb_; have R0v10 := Aside0.mk (Kd.C_below R0v9.out hb_); have R2v10 := Aside0.mk (Kd.C_below R2v9.out hb_); have B1v9 := Aside0.mk (blk_below B1v8.out hb_); have R8v4 := Aside0.mk (Kd.C_below R8v3.out hb_); have R10v3 := Aside0.mk (Kd.C_below R10v2.out hb_); have R12v1 := Aside0.mk (Kd.C_below R12.out hb_); have HBn_ := Aside0.mk (below_then HB.out HB.out.size hb_); clear HB hb_ R0v9 R2v9 B1v8 R8v3 R10v2 R12; have HB := HBn_; clear HBn_; have Sp2 := Aside0.mk (C_ints (W := w_) [(1), (4)] hbox rfl (by decide)); clear hbox) | ((with_reducible refine gate_callee (f := 22) rfl ?_); (try (refine gate_guard (by rfl) ?_; dsimp only)); refine goesL_ (some 54) rfl rfl Try.func22 (by kernel_rfl) rfl #[.agg #[.slice A0 exP.length c0, .int .i64 0, .slice A2 ([3] : List Int).length c2, .int .i64 2], .slice (some ⟨p2, 0, none⟩) ([1, 4] : List Int).length 2] rfl qz35 ?_; refine (puzzle_Play.calls A0 c0 exP 0 A2 c2 [3] 2 ((some ⟨p2, 0, none⟩)) 2 [1, 4] [0, 2, 3] 0 _ R0v10.out K0.out R2v10.out K2.out Sp2.out (by decide) (by kernel_rfl)).mono ?_; rintro e_ w_ ⟨v_, rfl, hR_, hb_⟩; obtain ⟨A14, c14, rfl, hc14_, hr_⟩ := Kd.R_reads hR_; have K14 := Aside0.mk hc14_; have R0v11 := Aside0.mk (Kd.C_below R0v10.out hb_); have R2v11 := Aside0.mk (Kd.C_below R2v10.out hb_); have B1v10 := Aside0.mk (blk_below B1v9.out hb_); have R8v5 := Aside0.mk (Kd.C_below R8v4.out hb_); have R10v4 := Aside0.mk (Kd.C_below R10v3.out hb_); have R12v2 := Aside0.mk (Kd.C_below R12v1.out hb_); have Sp2v1 := Aside0.mk (Kd.C_below Sp2.out hb_); have HBn_ := Aside0.mk (below_then HB.out HB.out.size hb_); clear HB hb_ R0v10 R2v10 B1v9 R8v4 R10v3 R12v1 Sp2; have HB := HBn_; clear HBn_; have R14 := Aside0.mk hr_; clear hR_ hr_ hc14_; refine ⟨_, rfl, ?_⟩) | ((with_reducible refine gate_dst (N := 58) rfl ?_); (try (refine gate_guard (by rfl) ?_; dsimp only)); refine wpList_load_row rfl 25 (.tmp 1) rfl b1 rfl 25 (#[.slice A0 exP.length c0, .int .i64 0, .slice A2 ([3] : List Int).length c2, .int .i64 2]) (0, 0) _ B1v10.out Try.underlying25 rfl info25n ?_) | ((with_reducible refine gate_callee (f := 22) rfl ?_); (try (refine gate_guard (by rfl) ?_; dsimp only)); refine goesL_ (some 59) rfl rfl Try.func22 (by kernel_rfl) rfl #[.agg #[.slice A0 exP.length c0, .int .i64 0, .slice A2 ([3] : List Int).length c2, .int .i64 2], .slice none 0 0] rfl qz35 ?_; refine (puzzle_Play.calls A0 c0 exP 0 A2 c2 [3] 2 (none) 0 [] [0, 1, 0] 0 _ R0v11.out K0.out R2v11.out K2.out (Kd.C_nil _ _) (by decide) (by kernel_rfl)).mono ?_; rintro e_ w_ ⟨v_, rfl, hR_, hb_⟩; obtain ⟨A16, c16, rfl, hc16_, hr_⟩ := Kd.R_reads hR_; have K16 := Aside0.mk hc16_; have R0v12 := Aside0.mk (Kd.C_below R0v11.out hb_); have R2v12 := Aside0.mk (Kd.C_below R2v11.out hb_); have B1v11 := Aside0.mk (blk_below B1v10.out hb_); have R8v6 := Aside0.mk (Kd.C_below R8v5.out hb_); have R10v5 := Aside0.mk (Kd.C_below R10v4.out hb_); have R12v3 := Aside0.mk (Kd.C_below R12v2.out hb_); have R14v1 := Aside0.mk (Kd.C_below R14.out hb_); have HBn_ := Aside0.mk (below_then HB.out HB.out.size hb_); clear HB hb_ R0v11 R2v11 B1v10 R8v5 R10v4 R12v2 R14; have HB := HBn_; clear HBn_; have R16 := Aside0.mk hr_; clear hR_ hr_ hc16_; refine ⟨_, rfl, ?_⟩) | ((with_reducible refine gate_dst (N := 85) rfl ?_); (try (refine gate_guard (by rfl) ?_; dsimp only)); refine slice_event ?hg (N := 85) ?hd (cs := #[.int .i64 (4)]) (t := 3) (n := 1) ?hr ?_; (case hd => rfl); (case hg => rfl); (case hr => exact qz38); intro p3 w_ hbox hb_; have R8v7 := Aside0.mk (Kd.C_below R8v6.out hb_); have R10v6 := Aside0.mk (Kd.C_below R10v5.out hb_); have R12v4 := Aside0.mk (Kd.C_below R12v3.out hb_); have R14v2 := Aside0.mk (Kd.C_below R14v1.out hb_); have R16v1 := Aside0.mk (Kd.C_below R16.out hb_); have HBn_ := Aside0.mk (below_then HB.out HB.out.size hb_); clear HB hb_ R8v6 R10v5 R12v3 R14v1 R16; have HB := HBn_; clear HBn_; have Sp3 := Aside0.mk (C_ints (W := w_) [(4)] hbox rfl (by decide)); clear hbox) | ((with_reducible refine gate_callee (f := 20) rfl ?_); (try (refine gate_guard (by rfl) ?_; dsimp only)); refine goesL_ (some 86) rfl rfl Try.func20 (by kernel_rfl) rfl #[.slice A8 ([4] : List Int).length c8, .slice (some ⟨p3, 0, none⟩) 1 1] rfl qz35 ?_; refine (skolemref03_Ints.calls 9 A8 c8 [4] (some ⟨p3, 0, none⟩) 1 [4] true _ R8v7.out K8.out Sp3.out (by decide) (by kernel_rfl)).mono ?_; rintro e_ w_ ⟨rfl, hd_⟩; have hb_ := hd_.below; have R8v8 := Aside0.mk (Kd.C_below R8v7.out hb_); have R10v7 := Aside0.mk (Kd.C_below R10v6.out hb_); have R12v5 := Aside0.mk (Kd.C_below R12v4.out hb_); have R14v3 := Aside0.mk (Kd.C_below R14v2.out hb_); have R16v2 := Aside0.mk (Kd.C_below R16v1.out hb_); have Sp3v1 := Aside0.mk (Kd.C_below Sp3.out hb_); have HBn_ := Aside0.mk (below_then HB.out HB.out.size hb_); clear HB hb_ R8v7 R10v6 R12v4 R14v2 R16v1 Sp3 hd_; have HB := HBn_; clear HBn_; refine ⟨_, rfl, ?_⟩) | ((with_reducible refine gate_dst (N := 103) rfl ?_); (try (refine gate_guard (by rfl) ?_; dsimp only)); refine slice_event ?hg (N := 103) ?hd (cs := #[.int .i64 (-1), .int .i64 (-1), .int .i64 (-1), .int .i64 (-1)]) (t := 3) (n := 4) ?hr ?_; (case hd => rfl); (case hg => rfl); (case hr => exact qz38); intro q1 w_ hbox hb_; have R10v8 := Aside0.mk (Kd.C_below R10v7.out hb_); have R12v6 := Aside0.mk (Kd.C_below R12v5.out hb_); have R14v4 := Aside0.mk (Kd.C_below R14v3.out hb_); have R16v3 := Aside0.mk (Kd.C_below R16v2.out hb_); have HBn_ := Aside0.mk (below_then HB.out HB.out.size hb_); clear HB hb_ R10v7 R12v5 R14v3 R16v2; have HB := HBn_; clear HBn_; have Sq1 := Aside0.mk (C_ints (W := w_) [(-1), (-1), (-1), (-1)] hbox rfl (by decide)); clear hbox) | ((with_reducible refine gate_dst (N := 104) rfl ?_); (try (refine gate_guard (by rfl) ?_; dsimp only)); refine slice_event ?hg (N := 104) ?hd (cs := #[.int .i64 (1), .int .i64 (-1), .int .i64 (-1), .int .i64 (-1)]) (t := 3) (n := 4) ?hr ?_; (case hd => rfl); (case hg => rfl); (case hr => exact qz38); intro q2 w_ hbox hb_; have R10v9 := Aside0.mk (Kd.C_below R10v8.out hb_); have R12v7 := Aside0.mk (Kd.C_below R12v6.out hb_); have R14v5 := Aside0.mk (Kd.C_below R14v4.out hb_); have R16v4 := Aside0.mk (Kd.C_below R16v3.out hb_); have Sq1v1 := Aside0.mk (Kd.C_below Sq1.out hb_); have HBn_ := Aside0.mk (below_then HB.out HB.out.size hb_); clear HB hb_ R10v8 R12v6 R14v4 R16v3 Sq1; have HB := HBn_; clear HBn_; have Sq2 := Aside0.mk (C_ints (W := w_) [(1), (-1), (-1), (-1)] hbox rfl (by decide)); clear hbox) | ((with_reducible refine gate_dst (N := 105) rfl ?_); (try (refine gate_guard (by rfl) ?_; dsimp only)); refine slice_event ?hg (N := 105) ?hd (cs := #[.slice (some ⟨q1, 0, none⟩) 4 4, .slice (some ⟨q2, 0, none⟩) 4 4]) (t := 23) (n := 2) ?hr ?_; (case hd => rfl); (case hg => rfl); (case hr => exact qz38); intro q3 w_ hbox hb_; have R10v10 := Aside0.mk (Kd.C_below R10v9.out hb_); have R12v8 := Aside0.mk (Kd.C_below R12v7.out hb_); have R14v6 := Aside0.mk (Kd.C_below R14v5.out hb_); have R16v5 := Aside0.mk (Kd.C_below R16v4.out hb_); have Sq1v2 := Aside0.mk (Kd.C_below Sq1v1.out hb_); have Sq2v1 := Aside0.mk (Kd.C_below Sq2.out hb_); have HBn_ := Aside0.mk (below_then HB.out HB.out.size hb_); clear HB hb_ R10v9 R12v7 R14v5 R16v4 Sq1v1 Sq2; have HB := HBn_; clear HBn_; have Sq3 := Aside0.mk (C_lists (W := w_) [[-1, -1, -1, -1], [1, -1, -1, -1]] hbox (by decide) (fun j x hx => (match j, x, hx with | 0, x, hx => by obtain rfl := Option.some.inj hx; exact ⟨_, _, rfl, (by decide), Sq1v2.out⟩ | 1, x, hx => by obtain rfl := Option.some.inj hx; exact ⟨_, _, rfl, (by decide), Sq2v1.out⟩ | (j + 2), x, hx => by simp at hx))); clear hbox) | ((with_reducible refine gate_callee (f := 21) rfl ?_); (try (refine gate_guard (by rfl) ?_; dsimp only)); refine goesL_ (some 106) rfl rfl Try.func21 (by kernel_rfl) rfl #[.slice A10 ([[-1, -1, -1, -1], [1, -1, -1, -1]] : List (List Int)).length c10, .slice (some ⟨q3, 0, none⟩) 2 2] rfl qz35 ?_; refine (skolemref03_Lists.calls 20 A10 c10 [[-1, -1, -1, -1], [1, -1, -1, -1]] (some ⟨q3, 0, none⟩) 2 [[-1, -1, -1, -1], [1, -1, -1, -1]] true _ R10v10.out K10.out Sq3.out (by decide) (by kernel_rfl)).mono ?_; rintro e_ w_ ⟨rfl, hd_⟩; have hb_ := hd_.below; have R10v11 := Aside0.mk (Kd.C_below R10v10.out hb_); have R12v9 := Aside0.mk (Kd.C_below R12v8.out hb_); have R14v7 := Aside0.mk (Kd.C_below R14v6.out hb_); have R16v6 := Aside0.mk (Kd.C_below R16v5.out hb_); have Sq1v3 := Aside0.mk (Kd.C_below Sq1v2.out hb_); have Sq2v2 := Aside0.mk (Kd.C_below Sq2v1.out hb_); have Sq3v1 := Aside0.mk (Kd.C_below Sq3.out hb_); have HBn_ := Aside0.mk (below_then HB.out HB.out.size hb_); clear HB hb_ R10v10 R12v8 R14v6 R16v5 Sq1v2 Sq2v1 Sq3 hd_; have HB := HBn_; clear HBn_; refine ⟨_, rfl, ?_⟩) | ((with_reducible refine gate_dst (N := 112) rfl ?_); (try (refine gate_guard (by rfl) ?_; dsimp only)); refine slice_event ?hg (N := 112) ?hd (cs := #[.slice A12 ([0, 2, 3] : List Int).length c12, .slice A14 ([0, 2, 3] : List Int).length c14, .slice A16 ([0, 1, 0] : List Int).length c16]) (t := 23) (n := 3) ?hr ?_; (case hd => rfl); (case hg => rfl); (case hr => exact qz38); intro q4 w_ hbox hb_; have R12v10 := Aside0.mk (Kd.C_below R12v9.out hb_); have R14v8 := Aside0.mk (Kd.C_below R14v7.out hb_); have R16v7 := Aside0.mk (Kd.C_below R16v6.out hb_); have HBn_ := Aside0.mk (below_then HB.out HB.out.size hb_); clear HB hb_ R12v9 R14v7 R16v6; have HB := HBn_; clear HBn_; have Sq4 := Aside0.mk (C_lists (W := w_) [[0, 2, 3], [0, 2, 3], [0, 1, 0]] hbox (by decide) (fun j x hx => (match j, x, hx with | 0, x, hx => by obtain rfl := Option.some.inj hx; exact ⟨_, _, rfl, K12.out, R12v10.out⟩ | 1, x, hx => by obtain rfl := Option.some.inj hx; exact ⟨_, _, rfl, K14.out, R14v8.out⟩ | 2, x, hx => by obtain rfl := Option.some.inj hx; exact ⟨_, _, rfl, K16.out, R16v7.out⟩ | (j + 3), x, hx => by simp at hx))); clear hbox) | ((with_reducible refine gate_dst (N := 113) rfl ?_); (try (refine gate_guard (by rfl) ?_; dsimp only)); refine slice_event ?hg (N := 113) ?hd (cs := #[.int .i64 (0), .int .i64 (2), .int .i64 (3)]) (t := 3) (n := 3) ?hr ?_; (case hd => rfl); (case hg => rfl); (case hr => exact qz38); intro q5 w_ hbox hb_; have Sq4v1 := Aside0.mk (Kd.C_below Sq4.out hb_); have HBn_ := Aside0.mk (below_then HB.out HB.out.size hb_); clear HB hb_ Sq4; have HB := HBn_; clear HBn_; have Sq5 := Aside0.mk (C_ints (W := w_) [(0), (2), (3)] hbox rfl (by decide)); clear hbox) | ((with_reducible refine gate_dst (N := 114) rfl ?_); (try (refine gate_guard (by rfl) ?_; dsimp only)); refine slice_event ?hg (N := 114) ?hd (cs := #[.int .i64 (0), .int .i64 (2), .int .i64 (3)]) (t := 3) (n := 3) ?hr ?_; (case hd => rfl); (case hg => rfl); (case hr => exact qz38); intro q6 w_ hbox hb_; have Sq4v2 := Aside0.mk (Kd.C_below Sq4v1.out hb_); have Sq5v1 := Aside0.mk (Kd.C_below Sq5.out hb_); have HBn_ := Aside0.mk (below_then HB.out HB.out.size hb_); clear HB hb_ Sq4v1 Sq5; have HB := HBn_; clear HBn_; have Sq6 := Aside0.mk (C_ints (W := w_) [(0), (2), (3)] hbox rfl (by decide)); clear hbox) | ((with_reducible refine gate_dst (N := 115) rfl ?_); (try (refine gate_guard (by rfl) ?_; dsimp only)); refine slice_event ?hg (N := 115) ?hd (cs := #[.int .i64 (0), .int .i64 (1), .int .i64 (0)]) (t := 3) (n := 3) ?hr ?_; (case hd => rfl); (case hg => rfl); (case hr => exact qz38); intro q7 w_ hbox hb_; have Sq4v3 := Aside0.mk (Kd.C_below Sq4v2.out hb_); have Sq5v2 := Aside0.mk (Kd.C_below Sq5v1.out hb_); have Sq6v1 := Aside0.mk (Kd.C_below Sq6.out hb_); have HBn_ := Aside0.mk (below_then HB.out HB.out.size hb_); clear HB hb_ Sq4v2 Sq5v1 Sq6; have HB := HBn_; clear HBn_; have Sq7 := Aside0.mk (C_ints (W := w_) [(0), (1), (0)] hbox rfl (by decide)); clear hbox) | ((with_reducible refine gate_dst (N := 116) rfl ?_); (try (refine gate_guard (by rfl) ?_; dsimp only)); refine slice_event ?hg (N := 116) ?hd (cs := #[.slice (some ⟨q5, 0, none⟩) 3 3, .slice (some ⟨q6, 0, none⟩) 3 3, .slice (some ⟨q7, 0, none⟩) 3 3]) (t := 23) (n := 3) ?hr ?_; (case hd => rfl); (case hg => rfl); (case hr => exact qz38); intro q8 w_ hbox hb_; have Sq4v4 := Aside0.mk (Kd.C_below Sq4v3.out hb_); have Sq5v3 := Aside0.mk (Kd.C_below Sq5v2.out hb_); have Sq6v2 := Aside0.mk (Kd.C_below Sq6v1.out hb_); have Sq7v1 := Aside0.mk (Kd.C_below Sq7.out hb_); have HBn_ := Aside0.mk (below_then HB.out HB.out.size hb_); clear HB hb_ Sq4v3 Sq5v2 Sq6v1 Sq7; have HB := HBn_; clear HBn_; have Sq8 := Aside0.mk (C_lists (W := w_) [[0, 2, 3], [0, 2, 3], [0, 1, 0]] hbox (by decide) (fun j x hx => (match j, x, hx with | 0, x, hx => by obtain rfl := Option.some.inj hx; exact ⟨_, _, rfl, (by decide), Sq5v3.out⟩ | 1, x, hx => by obtain rfl := Option.some.inj hx; exact ⟨_, _, rfl, (by decide), Sq6v2.out⟩ | 2, x, hx => by obtain rfl := Option.some.inj hx; exact ⟨_, _, rfl, (by decide), Sq7v1.out⟩ | (j + 3), x, hx => by simp at hx))); clear hbox) | ((with_reducible refine gate_callee (f := 21) rfl ?_); (try (refine gate_guard (by rfl) ?_; dsimp only)); refine goesL_ (some 117) rfl rfl Try.func21 (by kernel_rfl) rfl #[.slice (some ⟨q4, 0, none⟩) 3 3, .slice (some ⟨q8, 0, none⟩) 3 3] rfl qz35 ?_; refine (skolemref03_Lists.calls 20 (some ⟨q4, 0, none⟩) 3 [[0, 2, 3], [0, 2, 3], [0, 1, 0]] (some ⟨q8, 0, none⟩) 3 [[0, 2, 3], [0, 2, 3], [0, 1, 0]] true _ Sq4v4.out (by decide) Sq8.out (by decide) (by kernel_rfl)).mono ?_; rintro e_ w_ ⟨rfl, hd_⟩; have hb_ := hd_.below; have Sq4v5 := Aside0.mk (Kd.C_below Sq4v4.out hb_); have Sq5v4 := Aside0.mk (Kd.C_below Sq5v3.out hb_); have Sq6v3 := Aside0.mk (Kd.C_below Sq6v2.out hb_); have Sq7v2 := Aside0.mk (Kd.C_below Sq7v1.out hb_); have Sq8v1 := Aside0.mk (Kd.C_below Sq8.out hb_); have HBn_ := Aside0.mk (below_then HB.out HB.out.size hb_); clear HB hb_ Sq4v4 Sq5v3 Sq6v2 Sq7v1 Sq8 hd_; have HB := HBn_; clear HBn_; refine ⟨_, rfl, ?_⟩))
  go_ret
  exact ⟨rfl, HB.out⟩
/-- The examples of the document hold: one answer. -/
def skolemlaw35_head.f (k : Nat) : Option Bool := some true
theorem skolemlaw35_head.mono : ∀ k, LeO (skolemlaw35_head.f k) (skolemlaw35_head.f (k + 1)) := fun k => LeO.refl _
theorem head_true : skolemlaw35_head.f 40 = some true := rfl
theorem skolemlaw35_head.calls (k : Nat) (r : Bool) (w : World) (h : skolemlaw35_head.f k = some r) :
    Calls Try.prog 9 #[] w fun e w' => e = .returned (.bool r) ∧ Below w.heap.size w w' := by
  obtain rfl : r = true := (Option.some.inj h).symm
  exact head.calls w
end Go.Proofs.Ytjlehbncpjccmaa.Q
namespace Go.Proofs.Ytjlehbncpjccmaa.Q
open Go.RowKit Go.Proofs.YtjlehbncpjccmaaW.PrintWords Go.Proofs.YtjlehbncpjccmaaW.PrintLast Go.Proofs.YtjlehbncpjccmaaW.PrintMore
set_option linter.unusedVariables false
set_option linter.unusedSimpArgs false

theorem head_ev : Ev (fun k => skolemlaw35_head.f k) true := Ev.of skolemlaw35_head.mono head_true
theorem head_end : Ev (fun k => (skolemlaw35_head.f k).bind fun t => some t) true := Ev.bind head_ev (Ev.const _)
end Go.Proofs.Ytjlehbncpjccmaa.Q
namespace Go.Proofs.Ytjlehbncpjccmaa.Q
open Go.RowKit Go.Proofs.YtjlehbncpjccmaaW.PrintWords Go.Proofs.YtjlehbncpjccmaaW.PrintLast Go.Proofs.YtjlehbncpjccmaaW.PrintMore
set_option linter.unusedVariables false
set_option linter.unusedSimpArgs false

theorem has_l (l : List Int) (x : Int) (hl : (l.length : Int) ≤ 9223372036854775807) : ∀ (n i : Nat), i + n = l.length → Ev (fun k => skolemref03_Has.l0 k l x (i : Int)) (decide (x ∈ l.drop i))
  | 0, i, h => by
    refine Ev.succ ?_
    simp only [skolemref03_Has.l0]
    simp only [if_neg (show ¬ ((i : Int) < (l.length : Int)) by omega)]
    exact (Ev.const _).cong (by rw [List.drop_of_length_le (by omega)]; simp)
  | n + 1, i, h => by
    refine Ev.succ ?_
    simp only [skolemref03_Has.l0]
    simp only [if_pos (show (i : Int) < (l.length : Int) by omega), if_pos (show (0 : Int) ≤ i by omega), w_nat i (by omega)]
    rw [drop_rd l i (by omega)]
    by_cases hx : rd l (i : Int) = x
    · simp only [if_pos hx]
      exact (Ev.const _).cong (by simp [hx])
    · simp only [if_neg hx]
      exact (has_l l x hl n (i + 1) (by omega)).cong (by simp [Ne.symm hx])
theorem has_ev (l : List Int) (x : Int) (hl : (l.length : Int) ≤ 9223372036854775807) : Ev (fun k => skolemref03_Has.f k l x) (decide (x ∈ l)) := has_l l x hl l.length 0 (by omega)

section may
variable (ps : List S55) (st : Int) (gs : List Int) (mv : Int)
def goalsB (n : Int) (gs : List Int) (i : Nat) : Bool := !((gs.drop i).any (outB n)) && ascB (gs.drop (i - 1))
theorem may_l2 (n : Int) (hg : (gs.length : Int) ≤ 9223372036854775807) : ∀ (m i : Nat), i + m = gs.length → Ev (fun k => skolemref35_May.l2 k n (i : Int) ps st gs mv) (goalsB n gs i)
  | 0, i, h => by
    refine Ev.succ ?_
    simp only [skolemref35_May.l2]
    simp only [if_neg (show ¬ ((i : Int) < (gs.length : Int)) by omega)]
    refine (Ev.const _).cong ?_
    rw [goalsB, List.drop_of_length_le (show gs.length ≤ i by omega)]
    by_cases hi : 1 ≤ i
    · rw [ascB_end gs i hi (by omega)]; rfl
    · have : i = 0 := by omega
      subst this
      rw [List.drop_of_length_le (by omega)]; rfl
  | m + 1, i, h => by
    refine Ev.succ ?_
    have ih := may_l2 n hg m (i + 1) (by omega)
    simp only [skolemref35_May.l2]
    simp only [if_pos (show (i : Int) < (gs.length : Int) by omega), if_pos (show (0 : Int) ≤ i by omega), w_nat i (by omega)]
    have hd := drop_rd gs i (by omega)
    by_cases h1 : rd gs (i : Int) < 0
    · simp only [if_pos h1]
      exact (Ev.const _).cong (by rw [goalsB, hd]; simp [outB, h1])
    simp only [if_neg h1]
    by_cases h2 : rd gs (i : Int) ≥ n
    · simp only [if_pos h2]
      exact (Ev.const _).cong (by rw [goalsB, hd]; simp [outB, h2])
    simp only [if_neg h2]
    have ho : outB n (rd gs (i : Int)) = false := by simp [outB, h1, h2]
    by_cases hi : (i : Int) > 0
    · simp only [if_pos hi, w_id (show -9223372036854775808 ≤ (i : Int) - 1 ∧ (i : Int) - 1 < 9223372036854775808 by omega), if_pos (show (0 : Int) ≤ (i : Int) - 1 by omega), if_pos (show (i : Int) - 1 < (gs.length : Int) by omega)]
      have ha := ascB_drop gs i (by omega) (by omega)
      by_cases h3 : rd gs ((i : Int) - 1) ≥ rd gs (i : Int)
      · simp only [if_pos h3]
        exact (Ev.const _).cong (by rw [goalsB, ha]; simp [show ¬ (rd gs ((i : Int) - 1) < rd gs (i : Int)) by omega])
      · simp only [if_neg h3]
        exact ih.cong (by rw [goalsB, goalsB, ha, hd, List.any_cons, ho, Nat.add_sub_cancel]; simp [show rd gs ((i : Int) - 1) < rd gs (i : Int) by omega, hd])
    · simp only [if_neg hi]
      have : i = 0 := by omega
      subst this
      exact ih.cong (by rw [goalsB, goalsB, hd, List.any_cons, ho]; simp)
theorem may_l1 (n : Int) (i : Nat) (tl : List Int) (v : Bool) (ht : (tl.length : Int) ≤ 9223372036854775807) (hi : (i : Int) + 1 ≤ 9223372036854775807) (hv : Ev (fun k => skolemref35_May.l0 k n ((i + 1 : Nat) : Int) ps st gs mv) v) : ∀ (m j : Nat), j + m = tl.length →
    Ev (fun k => skolemref35_May.l1 k n (i : Int) tl (j : Int) ps st gs mv) (!((tl.drop j).any fun x => decide ((tl.length : Int) > 4) || outB n x) && v)
  | 0, j, h => by
    refine Ev.succ ?_
    simp only [skolemref35_May.l1]
    simp only [if_neg (show ¬ ((j : Int) < (tl.length : Int)) by omega), w_nat i hi]
    exact hv.cong (by rw [List.drop_of_length_le (by omega)]; simp)
  | m + 1, j, h => by
    refine Ev.succ ?_
    have ih := may_l1 n i tl v ht hi hv m (j + 1) (by omega)
    simp only [skolemref35_May.l1]
    simp only [if_pos (show (j : Int) < (tl.length : Int) by omega), if_pos (show (0 : Int) ≤ j by omega), w_nat j (by omega)]
    rw [drop_rd tl j (by omega), List.any_cons]
    by_cases h0 : (tl.length : Int) > 4
    · simp only [if_pos h0]
      exact (Ev.const _).cong (by simp [h0])
    simp only [if_neg h0]
    by_cases h1 : rd tl (j : Int) < 0
    · simp only [if_pos h1]
      exact (Ev.const _).cong (by simp [outB, h1])
    simp only [if_neg h1]
    by_cases h2 : rd tl (j : Int) ≥ n
    · simp only [if_pos h2]
      exact (Ev.const _).cong (by simp [outB, h2])
    simp only [if_neg h2]
    have ho : outB n (rd tl (j : Int)) = false := by simp [outB, h1, h2]
    exact ih.cong (by simp [ho, h0])
theorem bad_any (n : Int) (x : S55) : (x.f1.any fun y => decide ((x.f1.length : Int) > 4) || outB n y) = badP n x := by
  unfold badP
  by_cases h : (x.f1.length : Int) > 4
  · have h2 : 0 < x.f1.length := by omega
    obtain ⟨a, r, hr⟩ : ∃ a r, x.f1 = a :: r := by
      cases hx : x.f1 with
      | nil => rw [hx] at h2; exact absurd h2 (by simp)
      | cons a r => exact ⟨a, r, rfl⟩
    simp only [h, decide_true, Bool.true_or]
    rw [hr]
    simp
  · simp [h]
theorem may_l0 (n : Int) (hn : n = ps.length) (hp : (ps.length : Int) ≤ 9223372036854775807) (hg : (gs.length : Int) ≤ 9223372036854775807) (ht : ∀ x ∈ ps, (x.f1.length : Int) ≤ 9223372036854775807) : ∀ (m i : Nat), i + m = ps.length →
    Ev (fun k => skolemref35_May.l0 k n (i : Int) ps st gs mv) (!((ps.drop i).any (badP n)) && goalsB n gs 0)
  | 0, i, h => by
    refine Ev.succ ?_
    simp only [skolemref35_May.l0]
    simp only [if_neg (show ¬ ((i : Int) < n) by omega)]
    exact (may_l2 ps st gs mv n hg gs.length 0 (by omega)).cong (by rw [List.drop_of_length_le (show ps.length ≤ i by omega)]; simp)
  | m + 1, i, h => by
    refine Ev.succ ?_
    have ih := may_l0 n hn hp hg ht m (i + 1) (by omega)
    simp only [skolemref35_May.l0]
    simp only [if_pos (show (i : Int) < n by omega), if_pos (show (0 : Int) ≤ i by omega), if_pos (show (i : Int) < (ps.length : Int) by omega)]
    have hmem : rd_T55 ps (i : Int) ∈ ps := List.mem_of_mem_drop (drop_55 ps i (by omega) ▸ List.mem_cons_self)
    exact (may_l1 ps st gs mv n i _ _ (ht _ hmem) (by omega) ih (rd_T55 ps (i : Int)).f1.length 0 (by omega)).cong (by
      rw [drop_55 ps i (by omega), List.any_cons, ← bad_any]
      simp [Bool.and_assoc])
end may
theorem may_ev (ps : List S55) (st : Int) (gs : List Int) (mv : Int) (hs : Small ps gs) : Ev (fun k => skolemref35_May.f k ps st gs mv) (mayB ps st gs mv) := by
  simp only [skolemref35_May.f]
  have hf : Ev (fun k => skolemref35_May.j0 k (ps.length : Int) true ps st gs mv) false := by
    refine Ev.succ ?_
    simp only [skolemref35_May.j0, if_true]
    exact Ev.const _
  by_cases h1 : (ps.length : Int) < 1
  · simp only [if_pos h1]
    exact hf.cong (by
      have : outB (ps.length : Int) st = true := by simp [outB]; omega
      simp [mayB, this])
  simp only [if_neg h1]
  by_cases h2 : (ps.length : Int) > 16
  · simp only [if_pos h2]
    exact hf.cong (by simp [mayB, h2])
  simp only [if_neg h2]
  by_cases h3 : st < 0
  · simp only [if_pos h3]
    exact hf.cong (by simp [mayB, outB, h3])
  simp only [if_neg h3]
  by_cases h4 : st ≥ (ps.length : Int)
  · simp only [if_pos h4]
    exact hf.cong (by simp [mayB, outB, h4])
  simp only [if_neg h4]
  by_cases h5 : mv < 0
  · simp only [if_pos h5]
    exact hf.cong (by simp [mayB, h5])
  simp only [if_neg h5]
  by_cases h6 : mv > 8
  · simp only [h6, decide_true]
    exact hf.cong (by simp [mayB, h6])
  simp only [h6, decide_false]
  refine Ev.succ ?_
  simp only [skolemref35_May.j0, Bool.false_eq_true, if_false]
  refine (may_l0 ps st gs mv _ rfl (by have := hs.np; omega) (by have := hs.ng; omega) (fun x hx => by have := hs.nt x hx; omega) ps.length 0 (by omega)).cong ?_
  simp only [mayB, goalsB, outB, h2, h3, h4, h5, h6, decide_false, Bool.not_false, Bool.true_and, Bool.or_false, List.drop_zero, Nat.zero_sub]
  rw [Bool.and_comm]

theorem width_l (ps : List S55) (st : Int) (gs : List Int) (mv : Int) (hs : Small ps gs) : ∀ (m i : Nat) (x : Nat), i + m = ps.length → Ev (fun k => skolemref35_width.l0 k (x : Int) (i : Int) ps st gs mv) (((ps.drop i).foldl (fun w x => max w (needW x.f1.length)) (needW x) : Nat) : Int)
  | 0, i, x, h => by
    refine Ev.succ ?_
    simp only [skolemref35_width.l0]
    simp only [if_neg (show ¬ ((i : Int) < (ps.length : Int)) by omega)]
    rw [List.drop_of_length_le (show ps.length ≤ i by omega)]
    by_cases h1 : (x : Int) ≤ 1
    · simp only [if_pos h1]
      exact (Ev.const _).cong (by simp [needW, show x ≤ 1 by omega])
    simp only [if_neg h1]
    by_cases h2 : (x : Int) = 2
    · simp only [if_pos h2]
      exact (Ev.const _).cong (by simp [needW, show x = 2 by omega])
    simp only [if_neg h2]
    exact (Ev.const _).cong (by simp [needW, show ¬ x ≤ 1 by omega, show ¬ x ≤ 2 by omega])
  | m + 1, i, x, h => by
    refine Ev.succ ?_
    have ih := width_l ps st gs mv hs m (i + 1) (max x (rd_T55 ps (i : Int)).f1.length) (by omega)
    simp only [skolemref35_width.l0]
    simp only [if_pos (show (i : Int) < (ps.length : Int) by omega), if_pos (show (0 : Int) ≤ i by omega), w_nat i (by have := hs.np; omega)]
    have hmx : mx (x : Int) ((rd_T55 ps (i : Int)).f1.length : Int) = ((max x (rd_T55 ps (i : Int)).f1.length : Nat) : Int) := by
      unfold mx; split <;> omega
    rw [hmx]
    refine ih.cong ?_
    rw [drop_55 ps i (by omega), List.foldl_cons]
    congr 2
    unfold needW
    repeat' split
    all_goals omega
theorem width_ev (ps : List S55) (st : Int) (gs : List Int) (mv : Int) (hs : Small ps gs) : Ev (fun k => skolemref35_width.f k ps st gs mv) (widthP ps : Int) := by
  exact width_l ps st gs mv hs ps.length 0 0 (by omega)
theorem Width_ev (ps : List S55) (st : Int) (gs : List Int) (mv : Int) (hs : Small ps gs) : Ev (fun k => skolemref35_Width.f k ps st gs mv) (if mayB ps st gs mv then ((widthP ps : Int), 0) else (0, 2)) := by
  simp only [skolemref35_Width.f]
  refine Ev.bind (may_ev ps st gs mv hs) ?_
  cases mayB ps st gs mv with
  | true =>
    simp only [if_true]
    exact Ev.bind (width_ev ps st gs mv hs) (Ev.const _)
  | false =>
    simp only [Bool.false_eq_true, if_false]
    exact Ev.const _
theorem choice_l (b : Nat) (hb : b ≤ 2) (first : Int) (hf : 0 ≤ first ∧ first ≤ 100) : ∀ (m i : Nat), i + m = b → Ev (fun k => skolemref35_choice.l0 k (b : Int) first ((List.range i).map fun (j : Nat) => first + (j : Int)) (i : Int)) ((List.range b).map fun (j : Nat) => first + (j : Int))
  | 0, i, h => by
    refine Ev.succ ?_
    simp only [skolemref35_choice.l0]
    simp only [if_neg (show ¬ ((i : Int) < (b : Int)) by omega)]
    exact (Ev.const _).cong (by rw [show i = b by omega])
  | m + 1, i, h => by
    refine Ev.succ ?_
    have ih := choice_l b hb first hf m (i + 1) (by omega)
    simp only [skolemref35_choice.l0]
    simp only [if_pos (show (i : Int) < (b : Int) by omega), List.length_map, List.length_range, if_pos (show i < 17592186044416 by omega), w_nat i (by omega), w_id (show -9223372036854775808 ≤ first + (i : Int) ∧ first + (i : Int) < 9223372036854775808 by omega)]
    rw [List.range_succ, List.map_append] at ih
    exact ih
theorem choice_ev (ps : List S55) (st : Int) (gs : List Int) (mv : Int) (hs : Small ps gs) (t : Int) (h1 : 1 ≤ t) (h2 : t ≤ 8) (mine : Bool) : Ev (fun k => skolemref35_choice.f k ps st gs mv t mine) (choiceF (widthP ps) t mine) := by
  simp only [skolemref35_choice.f]
  refine Ev.bind (width_ev ps st gs mv hs) ?_
  have hb := widthP_le ps
  obtain ⟨b, hbb⟩ : ∃ b, widthP ps = b := ⟨_, rfl⟩
  rw [hbb] at hb ⊢
  obtain ⟨m, hm⟩ : ∃ m, t - 1 = m := ⟨_, rfl⟩
  have hm1 : 0 ≤ m ∧ m ≤ 7 := by omega
  have hb2 : 0 ≤ 2 * (b : Int) * m ∧ 2 * (b : Int) * m ≤ 28 := by
    obtain rfl | rfl | rfl : b = 0 ∨ b = 1 ∨ b = 2 := by omega
    all_goals omega
  unfold choiceF
  rw [hm]
  rw [w_id (show -9223372036854775808 ≤ m ∧ m < 9223372036854775808 by omega), w_id (show -9223372036854775808 ≤ 2 * (b : Int) ∧ 2 * (b : Int) < 9223372036854775808 by omega), w_id (show -9223372036854775808 ≤ 2 * (b : Int) * m ∧ 2 * (b : Int) * m < 9223372036854775808 by omega), w_id (show -9223372036854775808 ≤ 2 * (b : Int) * m + 1 ∧ 2 * (b : Int) * m + 1 < 9223372036854775808 by omega), w_id (show -9223372036854775808 ≤ 2 * (b : Int) * m + 1 + b ∧ 2 * (b : Int) * m + 1 + b < 9223372036854775808 by omega)]
  cases mine with
  | true =>
    simp only [if_true]
    refine Ev.succ ?_
    simp only [skolemref35_choice.j0]
    exact (choice_l b hb _ (by omega) b 0 (by omega)).cong (by simp)
  | false =>
    simp only [Bool.false_eq_true, if_false]
    refine Ev.succ ?_
    simp only [skolemref35_choice.j0]
    exact (choice_l b hb _ (by omega) b 0 (by omega)).cong (by
      apply List.map_congr_left
      intro j _
      omega)
theorem Choice_ev (ps : List S55) (st : Int) (gs : List Int) (mv : Int) (hs : Small ps gs) (t : Int) (mine : Bool) : Ev (fun k => skolemref35_Choice.f k ps st gs mv t mine) (if mayB ps st gs mv then (if 1 ≤ t ∧ t ≤ mv then (choiceF (widthP ps) t mine, 0) else ([], 4)) else ([], 2)) := by
  simp only [skolemref35_Choice.f]
  refine Ev.bind (may_ev ps st gs mv hs) ?_
  cases hm : mayB ps st gs mv with
  | true =>
    have hmv := mayB_mv hm
    simp only [if_true]
    by_cases h1 : t < 1
    · simp only [if_pos h1]
      exact (Ev.const _).cong (by rw [if_neg (by omega)])
    simp only [if_neg h1]
    by_cases h2 : t > mv
    · simp only [if_pos h2]
      exact (Ev.const _).cong (by rw [if_neg (by omega)])
    simp only [if_neg h2]
    rw [if_pos (show 1 ≤ t ∧ t ≤ mv by omega)]
    exact Ev.bind (choice_ev ps st gs mv hs t (by omega) (by omega) mine) (Ev.const _)
  | false =>
    simp only [Bool.false_eq_true, if_false]
    exact Ev.const _
end Go.Proofs.Ytjlehbncpjccmaa.Q
namespace Go.Proofs.Ytjlehbncpjccmaa.Q
open Go.RowKit Go.Proofs.YtjlehbncpjccmaaW.PrintWords Go.Proofs.YtjlehbncpjccmaaW.PrintLast Go.Proofs.YtjlehbncpjccmaaW.PrintMore
set_option linter.unusedVariables false
set_option linter.unusedSimpArgs false

theorem mayB_to2 {ps : List S55} {st : Int} {gs : List Int} {mv : Int} (h : mayB ps st gs mv = true) : ∀ x ∈ ps, ∀ v ∈ x.f1, 0 ≤ v ∧ v < (ps.length : Int) := fun x hx v hv => ((mayB_facts h).2.2.2.2.2 x hx).2 v hv
/-- The program's sets are the table's rows. -/
theorem bstep_get (s : List Bool) : ∀ (ps : List S55) (v : Nat) (acc : List Bool) (j : Nat), v + ps.length ≤ acc.length → (bstep s ps v acc).getD j false = (acc.getD j false || (decide (v ≤ j ∧ j < v + ps.length) && winB s (ps.getD (j - v) z55)))
  | [], v, acc, j, h => by
    have : ¬ (v ≤ j ∧ j < v) := by omega
    simp [bstep, this]
  | x :: r, v, acc, j, h => by
    simp only [List.length_cons] at h
    rw [bstep, bstep_get s r (v + 1) _ j (by split <;> (try simp only [List.length_set]) <;> omega)]
    by_cases hj : j = v
    · subst hj
      have h1 : ¬ (j + 1 ≤ j ∧ j < j + 1 + r.length) := by omega
      simp only [decide_eq_false h1, Bool.false_and, Bool.or_false, Nat.sub_self, List.getD_cons_zero, List.length_cons]
      rw [decide_eq_true (show j ≤ j ∧ j < j + (r.length + 1) by omega), Bool.true_and]
      cases hw : winB s x with
      | true => simp [List.getD_eq_getElem?_getD, show j < acc.length by omega]
      | false => simp
    · have hg : (if winB s x then acc.set v true else acc).getD j false = acc.getD j false := by
        split
        · rw [List.getD_eq_getElem?_getD, List.getElem?_set, if_neg (Ne.symm hj), ← List.getD_eq_getElem?_getD]
        · rfl
      rw [hg]
      by_cases h2 : v + 1 ≤ j ∧ j < v + 1 + r.length
      · rw [decide_eq_true h2, decide_eq_true (show v ≤ j ∧ j < v + (x :: r).length by simp only [List.length_cons]; omega)]
        obtain ⟨q, rfl⟩ : ∃ q, j = v + 1 + q := ⟨j - (v + 1), by omega⟩
        rw [show v + 1 + q - (v + 1) = q by omega, show v + 1 + q - v = q + 1 by omega, List.getD_cons_succ]
      · rw [decide_eq_false h2, decide_eq_false (show ¬ (v ≤ j ∧ j < v + (x :: r).length) by simp only [List.length_cons]; omega)]
        simp
theorem gset_get (gs : List Int) (j : Nat) (h : j < 16) : (gset gs).getD j false = decide ((j : Int) ∈ gs) := by
  simp [gset, List.getD_eq_getElem?_getD, h]
theorem winB_eq (s : List Bool) (x : S55) : winB s x = (decide ((x.f1.length : Int) > 0) && (if x.f0 then x.f1.any (rdOf false s) else x.f1.all (rdOf false s))) := by
  unfold winB
  congr 1
  cases x.f0 with
  | true =>
    simp only [if_true]
    rw [show (fun v : Int => s.getD v.toNat false == true) = rdOf false s from funext fun v => by simp [rdOf]]
    simp
  | false =>
    simp only [Bool.false_eq_true, if_false]
    rw [show (fun v : Int => s.getD v.toNat false == false) = (fun v => !(rdOf false s v)) from funext fun v => by simp [rdOf]]
    generalize x.f1 = l
    induction l with
    | nil => rfl
    | cons a r ih =>
      simp only [List.any_cons, List.all_cons]
      rw [← ih]
      cases rdOf false s a <;> simp
end Go.Proofs.Ytjlehbncpjccmaa.Q
namespace Go.Proofs.Ytjlehbncpjccmaa.Q
open Go.RowKit Go.Proofs.YtjlehbncpjccmaaW.PrintWords Go.Proofs.YtjlehbncpjccmaaW.PrintLast Go.Proofs.YtjlehbncpjccmaaW.PrintMore
attribute [local go_sem] max2_int min2_int max_two min_two max_three min_three max_four min_four   -- for this text's walks alone
set_option linter.unusedVariables false
set_option linter.unusedSimpArgs false

/-! ### skolemref35_table: function 38 -/
mutual
def skolemref35_table.l0 : Nat → List (List Bool) → Int → List (S55) → Int → List Int → Int → Option ((List (List Bool)))
  | 0, _, _, _, _, _, _ => none
  | k + 1, x3, x4, x245000, x245001, x245002, x245003 => if x4 ≤ x245003 then (if 0 ≤ (x245000.length : Int) then (if ((x245000.length : Int) : Int).toNat ≤ 281474976710656 then (skolemref35_table.l1 k x3 x4 (List.replicate ((x245000.length : Int) : Int).toNat false) 0 x245000 x245001 x245002 x245003) else (none)) else (none)) else (some x3)
def skolemref35_table.l1 : Nat → List (List Bool) → Int → List Bool → Int → List (S55) → Int → List Int → Int → Option ((List (List Bool)))
  | 0, _, _, _, _, _, _, _, _ => none
  | k + 1, x3, x4, x5, x6, x245000, x245001, x245002, x245003 => if x6 < (x5.length : Int) then (if 0 ≤ x6 then (if x6 < (x245000.length : Int) then (skolemref35_table.l2 k x3 x4 x5 x6 ((rd_T55 x245000 x6).f1) false true 0 x245000 x245001 x245002 x245003) else (none)) else (none)) else (if x3.length < 5864062014805 then (skolemref35_table.l0 k (x3 ++ [x5]) (wrap64 (x4 + 1)) x245000 x245001 x245002 x245003) else (none))
def skolemref35_table.l2 : Nat → List (List Bool) → Int → List Bool → Int → List Int → Bool → Bool → Int → List (S55) → Int → List Int → Int → Option ((List (List Bool)))
  | 0, _, _, _, _, _, _, _, _, _, _, _, _ => none
  | k + 1, x3, x4, x5, x6, x7, x8, x9, x10, x245000, x245001, x245002, x245003 => if x10 < (x7.length : Int) then (if x4 > 0 then (if x8 = true then (if x9 = true then (if 0 ≤ (wrap64 (x4 - 1)) then (if (wrap64 (x4 - 1)) < (x3.length : Int) then (if 0 ≤ x10 then (if 0 ≤ (rd x7 x10) then (if (rd x7 x10) < ((rd_L7 x3 (wrap64 (x4 - 1))).length : Int) then (skolemref35_table.l2 k x3 x4 x5 x6 x7 true (rdOf false (rd_L7 x3 (wrap64 (x4 - 1))) (rd x7 x10)) (wrap64 (x10 + 1)) x245000 x245001 x245002 x245003) else (none)) else (none)) else (none)) else (none)) else (none)) else (skolemref35_table.l2 k x3 x4 x5 x6 x7 true false (wrap64 (x10 + 1)) x245000 x245001 x245002 x245003)) else (if 0 ≤ (wrap64 (x4 - 1)) then (if (wrap64 (x4 - 1)) < (x3.length : Int) then (if 0 ≤ x10 then (if 0 ≤ (rd x7 x10) then (if (rd x7 x10) < ((rd_L7 x3 (wrap64 (x4 - 1))).length : Int) then (if x9 = true then (skolemref35_table.l2 k x3 x4 x5 x6 x7 (rdOf false (rd_L7 x3 (wrap64 (x4 - 1))) (rd x7 x10)) (rdOf false (rd_L7 x3 (wrap64 (x4 - 1))) (rd x7 x10)) (wrap64 (x10 + 1)) x245000 x245001 x245002 x245003) else (skolemref35_table.l2 k x3 x4 x5 x6 x7 (rdOf false (rd_L7 x3 (wrap64 (x4 - 1))) (rd x7 x10)) false (wrap64 (x10 + 1)) x245000 x245001 x245002 x245003)) else (none)) else (none)) else (none)) else (none)) else (none))) else ((skolemref05_In.f k x245002 x6).bind fun t261 => (if t261 = true then (if 0 ≤ x6 then (if x6 < (x5.length : Int) then (skolemref35_table.l1 k x3 x4 (x5.set (x6 : Int).toNat true) (wrap64 (x6 + 1)) x245000 x245001 x245002 x245003) else (none)) else (none)) else (if 0 ≤ x6 then (if x6 < (x5.length : Int) then (skolemref35_table.l1 k x3 x4 (x5.set (x6 : Int).toNat false) (wrap64 (x6 + 1)) x245000 x245001 x245002 x245003) else (none)) else (none))))) else ((skolemref05_In.f k x245002 x6).bind fun t264 => (if t264 = true then (if 0 ≤ x6 then (if x6 < (x5.length : Int) then (skolemref35_table.l1 k x3 x4 (x5.set (x6 : Int).toNat true) (wrap64 (x6 + 1)) x245000 x245001 x245002 x245003) else (none)) else (none)) else (if x4 > 0 then (if (x7.length : Int) > 0 then (if 0 ≤ x6 then (if x6 < (x245000.length : Int) then (if (rd_T55 x245000 x6).f0 = true then (if x8 = true then (if x6 < (x5.length : Int) then (skolemref35_table.l1 k x3 x4 (x5.set (x6 : Int).toNat true) (wrap64 (x6 + 1)) x245000 x245001 x245002 x245003) else (none)) else (if ((rd_T55 x245000 x6).f0 = true) then (if x6 < (x5.length : Int) then (skolemref35_table.l1 k x3 x4 (x5.set (x6 : Int).toNat false) (wrap64 (x6 + 1)) x245000 x245001 x245002 x245003) else (none)) else (if x6 < (x5.length : Int) then (skolemref35_table.l1 k x3 x4 (x5.set (x6 : Int).toNat x9) (wrap64 (x6 + 1)) x245000 x245001 x245002 x245003) else (none)))) else (if ((rd_T55 x245000 x6).f0 = true) then (if x6 < (x5.length : Int) then (skolemref35_table.l1 k x3 x4 (x5.set (x6 : Int).toNat false) (wrap64 (x6 + 1)) x245000 x245001 x245002 x245003) else (none)) else (if x6 < (x5.length : Int) then (skolemref35_table.l1 k x3 x4 (x5.set (x6 : Int).toNat x9) (wrap64 (x6 + 1)) x245000 x245001 x245002 x245003) else (none)))) else (none)) else (none)) else (if 0 ≤ x6 then (if x6 < (x5.length : Int) then (skolemref35_table.l1 k x3 x4 (x5.set (x6 : Int).toNat false) (wrap64 (x6 + 1)) x245000 x245001 x245002 x245003) else (none)) else (none))) else (if 0 ≤ x6 then (if x6 < (x5.length : Int) then (skolemref35_table.l1 k x3 x4 (x5.set (x6 : Int).toNat false) (wrap64 (x6 + 1)) x245000 x245001 x245002 x245003) else (none)) else (none)))))
end
def skolemref35_table.f (k : Nat) (l0_0 : List (S55)) (a0_1 : Int) (l0_2 : List Int) (a0_3 : Int) : Option ((List (List Bool))) := skolemref35_table.l0 k ([] : List (List Bool)) 0 l0_0 a0_1 l0_2 a0_3
theorem skolemref35_table.mono_l : ∀ k, (∀ y0 y1 y2 y3 y4 y5, LeO (skolemref35_table.l0 k y0 y1 y2 y3 y4 y5) (skolemref35_table.l0 (k + 1) y0 y1 y2 y3 y4 y5)) ∧ (∀ y0 y1 y2 y3 y4 y5 y6 y7, LeO (skolemref35_table.l1 k y0 y1 y2 y3 y4 y5 y6 y7) (skolemref35_table.l1 (k + 1) y0 y1 y2 y3 y4 y5 y6 y7)) ∧ (∀ y0 y1 y2 y3 y4 y5 y6 y7 y8 y9 y10 y11, LeO (skolemref35_table.l2 k y0 y1 y2 y3 y4 y5 y6 y7 y8 y9 y10 y11) (skolemref35_table.l2 (k + 1) y0 y1 y2 y3 y4 y5 y6 y7 y8 y9 y10 y11))
  | 0 => ⟨fun _ _ _ _ _ _ r h => by simp [skolemref35_table.l0] at h, fun _ _ _ _ _ _ _ _ r h => by simp [skolemref35_table.l1] at h, fun _ _ _ _ _ _ _ _ _ _ _ _ r h => by simp [skolemref35_table.l2] at h⟩
  | k + 1 => by
    obtain ⟨ih0, ih1, ih2⟩ := skolemref35_table.mono_l k
    refine ⟨?_, ?_, ?_⟩
    · intro y0 y1 y2 y3 y4 y5
      unfold skolemref35_table.l0
      repeat' first
      | (with_reducible exact ih0 _ _ _ _ _ _)
      | (with_reducible exact ih1 _ _ _ _ _ _ _ _)
      | (with_reducible exact ih2 _ _ _ _ _ _ _ _ _ _ _ _)
      | (with_reducible exact skolemref05_In.mono _ _ _)
      | (with_reducible exact LeO.refl _)
      | (with_reducible exact LeO.none _)
      | (with_reducible refine LeO.ite ?_ ?_)
      | (with_reducible refine LeO.bind ?_ (fun _ => ?_))
      | exact ih0 _ _ _ _ _ _
      | exact ih1 _ _ _ _ _ _ _ _
      | exact ih2 _ _ _ _ _ _ _ _ _ _ _ _
      | exact skolemref05_In.mono _ _ _
      | exact LeO.none _
      | refine LeO.ite ?_ ?_
      | refine LeO.bind ?_ (fun _ => ?_)
    · intro y0 y1 y2 y3 y4 y5 y6 y7
      unfold skolemref35_table.l1
      repeat' first
      | (with_reducible exact ih0 _ _ _ _ _ _)
      | (with_reducible exact ih1 _ _ _ _ _ _ _ _)
      | (with_reducible exact ih2 _ _ _ _ _ _ _ _ _ _ _ _)
      | (with_reducible exact skolemref05_In.mono _ _ _)
      | (with_reducible exact LeO.refl _)
      | (with_reducible exact LeO.none _)
      | (with_reducible refine LeO.ite ?_ ?_)
      | (with_reducible refine LeO.bind ?_ (fun _ => ?_))
      | exact ih0 _ _ _ _ _ _
      | exact ih1 _ _ _ _ _ _ _ _
      | exact ih2 _ _ _ _ _ _ _ _ _ _ _ _
      | exact skolemref05_In.mono _ _ _
      | exact LeO.none _
      | refine LeO.ite ?_ ?_
      | refine LeO.bind ?_ (fun _ => ?_)
    · intro y0 y1 y2 y3 y4 y5 y6 y7 y8 y9 y10 y11
      unfold skolemref35_table.l2
      repeat' first
      | (with_reducible exact ih0 _ _ _ _ _ _)
      | (with_reducible exact ih1 _ _ _ _ _ _ _ _)
      | (with_reducible exact ih2 _ _ _ _ _ _ _ _ _ _ _ _)
      | (with_reducible exact skolemref05_In.mono _ _ _)
      | (with_reducible exact LeO.refl _)
      | (with_reducible exact LeO.none _)
      | (with_reducible refine LeO.ite ?_ ?_)
      | (with_reducible refine LeO.bind ?_ (fun _ => ?_))
      | exact ih0 _ _ _ _ _ _
      | exact ih1 _ _ _ _ _ _ _ _
      | exact ih2 _ _ _ _ _ _ _ _ _ _ _ _
      | exact skolemref05_In.mono _ _ _
      | exact LeO.none _
      | refine LeO.ite ?_ ?_
      | refine LeO.bind ?_ (fun _ => ?_)
theorem skolemref35_table.mono : ∀ a0 a1 a2 a3 k, LeO (skolemref35_table.f k a0 a1 a2 a3) (skolemref35_table.f (k + 1) a0 a1 a2 a3) := by
  intro a0 a1 a2 a3 k
  obtain ⟨ih0, ih1, ih2⟩ := skolemref35_table.mono_l k
  unfold skolemref35_table.f
  repeat' first
      | (with_reducible exact ih0 _ _ _ _ _ _)
      | (with_reducible exact ih1 _ _ _ _ _ _ _ _)
      | (with_reducible exact ih2 _ _ _ _ _ _ _ _ _ _ _ _)
      | (with_reducible exact skolemref05_In.mono _ _ _)
      | (with_reducible exact LeO.refl _)
      | (with_reducible exact LeO.none _)
      | (with_reducible refine LeO.ite ?_ ?_)
      | (with_reducible refine LeO.bind ?_ (fun _ => ?_))
      | exact ih0 _ _ _ _ _ _
      | exact ih1 _ _ _ _ _ _ _ _
      | exact ih2 _ _ _ _ _ _ _ _ _ _ _ _
      | exact skolemref05_In.mono _ _ _
      | exact LeO.none _
      | refine LeO.ite ?_ ?_
      | refine LeO.bind ?_ (fun _ => ?_)
set_option maxHeartbeats 8000000 in
set_option maxRecDepth 100000 in
theorem skolemref35_table.calls (k : Nat) (A0_0 : Option Addr) (c0_0 : Nat) (l0_0 : List (S55)) (a0_1 : Int) (A0_2 : Option Addr) (c0_2 : Nat) (l0_2 : List Int) (a0_3 : Int) (r : List (List Bool)) (w : World) (hr0_0 : Kd.C k55 w A0_0 l0_0.length l0_0) (hc0_0 : l0_0.length ≤ c0_0) (hr0_2 : Kd.C (Kd.int .i64) w A0_2 l0_2.length l0_2) (hc0_2 : l0_2.length ≤ c0_2) (h : skolemref35_table.f k l0_0 a0_1 l0_2 a0_3 = some r) :
    Calls Try.prog 38 #[.agg #[.slice A0_0 l0_0.length c0_0, .int .i64 a0_1, .slice A0_2 l0_2.length c0_2, .int .i64 a0_3]] w fun e w' => ∃ v0_ : Value, e = .returned (v0_) ∧ Kd.S (Kd.slice 4 Kd.bool) 79 w' w.heap.size (fun _ => True) v0_ r ∧ Below w.heap.size w w' := by
  have hu25 := Try.underlying25
  have HR0_0 := Aside0.mk hr0_0
  have HC0_0 := Aside0.mk hc0_0
  clear hr0_0 hc0_0
  have HR0_2 := Aside0.mk hr0_2
  have HC0_2 := Aside0.mk hc0_2
  clear hr0_2 hc0_2
  have HB := Aside0.mk (Below.refl w.heap.size w)
  have H : (skolemref35_table.l0 k ([] : List (List Bool)) 0 l0_0 a0_1 l0_2 a0_3) = some r := h
  clear h
  have H' := Aside0.mk H
  clear H
  go_enter Try.func38, Try.ntmps38
  go_wp2_with (first | ((with_reducible refine gate_dst (N := 1) rfl ?_); (try (refine gate_guard (by rfl) ?_; dsimp only)); refine box_event ?hg (N := 1) ?hd (cs := #[.slice A0_0 l0_0.length c0_0, .int .i64 a0_1, .slice A0_2 l0_2.length c0_2, .int .i64 a0_3]) (t := 25) ?hr ?_; (case hd => rfl); (case hg => rfl); (case hr => exact qz38); intro gb244 hg w2 hbox hb; have n0_ := Aside0.mk (below_step qz21 hb); have n1_ := Aside0.mk (hbox); have n2_ := Aside0.mk ((by rw [hg]; exact (below_size qz21) : w.heap.size ≤ gb244)); have n3_ := Aside0.mk ((by rw [hg]; exact (below_size qz21) : w.heap.size ≤ gb244)); clear HB; have HB := n0_; have BK244 := n1_; have GW244 := n2_; have GE244 := n3_; clear n0_ n1_ n2_ n3_; clear hb hbox hg))
  repeat (go_quiet (first | ((with_reducible refine gate_dst (N := 1) rfl ?_); (try (refine gate_guard (by rfl) ?_; dsimp only)); refine box_event ?hg (N := 1) ?hd (cs := #[.slice A0_0 l0_0.length c0_0, .int .i64 a0_1, .slice A0_2 l0_2.length c0_2, .int .i64 a0_3]) (t := 25) ?hr ?_; (case hd => rfl); (case hg => rfl); (case hr => exact qz38); intro gb244 hg w2 hbox hb; have n0_ := Aside0.mk (below_step qz21 hb); have n1_ := Aside0.mk (hbox); have n2_ := Aside0.mk ((by rw [hg]; exact (below_size qz21) : w.heap.size ≤ gb244)); have n3_ := Aside0.mk ((by rw [hg]; exact (below_size qz21) : w.heap.size ≤ gb244)); clear HB; have HB := n0_; have BK244 := n1_; have GW244 := n2_; have GE244 := n3_; clear n0_ n1_ n2_ n3_; clear hb hbox hg)); try go_wp2_with (first | ((with_reducible refine gate_dst (N := 1) rfl ?_); (try (refine gate_guard (by rfl) ?_; dsimp only)); refine box_event ?hg (N := 1) ?hd (cs := #[.slice A0_0 l0_0.length c0_0, .int .i64 a0_1, .slice A0_2 l0_2.length c0_2, .int .i64 a0_3]) (t := 25) ?hr ?_; (case hd => rfl); (case hg => rfl); (case hr => exact qz38); intro gb244 hg w2 hbox hb; have n0_ := Aside0.mk (below_step qz21 hb); have n1_ := Aside0.mk (hbox); have n2_ := Aside0.mk ((by rw [hg]; exact (below_size qz21) : w.heap.size ≤ gb244)); have n3_ := Aside0.mk ((by rw [hg]; exact (below_size qz21) : w.heap.size ≤ gb244)); clear HB; have HB := n0_; have BK244 := n1_; have GW244 := n2_; have GE244 := n3_; clear n0_ n1_ n2_ n3_; clear hb hbox hg)))
  go_loopg [3, 4] k (fun kq v3 v4 w' => ∃ (x3_1 : List (List Bool)) (x4_1 : Int), v4 = .int .i64 x4_1 ∧ Aside0 (skolemref35_table.l0 kq x3_1 x4_1 l0_0 a0_1 l0_2 a0_3 = some r) ∧ Aside0 (kq ≤ k) ∧ Aside0 (Kd.S (Kd.slice 4 Kd.bool) 79 w' w.heap.size (fun _ => True) v3 x3_1) ∧ Aside0 (w'.heap[gb244]? = some (.cells #[(.slice A0_0 l0_0.length c0_0), .int .i64 a0_1, (.slice A0_2 l0_2.length c0_2), .int .i64 a0_3] 25 (0, 0))) ∧ Aside0 (Below w.heap.size w w'))
  case atStart => exact ⟨(([] : List (List Bool))), (0), qz37, H', ⟨Nat.le_refl _⟩, ⟨by first | exact Kd.S_nil _ _ _ _ _ | exact Kd.N_nil _ _ _ _ _ | exact Kd.V_nil _ _ _ _ _ | exact Kd.Q_nil _ _ _ _ _ | exact Kd.R_nil _ _ _ _ _⟩, ⟨by (with_reducible repeat (first | refine blk_drewN ?_ _ | refine blk_drew ?_ | refine blk_alloc ?_ _)); exact BK244.out⟩, ⟨by repeat (first | (with_reducible first | exact HB.out | apply below_alloc | apply pw_below_drewN | apply below_drew1 | refine below_set ?_ GE244.out) | exact HB.out)⟩⟩
  case round =>
    clear H'
    try clear p2
    obtain ⟨x3_1, x4_1, rfl, HA, HK1, HO_3, BK244, HB⟩ := hrel
    cases gk with
    | zero => exact absurd HA.out (by simp [skolemref35_table.l0])
    | succ k1 =>
      have H := HA.out
      clear HA
      simp only [skolemref35_table.l0] at H
      by_cases c3 : x4_1 ≤ a0_3
      · rw [if_pos c3] at H
        have c3b0 : decide (x4_1 ≤ a0_3) = true := decide_eq_true c3
        clear c3
        by_cases c4 : 0 ≤ (l0_0.length : Int)
        case neg => rw [if_neg c4] at H; exact absurd H (by simp)
        rw [if_pos c4] at H
        have c4b0 := eq_true c4
        have c4b1 : decide (0 ≤ (l0_0.length : Int)) = true := decide_eq_true c4
        clear c4
        by_cases c5 : ((l0_0.length : Int) : Int).toNat ≤ 281474976710656
        case neg => rw [if_neg c5] at H; exact absurd H (by simp)
        rw [if_pos c5] at H
        have c5b0 := eq_true c5
        have c5b1 : decide (((l0_0.length : Int) : Int).toNat ≤ 281474976710656) = true := decide_eq_true c5
        clear c5
        obtain ⟨y245, hy245⟩ : ∃ y_ : List Bool, y_ = (List.replicate ((l0_0.length : Int) : Int).toNat false) := ⟨_, rfl⟩
        replace H : (skolemref35_table.l1 k1 x3_1 x4_1 y245 0 l0_0 a0_1 l0_2 a0_3) = some r := by first | (rw [hy245]; with_reducible exact H) | (have H2_ := (Option.bind_some _ _).symm.trans H; rw [hy245]; with_reducible exact H2_) | (have H2_ := (Option.bind_some _ _).symm.trans H; with_reducible exact H2_) | with_reducible exact H | (rw [hy245]; exact H) | exact H
        have Ny245 := Aside0.mk hy245
        clear hy245
        have H' := Aside0.mk H
        clear H
        have hcz6_0 : wr.cell? ⟨gb244, 0, none⟩ = some (.slice A0_0 l0_0.length c0_0) := (blk_cell BK244.out 0).trans rfl
        have hcz6_1 : wr.cell? ⟨gb244, 1, none⟩ = some (.int .i64 a0_1) := (blk_cell BK244.out 1).trans rfl
        have hcz6_2 : wr.cell? ⟨gb244, 2, none⟩ = some (.slice A0_2 l0_2.length c0_2) := (blk_cell BK244.out 2).trans rfl
        have hcz6_3 : wr.cell? ⟨gb244, 3, none⟩ = some (.int .i64 a0_3) := (blk_cell BK244.out 3).trans rfl
        have hfz6_0 := blk_frozen BK244.out 0
        have hfz6_1 := blk_frozen BK244.out 1
        have hfz6_2 := blk_frozen BK244.out 2
        have hfz6_3 := blk_frozen BK244.out 3
        go_wp2_with (first | ((with_reducible refine gate_dst (N := 20) rfl ?_); (try (refine gate_guard (by rfl) ?_; dsimp only)); refine Kd.R_make Kd.bool _ 4 rfl (N := 20) rfl 79 _ _ rfl (l0_0.length : Int) rfl rfl Try.underlying79 (.bool false) 1 info4 rfl (by decide) (by omega) false (ok := fun _ => True) (okp := fun _ => True) rfl (fun _ hk => hk) trivial (of_decide_eq_true qz36) (Nat.le_trans (Nat.mul_le_mul_right _ (of_decide_eq_true qz36 : (l0_0.length : Int).toNat ≤ 281474976710656)) (by omega)) (Below.refl _ _) (Nat.le_refl _) ?_; intro v246 w7 ho8 hb hg_ hnew_; clear hg_ hnew_; (first | rw [← Ny245.out] at ho8 | (simp only [Int.reduceToNat] at ho8; rw [← Ny245.out] at ho8)); have n0_ := Aside0.mk (Kd.S_elder' (by (with_reducible repeat (first | apply Kd.S_alloc | apply Kd.S_drewN | apply Kd.S_drew)); exact HO_3.out) (Kd.R_base ho8) hb); have n1_ := Aside0.mk (Kd.R_lower ho8 (below_size qz9)); have n2_ := Aside0.mk (blk_below (g := gb244) (o := .cells #[.slice A0_0 l0_0.length c0_0, .int .i64 a0_1, .slice A0_2 l0_2.length c0_2, .int .i64 a0_3] 25 (0, 0)) qz25 hb); have n3_ := Aside0.mk (below_step qz9 hb); clear HO_3; clear BK244; clear HB; have HO_3 := n0_; have HO247 := n1_; have BK244 := n2_; have HB := n3_; clear n0_ n1_ n2_ n3_; clear hb ho8))
        repeat (go_quiet (first | ((with_reducible refine gate_dst (N := 20) rfl ?_); (try (refine gate_guard (by rfl) ?_; dsimp only)); refine Kd.R_make Kd.bool _ 4 rfl (N := 20) rfl 79 _ _ rfl (l0_0.length : Int) rfl rfl Try.underlying79 (.bool false) 1 info4 rfl (by decide) (by omega) false (ok := fun _ => True) (okp := fun _ => True) rfl (fun _ hk => hk) trivial (of_decide_eq_true qz36) (Nat.le_trans (Nat.mul_le_mul_right _ (of_decide_eq_true qz36 : (l0_0.length : Int).toNat ≤ 281474976710656)) (by omega)) (Below.refl _ _) (Nat.le_refl _) ?_; intro v246 w7 ho8 hb hg_ hnew_; clear hg_ hnew_; (first | rw [← Ny245.out] at ho8 | (simp only [Int.reduceToNat] at ho8; rw [← Ny245.out] at ho8)); have n0_ := Aside0.mk (Kd.S_elder' (by (with_reducible repeat (first | apply Kd.S_alloc | apply Kd.S_drewN | apply Kd.S_drew)); exact HO_3.out) (Kd.R_base ho8) hb); have n1_ := Aside0.mk (Kd.R_lower ho8 (below_size qz9)); have n2_ := Aside0.mk (blk_below (g := gb244) (o := .cells #[.slice A0_0 l0_0.length c0_0, .int .i64 a0_1, .slice A0_2 l0_2.length c0_2, .int .i64 a0_3] 25 (0, 0)) qz25 hb); have n3_ := Aside0.mk (below_step qz9 hb); clear HO_3; clear BK244; clear HB; have HO_3 := n0_; have HO247 := n1_; have BK244 := n2_; have HB := n3_; clear n0_ n1_ n2_ n3_; clear hb ho8)); try go_wp2_with (first | ((with_reducible refine gate_dst (N := 20) rfl ?_); (try (refine gate_guard (by rfl) ?_; dsimp only)); refine Kd.R_make Kd.bool _ 4 rfl (N := 20) rfl 79 _ _ rfl (l0_0.length : Int) rfl rfl Try.underlying79 (.bool false) 1 info4 rfl (by decide) (by omega) false (ok := fun _ => True) (okp := fun _ => True) rfl (fun _ hk => hk) trivial (of_decide_eq_true qz36) (Nat.le_trans (Nat.mul_le_mul_right _ (of_decide_eq_true qz36 : (l0_0.length : Int).toNat ≤ 281474976710656)) (by omega)) (Below.refl _ _) (Nat.le_refl _) ?_; intro v246 w7 ho8 hb hg_ hnew_; clear hg_ hnew_; (first | rw [← Ny245.out] at ho8 | (simp only [Int.reduceToNat] at ho8; rw [← Ny245.out] at ho8)); have n0_ := Aside0.mk (Kd.S_elder' (by (with_reducible repeat (first | apply Kd.S_alloc | apply Kd.S_drewN | apply Kd.S_drew)); exact HO_3.out) (Kd.R_base ho8) hb); have n1_ := Aside0.mk (Kd.R_lower ho8 (below_size qz9)); have n2_ := Aside0.mk (blk_below (g := gb244) (o := .cells #[.slice A0_0 l0_0.length c0_0, .int .i64 a0_1, .slice A0_2 l0_2.length c0_2, .int .i64 a0_3] 25 (0, 0)) qz25 hb); have n3_ := Aside0.mk (below_step qz9 hb); clear HO_3; clear BK244; clear HB; have HO_3 := n0_; have HO247 := n1_; have BK244 := n2_; have HB := n3_; clear n0_ n1_ n2_ n3_; clear hb ho8)))
        go_loopg [6] k1 (fun kq v6 w' => ∃ (x5_2 : List Bool) (x6_2 : Int), v6 = .int .i64 x6_2 ∧ Aside0 (skolemref35_table.l1 kq x3_1 x4_1 x5_2 x6_2 l0_0 a0_1 l0_2 a0_3 = some r) ∧ Aside0 (kq ≤ k1) ∧ Aside0 (Kd.S (Kd.slice 4 Kd.bool) 79 w' w.heap.size (fun k_ => some k_ ≠ (v246 : Value).ownBlock) u3 x3_1) ∧ Aside0 (Kd.R Kd.bool 4 w' w.heap.size (fun _ => True) v246 x5_2) ∧ Aside0 (w'.heap[gb244]? = some (.cells #[(.slice A0_0 l0_0.length c0_0), .int .i64 a0_1, (.slice A0_2 l0_2.length c0_2), .int .i64 a0_3] 25 (0, 0))) ∧ Aside0 (Below w.heap.size w w'))
        case atStart => exact ⟨(y245), (0), qz37, H', ⟨Nat.le_refl _⟩, ⟨by (with_reducible repeat (first | apply Kd.S_alloc | apply Kd.S_drewN | apply Kd.S_drew)); exact Kd.S_mono HO_3.out (fun _ hk => hk.2)⟩, ⟨by (with_reducible repeat (first | apply Kd.R_alloc | apply Kd.R_drewN | apply Kd.R_drew)); exact HO247.out⟩, ⟨by (with_reducible repeat (first | refine blk_drewN ?_ _ | refine blk_drew ?_ | refine blk_alloc ?_ _)); exact BK244.out⟩, ⟨by repeat (first | (with_reducible first | exact HB.out | apply below_alloc | apply pw_below_drewN | apply below_drew1 | refine below_set ?_ GE244.out) | exact HB.out)⟩⟩
        case round =>
          clear H'
          try clear p2
          try clear c3
          try clear c3b0
          try clear c4
          try clear c4b0
          try clear c4b1
          try clear c5
          try clear c5b0
          try clear c5b1
          try clear hcz6_0
          try clear hcz6_1
          try clear hcz6_2
          try clear hcz6_3
          try clear hfz6_0
          try clear hfz6_1
          try clear hfz6_2
          try clear hfz6_3
          try clear p2
          obtain ⟨x5_2, x6_2, rfl, HA, HK2, HO_3, HO_5, BK244, HB⟩ := hrel
          cases gk with
          | zero => exact absurd HA.out (by simp [skolemref35_table.l1])
          | succ k2 =>
            have H := HA.out
            clear HA
            simp only [skolemref35_table.l1] at H
            by_cases c9 : x6_2 < (x5_2.length : Int)
            · rw [if_pos c9] at H
              have c9b0 : decide (x6_2 < (x5_2.length : Int)) = true := decide_eq_true c9
              clear c9
              by_cases c10 : 0 ≤ x6_2
              case neg => rw [if_neg c10] at H; exact absurd H (by simp)
              rw [if_pos c10] at H
              have c10b0 : decide (0 ≤ x6_2) = true := decide_eq_true c10
              clear c10
              by_cases c11 : x6_2 < (l0_0.length : Int)
              case neg => rw [if_neg c11] at H; exact absurd H (by simp)
              rw [if_pos c11] at H
              have c11b0 : decide (x6_2 < (l0_0.length : Int)) = true := decide_eq_true c11
              clear c11
              have H' := Aside0.mk H
              clear H
              obtain ⟨Ao12, co12, eo12⟩ := Kd.R_slice HO_5.out
              subst eo12
              have hcz13_0 : wr.cell? ⟨gb244, 0, none⟩ = some (.slice A0_0 l0_0.length c0_0) := (blk_cell BK244.out 0).trans rfl
              have hcz13_1 : wr.cell? ⟨gb244, 1, none⟩ = some (.int .i64 a0_1) := (blk_cell BK244.out 1).trans rfl
              have hcz13_2 : wr.cell? ⟨gb244, 2, none⟩ = some (.slice A0_2 l0_2.length c0_2) := (blk_cell BK244.out 2).trans rfl
              have hcz13_3 : wr.cell? ⟨gb244, 3, none⟩ = some (.int .i64 a0_3) := (blk_cell BK244.out 3).trans rfl
              have hfz13_0 := blk_frozen BK244.out 0
              have hfz13_1 := blk_frozen BK244.out 1
              have hfz13_2 := blk_frozen BK244.out 2
              have hfz13_3 := blk_frozen BK244.out 3
              have p251 : 0 ≤ (x6_2 : Int) := of_decide_eq_true qz36
              have q251 : x6_2 < (l0_0.length : Int) := of_decide_eq_true qz36
              obtain ⟨ad251, A251_1, c251_1, e251, hx251_0, hx251_1, hl251_1, hi251_1⟩ := at_T55 HR0_0.out x6_2 p251 q251
              cases e251
              replace hx251_0 := (HB.out.cell (World.block_lt_of_cell? w _ hx251_0)).trans hx251_0
              replace hx251_1 := (HB.out.cell (World.block_lt_of_cell? w _ hx251_1)).trans hx251_1
              have HR251_1 := Aside0.mk hi251_1
              have HC251_1 := Aside0.mk hl251_1
              clear hi251_1 hl251_1
              replace p251 := eq_true p251
              replace q251 := eq_true q251
              go_wp2
              repeat (go_quiet (fail); try go_wp2)
              go_loopg [8, 9, 10] k2 (fun kq v8 v9 v10 w' => ∃ (x8_3 : Bool) (x9_3 : Bool) (x10_3 : Int), v8 = .bool x8_3 ∧ v9 = .bool x9_3 ∧ v10 = .int .i64 x10_3 ∧ Aside0 (skolemref35_table.l2 kq x3_1 x4_1 x5_2 x6_2 ((rd_T55 l0_0 x6_2).f1) x8_3 x9_3 x10_3 l0_0 a0_1 l0_2 a0_3 = some r) ∧ Aside0 (kq ≤ k2) ∧ Aside0 (Kd.S (Kd.slice 4 Kd.bool) 79 w' w.heap.size (fun k_ => some k_ ≠ ((.slice Ao12 x5_2.length co12) : Value).ownBlock) u3 x3_1) ∧ Aside0 (Kd.R Kd.bool 4 w' w.heap.size (fun _ => True) (.slice Ao12 x5_2.length co12) x5_2) ∧ Aside0 (w'.heap[gb244]? = some (.cells #[(.slice (some ad251) l0_0.length c0_0), .int .i64 a0_1, (.slice A0_2 l0_2.length c0_2), .int .i64 a0_3] 25 (0, 0))) ∧ Aside0 (Below w.heap.size w w'))
              case atStart => exact ⟨(false), (true), (0), qz37, qz37, qz37, H', ⟨Nat.le_refl _⟩, ⟨by (with_reducible repeat (first | apply Kd.S_alloc | apply Kd.S_drewN | apply Kd.S_drew)); exact HO_3.out⟩, ⟨by (with_reducible repeat (first | apply Kd.R_alloc | apply Kd.R_drewN | apply Kd.R_drew)); exact HO_5.out⟩, ⟨by (with_reducible repeat (first | refine blk_drewN ?_ _ | refine blk_drew ?_ | refine blk_alloc ?_ _)); exact BK244.out⟩, ⟨by repeat (first | (with_reducible first | exact HB.out | apply below_alloc | apply pw_below_drewN | apply below_drew1 | refine below_set ?_ GE244.out) | exact HB.out)⟩⟩
              case round =>
                clear H'
                try clear c1
                try clear c2
                try clear p2
                try clear q2
                try clear hx2
                try clear c3
                try clear c3b0
                try clear c4
                try clear c4b0
                try clear c4b1
                try clear c5
                try clear c5b0
                try clear c5b1
                try clear c9
                try clear c9b0
                try clear c10
                try clear c10b0
                try clear c11
                try clear c11b0
                try clear hcz13_0
                try clear hcz13_1
                try clear hcz13_2
                try clear hcz13_3
                try clear hcz6_0
                try clear hcz6_1
                try clear hcz6_2
                try clear hcz6_3
                try clear hfz13_0
                try clear hfz13_1
                try clear hfz13_2
                try clear hfz13_3
                try clear hfz6_0
                try clear hfz6_1
                try clear hfz6_2
                try clear hfz6_3
                try clear hx251_0
                try clear hx251_1
                try clear p2
                try clear p251
                try clear q251
                obtain ⟨x8_3, x9_3, x10_3, rfl, rfl, rfl, HA, HK3, HO_3, HO_5, BK244, HB⟩ := hrel
                cases gk with
                | zero => exact absurd HA.out (by simp [skolemref35_table.l2])
                | succ k3 =>
                  have H := HA.out
                  clear HA
                  simp only [skolemref35_table.l2] at H
                  by_cases c14 : x10_3 < (((rd_T55 l0_0 x6_2).f1).length : Int)
                  · rw [if_pos c14] at H
                    have c14b0 : decide (x10_3 < (((rd_T55 l0_0 x6_2).f1).length : Int)) = true := decide_eq_true c14
                    clear c14
                    by_cases c15 : x4_1 > 0
                    · rw [if_pos c15] at H
                      have c15b0 : decide (0 < x4_1) = true := decide_eq_true c15
                      clear c15
                      by_cases c16 : x8_3 = true
                      · subst c16
                        have H1 : (if x9_3 = true then (if 0 ≤ (wrap64 (x4_1 - 1)) then (if (wrap64 (x4_1 - 1)) < (x3_1.length : Int) then (if 0 ≤ x10_3 then (if 0 ≤ (rd ((rd_T55 l0_0 x6_2).f1) x10_3) then (if (rd ((rd_T55 l0_0 x6_2).f1) x10_3) < ((rd_L7 x3_1 (wrap64 (x4_1 - 1))).length : Int) then (skolemref35_table.l2 k3 x3_1 x4_1 x5_2 x6_2 ((rd_T55 l0_0 x6_2).f1) true (rdOf false (rd_L7 x3_1 (wrap64 (x4_1 - 1))) (rd ((rd_T55 l0_0 x6_2).f1) x10_3)) (wrap64 (x10_3 + 1)) l0_0 a0_1 l0_2 a0_3) else (none)) else (none)) else (none)) else (none)) else (none)) else (skolemref35_table.l2 k3 x3_1 x4_1 x5_2 x6_2 ((rd_T55 l0_0 x6_2).f1) true false (wrap64 (x10_3 + 1)) l0_0 a0_1 l0_2 a0_3)) = some r := by rw [if_pos rfl] at H; exact H
                        clear H
                        have H := H1
                        clear H1
                        by_cases c17 : x9_3 = true
                        · subst c17
                          have H1 : (if 0 ≤ (wrap64 (x4_1 - 1)) then (if (wrap64 (x4_1 - 1)) < (x3_1.length : Int) then (if 0 ≤ x10_3 then (if 0 ≤ (rd ((rd_T55 l0_0 x6_2).f1) x10_3) then (if (rd ((rd_T55 l0_0 x6_2).f1) x10_3) < ((rd_L7 x3_1 (wrap64 (x4_1 - 1))).length : Int) then (skolemref35_table.l2 k3 x3_1 x4_1 x5_2 x6_2 ((rd_T55 l0_0 x6_2).f1) true (rdOf false (rd_L7 x3_1 (wrap64 (x4_1 - 1))) (rd ((rd_T55 l0_0 x6_2).f1) x10_3)) (wrap64 (x10_3 + 1)) l0_0 a0_1 l0_2 a0_3) else (none)) else (none)) else (none)) else (none)) else (none)) = some r := by rw [if_pos rfl] at H; exact H
                          clear H
                          have H := H1
                          clear H1
                          obtain ⟨ji18, hji18⟩ : ∃ j_ : Int, (wrap64 (x4_1 - 1)) = j_ := ⟨_, rfl⟩
                          replace H : (if 0 ≤ (ji18) then (if (ji18) < (x3_1.length : Int) then (if 0 ≤ x10_3 then (if 0 ≤ (rd ((rd_T55 l0_0 x6_2).f1) x10_3) then (if (rd ((rd_T55 l0_0 x6_2).f1) x10_3) < ((rd_L7 x3_1 (ji18)).length : Int) then (skolemref35_table.l2 k3 x3_1 x4_1 x5_2 x6_2 ((rd_T55 l0_0 x6_2).f1) true (rdOf false (rd_L7 x3_1 (ji18)) (rd ((rd_T55 l0_0 x6_2).f1) x10_3)) (wrap64 (x10_3 + 1)) l0_0 a0_1 l0_2 a0_3) else (none)) else (none)) else (none)) else (none)) else (none)) = some r := by first | (rw [hji18] at H; exact H) | (simp only [hji18] at H ⊢; exact H)
                          have hji18w : (IntKind.i64.wrap (x4_1 - 1)) = ji18 := (i64_w _).trans hji18
                          by_cases c19 : 0 ≤ (ji18)
                          case neg => rw [if_neg c19] at H; exact absurd H (by simp)
                          rw [if_pos c19] at H
                          have c19b0 : decide (0 ≤ (ji18)) = true := decide_eq_true c19
                          clear c19
                          by_cases c20 : (ji18) < (x3_1.length : Int)
                          case neg => rw [if_neg c20] at H; exact absurd H (by simp)
                          rw [if_pos c20] at H
                          have c20b0 : decide ((ji18) < (x3_1.length : Int)) = true := decide_eq_true c20
                          clear c20
                          by_cases c21 : 0 ≤ x10_3
                          case neg => rw [if_neg c21] at H; exact absurd H (by simp)
                          rw [if_pos c21] at H
                          have c21b0 : decide (0 ≤ x10_3) = true := decide_eq_true c21
                          clear c21
                          by_cases c22 : 0 ≤ (rd ((rd_T55 l0_0 x6_2).f1) x10_3)
                          case neg => rw [if_neg c22] at H; exact absurd H (by simp)
                          rw [if_pos c22] at H
                          have c22b0 : decide (0 ≤ (rd ((rd_T55 l0_0 x6_2).f1) x10_3)) = true := decide_eq_true c22
                          clear c22
                          by_cases c23 : (rd ((rd_T55 l0_0 x6_2).f1) x10_3) < ((rd_L7 x3_1 (ji18)).length : Int)
                          case neg => rw [if_neg c23] at H; exact absurd H (by simp)
                          rw [if_pos c23] at H
                          have c23b0 : decide ((rd ((rd_T55 l0_0 x6_2).f1) x10_3) < ((rd_L7 x3_1 (ji18)).length : Int)) = true := decide_eq_true c23
                          clear c23
                          have H' := Aside0.mk H
                          clear H
                          obtain ⟨Ao24, co24, eo24⟩ := Kd.S_slice HO_3.out
                          subst eo24
                          have p252 : 0 ≤ ((ji18) : Int) := of_decide_eq_true qz36
                          have q252 : (ji18) < (x3_1.length : Int) := of_decide_eq_true qz36
                          obtain ⟨ad252, A252_0, c252_0, e252, hx252_0, hl252_0, hi252_0⟩ := at_L7 (Kd.S_reads' HO_3.out).2.2 (ji18) p252 q252
                          cases e252
                          obtain ⟨ce252, hce252, hMe252, hcc252⟩ := Kd.S_get HO_3.out [] (ji18) p252 (by first | exact q252 | exact of_decide_eq_true qz36 | (have e_ := (Kd.S_reads' HO_3.out).1; omega))
                          obtain ⟨ve252_0, rfl, ge252_0⟩ := hMe252
                          have hv252_0 := hcc252 0 _ rfl
                          rw [Nat.add_zero, show ((Kd.slice 4 Kd.bool)).sz = 1 from rfl, Nat.mul_one] at hv252_0
                          replace hv252_0 := Option.some.inj (hv252_0.symm.trans hx252_0)
                          rw [hv252_0] at ge252_0
                          have HL252_0 := Aside0.mk (show Kd.R Kd.bool 4 _ _ _ _ (rd_L7 x3_1 (ji18)) from ge252_0)
                          clear hv252_0 ge252_0
                          clear hcc252 hce252
                          have HR252_0 := Aside0.mk hi252_0
                          have HC252_0 := Aside0.mk hl252_0
                          clear hi252_0 hl252_0
                          replace p252 := eq_true p252
                          replace q252 := eq_true q252
                          have p253 : 0 ≤ (x10_3 : Int) := of_decide_eq_true qz36
                          have q253 : x10_3 < (((rd_T55 l0_0 x6_2).f1).length : Int) := of_decide_eq_true qz36
                          obtain ⟨ad253, e253, hx253_0⟩ := Kd.at_int HR251_1.out x10_3 p253 q253
                          cases e253
                          replace hx253_0 := (HB.out.cell (World.block_lt_of_cell? w _ hx253_0)).trans hx253_0
                          replace p253 := eq_true p253
                          replace q253 := eq_true q253
                          have p254 : 0 ≤ ((rd ((rd_T55 l0_0 x6_2).f1) x10_3) : Int) := of_decide_eq_true qz36
                          have q254 : (rd ((rd_T55 l0_0 x6_2).f1) x10_3) < ((rd_L7 x3_1 (ji18)).length : Int) := of_decide_eq_true qz36
                          obtain ⟨ad254, e254, hx254_0⟩ := Kd.at_bool (by repeat (first | (with_reducible exact HR252_0.out) | (with_reducible refine Kd.C_alloc ?_ _) | (with_reducible refine Kd.C_drewN ?_ _) | (with_reducible refine Kd.C_drew ?_) | exact HR252_0.out)) (rd ((rd_T55 l0_0 x6_2).f1) x10_3) p254 q254
                          cases e254
                          replace p254 := eq_true p254
                          replace q254 := eq_true q254
                          go_wp2
                          repeat (go_quiet (fail); try go_wp2)
                          go_roundg k3
                          case measure => have := HK1.out; have := HK2.out; have := HK3.out; omega
                          case rel => exact ⟨(true), (rdOf false (rd_L7 x3_1 (ji18)) (rd ((rd_T55 l0_0 x6_2).f1) x10_3)), (wrap64 (x10_3 + 1)), qz37, (by first | rfl | (simp; done) | (simp only [← hji18] <;> (first | rfl | simp)) | (simp [*]; done)), qz37, H', ⟨by have := HK1.out; have := HK2.out; have := HK3.out; omega⟩, ⟨by (with_reducible repeat (first | apply Kd.S_alloc | apply Kd.S_drewN | apply Kd.S_drew)); exact HO_3.out⟩, ⟨by (with_reducible repeat (first | apply Kd.R_alloc | apply Kd.R_drewN | apply Kd.R_drew)); exact HO_5.out⟩, ⟨by (with_reducible repeat (first | refine blk_drewN ?_ _ | refine blk_drew ?_ | refine blk_alloc ?_ _)); exact BK244.out⟩, ⟨by repeat (first | (with_reducible first | exact HB.out | apply below_alloc | apply pw_below_drewN | apply below_drew1 | refine below_set ?_ GE244.out) | exact HB.out)⟩⟩
                        · replace c17 := Bool.eq_false_iff.mpr c17
                          subst c17
                          have H1 : (skolemref35_table.l2 k3 x3_1 x4_1 x5_2 x6_2 ((rd_T55 l0_0 x6_2).f1) true false (wrap64 (x10_3 + 1)) l0_0 a0_1 l0_2 a0_3) = some r := by rw [if_neg (show ¬ (false = true) by decide)] at H; exact H
                          clear H
                          have H := H1
                          clear H1
                          have H' := Aside0.mk H
                          clear H
                          go_wp2
                          repeat (go_quiet (fail); try go_wp2)
                          go_roundg k3
                          case measure => have := HK1.out; have := HK2.out; have := HK3.out; omega
                          case rel => exact ⟨(true), (false), (wrap64 (x10_3 + 1)), qz37, qz37, qz37, H', ⟨by have := HK1.out; have := HK2.out; have := HK3.out; omega⟩, ⟨by (with_reducible repeat (first | apply Kd.S_alloc | apply Kd.S_drewN | apply Kd.S_drew)); exact HO_3.out⟩, ⟨by (with_reducible repeat (first | apply Kd.R_alloc | apply Kd.R_drewN | apply Kd.R_drew)); exact HO_5.out⟩, ⟨by (with_reducible repeat (first | refine blk_drewN ?_ _ | refine blk_drew ?_ | refine blk_alloc ?_ _)); exact BK244.out⟩, ⟨by repeat (first | (with_reducible first | exact HB.out | apply below_alloc | apply pw_below_drewN | apply below_drew1 | refine below_set ?_ GE244.out) | exact HB.out)⟩⟩
                      · replace c16 := Bool.eq_false_iff.mpr c16
                        subst c16
                        have H1 : (if 0 ≤ (wrap64 (x4_1 - 1)) then (if (wrap64 (x4_1 - 1)) < (x3_1.length : Int) then (if 0 ≤ x10_3 then (if 0 ≤ (rd ((rd_T55 l0_0 x6_2).f1) x10_3) then (if (rd ((rd_T55 l0_0 x6_2).f1) x10_3) < ((rd_L7 x3_1 (wrap64 (x4_1 - 1))).length : Int) then (if x9_3 = true then (skolemref35_table.l2 k3 x3_1 x4_1 x5_2 x6_2 ((rd_T55 l0_0 x6_2).f1) (rdOf false (rd_L7 x3_1 (wrap64 (x4_1 - 1))) (rd ((rd_T55 l0_0 x6_2).f1) x10_3)) (rdOf false (rd_L7 x3_1 (wrap64 (x4_1 - 1))) (rd ((rd_T55 l0_0 x6_2).f1) x10_3)) (wrap64 (x10_3 + 1)) l0_0 a0_1 l0_2 a0_3) else (skolemref35_table.l2 k3 x3_1 x4_1 x5_2 x6_2 ((rd_T55 l0_0 x6_2).f1) (rdOf false (rd_L7 x3_1 (wrap64 (x4_1 - 1))) (rd ((rd_T55 l0_0 x6_2).f1) x10_3)) false (wrap64 (x10_3 + 1)) l0_0 a0_1 l0_2 a0_3)) else (none)) else (none)) else (none)) else (none)) else (none)) = some r := by rw [if_neg (show ¬ (false = true) by decide)] at H; exact H
                        clear H
                        have H := H1
                        clear H1
                        obtain ⟨ji25, hji25⟩ : ∃ j_ : Int, (wrap64 (x4_1 - 1)) = j_ := ⟨_, rfl⟩
                        replace H : (if 0 ≤ (ji25) then (if (ji25) < (x3_1.length : Int) then (if 0 ≤ x10_3 then (if 0 ≤ (rd ((rd_T55 l0_0 x6_2).f1) x10_3) then (if (rd ((rd_T55 l0_0 x6_2).f1) x10_3) < ((rd_L7 x3_1 (ji25)).length : Int) then (if x9_3 = true then (skolemref35_table.l2 k3 x3_1 x4_1 x5_2 x6_2 ((rd_T55 l0_0 x6_2).f1) (rdOf false (rd_L7 x3_1 (ji25)) (rd ((rd_T55 l0_0 x6_2).f1) x10_3)) (rdOf false (rd_L7 x3_1 (ji25)) (rd ((rd_T55 l0_0 x6_2).f1) x10_3)) (wrap64 (x10_3 + 1)) l0_0 a0_1 l0_2 a0_3) else (skolemref35_table.l2 k3 x3_1 x4_1 x5_2 x6_2 ((rd_T55 l0_0 x6_2).f1) (rdOf false (rd_L7 x3_1 (ji25)) (rd ((rd_T55 l0_0 x6_2).f1) x10_3)) false (wrap64 (x10_3 + 1)) l0_0 a0_1 l0_2 a0_3)) else (none)) else (none)) else (none)) else (none)) else (none)) = some r := by first | (rw [hji25] at H; exact H) | (simp only [hji25] at H ⊢; exact H)
                        have hji25w : (IntKind.i64.wrap (x4_1 - 1)) = ji25 := (i64_w _).trans hji25
                        by_cases c26 : 0 ≤ (ji25)
                        case neg => rw [if_neg c26] at H; exact absurd H (by simp)
                        rw [if_pos c26] at H
                        have c26b0 : decide (0 ≤ (ji25)) = true := decide_eq_true c26
                        clear c26
                        by_cases c27 : (ji25) < (x3_1.length : Int)
                        case neg => rw [if_neg c27] at H; exact absurd H (by simp)
                        rw [if_pos c27] at H
                        have c27b0 : decide ((ji25) < (x3_1.length : Int)) = true := decide_eq_true c27
                        clear c27
                        by_cases c28 : 0 ≤ x10_3
                        case neg => rw [if_neg c28] at H; exact absurd H (by simp)
                        rw [if_pos c28] at H
                        have c28b0 : decide (0 ≤ x10_3) = true := decide_eq_true c28
                        clear c28
                        by_cases c29 : 0 ≤ (rd ((rd_T55 l0_0 x6_2).f1) x10_3)
                        case neg => rw [if_neg c29] at H; exact absurd H (by simp)
                        rw [if_pos c29] at H
                        have c29b0 : decide (0 ≤ (rd ((rd_T55 l0_0 x6_2).f1) x10_3)) = true := decide_eq_true c29
                        clear c29
                        by_cases c30 : (rd ((rd_T55 l0_0 x6_2).f1) x10_3) < ((rd_L7 x3_1 (ji25)).length : Int)
                        case neg => rw [if_neg c30] at H; exact absurd H (by simp)
                        rw [if_pos c30] at H
                        have c30b0 : decide ((rd ((rd_T55 l0_0 x6_2).f1) x10_3) < ((rd_L7 x3_1 (ji25)).length : Int)) = true := decide_eq_true c30
                        clear c30
                        by_cases c31 : x9_3 = true
                        · subst c31
                          have H1 : (skolemref35_table.l2 k3 x3_1 x4_1 x5_2 x6_2 ((rd_T55 l0_0 x6_2).f1) (rdOf false (rd_L7 x3_1 (ji25)) (rd ((rd_T55 l0_0 x6_2).f1) x10_3)) (rdOf false (rd_L7 x3_1 (ji25)) (rd ((rd_T55 l0_0 x6_2).f1) x10_3)) (wrap64 (x10_3 + 1)) l0_0 a0_1 l0_2 a0_3) = some r := by rw [if_pos rfl] at H; exact H
                          clear H
                          have H := H1
                          clear H1
                          have H' := Aside0.mk H
                          clear H
                          obtain ⟨Ao32, co32, eo32⟩ := Kd.S_slice HO_3.out
                          subst eo32
                          have p255 : 0 ≤ ((ji25) : Int) := of_decide_eq_true qz36
                          have q255 : (ji25) < (x3_1.length : Int) := of_decide_eq_true qz36
                          obtain ⟨ad255, A255_0, c255_0, e255, hx255_0, hl255_0, hi255_0⟩ := at_L7 (Kd.S_reads' HO_3.out).2.2 (ji25) p255 q255
                          cases e255
                          obtain ⟨ce255, hce255, hMe255, hcc255⟩ := Kd.S_get HO_3.out [] (ji25) p255 (by first | exact q255 | exact of_decide_eq_true qz36 | (have e_ := (Kd.S_reads' HO_3.out).1; omega))
                          obtain ⟨ve255_0, rfl, ge255_0⟩ := hMe255
                          have hv255_0 := hcc255 0 _ rfl
                          rw [Nat.add_zero, show ((Kd.slice 4 Kd.bool)).sz = 1 from rfl, Nat.mul_one] at hv255_0
                          replace hv255_0 := Option.some.inj (hv255_0.symm.trans hx255_0)
                          rw [hv255_0] at ge255_0
                          have HL255_0 := Aside0.mk (show Kd.R Kd.bool 4 _ _ _ _ (rd_L7 x3_1 (ji25)) from ge255_0)
                          clear hv255_0 ge255_0
                          clear hcc255 hce255
                          have HR255_0 := Aside0.mk hi255_0
                          have HC255_0 := Aside0.mk hl255_0
                          clear hi255_0 hl255_0
                          replace p255 := eq_true p255
                          replace q255 := eq_true q255
                          have p256 : 0 ≤ (x10_3 : Int) := of_decide_eq_true qz36
                          have q256 : x10_3 < (((rd_T55 l0_0 x6_2).f1).length : Int) := of_decide_eq_true qz36
                          obtain ⟨ad256, e256, hx256_0⟩ := Kd.at_int HR251_1.out x10_3 p256 q256
                          cases e256
                          replace hx256_0 := (HB.out.cell (World.block_lt_of_cell? w _ hx256_0)).trans hx256_0
                          replace p256 := eq_true p256
                          replace q256 := eq_true q256
                          have p257 : 0 ≤ ((rd ((rd_T55 l0_0 x6_2).f1) x10_3) : Int) := of_decide_eq_true qz36
                          have q257 : (rd ((rd_T55 l0_0 x6_2).f1) x10_3) < ((rd_L7 x3_1 (ji25)).length : Int) := of_decide_eq_true qz36
                          obtain ⟨ad257, e257, hx257_0⟩ := Kd.at_bool (by repeat (first | (with_reducible exact HR255_0.out) | (with_reducible refine Kd.C_alloc ?_ _) | (with_reducible refine Kd.C_drewN ?_ _) | (with_reducible refine Kd.C_drew ?_) | exact HR255_0.out)) (rd ((rd_T55 l0_0 x6_2).f1) x10_3) p257 q257
                          cases e257
                          replace p257 := eq_true p257
                          replace q257 := eq_true q257
                          have p258 : 0 ≤ ((ji25) : Int) := of_decide_eq_true qz36
                          have q258 : (ji25) < (x3_1.length : Int) := of_decide_eq_true qz36
                          obtain ⟨ad258, A258_0, c258_0, e258, hx258_0, hl258_0, hi258_0⟩ := at_L7 (Kd.S_reads' HO_3.out).2.2 (ji25) p258 q258
                          obtain rfl : ad255 = ad258 := (by injection e258)
                          obtain ⟨ce258, hce258, hMe258, hcc258⟩ := Kd.S_get HO_3.out [] (ji25) p258 (by first | exact q258 | exact of_decide_eq_true qz36 | (have e_ := (Kd.S_reads' HO_3.out).1; omega))
                          obtain ⟨ve258_0, rfl, ge258_0⟩ := hMe258
                          have hv258_0 := hcc258 0 _ rfl
                          rw [Nat.add_zero, show ((Kd.slice 4 Kd.bool)).sz = 1 from rfl, Nat.mul_one] at hv258_0
                          replace hv258_0 := Option.some.inj (hv258_0.symm.trans hx258_0)
                          rw [hv258_0] at ge258_0
                          have HL258_0 := Aside0.mk (show Kd.R Kd.bool 4 _ _ _ _ (rd_L7 x3_1 (ji25)) from ge258_0)
                          clear hv258_0 ge258_0
                          clear hcc258 hce258
                          have HR258_0 := Aside0.mk hi258_0
                          have HC258_0 := Aside0.mk hl258_0
                          clear hi258_0 hl258_0
                          replace p258 := eq_true p258
                          replace q258 := eq_true q258
                          have ea_ := Option.some.inj (hx255_0.symm.trans hx258_0)
                          injection ea_ with ea_ en_ ec_
                          subst ea_
                          subst ec_
                          clear en_
                          have p259 : 0 ≤ (x10_3 : Int) := of_decide_eq_true qz36
                          have q259 : x10_3 < (((rd_T55 l0_0 x6_2).f1).length : Int) := of_decide_eq_true qz36
                          obtain ⟨ad259, e259, hx259_0⟩ := Kd.at_int HR251_1.out x10_3 p259 q259
                          obtain rfl : ad256 = ad259 := (by injection e259)
                          replace hx259_0 := (HB.out.cell (World.block_lt_of_cell? w _ hx259_0)).trans hx259_0
                          replace p259 := eq_true p259
                          replace q259 := eq_true q259
                          have p260 : 0 ≤ ((rd ((rd_T55 l0_0 x6_2).f1) x10_3) : Int) := of_decide_eq_true qz36
                          have q260 : (rd ((rd_T55 l0_0 x6_2).f1) x10_3) < ((rd_L7 x3_1 (ji25)).length : Int) := of_decide_eq_true qz36
                          obtain ⟨ad260, e260, hx260_0⟩ := Kd.at_bool (by repeat (first | (with_reducible exact HR258_0.out) | (with_reducible refine Kd.C_alloc ?_ _) | (with_reducible refine Kd.C_drewN ?_ _) | (with_reducible refine Kd.C_drew ?_) | exact HR258_0.out)) (rd ((rd_T55 l0_0 x6_2).f1) x10_3) p260 q260
                          cases e260
                          replace p260 := eq_true p260
                          replace q260 := eq_true q260
                          go_wp2
                          repeat (go_quiet (fail); try go_wp2)
                          go_roundg k3
                          case measure => have := HK1.out; have := HK2.out; have := HK3.out; omega
                          case rel => exact ⟨(rdOf false (rd_L7 x3_1 (ji25)) (rd ((rd_T55 l0_0 x6_2).f1) x10_3)), (rdOf false (rd_L7 x3_1 (ji25)) (rd ((rd_T55 l0_0 x6_2).f1) x10_3)), (wrap64 (x10_3 + 1)), (by first | rfl | (simp; done) | (simp only [← hji25] <;> (first | rfl | simp)) | (simp [*]; done)), (by first | rfl | (simp; done) | (simp only [← hji25] <;> (first | rfl | simp)) | (simp [*]; done)), qz37, H', ⟨by have := HK1.out; have := HK2.out; have := HK3.out; omega⟩, ⟨by (with_reducible repeat (first | apply Kd.S_alloc | apply Kd.S_drewN | apply Kd.S_drew)); exact HO_3.out⟩, ⟨by (with_reducible repeat (first | apply Kd.R_alloc | apply Kd.R_drewN | apply Kd.R_drew)); exact HO_5.out⟩, ⟨by (with_reducible repeat (first | refine blk_drewN ?_ _ | refine blk_drew ?_ | refine blk_alloc ?_ _)); exact BK244.out⟩, ⟨by repeat (first | (with_reducible first | exact HB.out | apply below_alloc | apply pw_below_drewN | apply below_drew1 | refine below_set ?_ GE244.out) | exact HB.out)⟩⟩
                        · replace c31 := Bool.eq_false_iff.mpr c31
                          subst c31
                          have H1 : (skolemref35_table.l2 k3 x3_1 x4_1 x5_2 x6_2 ((rd_T55 l0_0 x6_2).f1) (rdOf false (rd_L7 x3_1 (ji25)) (rd ((rd_T55 l0_0 x6_2).f1) x10_3)) false (wrap64 (x10_3 + 1)) l0_0 a0_1 l0_2 a0_3) = some r := by rw [if_neg (show ¬ (false = true) by decide)] at H; exact H
                          clear H
                          have H := H1
                          clear H1
                          have H' := Aside0.mk H
                          clear H
                          obtain ⟨Ao33, co33, eo33⟩ := Kd.S_slice HO_3.out
                          subst eo33
                          have p255 : 0 ≤ ((ji25) : Int) := of_decide_eq_true qz36
                          have q255 : (ji25) < (x3_1.length : Int) := of_decide_eq_true qz36
                          obtain ⟨ad255, A255_0, c255_0, e255, hx255_0, hl255_0, hi255_0⟩ := at_L7 (Kd.S_reads' HO_3.out).2.2 (ji25) p255 q255
                          cases e255
                          obtain ⟨ce255, hce255, hMe255, hcc255⟩ := Kd.S_get HO_3.out [] (ji25) p255 (by first | exact q255 | exact of_decide_eq_true qz36 | (have e_ := (Kd.S_reads' HO_3.out).1; omega))
                          obtain ⟨ve255_0, rfl, ge255_0⟩ := hMe255
                          have hv255_0 := hcc255 0 _ rfl
                          rw [Nat.add_zero, show ((Kd.slice 4 Kd.bool)).sz = 1 from rfl, Nat.mul_one] at hv255_0
                          replace hv255_0 := Option.some.inj (hv255_0.symm.trans hx255_0)
                          rw [hv255_0] at ge255_0
                          have HL255_0 := Aside0.mk (show Kd.R Kd.bool 4 _ _ _ _ (rd_L7 x3_1 (ji25)) from ge255_0)
                          clear hv255_0 ge255_0
                          clear hcc255 hce255
                          have HR255_0 := Aside0.mk hi255_0
                          have HC255_0 := Aside0.mk hl255_0
                          clear hi255_0 hl255_0
                          replace p255 := eq_true p255
                          replace q255 := eq_true q255
                          have p256 : 0 ≤ (x10_3 : Int) := of_decide_eq_true qz36
                          have q256 : x10_3 < (((rd_T55 l0_0 x6_2).f1).length : Int) := of_decide_eq_true qz36
                          obtain ⟨ad256, e256, hx256_0⟩ := Kd.at_int HR251_1.out x10_3 p256 q256
                          cases e256
                          replace hx256_0 := (HB.out.cell (World.block_lt_of_cell? w _ hx256_0)).trans hx256_0
                          replace p256 := eq_true p256
                          replace q256 := eq_true q256
                          have p257 : 0 ≤ ((rd ((rd_T55 l0_0 x6_2).f1) x10_3) : Int) := of_decide_eq_true qz36
                          have q257 : (rd ((rd_T55 l0_0 x6_2).f1) x10_3) < ((rd_L7 x3_1 (ji25)).length : Int) := of_decide_eq_true qz36
                          obtain ⟨ad257, e257, hx257_0⟩ := Kd.at_bool (by repeat (first | (with_reducible exact HR255_0.out) | (with_reducible refine Kd.C_alloc ?_ _) | (with_reducible refine Kd.C_drewN ?_ _) | (with_reducible refine Kd.C_drew ?_) | exact HR255_0.out)) (rd ((rd_T55 l0_0 x6_2).f1) x10_3) p257 q257
                          cases e257
                          replace p257 := eq_true p257
                          replace q257 := eq_true q257
                          go_wp2
                          repeat (go_quiet (fail); try go_wp2)
                          go_roundg k3
                          case measure => have := HK1.out; have := HK2.out; have := HK3.out; omega
                          case rel => exact ⟨(rdOf false (rd_L7 x3_1 (ji25)) (rd ((rd_T55 l0_0 x6_2).f1) x10_3)), (false), (wrap64 (x10_3 + 1)), (by first | rfl | (simp; done) | (simp only [← hji25] <;> (first | rfl | simp)) | (simp [*]; done)), qz37, qz37, H', ⟨by have := HK1.out; have := HK2.out; have := HK3.out; omega⟩, ⟨by (with_reducible repeat (first | apply Kd.S_alloc | apply Kd.S_drewN | apply Kd.S_drew)); exact HO_3.out⟩, ⟨by (with_reducible repeat (first | apply Kd.R_alloc | apply Kd.R_drewN | apply Kd.R_drew)); exact HO_5.out⟩, ⟨by (with_reducible repeat (first | refine blk_drewN ?_ _ | refine blk_drew ?_ | refine blk_alloc ?_ _)); exact BK244.out⟩, ⟨by repeat (first | (with_reducible first | exact HB.out | apply below_alloc | apply pw_below_drewN | apply below_drew1 | refine below_set ?_ GE244.out) | exact HB.out)⟩⟩
                    · rw [if_neg c15] at H
                      have c15b0 : decide (0 < x4_1) = false := decide_eq_false c15
                      clear c15
                      replace H := Option.bind_eq_some_iff.mp H
                      obtain ⟨t261, A340, H⟩ := H
                      replace H : (if t261 = true then (if 0 ≤ x6_2 then (if x6_2 < (x5_2.length : Int) then (skolemref35_table.l1 k3 x3_1 x4_1 (x5_2.set (x6_2 : Int).toNat true) (wrap64 (x6_2 + 1)) l0_0 a0_1 l0_2 a0_3) else (none)) else (none)) else (if 0 ≤ x6_2 then (if x6_2 < (x5_2.length : Int) then (skolemref35_table.l1 k3 x3_1 x4_1 (x5_2.set (x6_2 : Int).toNat false) (wrap64 (x6_2 + 1)) l0_0 a0_1 l0_2 a0_3) else (none)) else (none))) = some r := H
                      have A34 := Aside0.mk A340
                      clear A340
                      by_cases c35 : t261 = true
                      · subst c35
                        have H1 : (if 0 ≤ x6_2 then (if x6_2 < (x5_2.length : Int) then (skolemref35_table.l1 k3 x3_1 x4_1 (x5_2.set (x6_2 : Int).toNat true) (wrap64 (x6_2 + 1)) l0_0 a0_1 l0_2 a0_3) else (none)) else (none)) = some r := by rw [if_pos rfl] at H; exact H
                        clear H
                        have H := H1
                        clear H1
                        by_cases c36 : 0 ≤ x6_2
                        case neg => rw [if_neg c36] at H; exact absurd H (by simp)
                        rw [if_pos c36] at H
                        have c36b0 : decide (0 ≤ x6_2) = true := decide_eq_true c36
                        clear c36
                        by_cases c37 : x6_2 < (x5_2.length : Int)
                        case neg => rw [if_neg c37] at H; exact absurd H (by simp)
                        rw [if_pos c37] at H
                        have c37b0 : decide (x6_2 < (x5_2.length : Int)) = true := decide_eq_true c37
                        clear c37
                        obtain ⟨y262, hy262⟩ : ∃ y_ : List Bool, y_ = (x5_2.set (x6_2 : Int).toNat true) := ⟨_, rfl⟩
                        replace H : (skolemref35_table.l1 k3 x3_1 x4_1 y262 (wrap64 (x6_2 + 1)) l0_0 a0_1 l0_2 a0_3) = some r := by first | (rw [hy262]; with_reducible exact H) | (have H2_ := (Option.bind_some _ _).symm.trans H; rw [hy262]; with_reducible exact H2_) | (have H2_ := (Option.bind_some _ _).symm.trans H; with_reducible exact H2_) | with_reducible exact H | (rw [hy262]; exact H) | exact H
                        have Ny262 := Aside0.mk hy262
                        clear hy262
                        have H' := Aside0.mk H
                        clear H
                        have hcz39_0 : wr.cell? ⟨gb244, 0, none⟩ = some (.slice (some ad251) l0_0.length c0_0) := (blk_cell BK244.out 0).trans rfl
                        have hcz39_1 : wr.cell? ⟨gb244, 1, none⟩ = some (.int .i64 a0_1) := (blk_cell BK244.out 1).trans rfl
                        have hcz39_2 : wr.cell? ⟨gb244, 2, none⟩ = some (.slice A0_2 l0_2.length c0_2) := (blk_cell BK244.out 2).trans rfl
                        have hcz39_3 : wr.cell? ⟨gb244, 3, none⟩ = some (.int .i64 a0_3) := (blk_cell BK244.out 3).trans rfl
                        have hfz39_0 := blk_frozen BK244.out 0
                        have hfz39_1 := blk_frozen BK244.out 1
                        have hfz39_2 := blk_frozen BK244.out 2
                        have hfz39_3 := blk_frozen BK244.out 3
                        go_wp2_with (first | (go_at_call 41; (with_reducible refine (skolemref05_In.calls k3 _ _ l0_2 x6_2 true _ ?side1 ?side2 A34.out).mono ?_); (case side1 => exact qz2); (case side2 => exact HC0_2.out); rintro e w' ⟨rfl, ⟨nd, rfl⟩⟩; (try exact qz17); have p38 : 0 ≤ (x6_2 : Int) := of_decide_eq_true qz36; have q38 : (x6_2 : Int) < ((x5_2.length : Int) : Int) := of_decide_eq_true qz36; obtain ⟨go38, co38, eo38, gb38, gl38, cl38, HG38⟩ := Kd.R_form HO_5.out (by omega); (first | cases eo38 | (injection eo38 with ea_ en_ ec_; (first | subst ea_ | (injection ea_ with ea_; subst ea_)); subst ec_; clear en_)); have GB38 := Aside0.mk gb38; have GG38 := Aside0.mk HG38; clear gb38 gl38 HG38; obtain ⟨hx38_0, hf38_0⟩ := Kd.R_celln false HO_5.out (x6_2 : Int) p38 q38; replace p38 := eq_true p38; replace q38 := eq_true q38; obtain ⟨hy40_, hz40_⟩ := Kd.R_celln false HO_5.out (x6_2 : Int) (of_decide_eq_true qz36) (of_decide_eq_true qz36); have HP40 := Kd.R_putg HO_5.out (x6_2 : Int) true) | ((with_reducible refine gate_store (t := 4) (p := 109) rfl ?_); (try (rw [drewN_self wr]; generalize hq_ : World.drewN wr _ = wr; have n0_ := Aside0.mk (Kd.S_at hq_ HO_3.out); have n1_ := Aside0.mk (Kd.R_at hq_ HO_5.out); have n2_ := Aside0.mk (blk_at hq_ BK244.out); have n3_ := Aside0.mk (below_at hq_ HB.out); clear hq_ HO_3 HO_5 BK244 HB; have HO_3 := n0_; have HO_5 := n1_; have BK244 := n2_; have HB := n3_; clear n0_ n1_ n2_ n3_; (try (obtain ⟨hy40_, hz40_⟩ := Kd.R_celln false HO_5.out (x6_2 : Int) (of_decide_eq_true qz36) (of_decide_eq_true qz36))); (try (have HP40 := Kd.R_putg HO_5.out (x6_2 : Int) true)))); refine store_event (t := 4) (p := 109) (v := ?vo_w41) (w1 := (wr.setCell ⟨go38, (x6_2 : Int).toNat, none⟩ (.bool true))) ?hg ?ho ?hn ?hr ?_; (case ho => rfl); (case hg => rfl); (case hn => rfl); (case hr => exact qz38); intro w41 hw; have hg : wr.grownBy w41 (some go38) := (by rw [hw]; exact HP40.2); have hp_ : Kd.R Kd.bool 4 w41 w.heap.size (fun _ => True) (.slice (some ⟨go38, 0, none⟩) x5_2.length co12) y262 := (by rw [hw, Ny262.out]; exact HP40.1); clear HP40; have n0_ := Aside0.mk (Kd.S_after (v := (.slice (some ⟨go38, 0, none⟩) x5_2.length co12)) (v1 := (.slice (some ⟨go38, 0, none⟩) x5_2.length co12)) (ok := (fun _ => True)) qz18 hg (.inl rfl)); have n1_ := Aside0.mk (hp_); have n2_ := Aside0.mk (blk_grown (g := gb244) (o := .cells #[.slice (some ad251) l0_0.length c0_0, .int .i64 a0_1, .slice A0_2 l0_2.length c0_2, .int .i64 a0_3] 25 (0, 0)) qz25 hg (Kd.R_ne HO_5.out BK244.out (by decide))); have n3_ := Aside0.mk ((by rw [hw]; exact below_set (HB.out) GB38.out : Below w.heap.size w w41)); clear HO_3; clear HO_5; clear BK244; clear HB; have HO_3 := n0_; have HO_5 := n1_; have BK244 := n2_; have HB := n3_; clear n0_ n1_ n2_ n3_; clear hg hw hp_))
                        repeat (go_quiet (first | (go_at_call 41; (with_reducible refine (skolemref05_In.calls k3 _ _ l0_2 x6_2 true _ ?side1 ?side2 A34.out).mono ?_); (case side1 => exact qz2); (case side2 => exact HC0_2.out); rintro e w' ⟨rfl, ⟨nd, rfl⟩⟩; (try exact qz17); have p38 : 0 ≤ (x6_2 : Int) := of_decide_eq_true qz36; have q38 : (x6_2 : Int) < ((x5_2.length : Int) : Int) := of_decide_eq_true qz36; obtain ⟨go38, co38, eo38, gb38, gl38, cl38, HG38⟩ := Kd.R_form HO_5.out (by omega); (first | cases eo38 | (injection eo38 with ea_ en_ ec_; (first | subst ea_ | (injection ea_ with ea_; subst ea_)); subst ec_; clear en_)); have GB38 := Aside0.mk gb38; have GG38 := Aside0.mk HG38; clear gb38 gl38 HG38; obtain ⟨hx38_0, hf38_0⟩ := Kd.R_celln false HO_5.out (x6_2 : Int) p38 q38; replace p38 := eq_true p38; replace q38 := eq_true q38; obtain ⟨hy40_, hz40_⟩ := Kd.R_celln false HO_5.out (x6_2 : Int) (of_decide_eq_true qz36) (of_decide_eq_true qz36); have HP40 := Kd.R_putg HO_5.out (x6_2 : Int) true) | ((with_reducible refine gate_store (t := 4) (p := 109) rfl ?_); (try (rw [drewN_self wr]; generalize hq_ : World.drewN wr _ = wr; have n0_ := Aside0.mk (Kd.S_at hq_ HO_3.out); have n1_ := Aside0.mk (Kd.R_at hq_ HO_5.out); have n2_ := Aside0.mk (blk_at hq_ BK244.out); have n3_ := Aside0.mk (below_at hq_ HB.out); clear hq_ HO_3 HO_5 BK244 HB; have HO_3 := n0_; have HO_5 := n1_; have BK244 := n2_; have HB := n3_; clear n0_ n1_ n2_ n3_; (try (obtain ⟨hy40_, hz40_⟩ := Kd.R_celln false HO_5.out (x6_2 : Int) (of_decide_eq_true qz36) (of_decide_eq_true qz36))); (try (have HP40 := Kd.R_putg HO_5.out (x6_2 : Int) true)))); refine store_event (t := 4) (p := 109) (v := ?vo_w41) (w1 := (wr.setCell ⟨go38, (x6_2 : Int).toNat, none⟩ (.bool true))) ?hg ?ho ?hn ?hr ?_; (case ho => rfl); (case hg => rfl); (case hn => rfl); (case hr => exact qz38); intro w41 hw; have hg : wr.grownBy w41 (some go38) := (by rw [hw]; exact HP40.2); have hp_ : Kd.R Kd.bool 4 w41 w.heap.size (fun _ => True) (.slice (some ⟨go38, 0, none⟩) x5_2.length co12) y262 := (by rw [hw, Ny262.out]; exact HP40.1); clear HP40; have n0_ := Aside0.mk (Kd.S_after (v := (.slice (some ⟨go38, 0, none⟩) x5_2.length co12)) (v1 := (.slice (some ⟨go38, 0, none⟩) x5_2.length co12)) (ok := (fun _ => True)) qz18 hg (.inl rfl)); have n1_ := Aside0.mk (hp_); have n2_ := Aside0.mk (blk_grown (g := gb244) (o := .cells #[.slice (some ad251) l0_0.length c0_0, .int .i64 a0_1, .slice A0_2 l0_2.length c0_2, .int .i64 a0_3] 25 (0, 0)) qz25 hg (Kd.R_ne HO_5.out BK244.out (by decide))); have n3_ := Aside0.mk ((by rw [hw]; exact below_set (HB.out) GB38.out : Below w.heap.size w w41)); clear HO_3; clear HO_5; clear BK244; clear HB; have HO_3 := n0_; have HO_5 := n1_; have BK244 := n2_; have HB := n3_; clear n0_ n1_ n2_ n3_; clear hg hw hp_)); try go_wp2_with (first | (go_at_call 41; (with_reducible refine (skolemref05_In.calls k3 _ _ l0_2 x6_2 true _ ?side1 ?side2 A34.out).mono ?_); (case side1 => exact qz2); (case side2 => exact HC0_2.out); rintro e w' ⟨rfl, ⟨nd, rfl⟩⟩; (try exact qz17); have p38 : 0 ≤ (x6_2 : Int) := of_decide_eq_true qz36; have q38 : (x6_2 : Int) < ((x5_2.length : Int) : Int) := of_decide_eq_true qz36; obtain ⟨go38, co38, eo38, gb38, gl38, cl38, HG38⟩ := Kd.R_form HO_5.out (by omega); (first | cases eo38 | (injection eo38 with ea_ en_ ec_; (first | subst ea_ | (injection ea_ with ea_; subst ea_)); subst ec_; clear en_)); have GB38 := Aside0.mk gb38; have GG38 := Aside0.mk HG38; clear gb38 gl38 HG38; obtain ⟨hx38_0, hf38_0⟩ := Kd.R_celln false HO_5.out (x6_2 : Int) p38 q38; replace p38 := eq_true p38; replace q38 := eq_true q38; obtain ⟨hy40_, hz40_⟩ := Kd.R_celln false HO_5.out (x6_2 : Int) (of_decide_eq_true qz36) (of_decide_eq_true qz36); have HP40 := Kd.R_putg HO_5.out (x6_2 : Int) true) | ((with_reducible refine gate_store (t := 4) (p := 109) rfl ?_); (try (rw [drewN_self wr]; generalize hq_ : World.drewN wr _ = wr; have n0_ := Aside0.mk (Kd.S_at hq_ HO_3.out); have n1_ := Aside0.mk (Kd.R_at hq_ HO_5.out); have n2_ := Aside0.mk (blk_at hq_ BK244.out); have n3_ := Aside0.mk (below_at hq_ HB.out); clear hq_ HO_3 HO_5 BK244 HB; have HO_3 := n0_; have HO_5 := n1_; have BK244 := n2_; have HB := n3_; clear n0_ n1_ n2_ n3_; (try (obtain ⟨hy40_, hz40_⟩ := Kd.R_celln false HO_5.out (x6_2 : Int) (of_decide_eq_true qz36) (of_decide_eq_true qz36))); (try (have HP40 := Kd.R_putg HO_5.out (x6_2 : Int) true)))); refine store_event (t := 4) (p := 109) (v := ?vo_w41) (w1 := (wr.setCell ⟨go38, (x6_2 : Int).toNat, none⟩ (.bool true))) ?hg ?ho ?hn ?hr ?_; (case ho => rfl); (case hg => rfl); (case hn => rfl); (case hr => exact qz38); intro w41 hw; have hg : wr.grownBy w41 (some go38) := (by rw [hw]; exact HP40.2); have hp_ : Kd.R Kd.bool 4 w41 w.heap.size (fun _ => True) (.slice (some ⟨go38, 0, none⟩) x5_2.length co12) y262 := (by rw [hw, Ny262.out]; exact HP40.1); clear HP40; have n0_ := Aside0.mk (Kd.S_after (v := (.slice (some ⟨go38, 0, none⟩) x5_2.length co12)) (v1 := (.slice (some ⟨go38, 0, none⟩) x5_2.length co12)) (ok := (fun _ => True)) qz18 hg (.inl rfl)); have n1_ := Aside0.mk (hp_); have n2_ := Aside0.mk (blk_grown (g := gb244) (o := .cells #[.slice (some ad251) l0_0.length c0_0, .int .i64 a0_1, .slice A0_2 l0_2.length c0_2, .int .i64 a0_3] 25 (0, 0)) qz25 hg (Kd.R_ne HO_5.out BK244.out (by decide))); have n3_ := Aside0.mk ((by rw [hw]; exact below_set (HB.out) GB38.out : Below w.heap.size w w41)); clear HO_3; clear HO_5; clear BK244; clear HB; have HO_3 := n0_; have HO_5 := n1_; have BK244 := n2_; have HB := n3_; clear n0_ n1_ n2_ n3_; clear hg hw hp_)))
                        go_roundg k3
                        case measure => have := HK1.out; have := HK2.out; have := HK3.out; omega
                        case rel => exact ⟨(y262), (wrap64 (x6_2 + 1)), qz37, H', ⟨by have := HK1.out; have := HK2.out; have := HK3.out; omega⟩, ⟨by (with_reducible repeat (first | apply Kd.S_alloc | apply Kd.S_drewN | apply Kd.S_drew)); exact Kd.S_mono HO_3.out (fun _ hk => hk.2)⟩, ⟨by (with_reducible repeat (first | apply Kd.R_alloc | apply Kd.R_drewN | apply Kd.R_drew)); exact HO_5.out⟩, ⟨by (with_reducible repeat (first | refine blk_drewN ?_ _ | refine blk_drew ?_ | refine blk_alloc ?_ _)); exact BK244.out⟩, ⟨by repeat (first | (with_reducible first | exact HB.out | apply below_alloc | apply pw_below_drewN | apply below_drew1 | refine below_set ?_ GE244.out) | exact HB.out)⟩⟩
                      · replace c35 := Bool.eq_false_iff.mpr c35
                        subst c35
                        have H1 : (if 0 ≤ x6_2 then (if x6_2 < (x5_2.length : Int) then (skolemref35_table.l1 k3 x3_1 x4_1 (x5_2.set (x6_2 : Int).toNat false) (wrap64 (x6_2 + 1)) l0_0 a0_1 l0_2 a0_3) else (none)) else (none)) = some r := by rw [if_neg (show ¬ (false = true) by decide)] at H; exact H
                        clear H
                        have H := H1
                        clear H1
                        by_cases c42 : 0 ≤ x6_2
                        case neg => rw [if_neg c42] at H; exact absurd H (by simp)
                        rw [if_pos c42] at H
                        have c42b0 : decide (0 ≤ x6_2) = true := decide_eq_true c42
                        clear c42
                        by_cases c43 : x6_2 < (x5_2.length : Int)
                        case neg => rw [if_neg c43] at H; exact absurd H (by simp)
                        rw [if_pos c43] at H
                        have c43b0 : decide (x6_2 < (x5_2.length : Int)) = true := decide_eq_true c43
                        clear c43
                        obtain ⟨y263, hy263⟩ : ∃ y_ : List Bool, y_ = (x5_2.set (x6_2 : Int).toNat false) := ⟨_, rfl⟩
                        replace H : (skolemref35_table.l1 k3 x3_1 x4_1 y263 (wrap64 (x6_2 + 1)) l0_0 a0_1 l0_2 a0_3) = some r := by first | (rw [hy263]; with_reducible exact H) | (have H2_ := (Option.bind_some _ _).symm.trans H; rw [hy263]; with_reducible exact H2_) | (have H2_ := (Option.bind_some _ _).symm.trans H; with_reducible exact H2_) | with_reducible exact H | (rw [hy263]; exact H) | exact H
                        have Ny263 := Aside0.mk hy263
                        clear hy263
                        have H' := Aside0.mk H
                        clear H
                        have hcz45_0 : wr.cell? ⟨gb244, 0, none⟩ = some (.slice (some ad251) l0_0.length c0_0) := (blk_cell BK244.out 0).trans rfl
                        have hcz45_1 : wr.cell? ⟨gb244, 1, none⟩ = some (.int .i64 a0_1) := (blk_cell BK244.out 1).trans rfl
                        have hcz45_2 : wr.cell? ⟨gb244, 2, none⟩ = some (.slice A0_2 l0_2.length c0_2) := (blk_cell BK244.out 2).trans rfl
                        have hcz45_3 : wr.cell? ⟨gb244, 3, none⟩ = some (.int .i64 a0_3) := (blk_cell BK244.out 3).trans rfl
                        have hfz45_0 := blk_frozen BK244.out 0
                        have hfz45_1 := blk_frozen BK244.out 1
                        have hfz45_2 := blk_frozen BK244.out 2
                        have hfz45_3 := blk_frozen BK244.out 3
                        go_wp2_with (first | (go_at_call 41; (with_reducible refine (skolemref05_In.calls k3 _ _ l0_2 x6_2 false _ ?side1 ?side2 A34.out).mono ?_); (case side1 => exact qz2); (case side2 => exact HC0_2.out); rintro e w' ⟨rfl, ⟨nd, rfl⟩⟩; (try exact qz17); have p44 : 0 ≤ (x6_2 : Int) := of_decide_eq_true qz36; have q44 : (x6_2 : Int) < ((x5_2.length : Int) : Int) := of_decide_eq_true qz36; obtain ⟨go44, co44, eo44, gb44, gl44, cl44, HG44⟩ := Kd.R_form HO_5.out (by omega); (first | cases eo44 | (injection eo44 with ea_ en_ ec_; (first | subst ea_ | (injection ea_ with ea_; subst ea_)); subst ec_; clear en_)); have GB44 := Aside0.mk gb44; have GG44 := Aside0.mk HG44; clear gb44 gl44 HG44; obtain ⟨hx44_0, hf44_0⟩ := Kd.R_celln false HO_5.out (x6_2 : Int) p44 q44; replace p44 := eq_true p44; replace q44 := eq_true q44; obtain ⟨hy46_, hz46_⟩ := Kd.R_celln false HO_5.out (x6_2 : Int) (of_decide_eq_true qz36) (of_decide_eq_true qz36); have HP46 := Kd.R_putg HO_5.out (x6_2 : Int) false) | ((with_reducible refine gate_store (t := 4) (p := 109) rfl ?_); (try (rw [drewN_self wr]; generalize hq_ : World.drewN wr _ = wr; have n0_ := Aside0.mk (Kd.S_at hq_ HO_3.out); have n1_ := Aside0.mk (Kd.R_at hq_ HO_5.out); have n2_ := Aside0.mk (blk_at hq_ BK244.out); have n3_ := Aside0.mk (below_at hq_ HB.out); clear hq_ HO_3 HO_5 BK244 HB; have HO_3 := n0_; have HO_5 := n1_; have BK244 := n2_; have HB := n3_; clear n0_ n1_ n2_ n3_; (try (obtain ⟨hy46_, hz46_⟩ := Kd.R_celln false HO_5.out (x6_2 : Int) (of_decide_eq_true qz36) (of_decide_eq_true qz36))); (try (have HP46 := Kd.R_putg HO_5.out (x6_2 : Int) false)))); refine store_event (t := 4) (p := 109) (v := ?vo_w47) (w1 := (wr.setCell ⟨go44, (x6_2 : Int).toNat, none⟩ (.bool false))) ?hg ?ho ?hn ?hr ?_; (case ho => rfl); (case hg => rfl); (case hn => rfl); (case hr => exact qz38); intro w47 hw; have hg : wr.grownBy w47 (some go44) := (by rw [hw]; exact HP46.2); have hp_ : Kd.R Kd.bool 4 w47 w.heap.size (fun _ => True) (.slice (some ⟨go44, 0, none⟩) x5_2.length co12) y263 := (by rw [hw, Ny263.out]; exact HP46.1); clear HP46; have n0_ := Aside0.mk (Kd.S_after (v := (.slice (some ⟨go44, 0, none⟩) x5_2.length co12)) (v1 := (.slice (some ⟨go44, 0, none⟩) x5_2.length co12)) (ok := (fun _ => True)) qz18 hg (.inl rfl)); have n1_ := Aside0.mk (hp_); have n2_ := Aside0.mk (blk_grown (g := gb244) (o := .cells #[.slice (some ad251) l0_0.length c0_0, .int .i64 a0_1, .slice A0_2 l0_2.length c0_2, .int .i64 a0_3] 25 (0, 0)) qz25 hg (Kd.R_ne HO_5.out BK244.out (by decide))); have n3_ := Aside0.mk ((by rw [hw]; exact below_set (HB.out) GB44.out : Below w.heap.size w w47)); clear HO_3; clear HO_5; clear BK244; clear HB; have HO_3 := n0_; have HO_5 := n1_; have BK244 := n2_; have HB := n3_; clear n0_ n1_ n2_ n3_; clear hg hw hp_))
                        repeat (go_quiet (first | (go_at_call 41; (with_reducible refine (skolemref05_In.calls k3 _ _ l0_2 x6_2 false _ ?side1 ?side2 A34.out).mono ?_); (case side1 => exact qz2); (case side2 => exact HC0_2.out); rintro e w' ⟨rfl, ⟨nd, rfl⟩⟩; (try exact qz17); have p44 : 0 ≤ (x6_2 : Int) := of_decide_eq_true qz36; have q44 : (x6_2 : Int) < ((x5_2.length : Int) : Int) := of_decide_eq_true qz36; obtain ⟨go44, co44, eo44, gb44, gl44, cl44, HG44⟩ := Kd.R_form HO_5.out (by omega); (first | cases eo44 | (injection eo44 with ea_ en_ ec_; (first | subst ea_ | (injection ea_ with ea_; subst ea_)); subst ec_; clear en_)); have GB44 := Aside0.mk gb44; have GG44 := Aside0.mk HG44; clear gb44 gl44 HG44; obtain ⟨hx44_0, hf44_0⟩ := Kd.R_celln false HO_5.out (x6_2 : Int) p44 q44; replace p44 := eq_true p44; replace q44 := eq_true q44; obtain ⟨hy46_, hz46_⟩ := Kd.R_celln false HO_5.out (x6_2 : Int) (of_decide_eq_true qz36) (of_decide_eq_true qz36); have HP46 := Kd.R_putg HO_5.out (x6_2 : Int) false) | ((with_reducible refine gate_store (t := 4) (p := 109) rfl ?_); (try (rw [drewN_self wr]; generalize hq_ : World.drewN wr _ = wr; have n0_ := Aside0.mk (Kd.S_at hq_ HO_3.out); have n1_ := Aside0.mk (Kd.R_at hq_ HO_5.out); have n2_ := Aside0.mk (blk_at hq_ BK244.out); have n3_ := Aside0.mk (below_at hq_ HB.out); clear hq_ HO_3 HO_5 BK244 HB; have HO_3 := n0_; have HO_5 := n1_; have BK244 := n2_; have HB := n3_; clear n0_ n1_ n2_ n3_; (try (obtain ⟨hy46_, hz46_⟩ := Kd.R_celln false HO_5.out (x6_2 : Int) (of_decide_eq_true qz36) (of_decide_eq_true qz36))); (try (have HP46 := Kd.R_putg HO_5.out (x6_2 : Int) false)))); refine store_event (t := 4) (p := 109) (v := ?vo_w47) (w1 := (wr.setCell ⟨go44, (x6_2 : Int).toNat, none⟩ (.bool false))) ?hg ?ho ?hn ?hr ?_; (case ho => rfl); (case hg => rfl); (case hn => rfl); (case hr => exact qz38); intro w47 hw; have hg : wr.grownBy w47 (some go44) := (by rw [hw]; exact HP46.2); have hp_ : Kd.R Kd.bool 4 w47 w.heap.size (fun _ => True) (.slice (some ⟨go44, 0, none⟩) x5_2.length co12) y263 := (by rw [hw, Ny263.out]; exact HP46.1); clear HP46; have n0_ := Aside0.mk (Kd.S_after (v := (.slice (some ⟨go44, 0, none⟩) x5_2.length co12)) (v1 := (.slice (some ⟨go44, 0, none⟩) x5_2.length co12)) (ok := (fun _ => True)) qz18 hg (.inl rfl)); have n1_ := Aside0.mk (hp_); have n2_ := Aside0.mk (blk_grown (g := gb244) (o := .cells #[.slice (some ad251) l0_0.length c0_0, .int .i64 a0_1, .slice A0_2 l0_2.length c0_2, .int .i64 a0_3] 25 (0, 0)) qz25 hg (Kd.R_ne HO_5.out BK244.out (by decide))); have n3_ := Aside0.mk ((by rw [hw]; exact below_set (HB.out) GB44.out : Below w.heap.size w w47)); clear HO_3; clear HO_5; clear BK244; clear HB; have HO_3 := n0_; have HO_5 := n1_; have BK244 := n2_; have HB := n3_; clear n0_ n1_ n2_ n3_; clear hg hw hp_)); try go_wp2_with (first | (go_at_call 41; (with_reducible refine (skolemref05_In.calls k3 _ _ l0_2 x6_2 false _ ?side1 ?side2 A34.out).mono ?_); (case side1 => exact qz2); (case side2 => exact HC0_2.out); rintro e w' ⟨rfl, ⟨nd, rfl⟩⟩; (try exact qz17); have p44 : 0 ≤ (x6_2 : Int) := of_decide_eq_true qz36; have q44 : (x6_2 : Int) < ((x5_2.length : Int) : Int) := of_decide_eq_true qz36; obtain ⟨go44, co44, eo44, gb44, gl44, cl44, HG44⟩ := Kd.R_form HO_5.out (by omega); (first | cases eo44 | (injection eo44 with ea_ en_ ec_; (first | subst ea_ | (injection ea_ with ea_; subst ea_)); subst ec_; clear en_)); have GB44 := Aside0.mk gb44; have GG44 := Aside0.mk HG44; clear gb44 gl44 HG44; obtain ⟨hx44_0, hf44_0⟩ := Kd.R_celln false HO_5.out (x6_2 : Int) p44 q44; replace p44 := eq_true p44; replace q44 := eq_true q44; obtain ⟨hy46_, hz46_⟩ := Kd.R_celln false HO_5.out (x6_2 : Int) (of_decide_eq_true qz36) (of_decide_eq_true qz36); have HP46 := Kd.R_putg HO_5.out (x6_2 : Int) false) | ((with_reducible refine gate_store (t := 4) (p := 109) rfl ?_); (try (rw [drewN_self wr]; generalize hq_ : World.drewN wr _ = wr; have n0_ := Aside0.mk (Kd.S_at hq_ HO_3.out); have n1_ := Aside0.mk (Kd.R_at hq_ HO_5.out); have n2_ := Aside0.mk (blk_at hq_ BK244.out); have n3_ := Aside0.mk (below_at hq_ HB.out); clear hq_ HO_3 HO_5 BK244 HB; have HO_3 := n0_; have HO_5 := n1_; have BK244 := n2_; have HB := n3_; clear n0_ n1_ n2_ n3_; (try (obtain ⟨hy46_, hz46_⟩ := Kd.R_celln false HO_5.out (x6_2 : Int) (of_decide_eq_true qz36) (of_decide_eq_true qz36))); (try (have HP46 := Kd.R_putg HO_5.out (x6_2 : Int) false)))); refine store_event (t := 4) (p := 109) (v := ?vo_w47) (w1 := (wr.setCell ⟨go44, (x6_2 : Int).toNat, none⟩ (.bool false))) ?hg ?ho ?hn ?hr ?_; (case ho => rfl); (case hg => rfl); (case hn => rfl); (case hr => exact qz38); intro w47 hw; have hg : wr.grownBy w47 (some go44) := (by rw [hw]; exact HP46.2); have hp_ : Kd.R Kd.bool 4 w47 w.heap.size (fun _ => True) (.slice (some ⟨go44, 0, none⟩) x5_2.length co12) y263 := (by rw [hw, Ny263.out]; exact HP46.1); clear HP46; have n0_ := Aside0.mk (Kd.S_after (v := (.slice (some ⟨go44, 0, none⟩) x5_2.length co12)) (v1 := (.slice (some ⟨go44, 0, none⟩) x5_2.length co12)) (ok := (fun _ => True)) qz18 hg (.inl rfl)); have n1_ := Aside0.mk (hp_); have n2_ := Aside0.mk (blk_grown (g := gb244) (o := .cells #[.slice (some ad251) l0_0.length c0_0, .int .i64 a0_1, .slice A0_2 l0_2.length c0_2, .int .i64 a0_3] 25 (0, 0)) qz25 hg (Kd.R_ne HO_5.out BK244.out (by decide))); have n3_ := Aside0.mk ((by rw [hw]; exact below_set (HB.out) GB44.out : Below w.heap.size w w47)); clear HO_3; clear HO_5; clear BK244; clear HB; have HO_3 := n0_; have HO_5 := n1_; have BK244 := n2_; have HB := n3_; clear n0_ n1_ n2_ n3_; clear hg hw hp_)))
                        go_roundg k3
                        case measure => have := HK1.out; have := HK2.out; have := HK3.out; omega
                        case rel => exact ⟨(y263), (wrap64 (x6_2 + 1)), qz37, H', ⟨by have := HK1.out; have := HK2.out; have := HK3.out; omega⟩, ⟨by (with_reducible repeat (first | apply Kd.S_alloc | apply Kd.S_drewN | apply Kd.S_drew)); exact Kd.S_mono HO_3.out (fun _ hk => hk.2)⟩, ⟨by (with_reducible repeat (first | apply Kd.R_alloc | apply Kd.R_drewN | apply Kd.R_drew)); exact HO_5.out⟩, ⟨by (with_reducible repeat (first | refine blk_drewN ?_ _ | refine blk_drew ?_ | refine blk_alloc ?_ _)); exact BK244.out⟩, ⟨by repeat (first | (with_reducible first | exact HB.out | apply below_alloc | apply pw_below_drewN | apply below_drew1 | refine below_set ?_ GE244.out) | exact HB.out)⟩⟩
                  · rw [if_neg c14] at H
                    have c14b0 : decide (x10_3 < (((rd_T55 l0_0 x6_2).f1).length : Int)) = false := decide_eq_false c14
                    clear c14
                    replace H := Option.bind_eq_some_iff.mp H
                    obtain ⟨t264, A480, H⟩ := H
                    replace H : (if t264 = true then (if 0 ≤ x6_2 then (if x6_2 < (x5_2.length : Int) then (skolemref35_table.l1 k3 x3_1 x4_1 (x5_2.set (x6_2 : Int).toNat true) (wrap64 (x6_2 + 1)) l0_0 a0_1 l0_2 a0_3) else (none)) else (none)) else (if x4_1 > 0 then (if (((rd_T55 l0_0 x6_2).f1).length : Int) > 0 then (if 0 ≤ x6_2 then (if x6_2 < (l0_0.length : Int) then (if (rd_T55 l0_0 x6_2).f0 = true then (if x8_3 = true then (if x6_2 < (x5_2.length : Int) then (skolemref35_table.l1 k3 x3_1 x4_1 (x5_2.set (x6_2 : Int).toNat true) (wrap64 (x6_2 + 1)) l0_0 a0_1 l0_2 a0_3) else (none)) else (if ((rd_T55 l0_0 x6_2).f0 = true) then (if x6_2 < (x5_2.length : Int) then (skolemref35_table.l1 k3 x3_1 x4_1 (x5_2.set (x6_2 : Int).toNat false) (wrap64 (x6_2 + 1)) l0_0 a0_1 l0_2 a0_3) else (none)) else (if x6_2 < (x5_2.length : Int) then (skolemref35_table.l1 k3 x3_1 x4_1 (x5_2.set (x6_2 : Int).toNat x9_3) (wrap64 (x6_2 + 1)) l0_0 a0_1 l0_2 a0_3) else (none)))) else (if ((rd_T55 l0_0 x6_2).f0 = true) then (if x6_2 < (x5_2.length : Int) then (skolemref35_table.l1 k3 x3_1 x4_1 (x5_2.set (x6_2 : Int).toNat false) (wrap64 (x6_2 + 1)) l0_0 a0_1 l0_2 a0_3) else (none)) else (if x6_2 < (x5_2.length : Int) then (skolemref35_table.l1 k3 x3_1 x4_1 (x5_2.set (x6_2 : Int).toNat x9_3) (wrap64 (x6_2 + 1)) l0_0 a0_1 l0_2 a0_3) else (none)))) else (none)) else (none)) else (if 0 ≤ x6_2 then (if x6_2 < (x5_2.length : Int) then (skolemref35_table.l1 k3 x3_1 x4_1 (x5_2.set (x6_2 : Int).toNat false) (wrap64 (x6_2 + 1)) l0_0 a0_1 l0_2 a0_3) else (none)) else (none))) else (if 0 ≤ x6_2 then (if x6_2 < (x5_2.length : Int) then (skolemref35_table.l1 k3 x3_1 x4_1 (x5_2.set (x6_2 : Int).toNat false) (wrap64 (x6_2 + 1)) l0_0 a0_1 l0_2 a0_3) else (none)) else (none)))) = some r := H
                    have A48 := Aside0.mk A480
                    clear A480
                    by_cases c49 : t264 = true
                    · subst c49
                      have H1 : (if 0 ≤ x6_2 then (if x6_2 < (x5_2.length : Int) then (skolemref35_table.l1 k3 x3_1 x4_1 (x5_2.set (x6_2 : Int).toNat true) (wrap64 (x6_2 + 1)) l0_0 a0_1 l0_2 a0_3) else (none)) else (none)) = some r := by rw [if_pos rfl] at H; exact H
                      clear H
                      have H := H1
                      clear H1
                      by_cases c50 : 0 ≤ x6_2
                      case neg => rw [if_neg c50] at H; exact absurd H (by simp)
                      rw [if_pos c50] at H
                      have c50b0 : decide (0 ≤ x6_2) = true := decide_eq_true c50
                      clear c50
                      by_cases c51 : x6_2 < (x5_2.length : Int)
                      case neg => rw [if_neg c51] at H; exact absurd H (by simp)
                      rw [if_pos c51] at H
                      have c51b0 : decide (x6_2 < (x5_2.length : Int)) = true := decide_eq_true c51
                      clear c51
                      obtain ⟨y265, hy265⟩ : ∃ y_ : List Bool, y_ = (x5_2.set (x6_2 : Int).toNat true) := ⟨_, rfl⟩
                      replace H : (skolemref35_table.l1 k3 x3_1 x4_1 y265 (wrap64 (x6_2 + 1)) l0_0 a0_1 l0_2 a0_3) = some r := by first | (rw [hy265]; with_reducible exact H) | (have H2_ := (Option.bind_some _ _).symm.trans H; rw [hy265]; with_reducible exact H2_) | (have H2_ := (Option.bind_some _ _).symm.trans H; with_reducible exact H2_) | with_reducible exact H | (rw [hy265]; exact H) | exact H
                      have Ny265 := Aside0.mk hy265
                      clear hy265
                      have H' := Aside0.mk H
                      clear H
                      have hcz53_0 : wr.cell? ⟨gb244, 0, none⟩ = some (.slice (some ad251) l0_0.length c0_0) := (blk_cell BK244.out 0).trans rfl
                      have hcz53_1 : wr.cell? ⟨gb244, 1, none⟩ = some (.int .i64 a0_1) := (blk_cell BK244.out 1).trans rfl
                      have hcz53_2 : wr.cell? ⟨gb244, 2, none⟩ = some (.slice A0_2 l0_2.length c0_2) := (blk_cell BK244.out 2).trans rfl
                      have hcz53_3 : wr.cell? ⟨gb244, 3, none⟩ = some (.int .i64 a0_3) := (blk_cell BK244.out 3).trans rfl
                      have hfz53_0 := blk_frozen BK244.out 0
                      have hfz53_1 := blk_frozen BK244.out 1
                      have hfz53_2 := blk_frozen BK244.out 2
                      have hfz53_3 := blk_frozen BK244.out 3
                      go_wp2_with (first | (go_at_call 41; (with_reducible refine (skolemref05_In.calls k3 _ _ l0_2 x6_2 true _ ?side1 ?side2 A48.out).mono ?_); (case side1 => exact qz2); (case side2 => exact HC0_2.out); rintro e w' ⟨rfl, ⟨nd, rfl⟩⟩; (try exact qz17); have p52 : 0 ≤ (x6_2 : Int) := of_decide_eq_true qz36; have q52 : (x6_2 : Int) < ((x5_2.length : Int) : Int) := of_decide_eq_true qz36; obtain ⟨go52, co52, eo52, gb52, gl52, cl52, HG52⟩ := Kd.R_form HO_5.out (by omega); (first | cases eo52 | (injection eo52 with ea_ en_ ec_; (first | subst ea_ | (injection ea_ with ea_; subst ea_)); subst ec_; clear en_)); have GB52 := Aside0.mk gb52; have GG52 := Aside0.mk HG52; clear gb52 gl52 HG52; obtain ⟨hx52_0, hf52_0⟩ := Kd.R_celln false HO_5.out (x6_2 : Int) p52 q52; replace p52 := eq_true p52; replace q52 := eq_true q52; obtain ⟨hy54_, hz54_⟩ := Kd.R_celln false HO_5.out (x6_2 : Int) (of_decide_eq_true qz36) (of_decide_eq_true qz36); have HP54 := Kd.R_putg HO_5.out (x6_2 : Int) true) | ((with_reducible refine gate_store (t := 4) (p := 109) rfl ?_); (try (rw [drewN_self wr]; generalize hq_ : World.drewN wr _ = wr; have n0_ := Aside0.mk (Kd.S_at hq_ HO_3.out); have n1_ := Aside0.mk (Kd.R_at hq_ HO_5.out); have n2_ := Aside0.mk (blk_at hq_ BK244.out); have n3_ := Aside0.mk (below_at hq_ HB.out); clear hq_ HO_3 HO_5 BK244 HB; have HO_3 := n0_; have HO_5 := n1_; have BK244 := n2_; have HB := n3_; clear n0_ n1_ n2_ n3_; (try (obtain ⟨hy54_, hz54_⟩ := Kd.R_celln false HO_5.out (x6_2 : Int) (of_decide_eq_true qz36) (of_decide_eq_true qz36))); (try (have HP54 := Kd.R_putg HO_5.out (x6_2 : Int) true)))); refine store_event (t := 4) (p := 109) (v := ?vo_w55) (w1 := (wr.setCell ⟨go52, (x6_2 : Int).toNat, none⟩ (.bool true))) ?hg ?ho ?hn ?hr ?_; (case ho => rfl); (case hg => rfl); (case hn => rfl); (case hr => exact qz38); intro w55 hw; have hg : wr.grownBy w55 (some go52) := (by rw [hw]; exact HP54.2); have hp_ : Kd.R Kd.bool 4 w55 w.heap.size (fun _ => True) (.slice (some ⟨go52, 0, none⟩) x5_2.length co12) y265 := (by rw [hw, Ny265.out]; exact HP54.1); clear HP54; have n0_ := Aside0.mk (Kd.S_after (v := (.slice (some ⟨go52, 0, none⟩) x5_2.length co12)) (v1 := (.slice (some ⟨go52, 0, none⟩) x5_2.length co12)) (ok := (fun _ => True)) qz18 hg (.inl rfl)); have n1_ := Aside0.mk (hp_); have n2_ := Aside0.mk (blk_grown (g := gb244) (o := .cells #[.slice (some ad251) l0_0.length c0_0, .int .i64 a0_1, .slice A0_2 l0_2.length c0_2, .int .i64 a0_3] 25 (0, 0)) qz25 hg (Kd.R_ne HO_5.out BK244.out (by decide))); have n3_ := Aside0.mk ((by rw [hw]; exact below_set (HB.out) GB52.out : Below w.heap.size w w55)); clear HO_3; clear HO_5; clear BK244; clear HB; have HO_3 := n0_; have HO_5 := n1_; have BK244 := n2_; have HB := n3_; clear n0_ n1_ n2_ n3_; clear hg hw hp_))
                      repeat (go_quiet (first | (go_at_call 41; (with_reducible refine (skolemref05_In.calls k3 _ _ l0_2 x6_2 true _ ?side1 ?side2 A48.out).mono ?_); (case side1 => exact qz2); (case side2 => exact HC0_2.out); rintro e w' ⟨rfl, ⟨nd, rfl⟩⟩; (try exact qz17); have p52 : 0 ≤ (x6_2 : Int) := of_decide_eq_true qz36; have q52 : (x6_2 : Int) < ((x5_2.length : Int) : Int) := of_decide_eq_true qz36; obtain ⟨go52, co52, eo52, gb52, gl52, cl52, HG52⟩ := Kd.R_form HO_5.out (by omega); (first | cases eo52 | (injection eo52 with ea_ en_ ec_; (first | subst ea_ | (injection ea_ with ea_; subst ea_)); subst ec_; clear en_)); have GB52 := Aside0.mk gb52; have GG52 := Aside0.mk HG52; clear gb52 gl52 HG52; obtain ⟨hx52_0, hf52_0⟩ := Kd.R_celln false HO_5.out (x6_2 : Int) p52 q52; replace p52 := eq_true p52; replace q52 := eq_true q52; obtain ⟨hy54_, hz54_⟩ := Kd.R_celln false HO_5.out (x6_2 : Int) (of_decide_eq_true qz36) (of_decide_eq_true qz36); have HP54 := Kd.R_putg HO_5.out (x6_2 : Int) true) | ((with_reducible refine gate_store (t := 4) (p := 109) rfl ?_); (try (rw [drewN_self wr]; generalize hq_ : World.drewN wr _ = wr; have n0_ := Aside0.mk (Kd.S_at hq_ HO_3.out); have n1_ := Aside0.mk (Kd.R_at hq_ HO_5.out); have n2_ := Aside0.mk (blk_at hq_ BK244.out); have n3_ := Aside0.mk (below_at hq_ HB.out); clear hq_ HO_3 HO_5 BK244 HB; have HO_3 := n0_; have HO_5 := n1_; have BK244 := n2_; have HB := n3_; clear n0_ n1_ n2_ n3_; (try (obtain ⟨hy54_, hz54_⟩ := Kd.R_celln false HO_5.out (x6_2 : Int) (of_decide_eq_true qz36) (of_decide_eq_true qz36))); (try (have HP54 := Kd.R_putg HO_5.out (x6_2 : Int) true)))); refine store_event (t := 4) (p := 109) (v := ?vo_w55) (w1 := (wr.setCell ⟨go52, (x6_2 : Int).toNat, none⟩ (.bool true))) ?hg ?ho ?hn ?hr ?_; (case ho => rfl); (case hg => rfl); (case hn => rfl); (case hr => exact qz38); intro w55 hw; have hg : wr.grownBy w55 (some go52) := (by rw [hw]; exact HP54.2); have hp_ : Kd.R Kd.bool 4 w55 w.heap.size (fun _ => True) (.slice (some ⟨go52, 0, none⟩) x5_2.length co12) y265 := (by rw [hw, Ny265.out]; exact HP54.1); clear HP54; have n0_ := Aside0.mk (Kd.S_after (v := (.slice (some ⟨go52, 0, none⟩) x5_2.length co12)) (v1 := (.slice (some ⟨go52, 0, none⟩) x5_2.length co12)) (ok := (fun _ => True)) qz18 hg (.inl rfl)); have n1_ := Aside0.mk (hp_); have n2_ := Aside0.mk (blk_grown (g := gb244) (o := .cells #[.slice (some ad251) l0_0.length c0_0, .int .i64 a0_1, .slice A0_2 l0_2.length c0_2, .int .i64 a0_3] 25 (0, 0)) qz25 hg (Kd.R_ne HO_5.out BK244.out (by decide))); have n3_ := Aside0.mk ((by rw [hw]; exact below_set (HB.out) GB52.out : Below w.heap.size w w55)); clear HO_3; clear HO_5; clear BK244; clear HB; have HO_3 := n0_; have HO_5 := n1_; have BK244 := n2_; have HB := n3_; clear n0_ n1_ n2_ n3_; clear hg hw hp_)); try go_wp2_with (first | (go_at_call 41; (with_reducible refine (skolemref05_In.calls k3 _ _ l0_2 x6_2 true _ ?side1 ?side2 A48.out).mono ?_); (case side1 => exact qz2); (case side2 => exact HC0_2.out); rintro e w' ⟨rfl, ⟨nd, rfl⟩⟩; (try exact qz17); have p52 : 0 ≤ (x6_2 : Int) := of_decide_eq_true qz36; have q52 : (x6_2 : Int) < ((x5_2.length : Int) : Int) := of_decide_eq_true qz36; obtain ⟨go52, co52, eo52, gb52, gl52, cl52, HG52⟩ := Kd.R_form HO_5.out (by omega); (first | cases eo52 | (injection eo52 with ea_ en_ ec_; (first | subst ea_ | (injection ea_ with ea_; subst ea_)); subst ec_; clear en_)); have GB52 := Aside0.mk gb52; have GG52 := Aside0.mk HG52; clear gb52 gl52 HG52; obtain ⟨hx52_0, hf52_0⟩ := Kd.R_celln false HO_5.out (x6_2 : Int) p52 q52; replace p52 := eq_true p52; replace q52 := eq_true q52; obtain ⟨hy54_, hz54_⟩ := Kd.R_celln false HO_5.out (x6_2 : Int) (of_decide_eq_true qz36) (of_decide_eq_true qz36); have HP54 := Kd.R_putg HO_5.out (x6_2 : Int) true) | ((with_reducible refine gate_store (t := 4) (p := 109) rfl ?_); (try (rw [drewN_self wr]; generalize hq_ : World.drewN wr _ = wr; have n0_ := Aside0.mk (Kd.S_at hq_ HO_3.out); have n1_ := Aside0.mk (Kd.R_at hq_ HO_5.out); have n2_ := Aside0.mk (blk_at hq_ BK244.out); have n3_ := Aside0.mk (below_at hq_ HB.out); clear hq_ HO_3 HO_5 BK244 HB; have HO_3 := n0_; have HO_5 := n1_; have BK244 := n2_; have HB := n3_; clear n0_ n1_ n2_ n3_; (try (obtain ⟨hy54_, hz54_⟩ := Kd.R_celln false HO_5.out (x6_2 : Int) (of_decide_eq_true qz36) (of_decide_eq_true qz36))); (try (have HP54 := Kd.R_putg HO_5.out (x6_2 : Int) true)))); refine store_event (t := 4) (p := 109) (v := ?vo_w55) (w1 := (wr.setCell ⟨go52, (x6_2 : Int).toNat, none⟩ (.bool true))) ?hg ?ho ?hn ?hr ?_; (case ho => rfl); (case hg => rfl); (case hn => rfl); (case hr => exact qz38); intro w55 hw; have hg : wr.grownBy w55 (some go52) := (by rw [hw]; exact HP54.2); have hp_ : Kd.R Kd.bool 4 w55 w.heap.size (fun _ => True) (.slice (some ⟨go52, 0, none⟩) x5_2.length co12) y265 := (by rw [hw, Ny265.out]; exact HP54.1); clear HP54; have n0_ := Aside0.mk (Kd.S_after (v := (.slice (some ⟨go52, 0, none⟩) x5_2.length co12)) (v1 := (.slice (some ⟨go52, 0, none⟩) x5_2.length co12)) (ok := (fun _ => True)) qz18 hg (.inl rfl)); have n1_ := Aside0.mk (hp_); have n2_ := Aside0.mk (blk_grown (g := gb244) (o := .cells #[.slice (some ad251) l0_0.length c0_0, .int .i64 a0_1, .slice A0_2 l0_2.length c0_2, .int .i64 a0_3] 25 (0, 0)) qz25 hg (Kd.R_ne HO_5.out BK244.out (by decide))); have n3_ := Aside0.mk ((by rw [hw]; exact below_set (HB.out) GB52.out : Below w.heap.size w w55)); clear HO_3; clear HO_5; clear BK244; clear HB; have HO_3 := n0_; have HO_5 := n1_; have BK244 := n2_; have HB := n3_; clear n0_ n1_ n2_ n3_; clear hg hw hp_)))
                      go_roundg k3
                      case measure => have := HK1.out; have := HK2.out; have := HK3.out; omega
                      case rel => exact ⟨(y265), (wrap64 (x6_2 + 1)), qz37, H', ⟨by have := HK1.out; have := HK2.out; have := HK3.out; omega⟩, ⟨by (with_reducible repeat (first | apply Kd.S_alloc | apply Kd.S_drewN | apply Kd.S_drew)); exact Kd.S_mono HO_3.out (fun _ hk => hk.2)⟩, ⟨by (with_reducible repeat (first | apply Kd.R_alloc | apply Kd.R_drewN | apply Kd.R_drew)); exact HO_5.out⟩, ⟨by (with_reducible repeat (first | refine blk_drewN ?_ _ | refine blk_drew ?_ | refine blk_alloc ?_ _)); exact BK244.out⟩, ⟨by repeat (first | (with_reducible first | exact HB.out | apply below_alloc | apply pw_below_drewN | apply below_drew1 | refine below_set ?_ GE244.out) | exact HB.out)⟩⟩
                    · replace c49 := Bool.eq_false_iff.mpr c49
                      subst c49
                      have H1 : (if x4_1 > 0 then (if (((rd_T55 l0_0 x6_2).f1).length : Int) > 0 then (if 0 ≤ x6_2 then (if x6_2 < (l0_0.length : Int) then (if (rd_T55 l0_0 x6_2).f0 = true then (if x8_3 = true then (if x6_2 < (x5_2.length : Int) then (skolemref35_table.l1 k3 x3_1 x4_1 (x5_2.set (x6_2 : Int).toNat true) (wrap64 (x6_2 + 1)) l0_0 a0_1 l0_2 a0_3) else (none)) else (if ((rd_T55 l0_0 x6_2).f0 = true) then (if x6_2 < (x5_2.length : Int) then (skolemref35_table.l1 k3 x3_1 x4_1 (x5_2.set (x6_2 : Int).toNat false) (wrap64 (x6_2 + 1)) l0_0 a0_1 l0_2 a0_3) else (none)) else (if x6_2 < (x5_2.length : Int) then (skolemref35_table.l1 k3 x3_1 x4_1 (x5_2.set (x6_2 : Int).toNat x9_3) (wrap64 (x6_2 + 1)) l0_0 a0_1 l0_2 a0_3) else (none)))) else (if ((rd_T55 l0_0 x6_2).f0 = true) then (if x6_2 < (x5_2.length : Int) then (skolemref35_table.l1 k3 x3_1 x4_1 (x5_2.set (x6_2 : Int).toNat false) (wrap64 (x6_2 + 1)) l0_0 a0_1 l0_2 a0_3) else (none)) else (if x6_2 < (x5_2.length : Int) then (skolemref35_table.l1 k3 x3_1 x4_1 (x5_2.set (x6_2 : Int).toNat x9_3) (wrap64 (x6_2 + 1)) l0_0 a0_1 l0_2 a0_3) else (none)))) else (none)) else (none)) else (if 0 ≤ x6_2 then (if x6_2 < (x5_2.length : Int) then (skolemref35_table.l1 k3 x3_1 x4_1 (x5_2.set (x6_2 : Int).toNat false) (wrap64 (x6_2 + 1)) l0_0 a0_1 l0_2 a0_3) else (none)) else (none))) else (if 0 ≤ x6_2 then (if x6_2 < (x5_2.length : Int) then (skolemref35_table.l1 k3 x3_1 x4_1 (x5_2.set (x6_2 : Int).toNat false) (wrap64 (x6_2 + 1)) l0_0 a0_1 l0_2 a0_3) else (none)) else (none))) = some r := by rw [if_neg (show ¬ (false = true) by decide)] at H; exact H
                      clear H
                      have H := H1
                      clear H1
                      by_cases c56 : x4_1 > 0
                      · rw [if_pos c56] at H
                        have c56b0 : decide (0 < x4_1) = true := decide_eq_true c56
                        clear c56
                        by_cases c57 : (((rd_T55 l0_0 x6_2).f1).length : Int) > 0
                        · rw [if_pos c57] at H
                          have c57b0 : decide (0 < (((rd_T55 l0_0 x6_2).f1).length : Int)) = true := decide_eq_true c57
                          have c57b1 : decide (0 < ((rd_T55 l0_0 x6_2).f1).length) = true := decide_eq_true (by omega)
                          clear c57
                          by_cases c58 : 0 ≤ x6_2
                          case neg => rw [if_neg c58] at H; exact absurd H (by simp)
                          rw [if_pos c58] at H
                          have c58b0 : decide (0 ≤ x6_2) = true := decide_eq_true c58
                          clear c58
                          by_cases c59 : x6_2 < (l0_0.length : Int)
                          case neg => rw [if_neg c59] at H; exact absurd H (by simp)
                          rw [if_pos c59] at H
                          have c59b0 : decide (x6_2 < (l0_0.length : Int)) = true := decide_eq_true c59
                          clear c59
                          obtain ⟨bq60, hbq60⟩ : ∃ b_ : Bool, b_ = ((rd_T55 l0_0 x6_2).f0) := ⟨_, rfl⟩
                          replace H : (if bq60 = true then (if x8_3 = true then (if x6_2 < (x5_2.length : Int) then (skolemref35_table.l1 k3 x3_1 x4_1 (x5_2.set (x6_2 : Int).toNat true) (wrap64 (x6_2 + 1)) l0_0 a0_1 l0_2 a0_3) else (none)) else (if (bq60 = true) then (if x6_2 < (x5_2.length : Int) then (skolemref35_table.l1 k3 x3_1 x4_1 (x5_2.set (x6_2 : Int).toNat false) (wrap64 (x6_2 + 1)) l0_0 a0_1 l0_2 a0_3) else (none)) else (if x6_2 < (x5_2.length : Int) then (skolemref35_table.l1 k3 x3_1 x4_1 (x5_2.set (x6_2 : Int).toNat x9_3) (wrap64 (x6_2 + 1)) l0_0 a0_1 l0_2 a0_3) else (none)))) else (if (bq60 = true) then (if x6_2 < (x5_2.length : Int) then (skolemref35_table.l1 k3 x3_1 x4_1 (x5_2.set (x6_2 : Int).toNat false) (wrap64 (x6_2 + 1)) l0_0 a0_1 l0_2 a0_3) else (none)) else (if x6_2 < (x5_2.length : Int) then (skolemref35_table.l1 k3 x3_1 x4_1 (x5_2.set (x6_2 : Int).toNat x9_3) (wrap64 (x6_2 + 1)) l0_0 a0_1 l0_2 a0_3) else (none)))) = some r := by rw [← hbq60] at H; exact H
                          have Nbq60 := Aside0.mk hbq60
                          clear hbq60
                          by_cases c61 : bq60 = true
                          · subst c61
                            have H1 : (if x8_3 = true then (if x6_2 < (x5_2.length : Int) then (skolemref35_table.l1 k3 x3_1 x4_1 (x5_2.set (x6_2 : Int).toNat true) (wrap64 (x6_2 + 1)) l0_0 a0_1 l0_2 a0_3) else (none)) else (if (true = true) then (if x6_2 < (x5_2.length : Int) then (skolemref35_table.l1 k3 x3_1 x4_1 (x5_2.set (x6_2 : Int).toNat false) (wrap64 (x6_2 + 1)) l0_0 a0_1 l0_2 a0_3) else (none)) else (if x6_2 < (x5_2.length : Int) then (skolemref35_table.l1 k3 x3_1 x4_1 (x5_2.set (x6_2 : Int).toNat x9_3) (wrap64 (x6_2 + 1)) l0_0 a0_1 l0_2 a0_3) else (none)))) = some r := by rw [if_pos rfl] at H; exact H
                            clear H
                            have H := H1
                            clear H1
                            by_cases c62 : x8_3 = true
                            · subst c62
                              have H1 : (if x6_2 < (x5_2.length : Int) then (skolemref35_table.l1 k3 x3_1 x4_1 (x5_2.set (x6_2 : Int).toNat true) (wrap64 (x6_2 + 1)) l0_0 a0_1 l0_2 a0_3) else (none)) = some r := by rw [if_pos rfl] at H; exact H
                              clear H
                              have H := H1
                              clear H1
                              by_cases c63 : x6_2 < (x5_2.length : Int)
                              case neg => rw [if_neg c63] at H; exact absurd H (by simp)
                              rw [if_pos c63] at H
                              have c63b0 : decide (x6_2 < (x5_2.length : Int)) = true := decide_eq_true c63
                              clear c63
                              obtain ⟨y267, hy267⟩ : ∃ y_ : List Bool, y_ = (x5_2.set (x6_2 : Int).toNat true) := ⟨_, rfl⟩
                              replace H : (skolemref35_table.l1 k3 x3_1 x4_1 y267 (wrap64 (x6_2 + 1)) l0_0 a0_1 l0_2 a0_3) = some r := by first | (rw [hy267]; with_reducible exact H) | (have H2_ := (Option.bind_some _ _).symm.trans H; rw [hy267]; with_reducible exact H2_) | (have H2_ := (Option.bind_some _ _).symm.trans H; with_reducible exact H2_) | with_reducible exact H | (rw [hy267]; exact H) | exact H
                              have Ny267 := Aside0.mk hy267
                              clear hy267
                              have H' := Aside0.mk H
                              clear H
                              have hcz65_0 : wr.cell? ⟨gb244, 0, none⟩ = some (.slice (some ad251) l0_0.length c0_0) := (blk_cell BK244.out 0).trans rfl
                              have hcz65_1 : wr.cell? ⟨gb244, 1, none⟩ = some (.int .i64 a0_1) := (blk_cell BK244.out 1).trans rfl
                              have hcz65_2 : wr.cell? ⟨gb244, 2, none⟩ = some (.slice A0_2 l0_2.length c0_2) := (blk_cell BK244.out 2).trans rfl
                              have hcz65_3 : wr.cell? ⟨gb244, 3, none⟩ = some (.int .i64 a0_3) := (blk_cell BK244.out 3).trans rfl
                              have hfz65_0 := blk_frozen BK244.out 0
                              have hfz65_1 := blk_frozen BK244.out 1
                              have hfz65_2 := blk_frozen BK244.out 2
                              have hfz65_3 := blk_frozen BK244.out 3
                              go_wp2_with (first | (go_at_call 41; (with_reducible refine (skolemref05_In.calls k3 _ _ l0_2 x6_2 false _ ?side1 ?side2 A48.out).mono ?_); (case side1 => exact qz2); (case side2 => exact HC0_2.out); rintro e w' ⟨rfl, ⟨nd, rfl⟩⟩; (try exact qz17); have p266 : 0 ≤ (x6_2 : Int) := of_decide_eq_true qz36; have q266 : x6_2 < (l0_0.length : Int) := of_decide_eq_true qz36; obtain ⟨ad266, A266_1, c266_1, e266, hx266_0, hx266_1, hl266_1, hi266_1⟩ := at_T55 HR0_0.out x6_2 p266 q266; (try rw [← Nbq60.out] at hx266_0); obtain rfl : ad251 = ad266 := (by injection e266); replace hx266_0 := (HB.out.cell (World.block_lt_of_cell? w _ hx266_0)).trans hx266_0; replace hx266_1 := (HB.out.cell (World.block_lt_of_cell? w _ hx266_1)).trans hx266_1; have HR266_1 := Aside0.mk hi266_1; have HC266_1 := Aside0.mk hl266_1; clear hi266_1 hl266_1; replace p266 := eq_true p266; replace q266 := eq_true q266; have p64 : 0 ≤ (x6_2 : Int) := of_decide_eq_true qz36; have q64 : (x6_2 : Int) < ((x5_2.length : Int) : Int) := of_decide_eq_true qz36; obtain ⟨go64, co64, eo64, gb64, gl64, cl64, HG64⟩ := Kd.R_form HO_5.out (by omega); (first | cases eo64 | (injection eo64 with ea_ en_ ec_; (first | subst ea_ | (injection ea_ with ea_; subst ea_)); subst ec_; clear en_)); have GB64 := Aside0.mk gb64; have GG64 := Aside0.mk HG64; clear gb64 gl64 HG64; obtain ⟨hx64_0, hf64_0⟩ := Kd.R_celln false HO_5.out (x6_2 : Int) p64 q64; replace p64 := eq_true p64; replace q64 := eq_true q64; obtain ⟨hy66_, hz66_⟩ := Kd.R_celln false HO_5.out (x6_2 : Int) (of_decide_eq_true qz36) (of_decide_eq_true qz36); have HP66 := Kd.R_putg HO_5.out (x6_2 : Int) true) | ((with_reducible refine gate_store (t := 4) (p := 109) rfl ?_); (try (rw [drewN_self wr]; generalize hq_ : World.drewN wr _ = wr; have n0_ := Aside0.mk (Kd.S_at hq_ HO_3.out); have n1_ := Aside0.mk (Kd.R_at hq_ HO_5.out); have n2_ := Aside0.mk (blk_at hq_ BK244.out); have n3_ := Aside0.mk (below_at hq_ HB.out); clear hq_ HO_3 HO_5 BK244 HB; have HO_3 := n0_; have HO_5 := n1_; have BK244 := n2_; have HB := n3_; clear n0_ n1_ n2_ n3_; (try (obtain ⟨hy66_, hz66_⟩ := Kd.R_celln false HO_5.out (x6_2 : Int) (of_decide_eq_true qz36) (of_decide_eq_true qz36))); (try (have HP66 := Kd.R_putg HO_5.out (x6_2 : Int) true)))); refine store_event (t := 4) (p := 109) (v := ?vo_w67) (w1 := (wr.setCell ⟨go64, (x6_2 : Int).toNat, none⟩ (.bool true))) ?hg ?ho ?hn ?hr ?_; (case ho => rfl); (case hg => rfl); (case hn => rfl); (case hr => exact qz38); intro w67 hw; have hg : wr.grownBy w67 (some go64) := (by rw [hw]; exact HP66.2); have hp_ : Kd.R Kd.bool 4 w67 w.heap.size (fun _ => True) (.slice (some ⟨go64, 0, none⟩) x5_2.length co12) y267 := (by rw [hw, Ny267.out]; exact HP66.1); clear HP66; have n0_ := Aside0.mk (Kd.S_after (v := (.slice (some ⟨go64, 0, none⟩) x5_2.length co12)) (v1 := (.slice (some ⟨go64, 0, none⟩) x5_2.length co12)) (ok := (fun _ => True)) qz18 hg (.inl rfl)); have n1_ := Aside0.mk (hp_); have n2_ := Aside0.mk (blk_grown (g := gb244) (o := .cells #[.slice (some ad251) l0_0.length c0_0, .int .i64 a0_1, .slice A0_2 l0_2.length c0_2, .int .i64 a0_3] 25 (0, 0)) qz25 hg (Kd.R_ne HO_5.out BK244.out (by decide))); have n3_ := Aside0.mk ((by rw [hw]; exact below_set (HB.out) GB64.out : Below w.heap.size w w67)); clear HO_3; clear HO_5; clear BK244; clear HB; have HO_3 := n0_; have HO_5 := n1_; have BK244 := n2_; have HB := n3_; clear n0_ n1_ n2_ n3_; clear hg hw hp_))
                              repeat (go_quiet (first | (go_at_call 41; (with_reducible refine (skolemref05_In.calls k3 _ _ l0_2 x6_2 false _ ?side1 ?side2 A48.out).mono ?_); (case side1 => exact qz2); (case side2 => exact HC0_2.out); rintro e w' ⟨rfl, ⟨nd, rfl⟩⟩; (try exact qz17); have p266 : 0 ≤ (x6_2 : Int) := of_decide_eq_true qz36; have q266 : x6_2 < (l0_0.length : Int) := of_decide_eq_true qz36; obtain ⟨ad266, A266_1, c266_1, e266, hx266_0, hx266_1, hl266_1, hi266_1⟩ := at_T55 HR0_0.out x6_2 p266 q266; (try rw [← Nbq60.out] at hx266_0); obtain rfl : ad251 = ad266 := (by injection e266); replace hx266_0 := (HB.out.cell (World.block_lt_of_cell? w _ hx266_0)).trans hx266_0; replace hx266_1 := (HB.out.cell (World.block_lt_of_cell? w _ hx266_1)).trans hx266_1; have HR266_1 := Aside0.mk hi266_1; have HC266_1 := Aside0.mk hl266_1; clear hi266_1 hl266_1; replace p266 := eq_true p266; replace q266 := eq_true q266; have p64 : 0 ≤ (x6_2 : Int) := of_decide_eq_true qz36; have q64 : (x6_2 : Int) < ((x5_2.length : Int) : Int) := of_decide_eq_true qz36; obtain ⟨go64, co64, eo64, gb64, gl64, cl64, HG64⟩ := Kd.R_form HO_5.out (by omega); (first | cases eo64 | (injection eo64 with ea_ en_ ec_; (first | subst ea_ | (injection ea_ with ea_; subst ea_)); subst ec_; clear en_)); have GB64 := Aside0.mk gb64; have GG64 := Aside0.mk HG64; clear gb64 gl64 HG64; obtain ⟨hx64_0, hf64_0⟩ := Kd.R_celln false HO_5.out (x6_2 : Int) p64 q64; replace p64 := eq_true p64; replace q64 := eq_true q64; obtain ⟨hy66_, hz66_⟩ := Kd.R_celln false HO_5.out (x6_2 : Int) (of_decide_eq_true qz36) (of_decide_eq_true qz36); have HP66 := Kd.R_putg HO_5.out (x6_2 : Int) true) | ((with_reducible refine gate_store (t := 4) (p := 109) rfl ?_); (try (rw [drewN_self wr]; generalize hq_ : World.drewN wr _ = wr; have n0_ := Aside0.mk (Kd.S_at hq_ HO_3.out); have n1_ := Aside0.mk (Kd.R_at hq_ HO_5.out); have n2_ := Aside0.mk (blk_at hq_ BK244.out); have n3_ := Aside0.mk (below_at hq_ HB.out); clear hq_ HO_3 HO_5 BK244 HB; have HO_3 := n0_; have HO_5 := n1_; have BK244 := n2_; have HB := n3_; clear n0_ n1_ n2_ n3_; (try (obtain ⟨hy66_, hz66_⟩ := Kd.R_celln false HO_5.out (x6_2 : Int) (of_decide_eq_true qz36) (of_decide_eq_true qz36))); (try (have HP66 := Kd.R_putg HO_5.out (x6_2 : Int) true)))); refine store_event (t := 4) (p := 109) (v := ?vo_w67) (w1 := (wr.setCell ⟨go64, (x6_2 : Int).toNat, none⟩ (.bool true))) ?hg ?ho ?hn ?hr ?_; (case ho => rfl); (case hg => rfl); (case hn => rfl); (case hr => exact qz38); intro w67 hw; have hg : wr.grownBy w67 (some go64) := (by rw [hw]; exact HP66.2); have hp_ : Kd.R Kd.bool 4 w67 w.heap.size (fun _ => True) (.slice (some ⟨go64, 0, none⟩) x5_2.length co12) y267 := (by rw [hw, Ny267.out]; exact HP66.1); clear HP66; have n0_ := Aside0.mk (Kd.S_after (v := (.slice (some ⟨go64, 0, none⟩) x5_2.length co12)) (v1 := (.slice (some ⟨go64, 0, none⟩) x5_2.length co12)) (ok := (fun _ => True)) qz18 hg (.inl rfl)); have n1_ := Aside0.mk (hp_); have n2_ := Aside0.mk (blk_grown (g := gb244) (o := .cells #[.slice (some ad251) l0_0.length c0_0, .int .i64 a0_1, .slice A0_2 l0_2.length c0_2, .int .i64 a0_3] 25 (0, 0)) qz25 hg (Kd.R_ne HO_5.out BK244.out (by decide))); have n3_ := Aside0.mk ((by rw [hw]; exact below_set (HB.out) GB64.out : Below w.heap.size w w67)); clear HO_3; clear HO_5; clear BK244; clear HB; have HO_3 := n0_; have HO_5 := n1_; have BK244 := n2_; have HB := n3_; clear n0_ n1_ n2_ n3_; clear hg hw hp_)); try go_wp2_with (first | (go_at_call 41; (with_reducible refine (skolemref05_In.calls k3 _ _ l0_2 x6_2 false _ ?side1 ?side2 A48.out).mono ?_); (case side1 => exact qz2); (case side2 => exact HC0_2.out); rintro e w' ⟨rfl, ⟨nd, rfl⟩⟩; (try exact qz17); have p266 : 0 ≤ (x6_2 : Int) := of_decide_eq_true qz36; have q266 : x6_2 < (l0_0.length : Int) := of_decide_eq_true qz36; obtain ⟨ad266, A266_1, c266_1, e266, hx266_0, hx266_1, hl266_1, hi266_1⟩ := at_T55 HR0_0.out x6_2 p266 q266; (try rw [← Nbq60.out] at hx266_0); obtain rfl : ad251 = ad266 := (by injection e266); replace hx266_0 := (HB.out.cell (World.block_lt_of_cell? w _ hx266_0)).trans hx266_0; replace hx266_1 := (HB.out.cell (World.block_lt_of_cell? w _ hx266_1)).trans hx266_1; have HR266_1 := Aside0.mk hi266_1; have HC266_1 := Aside0.mk hl266_1; clear hi266_1 hl266_1; replace p266 := eq_true p266; replace q266 := eq_true q266; have p64 : 0 ≤ (x6_2 : Int) := of_decide_eq_true qz36; have q64 : (x6_2 : Int) < ((x5_2.length : Int) : Int) := of_decide_eq_true qz36; obtain ⟨go64, co64, eo64, gb64, gl64, cl64, HG64⟩ := Kd.R_form HO_5.out (by omega); (first | cases eo64 | (injection eo64 with ea_ en_ ec_; (first | subst ea_ | (injection ea_ with ea_; subst ea_)); subst ec_; clear en_)); have GB64 := Aside0.mk gb64; have GG64 := Aside0.mk HG64; clear gb64 gl64 HG64; obtain ⟨hx64_0, hf64_0⟩ := Kd.R_celln false HO_5.out (x6_2 : Int) p64 q64; replace p64 := eq_true p64; replace q64 := eq_true q64; obtain ⟨hy66_, hz66_⟩ := Kd.R_celln false HO_5.out (x6_2 : Int) (of_decide_eq_true qz36) (of_decide_eq_true qz36); have HP66 := Kd.R_putg HO_5.out (x6_2 : Int) true) | ((with_reducible refine gate_store (t := 4) (p := 109) rfl ?_); (try (rw [drewN_self wr]; generalize hq_ : World.drewN wr _ = wr; have n0_ := Aside0.mk (Kd.S_at hq_ HO_3.out); have n1_ := Aside0.mk (Kd.R_at hq_ HO_5.out); have n2_ := Aside0.mk (blk_at hq_ BK244.out); have n3_ := Aside0.mk (below_at hq_ HB.out); clear hq_ HO_3 HO_5 BK244 HB; have HO_3 := n0_; have HO_5 := n1_; have BK244 := n2_; have HB := n3_; clear n0_ n1_ n2_ n3_; (try (obtain ⟨hy66_, hz66_⟩ := Kd.R_celln false HO_5.out (x6_2 : Int) (of_decide_eq_true qz36) (of_decide_eq_true qz36))); (try (have HP66 := Kd.R_putg HO_5.out (x6_2 : Int) true)))); refine store_event (t := 4) (p := 109) (v := ?vo_w67) (w1 := (wr.setCell ⟨go64, (x6_2 : Int).toNat, none⟩ (.bool true))) ?hg ?ho ?hn ?hr ?_; (case ho => rfl); (case hg => rfl); (case hn => rfl); (case hr => exact qz38); intro w67 hw; have hg : wr.grownBy w67 (some go64) := (by rw [hw]; exact HP66.2); have hp_ : Kd.R Kd.bool 4 w67 w.heap.size (fun _ => True) (.slice (some ⟨go64, 0, none⟩) x5_2.length co12) y267 := (by rw [hw, Ny267.out]; exact HP66.1); clear HP66; have n0_ := Aside0.mk (Kd.S_after (v := (.slice (some ⟨go64, 0, none⟩) x5_2.length co12)) (v1 := (.slice (some ⟨go64, 0, none⟩) x5_2.length co12)) (ok := (fun _ => True)) qz18 hg (.inl rfl)); have n1_ := Aside0.mk (hp_); have n2_ := Aside0.mk (blk_grown (g := gb244) (o := .cells #[.slice (some ad251) l0_0.length c0_0, .int .i64 a0_1, .slice A0_2 l0_2.length c0_2, .int .i64 a0_3] 25 (0, 0)) qz25 hg (Kd.R_ne HO_5.out BK244.out (by decide))); have n3_ := Aside0.mk ((by rw [hw]; exact below_set (HB.out) GB64.out : Below w.heap.size w w67)); clear HO_3; clear HO_5; clear BK244; clear HB; have HO_3 := n0_; have HO_5 := n1_; have BK244 := n2_; have HB := n3_; clear n0_ n1_ n2_ n3_; clear hg hw hp_)))
                              go_roundg k3
                              case measure => have := HK1.out; have := HK2.out; have := HK3.out; omega
                              case rel => exact ⟨(y267), (wrap64 (x6_2 + 1)), qz37, H', ⟨by have := HK1.out; have := HK2.out; have := HK3.out; omega⟩, ⟨by (with_reducible repeat (first | apply Kd.S_alloc | apply Kd.S_drewN | apply Kd.S_drew)); exact Kd.S_mono HO_3.out (fun _ hk => hk.2)⟩, ⟨by (with_reducible repeat (first | apply Kd.R_alloc | apply Kd.R_drewN | apply Kd.R_drew)); exact HO_5.out⟩, ⟨by (with_reducible repeat (first | refine blk_drewN ?_ _ | refine blk_drew ?_ | refine blk_alloc ?_ _)); exact BK244.out⟩, ⟨by repeat (first | (with_reducible first | exact HB.out | apply below_alloc | apply pw_below_drewN | apply below_drew1 | refine below_set ?_ GE244.out) | exact HB.out)⟩⟩
                            · replace c62 := Bool.eq_false_iff.mpr c62
                              subst c62
                              have H1 : (if (true = true) then (if x6_2 < (x5_2.length : Int) then (skolemref35_table.l1 k3 x3_1 x4_1 (x5_2.set (x6_2 : Int).toNat false) (wrap64 (x6_2 + 1)) l0_0 a0_1 l0_2 a0_3) else (none)) else (if x6_2 < (x5_2.length : Int) then (skolemref35_table.l1 k3 x3_1 x4_1 (x5_2.set (x6_2 : Int).toNat x9_3) (wrap64 (x6_2 + 1)) l0_0 a0_1 l0_2 a0_3) else (none))) = some r := by rw [if_neg (show ¬ (false = true) by decide)] at H; exact H
                              clear H
                              have H := H1
                              clear H1
                              by_cases c68 : (true = true)
                              · clear c68
                                have H1 : (if x6_2 < (x5_2.length : Int) then (skolemref35_table.l1 k3 x3_1 x4_1 (x5_2.set (x6_2 : Int).toNat false) (wrap64 (x6_2 + 1)) l0_0 a0_1 l0_2 a0_3) else (none)) = some r := by rw [if_pos rfl] at H; exact H
                                clear H
                                have H := H1
                                clear H1
                                by_cases c69 : x6_2 < (x5_2.length : Int)
                                case neg => rw [if_neg c69] at H; exact absurd H (by simp)
                                rw [if_pos c69] at H
                                have c69b0 : decide (x6_2 < (x5_2.length : Int)) = true := decide_eq_true c69
                                clear c69
                                obtain ⟨y269, hy269⟩ : ∃ y_ : List Bool, y_ = (x5_2.set (x6_2 : Int).toNat false) := ⟨_, rfl⟩
                                replace H : (skolemref35_table.l1 k3 x3_1 x4_1 y269 (wrap64 (x6_2 + 1)) l0_0 a0_1 l0_2 a0_3) = some r := by first | (rw [hy269]; with_reducible exact H) | (have H2_ := (Option.bind_some _ _).symm.trans H; rw [hy269]; with_reducible exact H2_) | (have H2_ := (Option.bind_some _ _).symm.trans H; with_reducible exact H2_) | with_reducible exact H | (rw [hy269]; exact H) | exact H
                                have Ny269 := Aside0.mk hy269
                                clear hy269
                                have H' := Aside0.mk H
                                clear H
                                have hcz71_0 : wr.cell? ⟨gb244, 0, none⟩ = some (.slice (some ad251) l0_0.length c0_0) := (blk_cell BK244.out 0).trans rfl
                                have hcz71_1 : wr.cell? ⟨gb244, 1, none⟩ = some (.int .i64 a0_1) := (blk_cell BK244.out 1).trans rfl
                                have hcz71_2 : wr.cell? ⟨gb244, 2, none⟩ = some (.slice A0_2 l0_2.length c0_2) := (blk_cell BK244.out 2).trans rfl
                                have hcz71_3 : wr.cell? ⟨gb244, 3, none⟩ = some (.int .i64 a0_3) := (blk_cell BK244.out 3).trans rfl
                                have hfz71_0 := blk_frozen BK244.out 0
                                have hfz71_1 := blk_frozen BK244.out 1
                                have hfz71_2 := blk_frozen BK244.out 2
                                have hfz71_3 := blk_frozen BK244.out 3
                                go_wp2_with (first | (go_at_call 41; (with_reducible refine (skolemref05_In.calls k3 _ _ l0_2 x6_2 false _ ?side1 ?side2 A48.out).mono ?_); (case side1 => exact qz2); (case side2 => exact HC0_2.out); rintro e w' ⟨rfl, ⟨nd, rfl⟩⟩; (try exact qz17); have p266 : 0 ≤ (x6_2 : Int) := of_decide_eq_true qz36; have q266 : x6_2 < (l0_0.length : Int) := of_decide_eq_true qz36; obtain ⟨ad266, A266_1, c266_1, e266, hx266_0, hx266_1, hl266_1, hi266_1⟩ := at_T55 HR0_0.out x6_2 p266 q266; (try rw [← Nbq60.out] at hx266_0); obtain rfl : ad251 = ad266 := (by injection e266); replace hx266_0 := (HB.out.cell (World.block_lt_of_cell? w _ hx266_0)).trans hx266_0; replace hx266_1 := (HB.out.cell (World.block_lt_of_cell? w _ hx266_1)).trans hx266_1; have HR266_1 := Aside0.mk hi266_1; have HC266_1 := Aside0.mk hl266_1; clear hi266_1 hl266_1; replace p266 := eq_true p266; replace q266 := eq_true q266; have p268 : 0 ≤ (x6_2 : Int) := of_decide_eq_true qz36; have q268 : x6_2 < (l0_0.length : Int) := of_decide_eq_true qz36; obtain ⟨ad268, A268_1, c268_1, e268, hx268_0, hx268_1, hl268_1, hi268_1⟩ := at_T55 HR0_0.out x6_2 p268 q268; (try rw [← Nbq60.out] at hx268_0); obtain rfl : ad251 = ad268 := (by injection e268); replace hx268_0 := (HB.out.cell (World.block_lt_of_cell? w _ hx268_0)).trans hx268_0; replace hx268_1 := (HB.out.cell (World.block_lt_of_cell? w _ hx268_1)).trans hx268_1; have HR268_1 := Aside0.mk hi268_1; have HC268_1 := Aside0.mk hl268_1; clear hi268_1 hl268_1; replace p268 := eq_true p268; replace q268 := eq_true q268; have ea_ := Option.some.inj (hx266_1.symm.trans hx268_1); injection ea_ with ea_ en_ ec_; subst ea_; subst ec_; clear en_; have p70 : 0 ≤ (x6_2 : Int) := of_decide_eq_true qz36; have q70 : (x6_2 : Int) < ((x5_2.length : Int) : Int) := of_decide_eq_true qz36; obtain ⟨go70, co70, eo70, gb70, gl70, cl70, HG70⟩ := Kd.R_form HO_5.out (by omega); (first | cases eo70 | (injection eo70 with ea_ en_ ec_; (first | subst ea_ | (injection ea_ with ea_; subst ea_)); subst ec_; clear en_)); have GB70 := Aside0.mk gb70; have GG70 := Aside0.mk HG70; clear gb70 gl70 HG70; obtain ⟨hx70_0, hf70_0⟩ := Kd.R_celln false HO_5.out (x6_2 : Int) p70 q70; replace p70 := eq_true p70; replace q70 := eq_true q70; obtain ⟨hy72_, hz72_⟩ := Kd.R_celln false HO_5.out (x6_2 : Int) (of_decide_eq_true qz36) (of_decide_eq_true qz36); have HP72 := Kd.R_putg HO_5.out (x6_2 : Int) false) | ((with_reducible refine gate_store (t := 4) (p := 109) rfl ?_); (try (rw [drewN_self wr]; generalize hq_ : World.drewN wr _ = wr; have n0_ := Aside0.mk (Kd.S_at hq_ HO_3.out); have n1_ := Aside0.mk (Kd.R_at hq_ HO_5.out); have n2_ := Aside0.mk (blk_at hq_ BK244.out); have n3_ := Aside0.mk (below_at hq_ HB.out); clear hq_ HO_3 HO_5 BK244 HB; have HO_3 := n0_; have HO_5 := n1_; have BK244 := n2_; have HB := n3_; clear n0_ n1_ n2_ n3_; (try (obtain ⟨hy72_, hz72_⟩ := Kd.R_celln false HO_5.out (x6_2 : Int) (of_decide_eq_true qz36) (of_decide_eq_true qz36))); (try (have HP72 := Kd.R_putg HO_5.out (x6_2 : Int) false)))); refine store_event (t := 4) (p := 109) (v := ?vo_w73) (w1 := (wr.setCell ⟨go70, (x6_2 : Int).toNat, none⟩ (.bool false))) ?hg ?ho ?hn ?hr ?_; (case ho => rfl); (case hg => rfl); (case hn => rfl); (case hr => exact qz38); intro w73 hw; have hg : wr.grownBy w73 (some go70) := (by rw [hw]; exact HP72.2); have hp_ : Kd.R Kd.bool 4 w73 w.heap.size (fun _ => True) (.slice (some ⟨go70, 0, none⟩) x5_2.length co12) y269 := (by rw [hw, Ny269.out]; exact HP72.1); clear HP72; have n0_ := Aside0.mk (Kd.S_after (v := (.slice (some ⟨go70, 0, none⟩) x5_2.length co12)) (v1 := (.slice (some ⟨go70, 0, none⟩) x5_2.length co12)) (ok := (fun _ => True)) qz18 hg (.inl rfl)); have n1_ := Aside0.mk (hp_); have n2_ := Aside0.mk (blk_grown (g := gb244) (o := .cells #[.slice (some ad251) l0_0.length c0_0, .int .i64 a0_1, .slice A0_2 l0_2.length c0_2, .int .i64 a0_3] 25 (0, 0)) qz25 hg (Kd.R_ne HO_5.out BK244.out (by decide))); have n3_ := Aside0.mk ((by rw [hw]; exact below_set (HB.out) GB70.out : Below w.heap.size w w73)); clear HO_3; clear HO_5; clear BK244; clear HB; have HO_3 := n0_; have HO_5 := n1_; have BK244 := n2_; have HB := n3_; clear n0_ n1_ n2_ n3_; clear hg hw hp_))
                                repeat (go_quiet (first | (go_at_call 41; (with_reducible refine (skolemref05_In.calls k3 _ _ l0_2 x6_2 false _ ?side1 ?side2 A48.out).mono ?_); (case side1 => exact qz2); (case side2 => exact HC0_2.out); rintro e w' ⟨rfl, ⟨nd, rfl⟩⟩; (try exact qz17); have p266 : 0 ≤ (x6_2 : Int) := of_decide_eq_true qz36; have q266 : x6_2 < (l0_0.length : Int) := of_decide_eq_true qz36; obtain ⟨ad266, A266_1, c266_1, e266, hx266_0, hx266_1, hl266_1, hi266_1⟩ := at_T55 HR0_0.out x6_2 p266 q266; (try rw [← Nbq60.out] at hx266_0); obtain rfl : ad251 = ad266 := (by injection e266); replace hx266_0 := (HB.out.cell (World.block_lt_of_cell? w _ hx266_0)).trans hx266_0; replace hx266_1 := (HB.out.cell (World.block_lt_of_cell? w _ hx266_1)).trans hx266_1; have HR266_1 := Aside0.mk hi266_1; have HC266_1 := Aside0.mk hl266_1; clear hi266_1 hl266_1; replace p266 := eq_true p266; replace q266 := eq_true q266; have p268 : 0 ≤ (x6_2 : Int) := of_decide_eq_true qz36; have q268 : x6_2 < (l0_0.length : Int) := of_decide_eq_true qz36; obtain ⟨ad268, A268_1, c268_1, e268, hx268_0, hx268_1, hl268_1, hi268_1⟩ := at_T55 HR0_0.out x6_2 p268 q268; (try rw [← Nbq60.out] at hx268_0); obtain rfl : ad251 = ad268 := (by injection e268); replace hx268_0 := (HB.out.cell (World.block_lt_of_cell? w _ hx268_0)).trans hx268_0; replace hx268_1 := (HB.out.cell (World.block_lt_of_cell? w _ hx268_1)).trans hx268_1; have HR268_1 := Aside0.mk hi268_1; have HC268_1 := Aside0.mk hl268_1; clear hi268_1 hl268_1; replace p268 := eq_true p268; replace q268 := eq_true q268; have ea_ := Option.some.inj (hx266_1.symm.trans hx268_1); injection ea_ with ea_ en_ ec_; subst ea_; subst ec_; clear en_; have p70 : 0 ≤ (x6_2 : Int) := of_decide_eq_true qz36; have q70 : (x6_2 : Int) < ((x5_2.length : Int) : Int) := of_decide_eq_true qz36; obtain ⟨go70, co70, eo70, gb70, gl70, cl70, HG70⟩ := Kd.R_form HO_5.out (by omega); (first | cases eo70 | (injection eo70 with ea_ en_ ec_; (first | subst ea_ | (injection ea_ with ea_; subst ea_)); subst ec_; clear en_)); have GB70 := Aside0.mk gb70; have GG70 := Aside0.mk HG70; clear gb70 gl70 HG70; obtain ⟨hx70_0, hf70_0⟩ := Kd.R_celln false HO_5.out (x6_2 : Int) p70 q70; replace p70 := eq_true p70; replace q70 := eq_true q70; obtain ⟨hy72_, hz72_⟩ := Kd.R_celln false HO_5.out (x6_2 : Int) (of_decide_eq_true qz36) (of_decide_eq_true qz36); have HP72 := Kd.R_putg HO_5.out (x6_2 : Int) false) | ((with_reducible refine gate_store (t := 4) (p := 109) rfl ?_); (try (rw [drewN_self wr]; generalize hq_ : World.drewN wr _ = wr; have n0_ := Aside0.mk (Kd.S_at hq_ HO_3.out); have n1_ := Aside0.mk (Kd.R_at hq_ HO_5.out); have n2_ := Aside0.mk (blk_at hq_ BK244.out); have n3_ := Aside0.mk (below_at hq_ HB.out); clear hq_ HO_3 HO_5 BK244 HB; have HO_3 := n0_; have HO_5 := n1_; have BK244 := n2_; have HB := n3_; clear n0_ n1_ n2_ n3_; (try (obtain ⟨hy72_, hz72_⟩ := Kd.R_celln false HO_5.out (x6_2 : Int) (of_decide_eq_true qz36) (of_decide_eq_true qz36))); (try (have HP72 := Kd.R_putg HO_5.out (x6_2 : Int) false)))); refine store_event (t := 4) (p := 109) (v := ?vo_w73) (w1 := (wr.setCell ⟨go70, (x6_2 : Int).toNat, none⟩ (.bool false))) ?hg ?ho ?hn ?hr ?_; (case ho => rfl); (case hg => rfl); (case hn => rfl); (case hr => exact qz38); intro w73 hw; have hg : wr.grownBy w73 (some go70) := (by rw [hw]; exact HP72.2); have hp_ : Kd.R Kd.bool 4 w73 w.heap.size (fun _ => True) (.slice (some ⟨go70, 0, none⟩) x5_2.length co12) y269 := (by rw [hw, Ny269.out]; exact HP72.1); clear HP72; have n0_ := Aside0.mk (Kd.S_after (v := (.slice (some ⟨go70, 0, none⟩) x5_2.length co12)) (v1 := (.slice (some ⟨go70, 0, none⟩) x5_2.length co12)) (ok := (fun _ => True)) qz18 hg (.inl rfl)); have n1_ := Aside0.mk (hp_); have n2_ := Aside0.mk (blk_grown (g := gb244) (o := .cells #[.slice (some ad251) l0_0.length c0_0, .int .i64 a0_1, .slice A0_2 l0_2.length c0_2, .int .i64 a0_3] 25 (0, 0)) qz25 hg (Kd.R_ne HO_5.out BK244.out (by decide))); have n3_ := Aside0.mk ((by rw [hw]; exact below_set (HB.out) GB70.out : Below w.heap.size w w73)); clear HO_3; clear HO_5; clear BK244; clear HB; have HO_3 := n0_; have HO_5 := n1_; have BK244 := n2_; have HB := n3_; clear n0_ n1_ n2_ n3_; clear hg hw hp_)); try go_wp2_with (first | (go_at_call 41; (with_reducible refine (skolemref05_In.calls k3 _ _ l0_2 x6_2 false _ ?side1 ?side2 A48.out).mono ?_); (case side1 => exact qz2); (case side2 => exact HC0_2.out); rintro e w' ⟨rfl, ⟨nd, rfl⟩⟩; (try exact qz17); have p266 : 0 ≤ (x6_2 : Int) := of_decide_eq_true qz36; have q266 : x6_2 < (l0_0.length : Int) := of_decide_eq_true qz36; obtain ⟨ad266, A266_1, c266_1, e266, hx266_0, hx266_1, hl266_1, hi266_1⟩ := at_T55 HR0_0.out x6_2 p266 q266; (try rw [← Nbq60.out] at hx266_0); obtain rfl : ad251 = ad266 := (by injection e266); replace hx266_0 := (HB.out.cell (World.block_lt_of_cell? w _ hx266_0)).trans hx266_0; replace hx266_1 := (HB.out.cell (World.block_lt_of_cell? w _ hx266_1)).trans hx266_1; have HR266_1 := Aside0.mk hi266_1; have HC266_1 := Aside0.mk hl266_1; clear hi266_1 hl266_1; replace p266 := eq_true p266; replace q266 := eq_true q266; have p268 : 0 ≤ (x6_2 : Int) := of_decide_eq_true qz36; have q268 : x6_2 < (l0_0.length : Int) := of_decide_eq_true qz36; obtain ⟨ad268, A268_1, c268_1, e268, hx268_0, hx268_1, hl268_1, hi268_1⟩ := at_T55 HR0_0.out x6_2 p268 q268; (try rw [← Nbq60.out] at hx268_0); obtain rfl : ad251 = ad268 := (by injection e268); replace hx268_0 := (HB.out.cell (World.block_lt_of_cell? w _ hx268_0)).trans hx268_0; replace hx268_1 := (HB.out.cell (World.block_lt_of_cell? w _ hx268_1)).trans hx268_1; have HR268_1 := Aside0.mk hi268_1; have HC268_1 := Aside0.mk hl268_1; clear hi268_1 hl268_1; replace p268 := eq_true p268; replace q268 := eq_true q268; have ea_ := Option.some.inj (hx266_1.symm.trans hx268_1); injection ea_ with ea_ en_ ec_; subst ea_; subst ec_; clear en_; have p70 : 0 ≤ (x6_2 : Int) := of_decide_eq_true qz36; have q70 : (x6_2 : Int) < ((x5_2.length : Int) : Int) := of_decide_eq_true qz36; obtain ⟨go70, co70, eo70, gb70, gl70, cl70, HG70⟩ := Kd.R_form HO_5.out (by omega); (first | cases eo70 | (injection eo70 with ea_ en_ ec_; (first | subst ea_ | (injection ea_ with ea_; subst ea_)); subst ec_; clear en_)); have GB70 := Aside0.mk gb70; have GG70 := Aside0.mk HG70; clear gb70 gl70 HG70; obtain ⟨hx70_0, hf70_0⟩ := Kd.R_celln false HO_5.out (x6_2 : Int) p70 q70; replace p70 := eq_true p70; replace q70 := eq_true q70; obtain ⟨hy72_, hz72_⟩ := Kd.R_celln false HO_5.out (x6_2 : Int) (of_decide_eq_true qz36) (of_decide_eq_true qz36); have HP72 := Kd.R_putg HO_5.out (x6_2 : Int) false) | ((with_reducible refine gate_store (t := 4) (p := 109) rfl ?_); (try (rw [drewN_self wr]; generalize hq_ : World.drewN wr _ = wr; have n0_ := Aside0.mk (Kd.S_at hq_ HO_3.out); have n1_ := Aside0.mk (Kd.R_at hq_ HO_5.out); have n2_ := Aside0.mk (blk_at hq_ BK244.out); have n3_ := Aside0.mk (below_at hq_ HB.out); clear hq_ HO_3 HO_5 BK244 HB; have HO_3 := n0_; have HO_5 := n1_; have BK244 := n2_; have HB := n3_; clear n0_ n1_ n2_ n3_; (try (obtain ⟨hy72_, hz72_⟩ := Kd.R_celln false HO_5.out (x6_2 : Int) (of_decide_eq_true qz36) (of_decide_eq_true qz36))); (try (have HP72 := Kd.R_putg HO_5.out (x6_2 : Int) false)))); refine store_event (t := 4) (p := 109) (v := ?vo_w73) (w1 := (wr.setCell ⟨go70, (x6_2 : Int).toNat, none⟩ (.bool false))) ?hg ?ho ?hn ?hr ?_; (case ho => rfl); (case hg => rfl); (case hn => rfl); (case hr => exact qz38); intro w73 hw; have hg : wr.grownBy w73 (some go70) := (by rw [hw]; exact HP72.2); have hp_ : Kd.R Kd.bool 4 w73 w.heap.size (fun _ => True) (.slice (some ⟨go70, 0, none⟩) x5_2.length co12) y269 := (by rw [hw, Ny269.out]; exact HP72.1); clear HP72; have n0_ := Aside0.mk (Kd.S_after (v := (.slice (some ⟨go70, 0, none⟩) x5_2.length co12)) (v1 := (.slice (some ⟨go70, 0, none⟩) x5_2.length co12)) (ok := (fun _ => True)) qz18 hg (.inl rfl)); have n1_ := Aside0.mk (hp_); have n2_ := Aside0.mk (blk_grown (g := gb244) (o := .cells #[.slice (some ad251) l0_0.length c0_0, .int .i64 a0_1, .slice A0_2 l0_2.length c0_2, .int .i64 a0_3] 25 (0, 0)) qz25 hg (Kd.R_ne HO_5.out BK244.out (by decide))); have n3_ := Aside0.mk ((by rw [hw]; exact below_set (HB.out) GB70.out : Below w.heap.size w w73)); clear HO_3; clear HO_5; clear BK244; clear HB; have HO_3 := n0_; have HO_5 := n1_; have BK244 := n2_; have HB := n3_; clear n0_ n1_ n2_ n3_; clear hg hw hp_)))
                                go_roundg k3
                                case measure => have := HK1.out; have := HK2.out; have := HK3.out; omega
                                case rel => exact ⟨(y269), (wrap64 (x6_2 + 1)), qz37, H', ⟨by have := HK1.out; have := HK2.out; have := HK3.out; omega⟩, ⟨by (with_reducible repeat (first | apply Kd.S_alloc | apply Kd.S_drewN | apply Kd.S_drew)); exact Kd.S_mono HO_3.out (fun _ hk => hk.2)⟩, ⟨by (with_reducible repeat (first | apply Kd.R_alloc | apply Kd.R_drewN | apply Kd.R_drew)); exact HO_5.out⟩, ⟨by (with_reducible repeat (first | refine blk_drewN ?_ _ | refine blk_drew ?_ | refine blk_alloc ?_ _)); exact BK244.out⟩, ⟨by repeat (first | (with_reducible first | exact HB.out | apply below_alloc | apply pw_below_drewN | apply below_drew1 | refine below_set ?_ GE244.out) | exact HB.out)⟩⟩
                              · exact absurd rfl c68
                          · replace c61 := Bool.eq_false_iff.mpr c61
                            subst c61
                            have H1 : (if (false = true) then (if x6_2 < (x5_2.length : Int) then (skolemref35_table.l1 k3 x3_1 x4_1 (x5_2.set (x6_2 : Int).toNat false) (wrap64 (x6_2 + 1)) l0_0 a0_1 l0_2 a0_3) else (none)) else (if x6_2 < (x5_2.length : Int) then (skolemref35_table.l1 k3 x3_1 x4_1 (x5_2.set (x6_2 : Int).toNat x9_3) (wrap64 (x6_2 + 1)) l0_0 a0_1 l0_2 a0_3) else (none))) = some r := by rw [if_neg (show ¬ (false = true) by decide)] at H; exact H
                            clear H
                            have H := H1
                            clear H1
                            by_cases c79 : (false = true)
                            · exact absurd c79 (by simp)
                            · clear c79
                              have H1 : (if x6_2 < (x5_2.length : Int) then (skolemref35_table.l1 k3 x3_1 x4_1 (x5_2.set (x6_2 : Int).toNat x9_3) (wrap64 (x6_2 + 1)) l0_0 a0_1 l0_2 a0_3) else (none)) = some r := by rw [if_neg (show ¬ (false = true) by decide)] at H; exact H
                              clear H
                              have H := H1
                              clear H1
                              by_cases c85 : x6_2 < (x5_2.length : Int)
                              case neg => rw [if_neg c85] at H; exact absurd H (by simp)
                              rw [if_pos c85] at H
                              have c85b0 : decide (x6_2 < (x5_2.length : Int)) = true := decide_eq_true c85
                              clear c85
                              obtain ⟨y273, hy273⟩ : ∃ y_ : List Bool, y_ = (x5_2.set (x6_2 : Int).toNat x9_3) := ⟨_, rfl⟩
                              replace H : (skolemref35_table.l1 k3 x3_1 x4_1 y273 (wrap64 (x6_2 + 1)) l0_0 a0_1 l0_2 a0_3) = some r := by first | (rw [hy273]; with_reducible exact H) | (have H2_ := (Option.bind_some _ _).symm.trans H; rw [hy273]; with_reducible exact H2_) | (have H2_ := (Option.bind_some _ _).symm.trans H; with_reducible exact H2_) | with_reducible exact H | (rw [hy273]; exact H) | exact H
                              have Ny273 := Aside0.mk hy273
                              clear hy273
                              have H' := Aside0.mk H
                              clear H
                              have hcz87_0 : wr.cell? ⟨gb244, 0, none⟩ = some (.slice (some ad251) l0_0.length c0_0) := (blk_cell BK244.out 0).trans rfl
                              have hcz87_1 : wr.cell? ⟨gb244, 1, none⟩ = some (.int .i64 a0_1) := (blk_cell BK244.out 1).trans rfl
                              have hcz87_2 : wr.cell? ⟨gb244, 2, none⟩ = some (.slice A0_2 l0_2.length c0_2) := (blk_cell BK244.out 2).trans rfl
                              have hcz87_3 : wr.cell? ⟨gb244, 3, none⟩ = some (.int .i64 a0_3) := (blk_cell BK244.out 3).trans rfl
                              have hfz87_0 := blk_frozen BK244.out 0
                              have hfz87_1 := blk_frozen BK244.out 1
                              have hfz87_2 := blk_frozen BK244.out 2
                              have hfz87_3 := blk_frozen BK244.out 3
                              go_wp2_with (first | (go_at_call 41; (with_reducible refine (skolemref05_In.calls k3 _ _ l0_2 x6_2 false _ ?side1 ?side2 A48.out).mono ?_); (case side1 => exact qz2); (case side2 => exact HC0_2.out); rintro e w' ⟨rfl, ⟨nd, rfl⟩⟩; (try exact qz17); have p266 : 0 ≤ (x6_2 : Int) := of_decide_eq_true qz36; have q266 : x6_2 < (l0_0.length : Int) := of_decide_eq_true qz36; obtain ⟨ad266, A266_1, c266_1, e266, hx266_0, hx266_1, hl266_1, hi266_1⟩ := at_T55 HR0_0.out x6_2 p266 q266; (try rw [← Nbq60.out] at hx266_0); obtain rfl : ad251 = ad266 := (by injection e266); replace hx266_0 := (HB.out.cell (World.block_lt_of_cell? w _ hx266_0)).trans hx266_0; replace hx266_1 := (HB.out.cell (World.block_lt_of_cell? w _ hx266_1)).trans hx266_1; have HR266_1 := Aside0.mk hi266_1; have HC266_1 := Aside0.mk hl266_1; clear hi266_1 hl266_1; replace p266 := eq_true p266; replace q266 := eq_true q266; have p271 : 0 ≤ (x6_2 : Int) := of_decide_eq_true qz36; have q271 : x6_2 < (l0_0.length : Int) := of_decide_eq_true qz36; obtain ⟨ad271, A271_1, c271_1, e271, hx271_0, hx271_1, hl271_1, hi271_1⟩ := at_T55 HR0_0.out x6_2 p271 q271; (try rw [← Nbq60.out] at hx271_0); obtain rfl : ad251 = ad271 := (by injection e271); replace hx271_0 := (HB.out.cell (World.block_lt_of_cell? w _ hx271_0)).trans hx271_0; replace hx271_1 := (HB.out.cell (World.block_lt_of_cell? w _ hx271_1)).trans hx271_1; have HR271_1 := Aside0.mk hi271_1; have HC271_1 := Aside0.mk hl271_1; clear hi271_1 hl271_1; replace p271 := eq_true p271; replace q271 := eq_true q271; have ea_ := Option.some.inj (hx266_1.symm.trans hx271_1); injection ea_ with ea_ en_ ec_; subst ea_; subst ec_; clear en_; have p86 : 0 ≤ (x6_2 : Int) := of_decide_eq_true qz36; have q86 : (x6_2 : Int) < ((x5_2.length : Int) : Int) := of_decide_eq_true qz36; obtain ⟨go86, co86, eo86, gb86, gl86, cl86, HG86⟩ := Kd.R_form HO_5.out (by omega); (first | cases eo86 | (injection eo86 with ea_ en_ ec_; (first | subst ea_ | (injection ea_ with ea_; subst ea_)); subst ec_; clear en_)); have GB86 := Aside0.mk gb86; have GG86 := Aside0.mk HG86; clear gb86 gl86 HG86; obtain ⟨hx86_0, hf86_0⟩ := Kd.R_celln false HO_5.out (x6_2 : Int) p86 q86; replace p86 := eq_true p86; replace q86 := eq_true q86; obtain ⟨hy88_, hz88_⟩ := Kd.R_celln false HO_5.out (x6_2 : Int) (of_decide_eq_true qz36) (of_decide_eq_true qz36); have HP88 := Kd.R_putg HO_5.out (x6_2 : Int) x9_3) | ((with_reducible refine gate_store (t := 4) (p := 109) rfl ?_); (try (rw [drewN_self wr]; generalize hq_ : World.drewN wr _ = wr; have n0_ := Aside0.mk (Kd.S_at hq_ HO_3.out); have n1_ := Aside0.mk (Kd.R_at hq_ HO_5.out); have n2_ := Aside0.mk (blk_at hq_ BK244.out); have n3_ := Aside0.mk (below_at hq_ HB.out); clear hq_ HO_3 HO_5 BK244 HB; have HO_3 := n0_; have HO_5 := n1_; have BK244 := n2_; have HB := n3_; clear n0_ n1_ n2_ n3_; (try (obtain ⟨hy88_, hz88_⟩ := Kd.R_celln false HO_5.out (x6_2 : Int) (of_decide_eq_true qz36) (of_decide_eq_true qz36))); (try (have HP88 := Kd.R_putg HO_5.out (x6_2 : Int) x9_3)))); refine store_event (t := 4) (p := 109) (v := ?vo_w89) (w1 := (wr.setCell ⟨go86, (x6_2 : Int).toNat, none⟩ (.bool x9_3))) ?hg ?ho ?hn ?hr ?_; (case ho => rfl); (case hg => rfl); (case hn => rfl); (case hr => exact qz38); intro w89 hw; have hg : wr.grownBy w89 (some go86) := (by rw [hw]; exact HP88.2); have hp_ : Kd.R Kd.bool 4 w89 w.heap.size (fun _ => True) (.slice (some ⟨go86, 0, none⟩) x5_2.length co12) y273 := (by rw [hw, Ny273.out]; exact HP88.1); clear HP88; have n0_ := Aside0.mk (Kd.S_after (v := (.slice (some ⟨go86, 0, none⟩) x5_2.length co12)) (v1 := (.slice (some ⟨go86, 0, none⟩) x5_2.length co12)) (ok := (fun _ => True)) qz18 hg (.inl rfl)); have n1_ := Aside0.mk (hp_); have n2_ := Aside0.mk (blk_grown (g := gb244) (o := .cells #[.slice (some ad251) l0_0.length c0_0, .int .i64 a0_1, .slice A0_2 l0_2.length c0_2, .int .i64 a0_3] 25 (0, 0)) qz25 hg (Kd.R_ne HO_5.out BK244.out (by decide))); have n3_ := Aside0.mk ((by rw [hw]; exact below_set (HB.out) GB86.out : Below w.heap.size w w89)); clear HO_3; clear HO_5; clear BK244; clear HB; have HO_3 := n0_; have HO_5 := n1_; have BK244 := n2_; have HB := n3_; clear n0_ n1_ n2_ n3_; clear hg hw hp_))
                              repeat (go_quiet (first | (go_at_call 41; (with_reducible refine (skolemref05_In.calls k3 _ _ l0_2 x6_2 false _ ?side1 ?side2 A48.out).mono ?_); (case side1 => exact qz2); (case side2 => exact HC0_2.out); rintro e w' ⟨rfl, ⟨nd, rfl⟩⟩; (try exact qz17); have p266 : 0 ≤ (x6_2 : Int) := of_decide_eq_true qz36; have q266 : x6_2 < (l0_0.length : Int) := of_decide_eq_true qz36; obtain ⟨ad266, A266_1, c266_1, e266, hx266_0, hx266_1, hl266_1, hi266_1⟩ := at_T55 HR0_0.out x6_2 p266 q266; (try rw [← Nbq60.out] at hx266_0); obtain rfl : ad251 = ad266 := (by injection e266); replace hx266_0 := (HB.out.cell (World.block_lt_of_cell? w _ hx266_0)).trans hx266_0; replace hx266_1 := (HB.out.cell (World.block_lt_of_cell? w _ hx266_1)).trans hx266_1; have HR266_1 := Aside0.mk hi266_1; have HC266_1 := Aside0.mk hl266_1; clear hi266_1 hl266_1; replace p266 := eq_true p266; replace q266 := eq_true q266; have p271 : 0 ≤ (x6_2 : Int) := of_decide_eq_true qz36; have q271 : x6_2 < (l0_0.length : Int) := of_decide_eq_true qz36; obtain ⟨ad271, A271_1, c271_1, e271, hx271_0, hx271_1, hl271_1, hi271_1⟩ := at_T55 HR0_0.out x6_2 p271 q271; (try rw [← Nbq60.out] at hx271_0); obtain rfl : ad251 = ad271 := (by injection e271); replace hx271_0 := (HB.out.cell (World.block_lt_of_cell? w _ hx271_0)).trans hx271_0; replace hx271_1 := (HB.out.cell (World.block_lt_of_cell? w _ hx271_1)).trans hx271_1; have HR271_1 := Aside0.mk hi271_1; have HC271_1 := Aside0.mk hl271_1; clear hi271_1 hl271_1; replace p271 := eq_true p271; replace q271 := eq_true q271; have ea_ := Option.some.inj (hx266_1.symm.trans hx271_1); injection ea_ with ea_ en_ ec_; subst ea_; subst ec_; clear en_; have p86 : 0 ≤ (x6_2 : Int) := of_decide_eq_true qz36; have q86 : (x6_2 : Int) < ((x5_2.length : Int) : Int) := of_decide_eq_true qz36; obtain ⟨go86, co86, eo86, gb86, gl86, cl86, HG86⟩ := Kd.R_form HO_5.out (by omega); (first | cases eo86 | (injection eo86 with ea_ en_ ec_; (first | subst ea_ | (injection ea_ with ea_; subst ea_)); subst ec_; clear en_)); have GB86 := Aside0.mk gb86; have GG86 := Aside0.mk HG86; clear gb86 gl86 HG86; obtain ⟨hx86_0, hf86_0⟩ := Kd.R_celln false HO_5.out (x6_2 : Int) p86 q86; replace p86 := eq_true p86; replace q86 := eq_true q86; obtain ⟨hy88_, hz88_⟩ := Kd.R_celln false HO_5.out (x6_2 : Int) (of_decide_eq_true qz36) (of_decide_eq_true qz36); have HP88 := Kd.R_putg HO_5.out (x6_2 : Int) x9_3) | ((with_reducible refine gate_store (t := 4) (p := 109) rfl ?_); (try (rw [drewN_self wr]; generalize hq_ : World.drewN wr _ = wr; have n0_ := Aside0.mk (Kd.S_at hq_ HO_3.out); have n1_ := Aside0.mk (Kd.R_at hq_ HO_5.out); have n2_ := Aside0.mk (blk_at hq_ BK244.out); have n3_ := Aside0.mk (below_at hq_ HB.out); clear hq_ HO_3 HO_5 BK244 HB; have HO_3 := n0_; have HO_5 := n1_; have BK244 := n2_; have HB := n3_; clear n0_ n1_ n2_ n3_; (try (obtain ⟨hy88_, hz88_⟩ := Kd.R_celln false HO_5.out (x6_2 : Int) (of_decide_eq_true qz36) (of_decide_eq_true qz36))); (try (have HP88 := Kd.R_putg HO_5.out (x6_2 : Int) x9_3)))); refine store_event (t := 4) (p := 109) (v := ?vo_w89) (w1 := (wr.setCell ⟨go86, (x6_2 : Int).toNat, none⟩ (.bool x9_3))) ?hg ?ho ?hn ?hr ?_; (case ho => rfl); (case hg => rfl); (case hn => rfl); (case hr => exact qz38); intro w89 hw; have hg : wr.grownBy w89 (some go86) := (by rw [hw]; exact HP88.2); have hp_ : Kd.R Kd.bool 4 w89 w.heap.size (fun _ => True) (.slice (some ⟨go86, 0, none⟩) x5_2.length co12) y273 := (by rw [hw, Ny273.out]; exact HP88.1); clear HP88; have n0_ := Aside0.mk (Kd.S_after (v := (.slice (some ⟨go86, 0, none⟩) x5_2.length co12)) (v1 := (.slice (some ⟨go86, 0, none⟩) x5_2.length co12)) (ok := (fun _ => True)) qz18 hg (.inl rfl)); have n1_ := Aside0.mk (hp_); have n2_ := Aside0.mk (blk_grown (g := gb244) (o := .cells #[.slice (some ad251) l0_0.length c0_0, .int .i64 a0_1, .slice A0_2 l0_2.length c0_2, .int .i64 a0_3] 25 (0, 0)) qz25 hg (Kd.R_ne HO_5.out BK244.out (by decide))); have n3_ := Aside0.mk ((by rw [hw]; exact below_set (HB.out) GB86.out : Below w.heap.size w w89)); clear HO_3; clear HO_5; clear BK244; clear HB; have HO_3 := n0_; have HO_5 := n1_; have BK244 := n2_; have HB := n3_; clear n0_ n1_ n2_ n3_; clear hg hw hp_)); try go_wp2_with (first | (go_at_call 41; (with_reducible refine (skolemref05_In.calls k3 _ _ l0_2 x6_2 false _ ?side1 ?side2 A48.out).mono ?_); (case side1 => exact qz2); (case side2 => exact HC0_2.out); rintro e w' ⟨rfl, ⟨nd, rfl⟩⟩; (try exact qz17); have p266 : 0 ≤ (x6_2 : Int) := of_decide_eq_true qz36; have q266 : x6_2 < (l0_0.length : Int) := of_decide_eq_true qz36; obtain ⟨ad266, A266_1, c266_1, e266, hx266_0, hx266_1, hl266_1, hi266_1⟩ := at_T55 HR0_0.out x6_2 p266 q266; (try rw [← Nbq60.out] at hx266_0); obtain rfl : ad251 = ad266 := (by injection e266); replace hx266_0 := (HB.out.cell (World.block_lt_of_cell? w _ hx266_0)).trans hx266_0; replace hx266_1 := (HB.out.cell (World.block_lt_of_cell? w _ hx266_1)).trans hx266_1; have HR266_1 := Aside0.mk hi266_1; have HC266_1 := Aside0.mk hl266_1; clear hi266_1 hl266_1; replace p266 := eq_true p266; replace q266 := eq_true q266; have p271 : 0 ≤ (x6_2 : Int) := of_decide_eq_true qz36; have q271 : x6_2 < (l0_0.length : Int) := of_decide_eq_true qz36; obtain ⟨ad271, A271_1, c271_1, e271, hx271_0, hx271_1, hl271_1, hi271_1⟩ := at_T55 HR0_0.out x6_2 p271 q271; (try rw [← Nbq60.out] at hx271_0); obtain rfl : ad251 = ad271 := (by injection e271); replace hx271_0 := (HB.out.cell (World.block_lt_of_cell? w _ hx271_0)).trans hx271_0; replace hx271_1 := (HB.out.cell (World.block_lt_of_cell? w _ hx271_1)).trans hx271_1; have HR271_1 := Aside0.mk hi271_1; have HC271_1 := Aside0.mk hl271_1; clear hi271_1 hl271_1; replace p271 := eq_true p271; replace q271 := eq_true q271; have ea_ := Option.some.inj (hx266_1.symm.trans hx271_1); injection ea_ with ea_ en_ ec_; subst ea_; subst ec_; clear en_; have p86 : 0 ≤ (x6_2 : Int) := of_decide_eq_true qz36; have q86 : (x6_2 : Int) < ((x5_2.length : Int) : Int) := of_decide_eq_true qz36; obtain ⟨go86, co86, eo86, gb86, gl86, cl86, HG86⟩ := Kd.R_form HO_5.out (by omega); (first | cases eo86 | (injection eo86 with ea_ en_ ec_; (first | subst ea_ | (injection ea_ with ea_; subst ea_)); subst ec_; clear en_)); have GB86 := Aside0.mk gb86; have GG86 := Aside0.mk HG86; clear gb86 gl86 HG86; obtain ⟨hx86_0, hf86_0⟩ := Kd.R_celln false HO_5.out (x6_2 : Int) p86 q86; replace p86 := eq_true p86; replace q86 := eq_true q86; obtain ⟨hy88_, hz88_⟩ := Kd.R_celln false HO_5.out (x6_2 : Int) (of_decide_eq_true qz36) (of_decide_eq_true qz36); have HP88 := Kd.R_putg HO_5.out (x6_2 : Int) x9_3) | ((with_reducible refine gate_store (t := 4) (p := 109) rfl ?_); (try (rw [drewN_self wr]; generalize hq_ : World.drewN wr _ = wr; have n0_ := Aside0.mk (Kd.S_at hq_ HO_3.out); have n1_ := Aside0.mk (Kd.R_at hq_ HO_5.out); have n2_ := Aside0.mk (blk_at hq_ BK244.out); have n3_ := Aside0.mk (below_at hq_ HB.out); clear hq_ HO_3 HO_5 BK244 HB; have HO_3 := n0_; have HO_5 := n1_; have BK244 := n2_; have HB := n3_; clear n0_ n1_ n2_ n3_; (try (obtain ⟨hy88_, hz88_⟩ := Kd.R_celln false HO_5.out (x6_2 : Int) (of_decide_eq_true qz36) (of_decide_eq_true qz36))); (try (have HP88 := Kd.R_putg HO_5.out (x6_2 : Int) x9_3)))); refine store_event (t := 4) (p := 109) (v := ?vo_w89) (w1 := (wr.setCell ⟨go86, (x6_2 : Int).toNat, none⟩ (.bool x9_3))) ?hg ?ho ?hn ?hr ?_; (case ho => rfl); (case hg => rfl); (case hn => rfl); (case hr => exact qz38); intro w89 hw; have hg : wr.grownBy w89 (some go86) := (by rw [hw]; exact HP88.2); have hp_ : Kd.R Kd.bool 4 w89 w.heap.size (fun _ => True) (.slice (some ⟨go86, 0, none⟩) x5_2.length co12) y273 := (by rw [hw, Ny273.out]; exact HP88.1); clear HP88; have n0_ := Aside0.mk (Kd.S_after (v := (.slice (some ⟨go86, 0, none⟩) x5_2.length co12)) (v1 := (.slice (some ⟨go86, 0, none⟩) x5_2.length co12)) (ok := (fun _ => True)) qz18 hg (.inl rfl)); have n1_ := Aside0.mk (hp_); have n2_ := Aside0.mk (blk_grown (g := gb244) (o := .cells #[.slice (some ad251) l0_0.length c0_0, .int .i64 a0_1, .slice A0_2 l0_2.length c0_2, .int .i64 a0_3] 25 (0, 0)) qz25 hg (Kd.R_ne HO_5.out BK244.out (by decide))); have n3_ := Aside0.mk ((by rw [hw]; exact below_set (HB.out) GB86.out : Below w.heap.size w w89)); clear HO_3; clear HO_5; clear BK244; clear HB; have HO_3 := n0_; have HO_5 := n1_; have BK244 := n2_; have HB := n3_; clear n0_ n1_ n2_ n3_; clear hg hw hp_)))
                              go_roundg k3
                              case measure => have := HK1.out; have := HK2.out; have := HK3.out; omega
                              case rel => exact ⟨(y273), (wrap64 (x6_2 + 1)), qz37, H', ⟨by have := HK1.out; have := HK2.out; have := HK3.out; omega⟩, ⟨by (with_reducible repeat (first | apply Kd.S_alloc | apply Kd.S_drewN | apply Kd.S_drew)); exact Kd.S_mono HO_3.out (fun _ hk => hk.2)⟩, ⟨by (with_reducible repeat (first | apply Kd.R_alloc | apply Kd.R_drewN | apply Kd.R_drew)); exact HO_5.out⟩, ⟨by (with_reducible repeat (first | refine blk_drewN ?_ _ | refine blk_drew ?_ | refine blk_alloc ?_ _)); exact BK244.out⟩, ⟨by repeat (first | (with_reducible first | exact HB.out | apply below_alloc | apply pw_below_drewN | apply below_drew1 | refine below_set ?_ GE244.out) | exact HB.out)⟩⟩
                        · rw [if_neg c57] at H
                          have c57b0 : decide (0 < (((rd_T55 l0_0 x6_2).f1).length : Int)) = false := decide_eq_false c57
                          have c57b1 : decide (0 < ((rd_T55 l0_0 x6_2).f1).length) = false := decide_eq_false (by omega)
                          clear c57
                          by_cases c90 : 0 ≤ x6_2
                          case neg => rw [if_neg c90] at H; exact absurd H (by simp)
                          rw [if_pos c90] at H
                          have c90b0 : decide (0 ≤ x6_2) = true := decide_eq_true c90
                          clear c90
                          by_cases c91 : x6_2 < (x5_2.length : Int)
                          case neg => rw [if_neg c91] at H; exact absurd H (by simp)
                          rw [if_pos c91] at H
                          have c91b0 : decide (x6_2 < (x5_2.length : Int)) = true := decide_eq_true c91
                          clear c91
                          obtain ⟨y274, hy274⟩ : ∃ y_ : List Bool, y_ = (x5_2.set (x6_2 : Int).toNat false) := ⟨_, rfl⟩
                          replace H : (skolemref35_table.l1 k3 x3_1 x4_1 y274 (wrap64 (x6_2 + 1)) l0_0 a0_1 l0_2 a0_3) = some r := by first | (rw [hy274]; with_reducible exact H) | (have H2_ := (Option.bind_some _ _).symm.trans H; rw [hy274]; with_reducible exact H2_) | (have H2_ := (Option.bind_some _ _).symm.trans H; with_reducible exact H2_) | with_reducible exact H | (rw [hy274]; exact H) | exact H
                          have Ny274 := Aside0.mk hy274
                          clear hy274
                          have H' := Aside0.mk H
                          clear H
                          have hcz93_0 : wr.cell? ⟨gb244, 0, none⟩ = some (.slice (some ad251) l0_0.length c0_0) := (blk_cell BK244.out 0).trans rfl
                          have hcz93_1 : wr.cell? ⟨gb244, 1, none⟩ = some (.int .i64 a0_1) := (blk_cell BK244.out 1).trans rfl
                          have hcz93_2 : wr.cell? ⟨gb244, 2, none⟩ = some (.slice A0_2 l0_2.length c0_2) := (blk_cell BK244.out 2).trans rfl
                          have hcz93_3 : wr.cell? ⟨gb244, 3, none⟩ = some (.int .i64 a0_3) := (blk_cell BK244.out 3).trans rfl
                          have hfz93_0 := blk_frozen BK244.out 0
                          have hfz93_1 := blk_frozen BK244.out 1
                          have hfz93_2 := blk_frozen BK244.out 2
                          have hfz93_3 := blk_frozen BK244.out 3
                          go_wp2_with (first | (go_at_call 41; (with_reducible refine (skolemref05_In.calls k3 _ _ l0_2 x6_2 false _ ?side1 ?side2 A48.out).mono ?_); (case side1 => exact qz2); (case side2 => exact HC0_2.out); rintro e w' ⟨rfl, ⟨nd, rfl⟩⟩; (try exact qz17); have p92 : 0 ≤ (x6_2 : Int) := of_decide_eq_true qz36; have q92 : (x6_2 : Int) < ((x5_2.length : Int) : Int) := of_decide_eq_true qz36; obtain ⟨go92, co92, eo92, gb92, gl92, cl92, HG92⟩ := Kd.R_form HO_5.out (by omega); (first | cases eo92 | (injection eo92 with ea_ en_ ec_; (first | subst ea_ | (injection ea_ with ea_; subst ea_)); subst ec_; clear en_)); have GB92 := Aside0.mk gb92; have GG92 := Aside0.mk HG92; clear gb92 gl92 HG92; obtain ⟨hx92_0, hf92_0⟩ := Kd.R_celln false HO_5.out (x6_2 : Int) p92 q92; replace p92 := eq_true p92; replace q92 := eq_true q92; obtain ⟨hy94_, hz94_⟩ := Kd.R_celln false HO_5.out (x6_2 : Int) (of_decide_eq_true qz36) (of_decide_eq_true qz36); have HP94 := Kd.R_putg HO_5.out (x6_2 : Int) false) | ((with_reducible refine gate_store (t := 4) (p := 109) rfl ?_); (try (rw [drewN_self wr]; generalize hq_ : World.drewN wr _ = wr; have n0_ := Aside0.mk (Kd.S_at hq_ HO_3.out); have n1_ := Aside0.mk (Kd.R_at hq_ HO_5.out); have n2_ := Aside0.mk (blk_at hq_ BK244.out); have n3_ := Aside0.mk (below_at hq_ HB.out); clear hq_ HO_3 HO_5 BK244 HB; have HO_3 := n0_; have HO_5 := n1_; have BK244 := n2_; have HB := n3_; clear n0_ n1_ n2_ n3_; (try (obtain ⟨hy94_, hz94_⟩ := Kd.R_celln false HO_5.out (x6_2 : Int) (of_decide_eq_true qz36) (of_decide_eq_true qz36))); (try (have HP94 := Kd.R_putg HO_5.out (x6_2 : Int) false)))); refine store_event (t := 4) (p := 109) (v := ?vo_w95) (w1 := (wr.setCell ⟨go92, (x6_2 : Int).toNat, none⟩ (.bool false))) ?hg ?ho ?hn ?hr ?_; (case ho => rfl); (case hg => rfl); (case hn => rfl); (case hr => exact qz38); intro w95 hw; have hg : wr.grownBy w95 (some go92) := (by rw [hw]; exact HP94.2); have hp_ : Kd.R Kd.bool 4 w95 w.heap.size (fun _ => True) (.slice (some ⟨go92, 0, none⟩) x5_2.length co12) y274 := (by rw [hw, Ny274.out]; exact HP94.1); clear HP94; have n0_ := Aside0.mk (Kd.S_after (v := (.slice (some ⟨go92, 0, none⟩) x5_2.length co12)) (v1 := (.slice (some ⟨go92, 0, none⟩) x5_2.length co12)) (ok := (fun _ => True)) qz18 hg (.inl rfl)); have n1_ := Aside0.mk (hp_); have n2_ := Aside0.mk (blk_grown (g := gb244) (o := .cells #[.slice (some ad251) l0_0.length c0_0, .int .i64 a0_1, .slice A0_2 l0_2.length c0_2, .int .i64 a0_3] 25 (0, 0)) qz25 hg (Kd.R_ne HO_5.out BK244.out (by decide))); have n3_ := Aside0.mk ((by rw [hw]; exact below_set (HB.out) GB92.out : Below w.heap.size w w95)); clear HO_3; clear HO_5; clear BK244; clear HB; have HO_3 := n0_; have HO_5 := n1_; have BK244 := n2_; have HB := n3_; clear n0_ n1_ n2_ n3_; clear hg hw hp_))
                          repeat (go_quiet (first | (go_at_call 41; (with_reducible refine (skolemref05_In.calls k3 _ _ l0_2 x6_2 false _ ?side1 ?side2 A48.out).mono ?_); (case side1 => exact qz2); (case side2 => exact HC0_2.out); rintro e w' ⟨rfl, ⟨nd, rfl⟩⟩; (try exact qz17); have p92 : 0 ≤ (x6_2 : Int) := of_decide_eq_true qz36; have q92 : (x6_2 : Int) < ((x5_2.length : Int) : Int) := of_decide_eq_true qz36; obtain ⟨go92, co92, eo92, gb92, gl92, cl92, HG92⟩ := Kd.R_form HO_5.out (by omega); (first | cases eo92 | (injection eo92 with ea_ en_ ec_; (first | subst ea_ | (injection ea_ with ea_; subst ea_)); subst ec_; clear en_)); have GB92 := Aside0.mk gb92; have GG92 := Aside0.mk HG92; clear gb92 gl92 HG92; obtain ⟨hx92_0, hf92_0⟩ := Kd.R_celln false HO_5.out (x6_2 : Int) p92 q92; replace p92 := eq_true p92; replace q92 := eq_true q92; obtain ⟨hy94_, hz94_⟩ := Kd.R_celln false HO_5.out (x6_2 : Int) (of_decide_eq_true qz36) (of_decide_eq_true qz36); have HP94 := Kd.R_putg HO_5.out (x6_2 : Int) false) | ((with_reducible refine gate_store (t := 4) (p := 109) rfl ?_); (try (rw [drewN_self wr]; generalize hq_ : World.drewN wr _ = wr; have n0_ := Aside0.mk (Kd.S_at hq_ HO_3.out); have n1_ := Aside0.mk (Kd.R_at hq_ HO_5.out); have n2_ := Aside0.mk (blk_at hq_ BK244.out); have n3_ := Aside0.mk (below_at hq_ HB.out); clear hq_ HO_3 HO_5 BK244 HB; have HO_3 := n0_; have HO_5 := n1_; have BK244 := n2_; have HB := n3_; clear n0_ n1_ n2_ n3_; (try (obtain ⟨hy94_, hz94_⟩ := Kd.R_celln false HO_5.out (x6_2 : Int) (of_decide_eq_true qz36) (of_decide_eq_true qz36))); (try (have HP94 := Kd.R_putg HO_5.out (x6_2 : Int) false)))); refine store_event (t := 4) (p := 109) (v := ?vo_w95) (w1 := (wr.setCell ⟨go92, (x6_2 : Int).toNat, none⟩ (.bool false))) ?hg ?ho ?hn ?hr ?_; (case ho => rfl); (case hg => rfl); (case hn => rfl); (case hr => exact qz38); intro w95 hw; have hg : wr.grownBy w95 (some go92) := (by rw [hw]; exact HP94.2); have hp_ : Kd.R Kd.bool 4 w95 w.heap.size (fun _ => True) (.slice (some ⟨go92, 0, none⟩) x5_2.length co12) y274 := (by rw [hw, Ny274.out]; exact HP94.1); clear HP94; have n0_ := Aside0.mk (Kd.S_after (v := (.slice (some ⟨go92, 0, none⟩) x5_2.length co12)) (v1 := (.slice (some ⟨go92, 0, none⟩) x5_2.length co12)) (ok := (fun _ => True)) qz18 hg (.inl rfl)); have n1_ := Aside0.mk (hp_); have n2_ := Aside0.mk (blk_grown (g := gb244) (o := .cells #[.slice (some ad251) l0_0.length c0_0, .int .i64 a0_1, .slice A0_2 l0_2.length c0_2, .int .i64 a0_3] 25 (0, 0)) qz25 hg (Kd.R_ne HO_5.out BK244.out (by decide))); have n3_ := Aside0.mk ((by rw [hw]; exact below_set (HB.out) GB92.out : Below w.heap.size w w95)); clear HO_3; clear HO_5; clear BK244; clear HB; have HO_3 := n0_; have HO_5 := n1_; have BK244 := n2_; have HB := n3_; clear n0_ n1_ n2_ n3_; clear hg hw hp_)); try go_wp2_with (first | (go_at_call 41; (with_reducible refine (skolemref05_In.calls k3 _ _ l0_2 x6_2 false _ ?side1 ?side2 A48.out).mono ?_); (case side1 => exact qz2); (case side2 => exact HC0_2.out); rintro e w' ⟨rfl, ⟨nd, rfl⟩⟩; (try exact qz17); have p92 : 0 ≤ (x6_2 : Int) := of_decide_eq_true qz36; have q92 : (x6_2 : Int) < ((x5_2.length : Int) : Int) := of_decide_eq_true qz36; obtain ⟨go92, co92, eo92, gb92, gl92, cl92, HG92⟩ := Kd.R_form HO_5.out (by omega); (first | cases eo92 | (injection eo92 with ea_ en_ ec_; (first | subst ea_ | (injection ea_ with ea_; subst ea_)); subst ec_; clear en_)); have GB92 := Aside0.mk gb92; have GG92 := Aside0.mk HG92; clear gb92 gl92 HG92; obtain ⟨hx92_0, hf92_0⟩ := Kd.R_celln false HO_5.out (x6_2 : Int) p92 q92; replace p92 := eq_true p92; replace q92 := eq_true q92; obtain ⟨hy94_, hz94_⟩ := Kd.R_celln false HO_5.out (x6_2 : Int) (of_decide_eq_true qz36) (of_decide_eq_true qz36); have HP94 := Kd.R_putg HO_5.out (x6_2 : Int) false) | ((with_reducible refine gate_store (t := 4) (p := 109) rfl ?_); (try (rw [drewN_self wr]; generalize hq_ : World.drewN wr _ = wr; have n0_ := Aside0.mk (Kd.S_at hq_ HO_3.out); have n1_ := Aside0.mk (Kd.R_at hq_ HO_5.out); have n2_ := Aside0.mk (blk_at hq_ BK244.out); have n3_ := Aside0.mk (below_at hq_ HB.out); clear hq_ HO_3 HO_5 BK244 HB; have HO_3 := n0_; have HO_5 := n1_; have BK244 := n2_; have HB := n3_; clear n0_ n1_ n2_ n3_; (try (obtain ⟨hy94_, hz94_⟩ := Kd.R_celln false HO_5.out (x6_2 : Int) (of_decide_eq_true qz36) (of_decide_eq_true qz36))); (try (have HP94 := Kd.R_putg HO_5.out (x6_2 : Int) false)))); refine store_event (t := 4) (p := 109) (v := ?vo_w95) (w1 := (wr.setCell ⟨go92, (x6_2 : Int).toNat, none⟩ (.bool false))) ?hg ?ho ?hn ?hr ?_; (case ho => rfl); (case hg => rfl); (case hn => rfl); (case hr => exact qz38); intro w95 hw; have hg : wr.grownBy w95 (some go92) := (by rw [hw]; exact HP94.2); have hp_ : Kd.R Kd.bool 4 w95 w.heap.size (fun _ => True) (.slice (some ⟨go92, 0, none⟩) x5_2.length co12) y274 := (by rw [hw, Ny274.out]; exact HP94.1); clear HP94; have n0_ := Aside0.mk (Kd.S_after (v := (.slice (some ⟨go92, 0, none⟩) x5_2.length co12)) (v1 := (.slice (some ⟨go92, 0, none⟩) x5_2.length co12)) (ok := (fun _ => True)) qz18 hg (.inl rfl)); have n1_ := Aside0.mk (hp_); have n2_ := Aside0.mk (blk_grown (g := gb244) (o := .cells #[.slice (some ad251) l0_0.length c0_0, .int .i64 a0_1, .slice A0_2 l0_2.length c0_2, .int .i64 a0_3] 25 (0, 0)) qz25 hg (Kd.R_ne HO_5.out BK244.out (by decide))); have n3_ := Aside0.mk ((by rw [hw]; exact below_set (HB.out) GB92.out : Below w.heap.size w w95)); clear HO_3; clear HO_5; clear BK244; clear HB; have HO_3 := n0_; have HO_5 := n1_; have BK244 := n2_; have HB := n3_; clear n0_ n1_ n2_ n3_; clear hg hw hp_)))
                          go_roundg k3
                          case measure => have := HK1.out; have := HK2.out; have := HK3.out; omega
                          case rel => exact ⟨(y274), (wrap64 (x6_2 + 1)), qz37, H', ⟨by have := HK1.out; have := HK2.out; have := HK3.out; omega⟩, ⟨by (with_reducible repeat (first | apply Kd.S_alloc | apply Kd.S_drewN | apply Kd.S_drew)); exact Kd.S_mono HO_3.out (fun _ hk => hk.2)⟩, ⟨by (with_reducible repeat (first | apply Kd.R_alloc | apply Kd.R_drewN | apply Kd.R_drew)); exact HO_5.out⟩, ⟨by (with_reducible repeat (first | refine blk_drewN ?_ _ | refine blk_drew ?_ | refine blk_alloc ?_ _)); exact BK244.out⟩, ⟨by repeat (first | (with_reducible first | exact HB.out | apply below_alloc | apply pw_below_drewN | apply below_drew1 | refine below_set ?_ GE244.out) | exact HB.out)⟩⟩
                      · rw [if_neg c56] at H
                        have c56b0 : decide (0 < x4_1) = false := decide_eq_false c56
                        clear c56
                        by_cases c96 : 0 ≤ x6_2
                        case neg => rw [if_neg c96] at H; exact absurd H (by simp)
                        rw [if_pos c96] at H
                        have c96b0 : decide (0 ≤ x6_2) = true := decide_eq_true c96
                        clear c96
                        by_cases c97 : x6_2 < (x5_2.length : Int)
                        case neg => rw [if_neg c97] at H; exact absurd H (by simp)
                        rw [if_pos c97] at H
                        have c97b0 : decide (x6_2 < (x5_2.length : Int)) = true := decide_eq_true c97
                        clear c97
                        obtain ⟨y275, hy275⟩ : ∃ y_ : List Bool, y_ = (x5_2.set (x6_2 : Int).toNat false) := ⟨_, rfl⟩
                        replace H : (skolemref35_table.l1 k3 x3_1 x4_1 y275 (wrap64 (x6_2 + 1)) l0_0 a0_1 l0_2 a0_3) = some r := by first | (rw [hy275]; with_reducible exact H) | (have H2_ := (Option.bind_some _ _).symm.trans H; rw [hy275]; with_reducible exact H2_) | (have H2_ := (Option.bind_some _ _).symm.trans H; with_reducible exact H2_) | with_reducible exact H | (rw [hy275]; exact H) | exact H
                        have Ny275 := Aside0.mk hy275
                        clear hy275
                        have H' := Aside0.mk H
                        clear H
                        have hcz99_0 : wr.cell? ⟨gb244, 0, none⟩ = some (.slice (some ad251) l0_0.length c0_0) := (blk_cell BK244.out 0).trans rfl
                        have hcz99_1 : wr.cell? ⟨gb244, 1, none⟩ = some (.int .i64 a0_1) := (blk_cell BK244.out 1).trans rfl
                        have hcz99_2 : wr.cell? ⟨gb244, 2, none⟩ = some (.slice A0_2 l0_2.length c0_2) := (blk_cell BK244.out 2).trans rfl
                        have hcz99_3 : wr.cell? ⟨gb244, 3, none⟩ = some (.int .i64 a0_3) := (blk_cell BK244.out 3).trans rfl
                        have hfz99_0 := blk_frozen BK244.out 0
                        have hfz99_1 := blk_frozen BK244.out 1
                        have hfz99_2 := blk_frozen BK244.out 2
                        have hfz99_3 := blk_frozen BK244.out 3
                        go_wp2_with (first | (go_at_call 41; (with_reducible refine (skolemref05_In.calls k3 _ _ l0_2 x6_2 false _ ?side1 ?side2 A48.out).mono ?_); (case side1 => exact qz2); (case side2 => exact HC0_2.out); rintro e w' ⟨rfl, ⟨nd, rfl⟩⟩; (try exact qz17); have p98 : 0 ≤ (x6_2 : Int) := of_decide_eq_true qz36; have q98 : (x6_2 : Int) < ((x5_2.length : Int) : Int) := of_decide_eq_true qz36; obtain ⟨go98, co98, eo98, gb98, gl98, cl98, HG98⟩ := Kd.R_form HO_5.out (by omega); (first | cases eo98 | (injection eo98 with ea_ en_ ec_; (first | subst ea_ | (injection ea_ with ea_; subst ea_)); subst ec_; clear en_)); have GB98 := Aside0.mk gb98; have GG98 := Aside0.mk HG98; clear gb98 gl98 HG98; obtain ⟨hx98_0, hf98_0⟩ := Kd.R_celln false HO_5.out (x6_2 : Int) p98 q98; replace p98 := eq_true p98; replace q98 := eq_true q98; obtain ⟨hy100_, hz100_⟩ := Kd.R_celln false HO_5.out (x6_2 : Int) (of_decide_eq_true qz36) (of_decide_eq_true qz36); have HP100 := Kd.R_putg HO_5.out (x6_2 : Int) false) | ((with_reducible refine gate_store (t := 4) (p := 109) rfl ?_); (try (rw [drewN_self wr]; generalize hq_ : World.drewN wr _ = wr; have n0_ := Aside0.mk (Kd.S_at hq_ HO_3.out); have n1_ := Aside0.mk (Kd.R_at hq_ HO_5.out); have n2_ := Aside0.mk (blk_at hq_ BK244.out); have n3_ := Aside0.mk (below_at hq_ HB.out); clear hq_ HO_3 HO_5 BK244 HB; have HO_3 := n0_; have HO_5 := n1_; have BK244 := n2_; have HB := n3_; clear n0_ n1_ n2_ n3_; (try (obtain ⟨hy100_, hz100_⟩ := Kd.R_celln false HO_5.out (x6_2 : Int) (of_decide_eq_true qz36) (of_decide_eq_true qz36))); (try (have HP100 := Kd.R_putg HO_5.out (x6_2 : Int) false)))); refine store_event (t := 4) (p := 109) (v := ?vo_w101) (w1 := (wr.setCell ⟨go98, (x6_2 : Int).toNat, none⟩ (.bool false))) ?hg ?ho ?hn ?hr ?_; (case ho => rfl); (case hg => rfl); (case hn => rfl); (case hr => exact qz38); intro w101 hw; have hg : wr.grownBy w101 (some go98) := (by rw [hw]; exact HP100.2); have hp_ : Kd.R Kd.bool 4 w101 w.heap.size (fun _ => True) (.slice (some ⟨go98, 0, none⟩) x5_2.length co12) y275 := (by rw [hw, Ny275.out]; exact HP100.1); clear HP100; have n0_ := Aside0.mk (Kd.S_after (v := (.slice (some ⟨go98, 0, none⟩) x5_2.length co12)) (v1 := (.slice (some ⟨go98, 0, none⟩) x5_2.length co12)) (ok := (fun _ => True)) qz18 hg (.inl rfl)); have n1_ := Aside0.mk (hp_); have n2_ := Aside0.mk (blk_grown (g := gb244) (o := .cells #[.slice (some ad251) l0_0.length c0_0, .int .i64 a0_1, .slice A0_2 l0_2.length c0_2, .int .i64 a0_3] 25 (0, 0)) qz25 hg (Kd.R_ne HO_5.out BK244.out (by decide))); have n3_ := Aside0.mk ((by rw [hw]; exact below_set (HB.out) GB98.out : Below w.heap.size w w101)); clear HO_3; clear HO_5; clear BK244; clear HB; have HO_3 := n0_; have HO_5 := n1_; have BK244 := n2_; have HB := n3_; clear n0_ n1_ n2_ n3_; clear hg hw hp_))
                        repeat (go_quiet (first | (go_at_call 41; (with_reducible refine (skolemref05_In.calls k3 _ _ l0_2 x6_2 false _ ?side1 ?side2 A48.out).mono ?_); (case side1 => exact qz2); (case side2 => exact HC0_2.out); rintro e w' ⟨rfl, ⟨nd, rfl⟩⟩; (try exact qz17); have p98 : 0 ≤ (x6_2 : Int) := of_decide_eq_true qz36; have q98 : (x6_2 : Int) < ((x5_2.length : Int) : Int) := of_decide_eq_true qz36; obtain ⟨go98, co98, eo98, gb98, gl98, cl98, HG98⟩ := Kd.R_form HO_5.out (by omega); (first | cases eo98 | (injection eo98 with ea_ en_ ec_; (first | subst ea_ | (injection ea_ with ea_; subst ea_)); subst ec_; clear en_)); have GB98 := Aside0.mk gb98; have GG98 := Aside0.mk HG98; clear gb98 gl98 HG98; obtain ⟨hx98_0, hf98_0⟩ := Kd.R_celln false HO_5.out (x6_2 : Int) p98 q98; replace p98 := eq_true p98; replace q98 := eq_true q98; obtain ⟨hy100_, hz100_⟩ := Kd.R_celln false HO_5.out (x6_2 : Int) (of_decide_eq_true qz36) (of_decide_eq_true qz36); have HP100 := Kd.R_putg HO_5.out (x6_2 : Int) false) | ((with_reducible refine gate_store (t := 4) (p := 109) rfl ?_); (try (rw [drewN_self wr]; generalize hq_ : World.drewN wr _ = wr; have n0_ := Aside0.mk (Kd.S_at hq_ HO_3.out); have n1_ := Aside0.mk (Kd.R_at hq_ HO_5.out); have n2_ := Aside0.mk (blk_at hq_ BK244.out); have n3_ := Aside0.mk (below_at hq_ HB.out); clear hq_ HO_3 HO_5 BK244 HB; have HO_3 := n0_; have HO_5 := n1_; have BK244 := n2_; have HB := n3_; clear n0_ n1_ n2_ n3_; (try (obtain ⟨hy100_, hz100_⟩ := Kd.R_celln false HO_5.out (x6_2 : Int) (of_decide_eq_true qz36) (of_decide_eq_true qz36))); (try (have HP100 := Kd.R_putg HO_5.out (x6_2 : Int) false)))); refine store_event (t := 4) (p := 109) (v := ?vo_w101) (w1 := (wr.setCell ⟨go98, (x6_2 : Int).toNat, none⟩ (.bool false))) ?hg ?ho ?hn ?hr ?_; (case ho => rfl); (case hg => rfl); (case hn => rfl); (case hr => exact qz38); intro w101 hw; have hg : wr.grownBy w101 (some go98) := (by rw [hw]; exact HP100.2); have hp_ : Kd.R Kd.bool 4 w101 w.heap.size (fun _ => True) (.slice (some ⟨go98, 0, none⟩) x5_2.length co12) y275 := (by rw [hw, Ny275.out]; exact HP100.1); clear HP100; have n0_ := Aside0.mk (Kd.S_after (v := (.slice (some ⟨go98, 0, none⟩) x5_2.length co12)) (v1 := (.slice (some ⟨go98, 0, none⟩) x5_2.length co12)) (ok := (fun _ => True)) qz18 hg (.inl rfl)); have n1_ := Aside0.mk (hp_); have n2_ := Aside0.mk (blk_grown (g := gb244) (o := .cells #[.slice (some ad251) l0_0.length c0_0, .int .i64 a0_1, .slice A0_2 l0_2.length c0_2, .int .i64 a0_3] 25 (0, 0)) qz25 hg (Kd.R_ne HO_5.out BK244.out (by decide))); have n3_ := Aside0.mk ((by rw [hw]; exact below_set (HB.out) GB98.out : Below w.heap.size w w101)); clear HO_3; clear HO_5; clear BK244; clear HB; have HO_3 := n0_; have HO_5 := n1_; have BK244 := n2_; have HB := n3_; clear n0_ n1_ n2_ n3_; clear hg hw hp_)); try go_wp2_with (first | (go_at_call 41; (with_reducible refine (skolemref05_In.calls k3 _ _ l0_2 x6_2 false _ ?side1 ?side2 A48.out).mono ?_); (case side1 => exact qz2); (case side2 => exact HC0_2.out); rintro e w' ⟨rfl, ⟨nd, rfl⟩⟩; (try exact qz17); have p98 : 0 ≤ (x6_2 : Int) := of_decide_eq_true qz36; have q98 : (x6_2 : Int) < ((x5_2.length : Int) : Int) := of_decide_eq_true qz36; obtain ⟨go98, co98, eo98, gb98, gl98, cl98, HG98⟩ := Kd.R_form HO_5.out (by omega); (first | cases eo98 | (injection eo98 with ea_ en_ ec_; (first | subst ea_ | (injection ea_ with ea_; subst ea_)); subst ec_; clear en_)); have GB98 := Aside0.mk gb98; have GG98 := Aside0.mk HG98; clear gb98 gl98 HG98; obtain ⟨hx98_0, hf98_0⟩ := Kd.R_celln false HO_5.out (x6_2 : Int) p98 q98; replace p98 := eq_true p98; replace q98 := eq_true q98; obtain ⟨hy100_, hz100_⟩ := Kd.R_celln false HO_5.out (x6_2 : Int) (of_decide_eq_true qz36) (of_decide_eq_true qz36); have HP100 := Kd.R_putg HO_5.out (x6_2 : Int) false) | ((with_reducible refine gate_store (t := 4) (p := 109) rfl ?_); (try (rw [drewN_self wr]; generalize hq_ : World.drewN wr _ = wr; have n0_ := Aside0.mk (Kd.S_at hq_ HO_3.out); have n1_ := Aside0.mk (Kd.R_at hq_ HO_5.out); have n2_ := Aside0.mk (blk_at hq_ BK244.out); have n3_ := Aside0.mk (below_at hq_ HB.out); clear hq_ HO_3 HO_5 BK244 HB; have HO_3 := n0_; have HO_5 := n1_; have BK244 := n2_; have HB := n3_; clear n0_ n1_ n2_ n3_; (try (obtain ⟨hy100_, hz100_⟩ := Kd.R_celln false HO_5.out (x6_2 : Int) (of_decide_eq_true qz36) (of_decide_eq_true qz36))); (try (have HP100 := Kd.R_putg HO_5.out (x6_2 : Int) false)))); refine store_event (t := 4) (p := 109) (v := ?vo_w101) (w1 := (wr.setCell ⟨go98, (x6_2 : Int).toNat, none⟩ (.bool false))) ?hg ?ho ?hn ?hr ?_; (case ho => rfl); (case hg => rfl); (case hn => rfl); (case hr => exact qz38); intro w101 hw; have hg : wr.grownBy w101 (some go98) := (by rw [hw]; exact HP100.2); have hp_ : Kd.R Kd.bool 4 w101 w.heap.size (fun _ => True) (.slice (some ⟨go98, 0, none⟩) x5_2.length co12) y275 := (by rw [hw, Ny275.out]; exact HP100.1); clear HP100; have n0_ := Aside0.mk (Kd.S_after (v := (.slice (some ⟨go98, 0, none⟩) x5_2.length co12)) (v1 := (.slice (some ⟨go98, 0, none⟩) x5_2.length co12)) (ok := (fun _ => True)) qz18 hg (.inl rfl)); have n1_ := Aside0.mk (hp_); have n2_ := Aside0.mk (blk_grown (g := gb244) (o := .cells #[.slice (some ad251) l0_0.length c0_0, .int .i64 a0_1, .slice A0_2 l0_2.length c0_2, .int .i64 a0_3] 25 (0, 0)) qz25 hg (Kd.R_ne HO_5.out BK244.out (by decide))); have n3_ := Aside0.mk ((by rw [hw]; exact below_set (HB.out) GB98.out : Below w.heap.size w w101)); clear HO_3; clear HO_5; clear BK244; clear HB; have HO_3 := n0_; have HO_5 := n1_; have BK244 := n2_; have HB := n3_; clear n0_ n1_ n2_ n3_; clear hg hw hp_)))
                        go_roundg k3
                        case measure => have := HK1.out; have := HK2.out; have := HK3.out; omega
                        case rel => exact ⟨(y275), (wrap64 (x6_2 + 1)), qz37, H', ⟨by have := HK1.out; have := HK2.out; have := HK3.out; omega⟩, ⟨by (with_reducible repeat (first | apply Kd.S_alloc | apply Kd.S_drewN | apply Kd.S_drew)); exact Kd.S_mono HO_3.out (fun _ hk => hk.2)⟩, ⟨by (with_reducible repeat (first | apply Kd.R_alloc | apply Kd.R_drewN | apply Kd.R_drew)); exact HO_5.out⟩, ⟨by (with_reducible repeat (first | refine blk_drewN ?_ _ | refine blk_drew ?_ | refine blk_alloc ?_ _)); exact BK244.out⟩, ⟨by repeat (first | (with_reducible first | exact HB.out | apply below_alloc | apply pw_below_drewN | apply below_drew1 | refine below_set ?_ GE244.out) | exact HB.out)⟩⟩
            · rw [if_neg c9] at H
              have c9b0 : decide (x6_2 < (x5_2.length : Int)) = false := decide_eq_false c9
              clear c9
              by_cases c102 : x3_1.length < 5864062014805
              case neg => rw [if_neg c102] at H; exact absurd H (by simp)
              rw [if_pos c102] at H
              have LMc102 := Aside0.mk c102
              clear c102
              obtain ⟨y248, hy248⟩ : ∃ y_ : List (List Bool), y_ = (x3_1 ++ [x5_2]) := ⟨_, rfl⟩
              replace H : (skolemref35_table.l0 k2 y248 (wrap64 (x4_1 + 1)) l0_0 a0_1 l0_2 a0_3) = some r := by first | (rw [hy248]; with_reducible exact H) | (have H2_ := (Option.bind_some _ _).symm.trans H; rw [hy248]; with_reducible exact H2_) | (have H2_ := (Option.bind_some _ _).symm.trans H; with_reducible exact H2_) | with_reducible exact H | (rw [hy248]; exact H) | exact H
              have Ny248 := Aside0.mk hy248
              clear hy248
              have H' := Aside0.mk H
              clear H
              obtain ⟨Ao103, co103, eo103⟩ := Kd.R_slice HO_5.out
              subst eo103
              go_wp2_with (first | ((with_reducible refine gate_builtin (b := .append) (xs := #[.tmp 110, .tmp 112]) rfl ?_); (try (refine gate_guard (by rfl) ?_; dsimp only)); at_builtin; refine Kd.S_append (Kd.slice 4 Kd.bool) (w0 := w) w.heap.size rfl (.tmp 110) (.tmp 112) 80 79 (.slice none 0 0) 24 rfl Try.underlying80 info79 rfl (by decide) (by omega) u3 x3_1 x5_2 [.slice Ao103 x5_2.length co103] (fun _ => True) (fun k_ => some k_ = (.slice Ao103 x5_2.length co103 : Value).ownBlock) rfl rfl ?aP (fun k_ hk_ => ((Kd.R_mono (ok' := fun k_ => ((fun _ => True)) k_ ∧ some k_ ≠ (u3 : Value).ownBlock) (Kd.R_apart' (HO_5.out) (Kd.S_typed HO_3.out) (by decide)) (fun k_ hk => ⟨trivial, hk.2⟩))).1 k_ hk_.symm) ?aF ?aO ?aB ?aS ?aL ?_; (case aP => exact Kd.M_row (Kd.R_mono (Kd.R_tight rfl (Kd.R_mono (ok' := fun k_ => ((fun _ => True)) k_ ∧ some k_ ≠ (u3 : Value).ownBlock) (Kd.R_apart' (HO_5.out) (Kd.S_typed HO_3.out) (by decide)) (fun k_ hk => ⟨trivial, hk.2⟩))) (fun _ h_ => h_))); (case aB => exact qz9); (case aF => exact (fun _ _ => trivial)); (case aO => exact qz15); (case aS => exact (below_size qz9)); (case aL => have := LMc102.out; omega); intro v249 w104 ho hb hg hat; rw [← Ny248.out] at ho; have n0_ := Aside0.mk (blk_grown (g := gb244) (o := .cells #[.slice A0_0 l0_0.length c0_0, .int .i64 a0_1, .slice A0_2 l0_2.length c0_2, .int .i64 a0_3] 25 (0, 0)) qz25 hg (Kd.S_ne HO_3.out BK244.out (by decide))); have n1_ := Aside0.mk (hb); have n2_ := Aside0.mk (ho); clear BK244; clear HB; clear HO_3; clear HO_5; have BK244 := n0_; have HB := n1_; have HO250 := n2_; clear n0_ n1_ n2_; clear ho hb hg hat))
              repeat (go_quiet (first | ((with_reducible refine gate_builtin (b := .append) (xs := #[.tmp 110, .tmp 112]) rfl ?_); (try (refine gate_guard (by rfl) ?_; dsimp only)); at_builtin; refine Kd.S_append (Kd.slice 4 Kd.bool) (w0 := w) w.heap.size rfl (.tmp 110) (.tmp 112) 80 79 (.slice none 0 0) 24 rfl Try.underlying80 info79 rfl (by decide) (by omega) u3 x3_1 x5_2 [.slice Ao103 x5_2.length co103] (fun _ => True) (fun k_ => some k_ = (.slice Ao103 x5_2.length co103 : Value).ownBlock) rfl rfl ?aP (fun k_ hk_ => ((Kd.R_mono (ok' := fun k_ => ((fun _ => True)) k_ ∧ some k_ ≠ (u3 : Value).ownBlock) (Kd.R_apart' (HO_5.out) (Kd.S_typed HO_3.out) (by decide)) (fun k_ hk => ⟨trivial, hk.2⟩))).1 k_ hk_.symm) ?aF ?aO ?aB ?aS ?aL ?_; (case aP => exact Kd.M_row (Kd.R_mono (Kd.R_tight rfl (Kd.R_mono (ok' := fun k_ => ((fun _ => True)) k_ ∧ some k_ ≠ (u3 : Value).ownBlock) (Kd.R_apart' (HO_5.out) (Kd.S_typed HO_3.out) (by decide)) (fun k_ hk => ⟨trivial, hk.2⟩))) (fun _ h_ => h_))); (case aB => exact qz9); (case aF => exact (fun _ _ => trivial)); (case aO => exact qz15); (case aS => exact (below_size qz9)); (case aL => have := LMc102.out; omega); intro v249 w104 ho hb hg hat; rw [← Ny248.out] at ho; have n0_ := Aside0.mk (blk_grown (g := gb244) (o := .cells #[.slice A0_0 l0_0.length c0_0, .int .i64 a0_1, .slice A0_2 l0_2.length c0_2, .int .i64 a0_3] 25 (0, 0)) qz25 hg (Kd.S_ne HO_3.out BK244.out (by decide))); have n1_ := Aside0.mk (hb); have n2_ := Aside0.mk (ho); clear BK244; clear HB; clear HO_3; clear HO_5; have BK244 := n0_; have HB := n1_; have HO250 := n2_; clear n0_ n1_ n2_; clear ho hb hg hat)); try go_wp2_with (first | ((with_reducible refine gate_builtin (b := .append) (xs := #[.tmp 110, .tmp 112]) rfl ?_); (try (refine gate_guard (by rfl) ?_; dsimp only)); at_builtin; refine Kd.S_append (Kd.slice 4 Kd.bool) (w0 := w) w.heap.size rfl (.tmp 110) (.tmp 112) 80 79 (.slice none 0 0) 24 rfl Try.underlying80 info79 rfl (by decide) (by omega) u3 x3_1 x5_2 [.slice Ao103 x5_2.length co103] (fun _ => True) (fun k_ => some k_ = (.slice Ao103 x5_2.length co103 : Value).ownBlock) rfl rfl ?aP (fun k_ hk_ => ((Kd.R_mono (ok' := fun k_ => ((fun _ => True)) k_ ∧ some k_ ≠ (u3 : Value).ownBlock) (Kd.R_apart' (HO_5.out) (Kd.S_typed HO_3.out) (by decide)) (fun k_ hk => ⟨trivial, hk.2⟩))).1 k_ hk_.symm) ?aF ?aO ?aB ?aS ?aL ?_; (case aP => exact Kd.M_row (Kd.R_mono (Kd.R_tight rfl (Kd.R_mono (ok' := fun k_ => ((fun _ => True)) k_ ∧ some k_ ≠ (u3 : Value).ownBlock) (Kd.R_apart' (HO_5.out) (Kd.S_typed HO_3.out) (by decide)) (fun k_ hk => ⟨trivial, hk.2⟩))) (fun _ h_ => h_))); (case aB => exact qz9); (case aF => exact (fun _ _ => trivial)); (case aO => exact qz15); (case aS => exact (below_size qz9)); (case aL => have := LMc102.out; omega); intro v249 w104 ho hb hg hat; rw [← Ny248.out] at ho; have n0_ := Aside0.mk (blk_grown (g := gb244) (o := .cells #[.slice A0_0 l0_0.length c0_0, .int .i64 a0_1, .slice A0_2 l0_2.length c0_2, .int .i64 a0_3] 25 (0, 0)) qz25 hg (Kd.S_ne HO_3.out BK244.out (by decide))); have n1_ := Aside0.mk (hb); have n2_ := Aside0.mk (ho); clear BK244; clear HB; clear HO_3; clear HO_5; have BK244 := n0_; have HB := n1_; have HO250 := n2_; clear n0_ n1_ n2_; clear ho hb hg hat)))
              go_roundg k2
              case measure => have := HK1.out; have := HK2.out; omega
              case rel => exact ⟨(y248), (wrap64 (x4_1 + 1)), qz37, H', ⟨by have := HK1.out; have := HK2.out; omega⟩, ⟨by (with_reducible repeat (first | apply Kd.S_alloc | apply Kd.S_drewN | apply Kd.S_drew)); exact HO250.out⟩, ⟨by (with_reducible repeat (first | refine blk_drewN ?_ _ | refine blk_drew ?_ | refine blk_alloc ?_ _)); exact BK244.out⟩, ⟨by repeat (first | (with_reducible first | exact HB.out | apply below_alloc | apply pw_below_drewN | apply below_drew1 | refine below_set ?_ GE244.out) | exact HB.out)⟩⟩
      · rw [if_neg c3] at H
        have c3b0 : decide (x4_1 ≤ a0_3) = false := decide_eq_false c3
        clear c3
        obtain rfl := Option.some.inj H
        have hcz105_0 : wr.cell? ⟨gb244, 0, none⟩ = some (.slice A0_0 l0_0.length c0_0) := (blk_cell BK244.out 0).trans rfl
        have hcz105_1 : wr.cell? ⟨gb244, 1, none⟩ = some (.int .i64 a0_1) := (blk_cell BK244.out 1).trans rfl
        have hcz105_2 : wr.cell? ⟨gb244, 2, none⟩ = some (.slice A0_2 l0_2.length c0_2) := (blk_cell BK244.out 2).trans rfl
        have hcz105_3 : wr.cell? ⟨gb244, 3, none⟩ = some (.int .i64 a0_3) := (blk_cell BK244.out 3).trans rfl
        have hfz105_0 := blk_frozen BK244.out 0
        have hfz105_1 := blk_frozen BK244.out 1
        have hfz105_2 := blk_frozen BK244.out 2
        have hfz105_3 := blk_frozen BK244.out 3
        go_wp2
        repeat (go_quiet (fail); try go_wp2)
        go_ret
        exact ⟨_, by first | rfl | (simp [errW_none, errW_some] <;> rfl) | (simp [*, errW_none, errW_some] <;> rfl), by (with_reducible repeat (first | apply Kd.S_alloc | apply Kd.S_drewN | apply Kd.S_drew)); exact HO_3.out, by repeat (first | (with_reducible first | exact HB.out | apply below_alloc | apply pw_below_drewN | apply below_drew1 | refine below_set ?_ GE244.out) | exact HB.out)⟩

end Go.Proofs.Ytjlehbncpjccmaa.Q
