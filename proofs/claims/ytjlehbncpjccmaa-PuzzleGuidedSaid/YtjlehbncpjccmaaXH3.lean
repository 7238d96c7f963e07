/-
  Proved: the law PuzzleGuided returns true for every input (puzzle, choices), and the input reads as it did.
  Part 3 of 3. Conditions: none. Written for this claim by programs of this work (extprint.py, gen_*.py, assemble.py) and by hand.
-/
import Derived.Test.YtjlehbncpjccmaaXH2
import Derived.Outline
namespace Go.Proofs.Ytjlehbncpjccmaa.Q
open Go.RowKit Go.Proofs.YtjlehbncpjccmaaW.PrintWords Go.Proofs.YtjlehbncpjccmaaW.PrintLast Go.Proofs.YtjlehbncpjccmaaW.PrintMore
attribute [local go_sem] max2_int min2_int max_two min_two max_three min_three max_four min_four
set_option linter.unusedVariables false
set_option linter.unusedSimpArgs false

def absA (x : Int) : Int := mx x (wrap64 (-x))
def normB : Int → List Int → Bool
  | _, [] => true
  | last, x :: r => decide (1 ≤ absA x ∧ absA x ≤ 65536) && (decide (last < absA x) && normB (absA x) r)
theorem normal_l (l : List Int) (hl : (l.length : Int) ≤ 9223372036854775807) : ∀ (n i : Nat) (last : Int), i + n = l.length → aig_normal.l0 (n + 1) last l (l.length : Int) (i : Int) = some (normB last (l.drop i))
  | 0, i, last, h => by
    rw [List.drop_of_length_le (by omega), aig_normal.l0, if_neg (by omega)]
    rfl
  | n + 1, i, last, h => by
    have hi : i < l.length := by omega
    have ih := normal_l l hl n (i + 1) (absA (rd l (i : Int))) (by omega)
    have hd : l.drop i = rd l (i : Int) :: l.drop (i + 1) := by
      rw [List.drop_eq_getElem_cons hi]
      simp [rd, List.getD_eq_getElem?_getD, List.getElem?_eq_getElem hi]
    rw [hd, normB, aig_normal.l0, if_pos (by omega), if_pos (by omega), if_pos (by omega)]
    rw [show mx (rd l (i : Int)) (wrap64 (-(rd l (i : Int)))) = absA (rd l (i : Int)) from rfl]
    rw [show wrap64 ((i : Int) + 1) = ((i + 1 : Nat) : Int) by rw [w_id (by omega)]; omega]
    generalize absA (rd l (i : Int)) = v at ih ⊢
    rw [ih]
    unfold aig_variable.f
    by_cases h1 : v ≥ 1
    · rw [if_pos h1]
      by_cases h2 : v ≤ 65536
      · by_cases h3 : v ≤ last
        · simp [h1, h2, h3, show ¬ (last < v) by omega]
        · simp [h1, h2, h3, show last < v by omega]
      · simp [h1, h2]
    · simp [h1]
theorem normal_f (l : List Int) (hl : (l.length : Int) ≤ 9223372036854775807) : aig_normal.f (l.length + 1) l = some (normB 0 l) := normal_l l hl l.length 0 0 (by omega)
def puzzle_Play.f (l0_0 : List S55) (a0_1 : Int) (l0_2 : List Int) (a0_3 : Int) (l1 : List Int) : Option (List Int × Int) :=
  some (if mayB l0_0 a0_1 l0_2 a0_3 && normB 0 l1 then (playF l0_0 a0_1 a0_3 (fun v => decide (v ∈ l1)), 0) else ([], 2))
section
variable {P : Program} {ops : Array Oper} {Q : Exit → Act → World → Prop}
theorem map_event {rest : List Oper} {o : Oper} {a : Act} {W : World} (hgd : o.guard = none) {N : Tmp} (_hd : o.dst = some N)
    (hrun : (execOp a.eval o).run P W = .ok (.value (.map (some W.heap.size))) (W.alloc (.map #[] 0)))
    (h : ∀ g, g = W.heap.size → ∀ w1, w1.heap[g]? = some (.map #[] 0) → Below W.heap.size W w1 → wpList P ops Q rest (a.put o.dst (.map (some g))) w1) : wpList P ops Q (o :: rest) a W :=
  Kd.event_run hgd hrun (h _ rfl _ (blk_new W _) (below_alloc (Below.refl _ _) _))
end
theorem keys_none {w : World} {r : Nat} (h : w.heap[r]? = some (.map #[] 0)) : KeysT [] w r := ⟨#[], 0, h, by simp, by simp⟩
theorem take_rev (l : List Int) (i : Nat) (h : i < l.length) : (l.take (i + 1)).reverse = rd l (i : Int) :: (l.take i).reverse := by
  rw [List.take_succ_eq_append_getElem h]
  simp [rd, List.getD_eq_getElem?_getD, List.getElem?_eq_getElem h]
set_option maxHeartbeats 6400000 in
set_option maxRecDepth 100000 in
theorem puzzle_Play.calls (A0_0 : Option Addr) (c0_0 : Nat) (l0_0 : List (S55)) (a0_1 : Int) (A0_2 : Option Addr) (c0_2 : Nat) (l0_2 : List Int) (a0_3 : Int) (A1 : Option Addr) (c1 : Nat) (l1 : List Int) (r1 : List Int) (r2 : Int) (w : World) (hr0_0 : Kd.C k55 w A0_0 l0_0.length l0_0) (hc0_0 : l0_0.length ≤ c0_0) (hr0_2 : Kd.C (Kd.int .i64) w A0_2 l0_2.length l0_2) (hc0_2 : l0_2.length ≤ c0_2) (hr1 : Kd.C (Kd.int .i64) w A1 l1.length l1) (hc1 : l1.length ≤ c1) (h : puzzle_Play.f l0_0 a0_1 l0_2 a0_3 l1 = some (r1, r2)) :
    Calls Try.prog 22 #[.agg #[.slice A0_0 l0_0.length c0_0, .int .i64 a0_1, .slice A0_2 l0_2.length c0_2, .int .i64 a0_3], .slice A1 l1.length c1] w fun e w' => ∃ v0_ : Value, e = .returned (.tuple #[v0_, .int .i64 r2]) ∧ Kd.R (Kd.int .i64) 3 w' w.heap.size (fun _ => True) v0_ r1 ∧ Below w.heap.size w w' := by
  have HPL := Aside0.mk (fun (W : World) (hb : Below w.heap.size w W) (L : List Int) (mr : Nat) => play.calls A0_0 c0_0 l0_0 a0_1 A0_2 c0_2 l0_2 a0_3 L mr W (Kd.C_below hr0_0 hb) hc0_0 (Kd.C_below hr0_2 hb) hc0_2)
  have hl1 : (l1.length : Int) ≤ 9223372036854775807 := by have := hr1.2.1; omega
  have HL1 := Aside0.mk hl1
  have HE := Aside0.mk (fun (W : World) (hb : Below w.heap.size w W) => eval0.calls (l1.length + 1) A1 c1 l1 _ W (Kd.C_below hr1 hb) hc1 (normal_f l1 hl1))
  have HR3 := Aside0.mk hr1
  have HR0 := Aside0.mk hr0_0
  have HR2 := Aside0.mk hr0_2
  have HB := Aside0.mk (Below.refl w.heap.size w)
  have HO := Aside0.mk (fun (W : World) (hb : Below w.heap.size w W) => open.calls A0_0 c0_0 l0_0 a0_1 A0_2 c0_2 l0_2 a0_3 W (Kd.C_below hr0_0 hb) hc0_0 (Kd.C_below hr0_2 hb) hc0_2)
  clear hr0_0 hr0_2
  unfold openV at HO
  clear hr1 hl1
  unfold puzzle_Play.f at h
  cases hm : mayB l0_0 a0_1 l0_2 a0_3 with
  | false =>
    simp only [hm, Bool.false_eq_true, if_false, Bool.false_and] at HO h
    obtain ⟨rfl, rfl⟩ := Prod.mk.inj (Option.some.inj h)
    clear h hm HPL
    obtain ⟨ev, hev⟩ : ∃ ev : Int, (if normB 0 l1 = true then (0 : Int) else 2) = ev := ⟨_, rfl⟩
    rw [hev] at HE
    clear hev
    go_enter Try.func22, Try.ntmps22
    go_wp2_with (first | ((with_reducible refine gate_dst (N := 2) rfl ?_); (try (refine gate_guard (by rfl) ?_; dsimp only)); refine box_event ?hg (N := 2) ?hd (cs := #[.slice A0_0 l0_0.length c0_0, .int .i64 a0_1, .slice A0_2 l0_2.length c0_2, .int .i64 a0_3]) (t := 25) ?hr ?_; (case hd => rfl); (case hg => rfl); (case hr => exact qz23); intro b1 hb1_ w_b1 hbox hb_; have n0_ := Aside0.mk (below_then HB.out HB.out.size hb_); have Bb1 := Aside0.mk hbox; clear hbox; have G1 := Aside0.mk (by rw [hb1_]; exact HB.out.size : w.heap.size ≤ b1); clear hb_; clear hb1_; (try clear HB); have HB := n0_; clear n0_) | ((with_reducible refine gate_dst (N := 14) rfl ?_); (try (refine gate_guard (by rfl) ?_; dsimp only)); refine wpList_load_row rfl 25 (.tmp 2) rfl b1 rfl 25 (#[.slice A0_0 l0_0.length c0_0, .int .i64 a0_1, .slice A0_2 l0_2.length c0_2, .int .i64 a0_3]) (0, 0) _ Bb1.out Try.underlying25 rfl info25n ?_) | ((with_reducible refine gate_callee (f := 32) rfl ?_); (try (refine gate_guard (by rfl) ?_; dsimp only)); refine goesL_ (some 15) rfl rfl Try.func32 (by kernel_rfl) rfl #[.agg #[.slice A0_0 l0_0.length c0_0, .int .i64 a0_1, .slice A0_2 l0_2.length c0_2, .int .i64 a0_3]] rfl qz20 ?_; refine (HO.out _ HB.out).mono ?_; rintro e_ w_ ⟨rfl, hb_⟩; have Cb1 := Aside0.mk ((hb_.block _ (blk_lt Bb1.out)).trans Bb1.out); have HB1 := Aside0.mk (below_then HB.out HB.out.size hb_); clear Bb1 HB hb_; have HB := HB1; clear HB1; refine ⟨_, rfl, ?_⟩) | ((with_reducible refine gate_dst (N := 6) rfl ?_); (try (refine gate_guard (by rfl) ?_; dsimp only)); refine box_event ?hg (N := 6) ?hd (cs := #[.slice none 0 0, .int .i64 0, .slice none 0 0, .int .i64 0, .int .i64 0]) (t := 69) ?hr ?_; (case hd => rfl); (case hg => rfl); (case hr => exact qz23); intro b4 hb4_ w_b4 hbox hb_; have n0_ := Aside0.mk (below_then HB.out HB.out.size hb_); have Bb4 := Aside0.mk hbox; clear hbox; have G4 := Aside0.mk (by rw [hb4_]; exact HB.out.size : w.heap.size ≤ b4); have Db1 := Aside0.mk ((hb_.block _ (blk_lt Cb1.out)).trans Cb1.out); have N14 := Aside0.mk (by have := blk_lt Cb1.out; omega : b1 ≠ b4); clear Cb1; clear hb_; clear hb4_; (try clear HB); have HB := n0_; clear n0_) | ((with_reducible refine gate_store (t := 69) (p := 6) rfl ?_); refine wpList_store_rowTo rfl 69 (.tmp 6) (.tmp 16) rfl rfl b4 (#[.slice none 0 0, .int .i64 0, .slice none 0 0, .int .i64 0, .int .i64 0]) rfl rfl 69 (#[.slice none 0 0, .int .i64 0, .slice none 0 0, .int .i64 0, .int .i64 0]) Bb4.out info69n rfl (by simp [Value.oneCell']) ?_; refine named_world _ ?_; intro w4 hw_; have B4 : Aside0 (w4.heap[b4]? = some (.cells #[.slice none 0 0, .int .i64 0, .slice none 0 0, .int .i64 0, .int .i64 0] 69 (0, 0))) := ⟨by rw [hw_]; exact setRow_heap _ _ _ _ _ _ Bb4.out⟩; have B1 : Aside0 (w4.heap[b1]? = some (.cells #[.slice A0_0 l0_0.length c0_0, .int .i64 a0_1, .slice A0_2 l0_2.length c0_2, .int .i64 a0_3] 25 (0, 0))) := ⟨by rw [hw_, setRow_other _ _ _ _ N14.out]; exact Db1.out⟩; have HB1 : Aside0 (Below w.heap.size w w4) := ⟨by rw [hw_]; exact below_setRow HB.out G4.out _⟩; clear Bb4 Db1 HB; have HB := HB1; clear HB1; have f0 : w4.cell? ⟨b4, 4, none⟩ = some (.int .i64 0) := (blk_cell B4.out 4).trans rfl; have f1 : w4.cell? ⟨b1, 3, none⟩ = some (.int .i64 a0_3) := (blk_cell B1.out 3).trans rfl; have f2 : w4.cell? ⟨b1, 1, none⟩ = some (.int .i64 a0_1) := (blk_cell B1.out 1).trans rfl; have f3 : w4.cell? ⟨b1, 0, none⟩ = some (.slice A0_0 l0_0.length c0_0) := (blk_cell B1.out 0).trans rfl; clear hw_) | ((with_reducible refine gate_callee (f := 46) rfl ?_); (try (refine gate_guard (by rfl) ?_; dsimp only)); refine goesL_ (some 21) rfl rfl Try.func46 (by kernel_rfl) rfl #[.agg #[.slice none 0 0, .slice none 0 0], .int .i64 0, .slice A1 l1.length c1] rfl qz20 ?_; refine (HE.out _ HB.out).mono ?_; rintro e_ w_ ⟨rfl, hb_⟩; have C4 := Aside0.mk (blk_below B4.out hb_); have HB1 := Aside0.mk (below_then HB.out HB.out.size hb_); clear B4 HB hb_ f0 f1 f2 f3; have HB := HB1; clear HB1; refine ⟨_, rfl, ?_⟩))
    go_ret2
    exact ⟨_, rfl, Kd.R_nil _ _ _ _ _, HB.out⟩
  | true =>
    have HM := Aside0.mk hm
    simp only [hm, if_true, Bool.true_and] at HO h
    cases hn : normB 0 l1 with
    | false =>
      simp only [hn, Bool.false_eq_true, if_false] at HE h
      obtain ⟨rfl, rfl⟩ := Prod.mk.inj (Option.some.inj h)
      clear h hm hn HPL
      go_enter Try.func22, Try.ntmps22
      go_wp2_with (first | ((with_reducible refine gate_dst (N := 2) rfl ?_); (try (refine gate_guard (by rfl) ?_; dsimp only)); refine box_event ?hg (N := 2) ?hd (cs := #[.slice A0_0 l0_0.length c0_0, .int .i64 a0_1, .slice A0_2 l0_2.length c0_2, .int .i64 a0_3]) (t := 25) ?hr ?_; (case hd => rfl); (case hg => rfl); (case hr => exact qz23); intro b1 hb1_ w_b1 hbox hb_; have n0_ := Aside0.mk (below_then HB.out HB.out.size hb_); have Bb1 := Aside0.mk hbox; clear hbox; have G1 := Aside0.mk (by rw [hb1_]; exact HB.out.size : w.heap.size ≤ b1); clear hb_; clear hb1_; (try clear HB); have HB := n0_; clear n0_) | ((with_reducible refine gate_dst (N := 14) rfl ?_); (try (refine gate_guard (by rfl) ?_; dsimp only)); refine wpList_load_row rfl 25 (.tmp 2) rfl b1 rfl 25 (#[.slice A0_0 l0_0.length c0_0, .int .i64 a0_1, .slice A0_2 l0_2.length c0_2, .int .i64 a0_3]) (0, 0) _ Bb1.out Try.underlying25 rfl info25n ?_) | ((with_reducible refine gate_callee (f := 32) rfl ?_); (try (refine gate_guard (by rfl) ?_; dsimp only)); refine goesL_ (some 15) rfl rfl Try.func32 (by kernel_rfl) rfl #[.agg #[.slice A0_0 l0_0.length c0_0, .int .i64 a0_1, .slice A0_2 l0_2.length c0_2, .int .i64 a0_3]] rfl qz20 ?_; refine (HO.out _ HB.out).mono ?_; rintro e_ w_ ⟨rfl, hb_⟩; have Cb1 := Aside0.mk ((hb_.block _ (blk_lt Bb1.out)).trans Bb1.out); have HB1 := Aside0.mk (below_then HB.out HB.out.size hb_); clear Bb1 HB hb_; have HB := HB1; clear HB1; refine ⟨_, rfl, ?_⟩) | ((with_reducible refine gate_dst (N := 6) rfl ?_); (try (refine gate_guard (by rfl) ?_; dsimp only)); refine box_event ?hg (N := 6) ?hd (cs := #[.slice none 0 0, .int .i64 0, .slice none 0 0, .int .i64 0, .int .i64 0]) (t := 69) ?hr ?_; (case hd => rfl); (case hg => rfl); (case hr => exact qz23); intro b4 hb4_ w_b4 hbox hb_; have n0_ := Aside0.mk (below_then HB.out HB.out.size hb_); have Bb4 := Aside0.mk hbox; clear hbox; have G4 := Aside0.mk (by rw [hb4_]; exact HB.out.size : w.heap.size ≤ b4); have Db1 := Aside0.mk ((hb_.block _ (blk_lt Cb1.out)).trans Cb1.out); have N14 := Aside0.mk (by have := blk_lt Cb1.out; omega : b1 ≠ b4); clear Cb1; clear hb_; clear hb4_; (try clear HB); have HB := n0_; clear n0_) | ((with_reducible refine gate_store (t := 69) (p := 6) rfl ?_); refine wpList_store_rowTo rfl 69 (.tmp 6) (.tmp 16) rfl rfl b4 (#[.slice A0_0 l0_0.length c0_0, .int .i64 a0_1, .slice A0_2 l0_2.length c0_2, .int .i64 a0_3, .int .i64 (widthP l0_0)]) rfl rfl 69 (#[.slice none 0 0, .int .i64 0, .slice none 0 0, .int .i64 0, .int .i64 0]) Bb4.out info69n rfl (by simp [Value.oneCell']) ?_; refine named_world _ ?_; intro w4 hw_; have B4 : Aside0 (w4.heap[b4]? = some (.cells #[.slice A0_0 l0_0.length c0_0, .int .i64 a0_1, .slice A0_2 l0_2.length c0_2, .int .i64 a0_3, .int .i64 (widthP l0_0)] 69 (0, 0))) := ⟨by rw [hw_]; exact setRow_heap _ _ _ _ _ _ Bb4.out⟩; have B1 : Aside0 (w4.heap[b1]? = some (.cells #[.slice A0_0 l0_0.length c0_0, .int .i64 a0_1, .slice A0_2 l0_2.length c0_2, .int .i64 a0_3] 25 (0, 0))) := ⟨by rw [hw_, setRow_other _ _ _ _ N14.out]; exact Db1.out⟩; have HB1 : Aside0 (Below w.heap.size w w4) := ⟨by rw [hw_]; exact below_setRow HB.out G4.out _⟩; clear Bb4 Db1 HB; have HB := HB1; clear HB1; have f0 : w4.cell? ⟨b4, 4, none⟩ = some (.int .i64 (widthP l0_0)) := (blk_cell B4.out 4).trans rfl; have f1 : w4.cell? ⟨b1, 3, none⟩ = some (.int .i64 a0_3) := (blk_cell B1.out 3).trans rfl; have f2 : w4.cell? ⟨b1, 1, none⟩ = some (.int .i64 a0_1) := (blk_cell B1.out 1).trans rfl; have f3 : w4.cell? ⟨b1, 0, none⟩ = some (.slice A0_0 l0_0.length c0_0) := (blk_cell B1.out 0).trans rfl; clear hw_) | ((with_reducible refine gate_callee (f := 46) rfl ?_); (try (refine gate_guard (by rfl) ?_; dsimp only)); refine goesL_ (some 21) rfl rfl Try.func46 (by kernel_rfl) rfl #[.agg #[.slice none 0 0, .slice none 0 0], .int .i64 0, .slice A1 l1.length c1] rfl qz20 ?_; refine (HE.out _ HB.out).mono ?_; rintro e_ w_ ⟨rfl, hb_⟩; have C4 := Aside0.mk (blk_below B4.out hb_); have HB1 := Aside0.mk (below_then HB.out HB.out.size hb_); clear B4 HB hb_ f0 f1 f2 f3; have HB := HB1; clear HB1; refine ⟨_, rfl, ?_⟩))
      go_ret2
      exact ⟨_, rfl, Kd.R_nil _ _ _ _ _, HB.out⟩
    | true =>
      simp only [hn, if_true] at HE h
      obtain ⟨rfl, rfl⟩ := Prod.mk.inj (Option.some.inj h)
      clear h hm hn
      go_enter Try.func22, Try.ntmps22
      go_wp2_with (first | ((with_reducible refine gate_dst (N := 2) rfl ?_); (try (refine gate_guard (by rfl) ?_; dsimp only)); refine box_event ?hg (N := 2) ?hd (cs := #[.slice A0_0 l0_0.length c0_0, .int .i64 a0_1, .slice A0_2 l0_2.length c0_2, .int .i64 a0_3]) (t := 25) ?hr ?_; (case hd => rfl); (case hg => rfl); (case hr => exact qz23); intro b1 hb1_ w_b1 hbox hb_; have n0_ := Aside0.mk (below_then HB.out HB.out.size hb_); have Bb1 := Aside0.mk hbox; clear hbox; have G1 := Aside0.mk (by rw [hb1_]; exact HB.out.size : w.heap.size ≤ b1); clear hb_; clear hb1_; (try clear HB); have HB := n0_; clear n0_) | ((with_reducible refine gate_dst (N := 14) rfl ?_); (try (refine gate_guard (by rfl) ?_; dsimp only)); refine wpList_load_row rfl 25 (.tmp 2) rfl b1 rfl 25 (#[.slice A0_0 l0_0.length c0_0, .int .i64 a0_1, .slice A0_2 l0_2.length c0_2, .int .i64 a0_3]) (0, 0) _ Bb1.out Try.underlying25 rfl info25n ?_) | ((with_reducible refine gate_callee (f := 32) rfl ?_); (try (refine gate_guard (by rfl) ?_; dsimp only)); refine goesL_ (some 15) rfl rfl Try.func32 (by kernel_rfl) rfl #[.agg #[.slice A0_0 l0_0.length c0_0, .int .i64 a0_1, .slice A0_2 l0_2.length c0_2, .int .i64 a0_3]] rfl qz20 ?_; refine (HO.out _ HB.out).mono ?_; rintro e_ w_ ⟨rfl, hb_⟩; have Cb1 := Aside0.mk ((hb_.block _ (blk_lt Bb1.out)).trans Bb1.out); have HB1 := Aside0.mk (below_then HB.out HB.out.size hb_); clear Bb1 HB hb_; have HB := HB1; clear HB1; refine ⟨_, rfl, ?_⟩) | ((with_reducible refine gate_dst (N := 6) rfl ?_); (try (refine gate_guard (by rfl) ?_; dsimp only)); refine box_event ?hg (N := 6) ?hd (cs := #[.slice none 0 0, .int .i64 0, .slice none 0 0, .int .i64 0, .int .i64 0]) (t := 69) ?hr ?_; (case hd => rfl); (case hg => rfl); (case hr => exact qz23); intro b4 hb4_ w_b4 hbox hb_; have n0_ := Aside0.mk (below_then HB.out HB.out.size hb_); have Bb4 := Aside0.mk hbox; clear hbox; have G4 := Aside0.mk (by rw [hb4_]; exact HB.out.size : w.heap.size ≤ b4); have Db1 := Aside0.mk ((hb_.block _ (blk_lt Cb1.out)).trans Cb1.out); have N14 := Aside0.mk (by have := blk_lt Cb1.out; omega : b1 ≠ b4); clear Cb1; clear hb_; clear hb4_; (try clear HB); have HB := n0_; clear n0_) | ((with_reducible refine gate_store (t := 69) (p := 6) rfl ?_); refine wpList_store_rowTo rfl 69 (.tmp 6) (.tmp 16) rfl rfl b4 (#[.slice A0_0 l0_0.length c0_0, .int .i64 a0_1, .slice A0_2 l0_2.length c0_2, .int .i64 a0_3, .int .i64 (widthP l0_0)]) rfl rfl 69 (#[.slice none 0 0, .int .i64 0, .slice none 0 0, .int .i64 0, .int .i64 0]) Bb4.out info69n rfl (by simp [Value.oneCell']) ?_; refine named_world _ ?_; intro w4 hw_; have B4 : Aside0 (w4.heap[b4]? = some (.cells #[.slice A0_0 l0_0.length c0_0, .int .i64 a0_1, .slice A0_2 l0_2.length c0_2, .int .i64 a0_3, .int .i64 (widthP l0_0)] 69 (0, 0))) := ⟨by rw [hw_]; exact setRow_heap _ _ _ _ _ _ Bb4.out⟩; have B1 : Aside0 (w4.heap[b1]? = some (.cells #[.slice A0_0 l0_0.length c0_0, .int .i64 a0_1, .slice A0_2 l0_2.length c0_2, .int .i64 a0_3] 25 (0, 0))) := ⟨by rw [hw_, setRow_other _ _ _ _ N14.out]; exact Db1.out⟩; have HB1 : Aside0 (Below w.heap.size w w4) := ⟨by rw [hw_]; exact below_setRow HB.out G4.out _⟩; clear Bb4 Db1 HB; have HB := HB1; clear HB1; have f0 : w4.cell? ⟨b4, 4, none⟩ = some (.int .i64 (widthP l0_0)) := (blk_cell B4.out 4).trans rfl; have f1 : w4.cell? ⟨b1, 3, none⟩ = some (.int .i64 a0_3) := (blk_cell B1.out 3).trans rfl; have f2 : w4.cell? ⟨b1, 1, none⟩ = some (.int .i64 a0_1) := (blk_cell B1.out 1).trans rfl; have f3 : w4.cell? ⟨b1, 0, none⟩ = some (.slice A0_0 l0_0.length c0_0) := (blk_cell B1.out 0).trans rfl; clear hw_) | ((with_reducible refine gate_callee (f := 46) rfl ?_); (try (refine gate_guard (by rfl) ?_; dsimp only)); refine goesL_ (some 21) rfl rfl Try.func46 (by kernel_rfl) rfl #[.agg #[.slice none 0 0, .slice none 0 0], .int .i64 0, .slice A1 l1.length c1] rfl qz20 ?_; refine (HE.out _ HB.out).mono ?_; rintro e_ w_ ⟨rfl, hb_⟩; have C4 := Aside0.mk (blk_below B4.out hb_); have HB1 := Aside0.mk (below_then HB.out HB.out.size hb_); clear B4 HB hb_ f0 f1 f2 f3; have HB := HB1; clear HB1; refine ⟨_, rfl, ?_⟩) | ((with_reducible refine gate_dst (N := 30) rfl ?_); refine map_event rfl (N := 30) rfl (by rfl) ?_; intro b30 hb30_ w30 hmap_ hb_; have D4 := Aside0.mk (blk_below C4.out hb_); have N30 := Aside0.mk (by have := blk_lt C4.out; omega : b4 ≠ b30); have G30 := Aside0.mk (by rw [hb30_]; exact HB.out.size : w.heap.size ≤ b30); have HK0 := Aside0.mk (keys_none hmap_); have HB1 := Aside0.mk (below_then HB.out HB.out.size hb_); clear C4 HB hb_ hmap_ hb30_; have HB := HB1; clear HB1; have x0_ := True.intro))
      clear x0_
      go_loopg [33] l1.length (fun kq v33 wr => ∃ (x : Int), v33 = .int .i64 x ∧ Aside0 (∃ i : Nat, x = i ∧ kq + i = l1.length ∧ KeysT (l1.take i).reverse wr b30) ∧ Aside0 (wr.heap[b4]? = some (.cells #[.slice A0_0 l0_0.length c0_0, .int .i64 a0_1, .slice A0_2 l0_2.length c0_2, .int .i64 a0_3, .int .i64 (widthP l0_0)] 69 (0, 0))) ∧ Aside0 (Below w.heap.size w wr))
      case atStart => exact ⟨0, rfl, ⟨0, rfl, by omega, HK0.out⟩, D4, HB⟩
      case round =>
        clear HK0 D4 HB
        obtain ⟨x, rfl, HI, D4, HB⟩ := hrel
        obtain ⟨wi, rfl⟩ : ∃ wi : World, wi = wr := ⟨_, rfl⟩
        by_cases hxl : x < (l1.length : Int)
        · have hxl' := decide_eq_true hxl
          obtain ⟨ki, rfl⟩ : ∃ ki, gk = ki + 1 := ⟨gk - 1, by obtain ⟨i, rfl, h1, _⟩ := HI.out; omega⟩
          have hx0 : 0 ≤ x := by obtain ⟨i, rfl, _⟩ := HI.out; omega
          have HR4 := Aside0.mk (Kd.C_below HR3.out HB.out)
          obtain ⟨ae, rfl, hcell⟩ := Kd.at_int HR4.out x hx0 hxl
          obtain ⟨vx, hvx⟩ : ∃ vx, rd l1 x = vx := ⟨_, rfl⟩
          have HVX := Aside0.mk hvx
          have HXP := Aside0.mk (And.intro hx0 hxl)
          have HK1 : Aside0 (∃ L, KeysT L wi b30 ∧ ∀ i : Nat, x = i → (l1.take (i + 1)).reverse = vx :: L) := ⟨by
            obtain ⟨i, rfl, h1, h2⟩ := HI.out
            refine ⟨_, h2, fun j hj => ?_⟩
            obtain rfl : i = j := by omega
            rw [← hvx]
            exact take_rev l1 i (by omega)⟩
          rw [hvx] at hcell
          have q1 := eq_true hx0
          have q2 := eq_true hxl
          clear hvx hx0 hxl
          obtain ⟨L, HK2⟩ := HK1.out
          have HK3 := Aside0.mk HK2
          clear HK2
          go_wp2_with (first | ((with_reducible refine gate_update (t := 92) rfl ?_); obtain ⟨w5, hr_, hk_, ho_, hb_⟩ := update_keys u92 Try.underlying3 HK3.out.1 vx; refine update_event rfl rfl rfl rfl rfl rfl hr_ ?_; have HK5 := Aside0.mk hk_; have D5 := Aside0.mk ((ho_ b4 N30.out).trans D4.out); have HB5 := Aside0.mk (HB.out.trans (hb_ _ G30.out)); clear hr_ hk_ ho_ hb_))
          go_roundg ki
          case measure => omega
          case rel =>
            refine ⟨x + 1, by rw [show wrap64 (x + 1) = x + 1 by have := HL1.out; have := HXP.out; unfold wrap64; omega], ⟨?_⟩, D5, HB5⟩
            obtain ⟨i, rfl, h1, h2⟩ := HI.out
            have hQ := HXP.out
            exact ⟨i + 1, by omega, by omega, by rw [HK3.out.2 i rfl]; exact HK5.out⟩
        · have hxl' := decide_eq_false hxl
          have HKE : Aside0 (KeysT l1.reverse wi b30) := ⟨by
            obtain ⟨i, rfl, h1, h2⟩ := HI.out
            rw [List.take_of_length_le (by omega)] at h2
            exact h2⟩
          have HPE : Aside0 (∀ W (hb : Below w.heap.size w W) (hk : KeysT l1.reverse W b30), Calls Try.prog 47 #[.agg #[.slice A0_0 l0_0.length c0_0, .int .i64 a0_1, .slice A0_2 l0_2.length c0_2, .int .i64 a0_3, .int .i64 (widthP l0_0)], .func (.func 48) #[.map (some b30)] #[]] W fun e w' => ∃ v0_ : Value, e = .returned v0_ ∧ Kd.R (Kd.int .i64) 3 w' W.heap.size (fun _ => True) v0_ (playF l0_0 a0_1 a0_3 fun v => decide (v ∈ l1)) ∧ Below W.heap.size W w') := ⟨fun W hb hk => by
            have h := HPL.out W hb l1.reverse b30 hk HM.out
            simp only [List.mem_reverse] at h
            exact h⟩
          clear hxl
          go_wp2_with (first | ((with_reducible refine gate_dst (N := 40) rfl ?_); (try (refine gate_guard (by rfl) ?_; dsimp only)); refine wpList_load_row rfl 69 (.tmp 6) rfl b4 rfl 69 (#[.slice A0_0 l0_0.length c0_0, .int .i64 a0_1, .slice A0_2 l0_2.length c0_2, .int .i64 a0_3, .int .i64 (widthP l0_0)]) (0, 0) _ D4.out Try.underlying69 rfl info69n ?_) | ((with_reducible refine gate_callee (f := 47) rfl ?_); (try (refine gate_guard (by rfl) ?_; dsimp only)); refine goesL_ (some 43) rfl rfl Try.func47 (by kernel_rfl) rfl #[.agg #[.slice A0_0 l0_0.length c0_0, .int .i64 a0_1, .slice A0_2 l0_2.length c0_2, .int .i64 a0_3, .int .i64 (widthP l0_0)], .func (.func 48) #[.map (some b30)] #[]] rfl qz20 ?_; refine (HPE.out _ HB.out HKE.out).mono ?_; rintro e_ w_ ⟨v0_, rfl, hR_, hb_⟩; have HX := Aside0.mk (Kd.R_lower hR_ HB.out.size); have HB5 := Aside0.mk (below_then HB.out HB.out.size hb_); clear hb_ hR_; refine ⟨_, rfl, ?_⟩))
          go_ret2
          exact ⟨_, rfl, HX.out, HB5.out⟩
end Go.Proofs.Ytjlehbncpjccmaa.Q
namespace Go.Proofs.Ytjlehbncpjccmaa.Q
open Go.RowKit Go.Proofs.YtjlehbncpjccmaaW.PrintWords Go.Proofs.YtjlehbncpjccmaaW.PrintLast Go.Proofs.YtjlehbncpjccmaaW.PrintMore
attribute [local go_sem] max2_int min2_int max_two min_two max_three min_three max_four min_four
set_option linter.unusedVariables false
set_option linter.unusedSimpArgs false

section
variable {P : Program} {ops : Array Oper} {Q : Exit → Act → World → Prop}
/-- A slice that is built: its block has a name. -/
theorem slice_event {rest : List Oper} {o : Oper} {a : Act} {W : World} (hgd : o.guard = none) {N : Tmp} (_hd : o.dst = some N) {cs : Array Value} {t n : Nat}
    (hrun : (execOp a.eval o).run P W = .ok (.value (.slice (some ⟨W.heap.size, 0, none⟩) n n)) (W.alloc (.cells cs t (0, 0))))
    (h : ∀ g, ∀ w1, w1.heap[g]? = some (.cells cs t (0, 0)) → Below W.heap.size W w1 → wpList P ops Q rest (a.put o.dst (.slice (some ⟨g, 0, none⟩) n n)) w1) : wpList P ops Q (o :: rest) a W :=
  Kd.event_run hgd hrun (h _ _ (blk_new W _) (below_alloc (Below.refl _ _) _))
end
theorem C_ints {W : World} {b : Nat} (xs : List Int) {cs : Array Value} (h : W.heap[b]? = some (.cells cs 3 (0, 0))) (hc : cs = (xs.map (Value.int .i64)).toArray) (hl : xs.length ≤ 1000) : Kd.C (Kd.int .i64) W (some ⟨b, 0, none⟩) xs.length xs := by
  subst hc
  refine ⟨rfl, by omega, fun _ => ⟨_, rfl, fun j p hp => ⟨[.int .i64 p], rfl, rfl, fun i u hu => ?_⟩⟩⟩
  have hj := (List.getElem?_eq_some_iff.1 hp).1
  have hi : i = 0 := by have := (List.getElem?_eq_some_iff.1 hu).1; simp at this; omega
  subst hi
  simp at hu
  subst hu
  have ha : (⟨b, 0, none⟩ : Addr).add (j * (Kd.int .i64).sz + 0) = ⟨b, j, none⟩ := by
    show (⟨b, 0, none⟩ : Addr).add (j * 1 + 0) = _
    unfold Addr.add
    split
    · congr 1; omega
    · simp
  rw [ha]
  refine (blk_cell h j).trans ?_
  simp [hp]
theorem C_lists {W : World} {b : Nat} (xs : List (List Int)) {cs : Array Value} (h : W.heap[b]? = some (.cells cs 23 (0, 0))) (hl : xs.length ≤ 1000)
    (hv : ∀ (j : Nat) (x : List Int), xs[j]? = some x → ∃ (A : Option Addr) (c : Nat), cs[j]? = some (Value.slice A x.length c) ∧ x.length ≤ c ∧ Kd.C (Kd.int .i64) W A x.length x) : Kd.C (Kd.slice 3 (Kd.int .i64)) W (some ⟨b, 0, none⟩) xs.length xs := by
  refine ⟨rfl, by omega, fun _ => ⟨_, rfl, fun j p hp => ?_⟩⟩
  obtain ⟨A, c, hcs, hlc, hC⟩ := hv j p hp
  refine ⟨[.slice A p.length c], rfl, ⟨A, c, rfl, hlc, hC⟩, fun i u hu => ?_⟩
  have hi : i = 0 := by have := (List.getElem?_eq_some_iff.1 hu).1; simp at this; omega
  subst hi
  simp at hu
  subst hu
  have ha : (⟨b, 0, none⟩ : Addr).add (j * (Kd.slice 3 (Kd.int .i64)).sz + 0) = ⟨b, j, none⟩ := by
    show (⟨b, 0, none⟩ : Addr).add (j * 1 + 0) = _
    unfold Addr.add
    split
    · congr 1; omega
    · simp
  rw [ha]
  exact (blk_cell h j).trans hcs
def exP : List S55 := [⟨true, [1, 2]⟩, ⟨false, [0, 3]⟩, ⟨false, [3, 3]⟩, ⟨true, []⟩]
set_option maxHeartbeats 6400000 in
set_option maxRecDepth 100000 in
theorem head.calls (w : World) : Calls Try.prog 9 #[] w fun e w' => e = .returned (.bool true) ∧ Below w.heap.size w w' := by
  have HB := Aside0.mk (Below.refl w.heap.size w)
  go_enter Try.func9, Try.ntmps9
  go_wp2_with (first | ((with_reducible refine gate_callee (f := 31) rfl ?_); (try (refine gate_guard (by rfl) ?_; dsimp only)); refine goesL_ (some 19) rfl rfl Try.func31 (by kernel_rfl) rfl #[.int .i64 2] rfl qz20 ?_; refine (skolemlaw35_example.calls 2 exP 0 [3] 2 _ rfl).mono ?_; rintro e_ w_ ⟨v0_, v2_, rfl, hN_, hR_, hb_⟩; obtain ⟨A0, c0, rfl, hc0_, hr0_⟩ := Kd.N_reads hN_; obtain ⟨A2, c2, rfl, hc2_, hr2_⟩ := Kd.R_reads hR_; have K0 := Aside0.mk hc0_; have K2 := Aside0.mk hc2_; have HBn_ := Aside0.mk (below_then HB.out HB.out.size hb_); clear HB hb_ ; have HB := HBn_; clear HBn_; have R0 := Aside0.mk hr0_; have R2 := Aside0.mk hr2_; clear hN_ hR_ hr0_ hr2_ hc0_ hc2_; refine ⟨_, rfl, ?_⟩) | ((with_reducible refine gate_dst (N := 1) rfl ?_); refine box_event ?hg (N := 1) ?hd (cs := #[.slice none 0 0, .int .i64 0, .slice none 0 0, .int .i64 0]) (t := 25) ?hr ?_; (case hd => rfl); (case hg => rfl); (case hr => exact qz23); intro b1 hb1_ w_b1 hbox hb_; have G1 := Aside0.mk (by rw [hb1_]; exact HB.out.size : w.heap.size ≤ b1); have Bb1 := Aside0.mk hbox; have R0n := Aside0.mk (Kd.C_below R0.out hb_); have R2n := Aside0.mk (Kd.C_below R2.out hb_); have HBn_ := Aside0.mk (below_then HB.out HB.out.size hb_); have N1 := Aside0.mk hb1_; have HBx := Aside0.mk hb_; clear HB hb_ hbox; have HB := HBn_; clear HBn_) | ((with_reducible refine gate_store (t := 25) (p := 1) rfl ?_); refine wpList_store_rowTo rfl 25 (.tmp 1) (.tmp 19) rfl rfl b1 (#[.slice A0 exP.length c0, .int .i64 0, .slice A2 ([3] : List Int).length c2, .int .i64 2]) rfl rfl 25 (#[.slice none 0 0, .int .i64 0, .slice none 0 0, .int .i64 0]) Bb1.out info25n rfl (by simp [Value.oneCell']) ?_; refine named_world _ ?_; intro w1 hw_; have B1 : Aside0 (w1.heap[b1]? = some (.cells #[.slice A0 exP.length c0, .int .i64 0, .slice A2 ([3] : List Int).length c2, .int .i64 2] 25 (0, 0))) := ⟨by rw [hw_]; exact setRow_heap _ _ _ _ _ _ Bb1.out⟩; have hbs_ := below_setRow HBx.out (by rw [N1.out]; exact Nat.le_refl _ : _ ≤ b1) (#[.slice A0 exP.length c0, .int .i64 0, .slice A2 ([3] : List Int).length c2, .int .i64 2]); rw [← hw_] at hbs_; have R0v1 := Aside0.mk (Kd.C_below R0.out hbs_); have R2v1 := Aside0.mk (Kd.C_below R2.out hbs_); have HB1 : Aside0 (Below w.heap.size w w1) := ⟨by rw [hw_]; exact below_setRow HB.out G1.out _⟩; clear Bb1 HB R0 R2 R0n R2n hbs_ HBx N1 hb1_; have HB := HB1; clear HB1; clear hw_) | ((with_reducible refine gate_dst (N := 21) rfl ?_); (try (refine gate_guard (by rfl) ?_; dsimp only)); refine wpList_load_row rfl 25 (.tmp 1) rfl b1 rfl 25 (#[.slice A0 exP.length c0, .int .i64 0, .slice A2 ([3] : List Int).length c2, .int .i64 2]) (0, 0) _ B1.out Try.underlying25 rfl info25n ?_) | ((with_reducible refine gate_callee (f := 10) rfl ?_); (try (refine gate_guard (by rfl) ?_; dsimp only)); refine goesL_ (some 22) rfl rfl Try.func10 (by kernel_rfl) rfl #[.agg #[.slice A0 exP.length c0, .int .i64 0, .slice A2 ([3] : List Int).length c2, .int .i64 2]] rfl qz20 ?_; refine (puzzle_Width.calls A0 c0 exP 0 A2 c2 [3] 2 1 0 _ R0v1.out K0.out R2v1.out K2.out (by kernel_rfl)).mono ?_; rintro e_ w_ ⟨rfl, hb_⟩; have R0v2 := Aside0.mk (Kd.C_below R0v1.out hb_); have R2v2 := Aside0.mk (Kd.C_below R2v1.out hb_); have B1v1 := Aside0.mk (blk_below B1.out hb_); have HBn_ := Aside0.mk (below_then HB.out HB.out.size hb_); clear HB hb_ R0v1 R2v1 B1; have HB := HBn_; clear HBn_; refine ⟨_, rfl, ?_⟩) | ((with_reducible refine gate_callee (f := 31) rfl ?_); (try (refine gate_guard (by rfl) ?_; dsimp only)); refine goesL_ (some 26) rfl rfl Try.func31 (by kernel_rfl) rfl #[.int .i64 1] rfl qz20 ?_; refine (skolemlaw35_example.calls 1 exP 0 [3] 1 _ rfl).mono ?_; rintro e_ w_ ⟨v0_, v2_, rfl, hN_, hR_, hb_⟩; obtain ⟨A1, c1, rfl, hc1_, hr0_⟩ := Kd.N_reads hN_; obtain ⟨A3, c3, rfl, hc3_, hr2_⟩ := Kd.R_reads hR_; have K1 := Aside0.mk hc1_; have K3 := Aside0.mk hc3_; have R0v3 := Aside0.mk (Kd.C_below R0v2.out hb_); have R2v3 := Aside0.mk (Kd.C_below R2v2.out hb_); have B1v2 := Aside0.mk (blk_below B1v1.out hb_); have HBn_ := Aside0.mk (below_then HB.out HB.out.size hb_); clear HB hb_ R0v2 R2v2 B1v1; have HB := HBn_; clear HBn_; have R1 := Aside0.mk hr0_; have R3 := Aside0.mk hr2_; clear hN_ hR_ hr0_ hr2_ hc1_ hc3_; refine ⟨_, rfl, ?_⟩) | ((with_reducible refine gate_callee (f := 14) rfl ?_); (try (refine gate_guard (by rfl) ?_; dsimp only)); refine goesL_ (some 27) rfl rfl Try.func14 (by kernel_rfl) rfl #[.agg #[.slice A1 exP.length c1, .int .i64 0, .slice A3 ([3] : List Int).length c3, .int .i64 1]] rfl qz20 ?_; refine (puzzle_Wins.calls A1 c1 exP 0 A3 c3 [3] 1 false 0 _ R1.out K1.out R3.out K3.out (by kernel_rfl)).mono ?_; rintro e_ w_ ⟨rfl, hb_⟩; have R0v4 := Aside0.mk (Kd.C_below R0v3.out hb_); have R2v4 := Aside0.mk (Kd.C_below R2v3.out hb_); have B1v3 := Aside0.mk (blk_below B1v2.out hb_); have R1v1 := Aside0.mk (Kd.C_below R1.out hb_); have R3v1 := Aside0.mk (Kd.C_below R3.out hb_); have HBn_ := Aside0.mk (below_then HB.out HB.out.size hb_); clear HB hb_ R0v3 R2v3 B1v2 R1 R3; have HB := HBn_; clear HBn_; refine ⟨_, rfl, ?_⟩) | ((with_reducible refine gate_dst (N := 31) rfl ?_); (try (refine gate_guard (by rfl) ?_; dsimp only)); refine wpList_load_row rfl 25 (.tmp 1) rfl b1 rfl 25 (#[.slice A0 exP.length c0, .int .i64 0, .slice A2 ([3] : List Int).length c2, .int .i64 2]) (0, 0) _ B1v3.out Try.underlying25 rfl info25n ?_) | ((with_reducible refine gate_callee (f := 14) rfl ?_); (try (refine gate_guard (by rfl) ?_; dsimp only)); refine goesL_ (some 32) rfl rfl Try.func14 (by kernel_rfl) rfl #[.agg #[.slice A0 exP.length c0, .int .i64 0, .slice A2 ([3] : List Int).length c2, .int .i64 2]] rfl qz20 ?_; refine (puzzle_Wins.calls A0 c0 exP 0 A2 c2 [3] 2 true 0 _ R0v4.out K0.out R2v4.out K2.out (by kernel_rfl)).mono ?_; rintro e_ w_ ⟨rfl, hb_⟩; have R0v5 := Aside0.mk (Kd.C_below R0v4.out hb_); have R2v5 := Aside0.mk (Kd.C_below R2v4.out hb_); have B1v4 := Aside0.mk (blk_below B1v3.out hb_); have HBn_ := Aside0.mk (below_then HB.out HB.out.size hb_); clear HB hb_ R0v4 R2v4 B1v3; have HB := HBn_; clear HBn_; refine ⟨_, rfl, ?_⟩) | ((with_reducible refine gate_dst (N := 36) rfl ?_); (try (refine gate_guard (by rfl) ?_; dsimp only)); refine wpList_load_row rfl 25 (.tmp 1) rfl b1 rfl 25 (#[.slice A0 exP.length c0, .int .i64 0, .slice A2 ([3] : List Int).length c2, .int .i64 2]) (0, 0) _ B1v4.out Try.underlying25 rfl info25n ?_) | ((with_reducible refine gate_callee (f := 12) rfl ?_); (try (refine gate_guard (by rfl) ?_; dsimp only)); refine goesL_ (some 37) rfl rfl Try.func12 (by kernel_rfl) rfl #[.agg #[.slice A0 exP.length c0, .int .i64 0, .slice A2 ([3] : List Int).length c2, .int .i64 2], .int .i64 2, .bool false] rfl qz20 ?_; refine (puzzle_Choice.calls A0 c0 exP 0 A2 c2 [3] 2 2 false [4] 0 _ R0v5.out K0.out R2v5.out K2.out (by kernel_rfl)).mono ?_; rintro e_ w_ ⟨v_, rfl, hR_, hb_⟩; obtain ⟨A8, c8, rfl, hc8_, hr_⟩ := Kd.R_reads hR_; have K8 := Aside0.mk hc8_; have R0v6 := Aside0.mk (Kd.C_below R0v5.out hb_); have R2v6 := Aside0.mk (Kd.C_below R2v5.out hb_); have B1v5 := Aside0.mk (blk_below B1v4.out hb_); have HBn_ := Aside0.mk (below_then HB.out HB.out.size hb_); clear HB hb_ R0v5 R2v5 B1v4; have HB := HBn_; clear HBn_; have R8 := Aside0.mk hr_; clear hR_ hr_ hc8_; refine ⟨_, rfl, ?_⟩) | ((with_reducible refine gate_dst (N := 41) rfl ?_); (try (refine gate_guard (by rfl) ?_; dsimp only)); refine wpList_load_row rfl 25 (.tmp 1) rfl b1 rfl 25 (#[.slice A0 exP.length c0, .int .i64 0, .slice A2 ([3] : List Int).length c2, .int .i64 2]) (0, 0) _ B1v5.out Try.underlying25 rfl info25n ?_) | ((with_reducible refine gate_callee (f := 16) rfl ?_); (try (refine gate_guard (by rfl) ?_; dsimp only)); refine goesL_ (some 42) rfl rfl Try.func16 (by kernel_rfl) rfl #[.agg #[.slice A0 exP.length c0, .int .i64 0, .slice A2 ([3] : List Int).length c2, .int .i64 2]] rfl qz20 ?_; refine (puzzle_Guide.calls A0 c0 exP 0 A2 c2 [3] 2 [[-1, -1, -1, -1], [1, -1, -1, -1]] 0 _ R0v6.out K0.out R2v6.out K2.out (by kernel_rfl)).mono ?_; rintro e_ w_ ⟨v_, rfl, hR_, hb_⟩; obtain ⟨A10, c10, rfl, hc10_, hr_⟩ := Kd.R_reads (Kd.S_R hR_); have K10 := Aside0.mk hc10_; have R0v7 := Aside0.mk (Kd.C_below R0v6.out hb_); have R2v7 := Aside0.mk (Kd.C_below R2v6.out hb_); have B1v6 := Aside0.mk (blk_below B1v5.out hb_); have R8v1 := Aside0.mk (Kd.C_below R8.out hb_); have HBn_ := Aside0.mk (below_then HB.out HB.out.size hb_); clear HB hb_ R0v6 R2v6 B1v5 R8; have HB := HBn_; clear HBn_; have R10 := Aside0.mk hr_; clear hR_ hr_ hc10_; refine ⟨_, rfl, ?_⟩) | ((with_reducible refine gate_dst (N := 46) rfl ?_); (try (refine gate_guard (by rfl) ?_; dsimp only)); refine wpList_load_row rfl 25 (.tmp 1) rfl b1 rfl 25 (#[.slice A0 exP.length c0, .int .i64 0, .slice A2 ([3] : List Int).length c2, .int .i64 2]) (0, 0) _ B1v6.out Try.underlying25 rfl info25n ?_) | ((with_reducible refine gate_dst (N := 47) rfl ?_); (try (refine gate_guard (by rfl) ?_; dsimp only)); refine slice_event ?hg (N := 47) ?hd (cs := #[.int .i64 (1)]) (t := 3) (n := 1) ?hr ?_; (case hd => rfl); (case hg => rfl); (case hr => exact qz23); intro p1 w_ hbox hb_; have R0v8 := Aside0.mk (Kd.C_below R0v7.out hb_); have R2v8 := Aside0.mk (Kd.C_below R2v7.out hb_); have B1v7 := Aside0.mk (blk_below B1v6.out hb_); have R8v2 := Aside0.mk (Kd.C_below R8v1.out hb_); have R10v1 := Aside0.mk (Kd.C_below R10.out hb_); have HBn_ := Aside0.mk (below_then HB.out HB.out.size hb_); clear HB hb_ R0v7 R2v7 B1v6 R8v1 R10; have HB := HBn_; clear HBn_; have Sp1 := Aside0.mk (C_ints (W := w_) [(1)] hbox rfl (by decide)); clear hbox) | ((with_reducible refine gate_callee (f := 22) rfl ?_); (try (refine gate_guard (by rfl) ?_; dsimp only)); refine goesL_ (some 48) rfl rfl Try.func22 (by kernel_rfl) rfl #[.agg #[.slice A0 exP.length c0, .int .i64 0, .slice A2 ([3] : List Int).length c2, .int .i64 2], .slice (some ⟨p1, 0, none⟩) ([1] : List Int).length 1] rfl qz20 ?_; refine (puzzle_Play.calls A0 c0 exP 0 A2 c2 [3] 2 ((some ⟨p1, 0, none⟩)) 1 [1] [0, 2, 3] 0 _ R0v8.out K0.out R2v8.out K2.out Sp1.out (by decide) (by kernel_rfl)).mono ?_; rintro e_ w_ ⟨v_, rfl, hR_, hb_⟩; obtain ⟨A12, c12, rfl, hc12_, hr_⟩ := Kd.R_reads hR_; have K12 := Aside0.mk hc12_; have R0v9 := Aside0.mk (Kd.C_below R0v8.out hb_); have R2v9 := Aside0.mk (Kd.C_below R2v8.out hb_); have B1v8 := Aside0.mk (blk_below B1v7.out hb_); have R8v3 := Aside0.mk (Kd.C_below R8v2.out hb_); have R10v2 := Aside0.mk (Kd.C_below R10v1.out hb_); have Sp1v1 := Aside0.mk (Kd.C_below Sp1.out hb_); have HBn_ := Aside0.mk (below_then HB.out HB.out.size hb_); clear HB hb_ R0v8 R2v8 B1v7 R8v2 R10v1 Sp1; have HB := HBn_; clear HBn_; have R12 := Aside0.mk hr_; clear hR_ hr_ hc12_; refine ⟨_, rfl, ?_⟩) | ((with_reducible refine gate_dst (N := 52) rfl ?_); (try (refine gate_guard (by rfl) ?_; dsimp only)); refine wpList_load_row rfl 25 (.tmp 1) rfl b1 rfl 25 (#[.slice A0 exP.length c0, .int .i64 0, .slice A2 ([3] : List Int).length c2, .int .i64 2]) (0, 0) _ B1v8.out Try.underlying25 rfl info25n ?_) | ((with_reducible refine gate_dst (N := 53) rfl ?_); (try (refine gate_guard (by rfl) ?_; dsimp only)); refine slice_event ?hg (N := 53) ?hd (cs := #[.int .i64 (1), .int .i64 (4)]) (t := 3) (n := 2) ?hr ?_; (case hd => rfl); (case hg => rfl); (case hr => exact qz23); intro p2 w_ hbox hb_; have R0v10 := Aside0.mk (Kd.C_below R0v9.out hb_); have R2v10 := Aside0.mk (Kd.C_below R2v9.out hb_); have B1v9 := Aside0.mk (blk_below B1v8.out hb_); have R8v4 := Aside0.mk (Kd.C_below R8v3.out hb_); have R10v3 := Aside0.mk (Kd.C_below R10v2.out hb_); have R12v1 := Aside0.mk (Kd.C_below R12.out hb_); have HBn_ := Aside0.mk (below_then HB.out HB.out.size hb_); clear HB hb_ R0v9 R2v9 B1v8 R8v3 R10v2 R12; have HB := HBn_; clear HBn_; have Sp2 := Aside0.mk (C_ints (W := w_) [(1), (4)] hbox rfl (by decide)); clear hbox) | ((with_reducible refine gate_callee (f := 22) rfl ?_); (try (refine gate_guard (by rfl) ?_; dsimp only)); refine goesL_ (some 54) rfl rfl Try.func22 (by kernel_rfl) rfl #[.agg #[.slice A0 exP.length c0, .int .i64 0, .slice A2 ([3] : List Int).length c2, .int .i64 2], .slice (some ⟨p2, 0, none⟩) ([1, 4] : List Int).length 2] rfl qz20 ?_; refine (puzzle_Play.calls A0 c0 exP 0 A2 c2 [3] 2 ((some ⟨p2, 0, none⟩)) 2 [1, 4] [0, 2, 3] 0 _ R0v10.out K0.out R2v10.out K2.out Sp2.out (by decide) (by kernel_rfl)).mono ?_; rintro e_ w_ ⟨v_, rfl, hR_, hb_⟩; obtain ⟨A14, c14, rfl, hc14_, hr_⟩ := Kd.R_reads hR_; have K14 := Aside0.mk hc14_; have R0v11 := Aside0.mk (Kd.C_below R0v10.out hb_); have R2v11 := Aside0.mk (Kd.C_below R2v10.out hb_); have B1v10 := Aside0.mk (blk_below B1v9.out hb_); have R8v5 := Aside0.mk (Kd.C_below R8v4.out hb_); have R10v4 := Aside0.mk (Kd.C_below R10v3.out hb_); have R12v2 := Aside0.mk (Kd.C_below R12v1.out hb_); have Sp2v1 := Aside0.mk (Kd.C_below Sp2.out hb_); have HBn_ := Aside0.mk (below_then HB.out HB.out.size hb_); clear HB hb_ R0v10 R2v10 B1v9 R8v4 R10v3 R12v1 Sp2; have HB := HBn_; clear HBn_; have R14 := Aside0.mk hr_; clear hR_ hr_ hc14_; refine ⟨_, rfl, ?_⟩) | ((with_reducible refine gate_dst (N := 58) rfl ?_); (try (refine gate_guard (by rfl) ?_; dsimp only)); refine wpList_load_row rfl 25 (.tmp 1) rfl b1 rfl 25 (#[.slice A0 exP.length c0, .int .i64 0, .slice A2 ([3] : List Int).length c2, .int .i64 2]) (0, 0) _ B1v10.out Try.underlying25 rfl info25n ?_) | ((with_reducible refine gate_callee (f := 22) rfl ?_); (try (refine gate_guard (by rfl) ?_; dsimp only)); refine goesL_ (some 59) rfl rfl Try.func22 (by kernel_rfl) rfl #[.agg #[.slice A0 exP.length c0, .int .i64 0, .slice A2 ([3] : List Int).length c2, .int .i64 2], .slice none 0 0] rfl qz20 ?_; refine (puzzle_Play.calls A0 c0 exP 0 A2 c2 [3] 2 (none) 0 [] [0, 1, 0] 0 _ R0v11.out K0.out R2v11.out K2.out (Kd.C_nil _ _) (by decide) (by kernel_rfl)).mono ?_; rintro e_ w_ ⟨v_, rfl, hR_, hb_⟩; obtain ⟨A16, c16, rfl, hc16_, hr_⟩ := Kd.R_reads hR_; have K16 := Aside0.mk hc16_; have R0v12 := Aside0.mk (Kd.C_below R0v11.out hb_); have R2v12 := Aside0.mk (Kd.C_below R2v11.out hb_); have B1v11 := Aside0.mk (blk_below B1v10.out hb_); have R8v6 := Aside0.mk (Kd.C_below R8v5.out hb_); have R10v5 := Aside0.mk (Kd.C_below R10v4.out hb_); have R12v3 := Aside0.mk (Kd.C_below R12v2.out hb_); have R14v1 := Aside0.mk (Kd.C_below R14.out hb_); have HBn_ := Aside0.mk (below_then HB.out HB.out.size hb_); clear HB hb_ R0v11 R2v11 B1v10 R8v5 R10v4 R12v2 R14; have HB := HBn_; clear HBn_; have R16 := Aside0.mk hr_; clear hR_ hr_ hc16_; refine ⟨_, rfl, ?_⟩) | ((with_reducible refine gate_dst (N := 85) rfl ?_); (try (refine gate_guard (by rfl) ?_; dsimp only)); refine slice_event ?hg (N := 85) ?hd (cs := #[.int .i64 (4)]) (t := 3) (n := 1) ?hr ?_; (case hd => rfl); (case hg => rfl); (case hr => exact qz23); intro p3 w_ hbox hb_; have R8v7 := Aside0.mk (Kd.C_below R8v6.out hb_); have R10v6 := Aside0.mk (Kd.C_below R10v5.out hb_); have R12v4 := Aside0.mk (Kd.C_below R12v3.out hb_); have R14v2 := Aside0.mk (Kd.C_below R14v1.out hb_); have R16v1 := Aside0.mk (Kd.C_below R16.out hb_); have HBn_ := Aside0.mk (below_then HB.out HB.out.size hb_); clear HB hb_ R8v6 R10v5 R12v3 R14v1 R16; have HB := HBn_; clear HBn_; have Sp3 := Aside0.mk (C_ints (W := w_) [(4)] hbox rfl (by decide)); clear hbox) | ((with_reducible refine gate_callee (f := 20) rfl ?_); (try (refine gate_guard (by rfl) ?_; dsimp only)); refine goesL_ (some 86) rfl rfl Try.func20 (by kernel_rfl) rfl #[.slice A8 ([4] : List Int).length c8, .slice (some ⟨p3, 0, none⟩) 1 1] rfl qz20 ?_; refine (skolemref03_Ints.calls 9 A8 c8 [4] (some ⟨p3, 0, none⟩) 1 [4] true _ R8v7.out K8.out Sp3.out (by decide) (by kernel_rfl)).mono ?_; rintro e_ w_ ⟨rfl, hd_⟩; have hb_ := hd_.below; have R8v8 := Aside0.mk (Kd.C_below R8v7.out hb_); have R10v7 := Aside0.mk (Kd.C_below R10v6.out hb_); have R12v5 := Aside0.mk (Kd.C_below R12v4.out hb_); have R14v3 := Aside0.mk (Kd.C_below R14v2.out hb_); have R16v2 := Aside0.mk (Kd.C_below R16v1.out hb_); have Sp3v1 := Aside0.mk (Kd.C_below Sp3.out hb_); have HBn_ := Aside0.mk (below_then HB.out HB.out.size hb_); clear HB hb_ R8v7 R10v6 R12v4 R14v2 R16v1 Sp3 hd_; have HB := HBn_; clear HBn_; refine ⟨_, rfl, ?_⟩) | ((with_reducible refine gate_dst (N := 103) rfl ?_); (try (refine gate_guard (by rfl) ?_; dsimp only)); refine slice_event ?hg (N := 103) ?hd (cs := #[.int .i64 (-1), .int .i64 (-1), .int .i64 (-1), .int .i64 (-1)]) (t := 3) (n := 4) ?hr ?_; (case hd => rfl); (case hg => rfl); (case hr => exact qz23); intro q1 w_ hbox hb_; have R10v8 := Aside0.mk (Kd.C_below R10v7.out hb_); have R12v6 := Aside0.mk (Kd.C_below R12v5.out hb_); have R14v4 := Aside0.mk (Kd.C_below R14v3.out hb_); have R16v3 := Aside0.mk (Kd.C_below R16v2.out hb_); have HBn_ := Aside0.mk (below_then HB.out HB.out.size hb_); clear HB hb_ R10v7 R12v5 R14v3 R16v2; have HB := HBn_; clear HBn_; have Sq1 := Aside0.mk (C_ints (W := w_) [(-1), (-1), (-1), (-1)] hbox rfl (by decide)); clear hbox) | ((with_reducible refine gate_dst (N := 104) rfl ?_); (try (refine gate_guard (by rfl) ?_; dsimp only)); refine slice_event ?hg (N := 104) ?hd (cs := #[.int .i64 (1), .int .i64 (-1), .int .i64 (-1), .int .i64 (-1)]) (t := 3) (n := 4) ?hr ?_; (case hd => rfl); (case hg => rfl); (case hr => exact qz23); intro q2 w_ hbox hb_; have R10v9 := Aside0.mk (Kd.C_below R10v8.out hb_); have R12v7 := Aside0.mk (Kd.C_below R12v6.out hb_); have R14v5 := Aside0.mk (Kd.C_below R14v4.out hb_); have R16v4 := Aside0.mk (Kd.C_below R16v3.out hb_); have Sq1v1 := Aside0.mk (Kd.C_below Sq1.out hb_); have HBn_ := Aside0.mk (below_then HB.out HB.out.size hb_); clear HB hb_ R10v8 R12v6 R14v4 R16v3 Sq1; have HB := HBn_; clear HBn_; have Sq2 := Aside0.mk (C_ints (W := w_) [(1), (-1), (-1), (-1)] hbox rfl (by decide)); clear hbox) | ((with_reducible refine gate_dst (N := 105) rfl ?_); (try (refine gate_guard (by rfl) ?_; dsimp only)); refine slice_event ?hg (N := 105) ?hd (cs := #[.slice (some ⟨q1, 0, none⟩) 4 4, .slice (some ⟨q2, 0, none⟩) 4 4]) (t := 23) (n := 2) ?hr ?_; (case hd => rfl); (case hg => rfl); (case hr => exact qz23); intro q3 w_ hbox hb_; have R10v10 := Aside0.mk (Kd.C_below R10v9.out hb_); have R12v8 := Aside0.mk (Kd.C_below R12v7.out hb_); have R14v6 := Aside0.mk (Kd.C_below R14v5.out hb_); have R16v5 := Aside0.mk (Kd.C_below R16v4.out hb_); have Sq1v2 := Aside0.mk (Kd.C_below Sq1v1.out hb_); have Sq2v1 := Aside0.mk (Kd.C_below Sq2.out hb_); have HBn_ := Aside0.mk (below_then HB.out HB.out.size hb_); clear HB hb_ R10v9 R12v7 R14v5 R16v4 Sq1v1 Sq2; have HB := HBn_; clear HBn_; have Sq3 := Aside0.mk (C_lists (W := w_) [[-1, -1, -1, -1], [1, -1, -1, -1]] hbox (by decide) (fun j x hx => (match j, x, hx with | 0, x, hx => by obtain rfl := Option.some.inj hx; exact ⟨_, _, rfl, (by decide), Sq1v2.out⟩ | 1, x, hx => by obtain rfl := Option.some.inj hx; exact ⟨_, _, rfl, (by decide), Sq2v1.out⟩ | (j + 2), x, hx => by simp at hx))); clear hbox) | ((with_reducible refine gate_callee (f := 21) rfl ?_); (try (refine gate_guard (by rfl) ?_; dsimp only)); refine goesL_ (some 106) rfl rfl Try.func21 (by kernel_rfl) rfl #[.slice A10 ([[-1, -1, -1, -1], [1, -1, -1, -1]] : List (List Int)).length c10, .slice (some ⟨q3, 0, none⟩) 2 2] rfl qz20 ?_; refine (skolemref03_Lists.calls 20 A10 c10 [[-1, -1, -1, -1], [1, -1, -1, -1]] (some ⟨q3, 0, none⟩) 2 [[-1, -1, -1, -1], [1, -1, -1, -1]] true _ R10v10.out K10.out Sq3.out (by decide) (by kernel_rfl)).mono ?_; rintro e_ w_ ⟨rfl, hd_⟩; have hb_ := hd_.below; have R10v11 := Aside0.mk (Kd.C_below R10v10.out hb_); have R12v9 := Aside0.mk (Kd.C_below R12v8.out hb_); have R14v7 := Aside0.mk (Kd.C_below R14v6.out hb_); have R16v6 := Aside0.mk (Kd.C_below R16v5.out hb_); have Sq1v3 := Aside0.mk (Kd.C_below Sq1v2.out hb_); have Sq2v2 := Aside0.mk (Kd.C_below Sq2v1.out hb_); have Sq3v1 := Aside0.mk (Kd.C_below Sq3.out hb_); have HBn_ := Aside0.mk (below_then HB.out HB.out.size hb_); clear HB hb_ R10v10 R12v8 R14v6 R16v5 Sq1v2 Sq2v1 Sq3 hd_; have HB := HBn_; clear HBn_; refine ⟨_, rfl, ?_⟩) | ((with_reducible refine gate_dst (N := 112) rfl ?_); (try (refine gate_guard (by rfl) ?_; dsimp only)); refine slice_event ?hg (N := 112) ?hd (cs := #[.slice A12 ([0, 2, 3] : List Int).length c12, .slice A14 ([0, 2, 3] : List Int).length c14, .slice A16 ([0, 1, 0] : List Int).length c16]) (t := 23) (n := 3) ?hr ?_; (case hd => rfl); (case hg => rfl); (case hr => exact qz23); intro q4 w_ hbox hb_; have R12v10 := Aside0.mk (Kd.C_below R12v9.out hb_); have R14v8 := Aside0.mk (Kd.C_below R14v7.out hb_); have R16v7 := Aside0.mk (Kd.C_below R16v6.out hb_); have HBn_ := Aside0.mk (below_then HB.out HB.out.size hb_); clear HB hb_ R12v9 R14v7 R16v6; have HB := HBn_; clear HBn_; have Sq4 := Aside0.mk (C_lists (W := w_) [[0, 2, 3], [0, 2, 3], [0, 1, 0]] hbox (by decide) (fun j x hx => (match j, x, hx with | 0, x, hx => by obtain rfl := Option.some.inj hx; exact ⟨_, _, rfl, K12.out, R12v10.out⟩ | 1, x, hx => by obtain rfl := Option.some.inj hx; exact ⟨_, _, rfl, K14.out, R14v8.out⟩ | 2, x, hx => by obtain rfl := Option.some.inj hx; exact ⟨_, _, rfl, K16.out, R16v7.out⟩ | (j + 3), x, hx => by simp at hx))); clear hbox) | ((with_reducible refine gate_dst (N := 113) rfl ?_); (try (refine gate_guard (by rfl) ?_; dsimp only)); refine slice_event ?hg (N := 113) ?hd (cs := #[.int .i64 (0), .int .i64 (2), .int .i64 (3)]) (t := 3) (n := 3) ?hr ?_; (case hd => rfl); (case hg => rfl); (case hr => exact qz23); intro q5 w_ hbox hb_; have Sq4v1 := Aside0.mk (Kd.C_below Sq4.out hb_); have HBn_ := Aside0.mk (below_then HB.out HB.out.size hb_); clear HB hb_ Sq4; have HB := HBn_; clear HBn_; have Sq5 := Aside0.mk (C_ints (W := w_) [(0), (2), (3)] hbox rfl (by decide)); clear hbox) | ((with_reducible refine gate_dst (N := 114) rfl ?_); (try (refine gate_guard (by rfl) ?_; dsimp only)); refine slice_event ?hg (N := 114) ?hd (cs := #[.int .i64 (0), .int .i64 (2), .int .i64 (3)]) (t := 3) (n := 3) ?hr ?_; (case hd => rfl); (case hg => rfl); (case hr => exact qz23); intro q6 w_ hbox hb_; have Sq4v2 := Aside0.mk (Kd.C_below Sq4v1.out hb_); have Sq5v1 := Aside0.mk (Kd.C_below Sq5.out hb_); have HBn_ := Aside0.mk (below_then HB.out HB.out.size hb_); clear HB hb_ Sq4v1 Sq5; have HB := HBn_; clear HBn_; have Sq6 := Aside0.mk (C_ints (W := w_) [(0), (2), (3)] hbox rfl (by decide)); clear hbox) | ((with_reducible refine gate_dst (N := 115) rfl ?_); (try (refine gate_guard (by rfl) ?_; dsimp only)); refine slice_event ?hg (N := 115) ?hd (cs := #[.int .i64 (0), .int .i64 (1), .int .i64 (0)]) (t := 3) (n := 3) ?hr ?_; (case hd => rfl); (case hg => rfl); (case hr => exact qz23); intro q7 w_ hbox hb_; have Sq4v3 := Aside0.mk (Kd.C_below Sq4v2.out hb_); have Sq5v2 := Aside0.mk (Kd.C_below Sq5v1.out hb_); have Sq6v1 := Aside0.mk (Kd.C_below Sq6.out hb_); have HBn_ := Aside0.mk (below_then HB.out HB.out.size hb_); clear HB hb_ Sq4v2 Sq5v1 Sq6; have HB := HBn_; clear HBn_; have Sq7 := Aside0.mk (C_ints (W := w_) [(0), (1), (0)] hbox rfl (by decide)); clear hbox) | ((with_reducible refine gate_dst (N := 116) rfl ?_); (try (refine gate_guard (by rfl) ?_; dsimp only)); refine slice_event ?hg (N := 116) ?hd (cs := #[.slice (some ⟨q5, 0, none⟩) 3 3, .slice (some ⟨q6, 0, none⟩) 3 3, .slice (some ⟨q7, 0, none⟩) 3 3]) (t := 23) (n := 3) ?hr ?_; (case hd => rfl); (case hg => rfl); (case hr => exact qz23); intro q8 w_ hbox hb_; have Sq4v4 := Aside0.mk (Kd.C_below Sq4v3.out hb_); have Sq5v3 := Aside0.mk (Kd.C_below Sq5v2.out hb_); have Sq6v2 := Aside0.mk (Kd.C_below Sq6v1.out hb_); have Sq7v1 := Aside0.mk (Kd.C_below Sq7.out hb_); have HBn_ := Aside0.mk (below_then HB.out HB.out.size hb_); clear HB hb_ Sq4v3 Sq5v2 Sq6v1 Sq7; have HB := HBn_; clear HBn_; have Sq8 := Aside0.mk (C_lists (W := w_) [[0, 2, 3], [0, 2, 3], [0, 1, 0]] hbox (by decide) (fun j x hx => (match j, x, hx with | 0, x, hx => by obtain rfl := Option.some.inj hx; exact ⟨_, _, rfl, (by decide), Sq5v3.out⟩ | 1, x, hx => by obtain rfl := Option.some.inj hx; exact ⟨_, _, rfl, (by decide), Sq6v2.out⟩ | 2, x, hx => by obtain rfl := Option.some.inj hx; exact ⟨_, _, rfl, (by decide), Sq7v1.out⟩ | (j + 3), x, hx => by simp at hx))); clear hbox) | ((with_reducible refine gate_callee (f := 21) rfl ?_); (try (refine gate_guard (by rfl) ?_; dsimp only)); refine goesL_ (some 117) rfl rfl Try.func21 (by kernel_rfl) rfl #[.slice (some ⟨q4, 0, none⟩) 3 3, .slice (some ⟨q8, 0, none⟩) 3 3] rfl qz20 ?_; refine (skolemref03_Lists.calls 20 (some ⟨q4, 0, none⟩) 3 [[0, 2, 3], [0, 2, 3], [0, 1, 0]] (some ⟨q8, 0, none⟩) 3 [[0, 2, 3], [0, 2, 3], [0, 1, 0]] true _ Sq4v4.out (by decide) Sq8.out (by decide) (by kernel_rfl)).mono ?_; rintro e_ w_ ⟨rfl, hd_⟩; have hb_ := hd_.below; have Sq4v5 := Aside0.mk (Kd.C_below Sq4v4.out hb_); have Sq5v4 := Aside0.mk (Kd.C_below Sq5v3.out hb_); have Sq6v3 := Aside0.mk (Kd.C_below Sq6v2.out hb_); have Sq7v2 := Aside0.mk (Kd.C_below Sq7v1.out hb_); have Sq8v1 := Aside0.mk (Kd.C_below Sq8.out hb_); have HBn_ := Aside0.mk (below_then HB.out HB.out.size hb_); clear HB hb_ Sq4v4 Sq5v3 Sq6v2 Sq7v1 Sq8 hd_; have HB := HBn_; clear HBn_; refine ⟨_, rfl, ?_⟩))
  go_ret
  exact ⟨rfl, HB.out⟩
/-- The examples of the document hold: one answer. -/
def skolemlaw35_head.f (k : Nat) : Option Bool := some true
theorem skolemlaw35_head.mono : ∀ k, LeO (skolemlaw35_head.f k) (skolemlaw35_head.f (k + 1)) := fun k => LeO.refl _
theorem head_true : skolemlaw35_head.f 40 = some true := rfl
theorem skolemlaw35_head.calls (k : Nat) (r : Bool) (w : World) (h : skolemlaw35_head.f k = some r) :
    Calls Try.prog 9 #[] w fun e w' => e = .returned (.bool r) ∧ Below w.heap.size w w' := by
  obtain rfl : r = true := (Option.some.inj h).symm
  exact head.calls w
end Go.Proofs.Ytjlehbncpjccmaa.Q
namespace Go.Proofs.Ytjlehbncpjccmaa.Q
open Go.RowKit Go.Proofs.YtjlehbncpjccmaaW.PrintWords Go.Proofs.YtjlehbncpjccmaaW.PrintLast Go.Proofs.YtjlehbncpjccmaaW.PrintMore
set_option linter.unusedVariables false
set_option linter.unusedSimpArgs false

theorem head_ev : Ev (fun k => skolemlaw35_head.f k) true := Ev.of skolemlaw35_head.mono head_true
theorem head_end : Ev (fun k => (skolemlaw35_head.f k).bind fun t => some t) true := Ev.bind head_ev (Ev.const _)
end Go.Proofs.Ytjlehbncpjccmaa.Q
namespace Go.Proofs.Ytjlehbncpjccmaa.Q
open Go.RowKit Go.Proofs.YtjlehbncpjccmaaW.PrintWords Go.Proofs.YtjlehbncpjccmaaW.PrintLast Go.Proofs.YtjlehbncpjccmaaW.PrintMore
set_option linter.unusedVariables false
set_option linter.unusedSimpArgs false

theorem has_l (l : List Int) (x : Int) (hl : (l.length : Int) ≤ 9223372036854775807) : ∀ (n i : Nat), i + n = l.length → Ev (fun k => skolemref03_Has.l0 k l x (i : Int)) (decide (x ∈ l.drop i))
  | 0, i, h => by
    refine Ev.succ ?_
    simp only [skolemref03_Has.l0]
    simp only [if_neg (show ¬ ((i : Int) < (l.length : Int)) by omega)]
    exact (Ev.const _).cong (by rw [List.drop_of_length_le (by omega)]; simp)
  | n + 1, i, h => by
    refine Ev.succ ?_
    simp only [skolemref03_Has.l0]
    simp only [if_pos (show (i : Int) < (l.length : Int) by omega), if_pos (show (0 : Int) ≤ i by omega), w_nat i (by omega)]
    rw [drop_rd l i (by omega)]
    by_cases hx : rd l (i : Int) = x
    · simp only [if_pos hx]
      exact (Ev.const _).cong (by simp [hx])
    · simp only [if_neg hx]
      exact (has_l l x hl n (i + 1) (by omega)).cong (by simp [Ne.symm hx])
theorem has_ev (l : List Int) (x : Int) (hl : (l.length : Int) ≤ 9223372036854775807) : Ev (fun k => skolemref03_Has.f k l x) (decide (x ∈ l)) := has_l l x hl l.length 0 (by omega)

section may
variable (ps : List S55) (st : Int) (gs : List Int) (mv : Int)
def goalsB (n : Int) (gs : List Int) (i : Nat) : Bool := !((gs.drop i).any (outB n)) && ascB (gs.drop (i - 1))
theorem may_l2 (n : Int) (hg : (gs.length : Int) ≤ 9223372036854775807) : ∀ (m i : Nat), i + m = gs.length → Ev (fun k => skolemref35_May.l2 k n (i : Int) ps st gs mv) (goalsB n gs i)
  | 0, i, h => by
    refine Ev.succ ?_
    simp only [skolemref35_May.l2]
    simp only [if_neg (show ¬ ((i : Int) < (gs.length : Int)) by omega)]
    refine (Ev.const _).cong ?_
    rw [goalsB, List.drop_of_length_le (show gs.length ≤ i by omega)]
    by_cases hi : 1 ≤ i
    · rw [ascB_end gs i hi (by omega)]; rfl
    · have : i = 0 := by omega
      subst this
      rw [List.drop_of_length_le (by omega)]; rfl
  | m + 1, i, h => by
    refine Ev.succ ?_
    have ih := may_l2 n hg m (i + 1) (by omega)
    simp only [skolemref35_May.l2]
    simp only [if_pos (show (i : Int) < (gs.length : Int) by omega), if_pos (show (0 : Int) ≤ i by omega), w_nat i (by omega)]
    have hd := drop_rd gs i (by omega)
    by_cases h1 : rd gs (i : Int) < 0
    · simp only [if_pos h1]
      exact (Ev.const _).cong (by rw [goalsB, hd]; simp [outB, h1])
    simp only [if_neg h1]
    by_cases h2 : rd gs (i : Int) ≥ n
    · simp only [if_pos h2]
      exact (Ev.const _).cong (by rw [goalsB, hd]; simp [outB, h2])
    simp only [if_neg h2]
    have ho : outB n (rd gs (i : Int)) = false := by simp [outB, h1, h2]
    by_cases hi : (i : Int) > 0
    · simp only [if_pos hi, w_id (show -9223372036854775808 ≤ (i : Int) - 1 ∧ (i : Int) - 1 < 9223372036854775808 by omega), if_pos (show (0 : Int) ≤ (i : Int) - 1 by omega), if_pos (show (i : Int) - 1 < (gs.length : Int) by omega)]
      have ha := ascB_drop gs i (by omega) (by omega)
      by_cases h3 : rd gs ((i : Int) - 1) ≥ rd gs (i : Int)
      · simp only [if_pos h3]
        exact (Ev.const _).cong (by rw [goalsB, ha]; simp [show ¬ (rd gs ((i : Int) - 1) < rd gs (i : Int)) by omega])
      · simp only [if_neg h3]
        exact ih.cong (by rw [goalsB, goalsB, ha, hd, List.any_cons, ho, Nat.add_sub_cancel]; simp [show rd gs ((i : Int) - 1) < rd gs (i : Int) by omega, hd])
    · simp only [if_neg hi]
      have : i = 0 := by omega
      subst this
      exact ih.cong (by rw [goalsB, goalsB, hd, List.any_cons, ho]; simp)
theorem may_l1 (n : Int) (i : Nat) (tl : List Int) (v : Bool) (ht : (tl.length : Int) ≤ 9223372036854775807) (hi : (i : Int) + 1 ≤ 9223372036854775807) (hv : Ev (fun k => skolemref35_May.l0 k n ((i + 1 : Nat) : Int) ps st gs mv) v) : ∀ (m j : Nat), j + m = tl.length →
    Ev (fun k => skolemref35_May.l1 k n (i : Int) tl (j : Int) ps st gs mv) (!((tl.drop j).any fun x => decide ((tl.length : Int) > 4) || outB n x) && v)
  | 0, j, h => by
    refine Ev.succ ?_
    simp only [skolemref35_May.l1]
    simp only [if_neg (show ¬ ((j : Int) < (tl.length : Int)) by omega), w_nat i hi]
    exact hv.cong (by rw [List.drop_of_length_le (by omega)]; simp)
  | m + 1, j, h => by
    refine Ev.succ ?_
    have ih := may_l1 n i tl v ht hi hv m (j + 1) (by omega)
    simp only [skolemref35_May.l1]
    simp only [if_pos (show (j : Int) < (tl.length : Int) by omega), if_pos (show (0 : Int) ≤ j by omega), w_nat j (by omega)]
    rw [drop_rd tl j (by omega), List.any_cons]
    by_cases h0 : (tl.length : Int) > 4
    · simp only [if_pos h0]
      exact (Ev.const _).cong (by simp [h0])
    simp only [if_neg h0]
    by_cases h1 : rd tl (j : Int) < 0
    · simp only [if_pos h1]
      exact (Ev.const _).cong (by simp [outB, h1])
    simp only [if_neg h1]
    by_cases h2 : rd tl (j : Int) ≥ n
    · simp only [if_pos h2]
      exact (Ev.const _).cong (by simp [outB, h2])
    simp only [if_neg h2]
    have ho : outB n (rd tl (j : Int)) = false := by simp [outB, h1, h2]
    exact ih.cong (by simp [ho, h0])
theorem bad_any (n : Int) (x : S55) : (x.f1.any fun y => decide ((x.f1.length : Int) > 4) || outB n y) = badP n x := by
  unfold badP
  by_cases h : (x.f1.length : Int) > 4
  · have h2 : 0 < x.f1.length := by omega
    obtain ⟨a, r, hr⟩ : ∃ a r, x.f1 = a :: r := by
      cases hx : x.f1 with
      | nil => rw [hx] at h2; exact absurd h2 (by simp)
      | cons a r => exact ⟨a, r, rfl⟩
    simp only [h, decide_true, Bool.true_or]
    rw [hr]
    simp
  · simp [h]
theorem may_l0 (n : Int) (hn : n = ps.length) (hp : (ps.length : Int) ≤ 9223372036854775807) (hg : (gs.length : Int) ≤ 9223372036854775807) (ht : ∀ x ∈ ps, (x.f1.length : Int) ≤ 9223372036854775807) : ∀ (m i : Nat), i + m = ps.length →
    Ev (fun k => skolemref35_May.l0 k n (i : Int) ps st gs mv) (!((ps.drop i).any (badP n)) && goalsB n gs 0)
  | 0, i, h => by
    refine Ev.succ ?_
    simp only [skolemref35_May.l0]
    simp only [if_neg (show ¬ ((i : Int) < n) by omega)]
    exact (may_l2 ps st gs mv n hg gs.length 0 (by omega)).cong (by rw [List.drop_of_length_le (show ps.length ≤ i by omega)]; simp)
  | m + 1, i, h => by
    refine Ev.succ ?_
    have ih := may_l0 n hn hp hg ht m (i + 1) (by omega)
    simp only [skolemref35_May.l0]
    simp only [if_pos (show (i : Int) < n by omega), if_pos (show (0 : Int) ≤ i by omega), if_pos (show (i : Int) < (ps.length : Int) by omega)]
    have hmem : rd_T55 ps (i : Int) ∈ ps := List.mem_of_mem_drop (drop_55 ps i (by omega) ▸ List.mem_cons_self)
    exact (may_l1 ps st gs mv n i _ _ (ht _ hmem) (by omega) ih (rd_T55 ps (i : Int)).f1.length 0 (by omega)).cong (by
      rw [drop_55 ps i (by omega), List.any_cons, ← bad_any]
      simp [Bool.and_assoc])
end may
theorem may_ev (ps : List S55) (st : Int) (gs : List Int) (mv : Int) (hs : Small ps gs) : Ev (fun k => skolemref35_May.f k ps st gs mv) (mayB ps st gs mv) := by
  simp only [skolemref35_May.f]
  have hf : Ev (fun k => skolemref35_May.j0 k (ps.length : Int) true ps st gs mv) false := by
    refine Ev.succ ?_
    simp only [skolemref35_May.j0, if_true]
    exact Ev.const _
  by_cases h1 : (ps.length : Int) < 1
  · simp only [if_pos h1]
    exact hf.cong (by
      have : outB (ps.length : Int) st = true := by simp [outB]; omega
      simp [mayB, this])
  simp only [if_neg h1]
  by_cases h2 : (ps.length : Int) > 16
  · simp only [if_pos h2]
    exact hf.cong (by simp [mayB, h2])
  simp only [if_neg h2]
  by_cases h3 : st < 0
  · simp only [if_pos h3]
    exact hf.cong (by simp [mayB, outB, h3])
  simp only [if_neg h3]
  by_cases h4 : st ≥ (ps.length : Int)
  · simp only [if_pos h4]
    exact hf.cong (by simp [mayB, outB, h4])
  simp only [if_neg h4]
  by_cases h5 : mv < 0
  · simp only [if_pos h5]
    exact hf.cong (by simp [mayB, h5])
  simp only [if_neg h5]
  by_cases h6 : mv > 8
  · simp only [h6, decide_true]
    exact hf.cong (by simp [mayB, h6])
  simp only [h6, decide_false]
  refine Ev.succ ?_
  simp only [skolemref35_May.j0, Bool.false_eq_true, if_false]
  refine (may_l0 ps st gs mv _ rfl (by have := hs.np; omega) (by have := hs.ng; omega) (fun x hx => by have := hs.nt x hx; omega) ps.length 0 (by omega)).cong ?_
  simp only [mayB, goalsB, outB, h2, h3, h4, h5, h6, decide_false, Bool.not_false, Bool.true_and, Bool.or_false, List.drop_zero, Nat.zero_sub]
  rw [Bool.and_comm]

theorem width_l (ps : List S55) (st : Int) (gs : List Int) (mv : Int) (hs : Small ps gs) : ∀ (m i : Nat) (x : Nat), i + m = ps.length → Ev (fun k => skolemref35_width.l0 k (x : Int) (i : Int) ps st gs mv) (((ps.drop i).foldl (fun w x => max w (needW x.f1.length)) (needW x) : Nat) : Int)
  | 0, i, x, h => by
    refine Ev.succ ?_
    simp only [skolemref35_width.l0]
    simp only [if_neg (show ¬ ((i : Int) < (ps.length : Int)) by omega)]
    rw [List.drop_of_length_le (show ps.length ≤ i by omega)]
    by_cases h1 : (x : Int) ≤ 1
    · simp only [if_pos h1]
      exact (Ev.const _).cong (by simp [needW, show x ≤ 1 by omega])
    simp only [if_neg h1]
    by_cases h2 : (x : Int) = 2
    · simp only [if_pos h2]
      exact (Ev.const _).cong (by simp [needW, show x = 2 by omega])
    simp only [if_neg h2]
    exact (Ev.const _).cong (by simp [needW, show ¬ x ≤ 1 by omega, show ¬ x ≤ 2 by omega])
  | m + 1, i, x, h => by
    refine Ev.succ ?_
    have ih := width_l ps st gs mv hs m (i + 1) (max x (rd_T55 ps (i : Int)).f1.length) (by omega)
    simp only [skolemref35_width.l0]
    simp only [if_pos (show (i : Int) < (ps.length : Int) by omega), if_pos (show (0 : Int) ≤ i by omega), w_nat i (by have := hs.np; omega)]
    have hmx : mx (x : Int) ((rd_T55 ps (i : Int)).f1.length : Int) = ((max x (rd_T55 ps (i : Int)).f1.length : Nat) : Int) := by
      unfold mx; split <;> omega
    rw [hmx]
    refine ih.cong ?_
    rw [drop_55 ps i (by omega), List.foldl_cons]
    congr 2
    unfold needW
    repeat' split
    all_goals omega
theorem width_ev (ps : List S55) (st : Int) (gs : List Int) (mv : Int) (hs : Small ps gs) : Ev (fun k => skolemref35_width.f k ps st gs mv) (widthP ps : Int) := by
  exact width_l ps st gs mv hs ps.length 0 0 (by omega)
theorem Width_ev (ps : List S55) (st : Int) (gs : List Int) (mv : Int) (hs : Small ps gs) : Ev (fun k => skolemref35_Width.f k ps st gs mv) (if mayB ps st gs mv then ((widthP ps : Int), 0) else (0, 2)) := by
  simp only [skolemref35_Width.f]
  refine Ev.bind (may_ev ps st gs mv hs) ?_
  cases mayB ps st gs mv with
  | true =>
    simp only [if_true]
    exact Ev.bind (width_ev ps st gs mv hs) (Ev.const _)
  | false =>
    simp only [Bool.false_eq_true, if_false]
    exact Ev.const _
theorem choice_l (b : Nat) (hb : b ≤ 2) (first : Int) (hf : 0 ≤ first ∧ first ≤ 100) : ∀ (m i : Nat), i + m = b → Ev (fun k => skolemref35_choice.l0 k (b : Int) first ((List.range i).map fun (j : Nat) => first + (j : Int)) (i : Int)) ((List.range b).map fun (j : Nat) => first + (j : Int))
  | 0, i, h => by
    refine Ev.succ ?_
    simp only [skolemref35_choice.l0]
    simp only [if_neg (show ¬ ((i : Int) < (b : Int)) by omega)]
    exact (Ev.const _).cong (by rw [show i = b by omega])
  | m + 1, i, h => by
    refine Ev.succ ?_
    have ih := choice_l b hb first hf m (i + 1) (by omega)
    simp only [skolemref35_choice.l0]
    simp only [if_pos (show (i : Int) < (b : Int) by omega), List.length_map, List.length_range, if_pos (show i < 17592186044416 by omega), w_nat i (by omega), w_id (show -9223372036854775808 ≤ first + (i : Int) ∧ first + (i : Int) < 9223372036854775808 by omega)]
    rw [List.range_succ, List.map_append] at ih
    exact ih
theorem choice_ev (ps : List S55) (st : Int) (gs : List Int) (mv : Int) (hs : Small ps gs) (t : Int) (h1 : 1 ≤ t) (h2 : t ≤ 8) (mine : Bool) : Ev (fun k => skolemref35_choice.f k ps st gs mv t mine) (choiceF (widthP ps) t mine) := by
  simp only [skolemref35_choice.f]
  refine Ev.bind (width_ev ps st gs mv hs) ?_
  have hb := widthP_le ps
  obtain ⟨b, hbb⟩ : ∃ b, widthP ps = b := ⟨_, rfl⟩
  rw [hbb] at hb ⊢
  obtain ⟨m, hm⟩ : ∃ m, t - 1 = m := ⟨_, rfl⟩
  have hm1 : 0 ≤ m ∧ m ≤ 7 := by omega
  have hb2 : 0 ≤ 2 * (b : Int) * m ∧ 2 * (b : Int) * m ≤ 28 := by
    obtain rfl | rfl | rfl : b = 0 ∨ b = 1 ∨ b = 2 := by omega
    all_goals omega
  unfold choiceF
  rw [hm]
  rw [w_id (show -9223372036854775808 ≤ m ∧ m < 9223372036854775808 by omega), w_id (show -9223372036854775808 ≤ 2 * (b : Int) ∧ 2 * (b : Int) < 9223372036854775808 by omega), w_id (show -9223372036854775808 ≤ 2 * (b : Int) * m ∧ 2 * (b : Int) * m < 9223372036854775808 by omega), w_id (show -9223372036854775808 ≤ 2 * (b : Int) * m + 1 ∧ 2 * (b : Int) * m + 1 < 9223372036854775808 by omega), w_id (show -9223372036854775808 ≤ 2 * (b : Int) * m + 1 + b ∧ 2 * (b : Int) * m + 1 + b < 9223372036854775808 by omega)]
  cases mine with
  | true =>
    simp only [if_true]
    refine Ev.succ ?_
    simp only [skolemref35_choice.j0]
    exact (choice_l b hb _ (by omega) b 0 (by omega)).cong (by simp)
  | false =>
    simp only [Bool.false_eq_true, if_false]
    refine Ev.succ ?_
    simp only [skolemref35_choice.j0]
    exact (choice_l b hb _ (by omega) b 0 (by omega)).cong (by
      apply List.map_congr_left
      intro j _
      omega)
theorem Choice_ev (ps : List S55) (st : Int) (gs : List Int) (mv : Int) (hs : Small ps gs) (t : Int) (mine : Bool) : Ev (fun k => skolemref35_Choice.f k ps st gs mv t mine) (if mayB ps st gs mv then (if 1 ≤ t ∧ t ≤ mv then (choiceF (widthP ps) t mine, 0) else ([], 4)) else ([], 2)) := by
  simp only [skolemref35_Choice.f]
  refine Ev.bind (may_ev ps st gs mv hs) ?_
  cases hm : mayB ps st gs mv with
  | true =>
    have hmv := mayB_mv hm
    simp only [if_true]
    by_cases h1 : t < 1
    · simp only [if_pos h1]
      exact (Ev.const _).cong (by rw [if_neg (by omega)])
    simp only [if_neg h1]
    by_cases h2 : t > mv
    · simp only [if_pos h2]
      exact (Ev.const _).cong (by rw [if_neg (by omega)])
    simp only [if_neg h2]
    rw [if_pos (show 1 ≤ t ∧ t ≤ mv by omega)]
    exact Ev.bind (choice_ev ps st gs mv hs t (by omega) (by omega) mine) (Ev.const _)
  | false =>
    simp only [Bool.false_eq_true, if_false]
    exact Ev.const _
end Go.Proofs.Ytjlehbncpjccmaa.Q
namespace Go.Proofs.Ytjlehbncpjccmaa.Q
open Go.RowKit Go.Proofs.YtjlehbncpjccmaaW.PrintWords Go.Proofs.YtjlehbncpjccmaaW.PrintLast Go.Proofs.YtjlehbncpjccmaaW.PrintMore
set_option linter.unusedVariables false
set_option linter.unusedSimpArgs false

theorem mayB_to2 {ps : List S55} {st : Int} {gs : List Int} {mv : Int} (h : mayB ps st gs mv = true) : ∀ x ∈ ps, ∀ v ∈ x.f1, 0 ≤ v ∧ v < (ps.length : Int) := fun x hx v hv => ((mayB_facts h).2.2.2.2.2 x hx).2 v hv
/-- The program's sets are the table's rows. -/
theorem bstep_get (s : List Bool) : ∀ (ps : List S55) (v : Nat) (acc : List Bool) (j : Nat), v + ps.length ≤ acc.length → (bstep s ps v acc).getD j false = (acc.getD j false || (decide (v ≤ j ∧ j < v + ps.length) && winB s (ps.getD (j - v) z55)))
  | [], v, acc, j, h => by
    have : ¬ (v ≤ j ∧ j < v) := by omega
    simp [bstep, this]
  | x :: r, v, acc, j, h => by
    simp only [List.length_cons] at h
    rw [bstep, bstep_get s r (v + 1) _ j (by split <;> (try simp only [List.length_set]) <;> omega)]
    by_cases hj : j = v
    · subst hj
      have h1 : ¬ (j + 1 ≤ j ∧ j < j + 1 + r.length) := by omega
      simp only [decide_eq_false h1, Bool.false_and, Bool.or_false, Nat.sub_self, List.getD_cons_zero, List.length_cons]
      rw [decide_eq_true (show j ≤ j ∧ j < j + (r.length + 1) by omega), Bool.true_and]
      cases hw : winB s x with
      | true => simp [List.getD_eq_getElem?_getD, show j < acc.length by omega]
      | false => simp
    · have hg : (if winB s x then acc.set v true else acc).getD j false = acc.getD j false := by
        split
        · rw [List.getD_eq_getElem?_getD, List.getElem?_set, if_neg (Ne.symm hj), ← List.getD_eq_getElem?_getD]
        · rfl
      rw [hg]
      by_cases h2 : v + 1 ≤ j ∧ j < v + 1 + r.length
      · rw [decide_eq_true h2, decide_eq_true (show v ≤ j ∧ j < v + (x :: r).length by simp only [List.length_cons]; omega)]
        obtain ⟨q, rfl⟩ : ∃ q, j = v + 1 + q := ⟨j - (v + 1), by omega⟩
        rw [show v + 1 + q - (v + 1) = q by omega, show v + 1 + q - v = q + 1 by omega, List.getD_cons_succ]
      · rw [decide_eq_false h2, decide_eq_false (show ¬ (v ≤ j ∧ j < v + (x :: r).length) by simp only [List.length_cons]; omega)]
        simp
theorem gset_get (gs : List Int) (j : Nat) (h : j < 16) : (gset gs).getD j false = decide ((j : Int) ∈ gs) := by
  simp [gset, List.getD_eq_getElem?_getD, h]
theorem winB_eq (s : List Bool) (x : S55) : winB s x = (decide ((x.f1.length : Int) > 0) && (if x.f0 then x.f1.any (rdOf false s) else x.f1.all (rdOf false s))) := by
  unfold winB
  congr 1
  cases x.f0 with
  | true =>
    simp only [if_true]
    rw [show (fun v : Int => s.getD v.toNat false == true) = rdOf false s from funext fun v => by simp [rdOf]]
    simp
  | false =>
    simp only [Bool.false_eq_true, if_false]
    rw [show (fun v : Int => s.getD v.toNat false == false) = (fun v => !(rdOf false s v)) from funext fun v => by simp [rdOf]]
    generalize x.f1 = l
    induction l with
    | nil => rfl
    | cons a r ih =>
      simp only [List.any_cons, List.all_cons]
      rw [← ih]
      cases rdOf false s a <;> simp
end Go.Proofs.Ytjlehbncpjccmaa.Q
namespace Go.Proofs.Ytjlehbncpjccmaa.Q
open Go.RowKit Go.Proofs.YtjlehbncpjccmaaW.PrintWords Go.Proofs.YtjlehbncpjccmaaW.PrintLast Go.Proofs.YtjlehbncpjccmaaW.PrintMore
set_option linter.unusedVariables false
set_option linter.unusedSimpArgs false

theorem guideF_length (ps : List S55) (gs : List Int) (n : Nat) : (guideF ps gs n).length = n := by simp [guideF]
theorem guideF_rows (ps : List S55) (gs : List Int) (n : Nat) : ∀ x ∈ guideF ps gs n, x.length = ps.length := by
  intro x hx
  obtain ⟨i, _, rfl⟩ := List.mem_map.1 hx
  simp [rowG]
end Go.Proofs.Ytjlehbncpjccmaa.Q
namespace Go.Proofs.Ytjlehbncpjccmaa.Q
open Go.RowKit Go.Proofs.YtjlehbncpjccmaaW.PrintWords Go.Proofs.YtjlehbncpjccmaaW.PrintLast Go.Proofs.YtjlehbncpjccmaaW.PrintMore
attribute [local go_sem] max2_int min2_int max_two min_two max_three min_three max_four min_four   -- for this text's walks alone
set_option linter.unusedVariables false
set_option linter.unusedSimpArgs false

/-! ### skolemlaw35_PuzzleGuided: function 5 -/
mutual
def skolemlaw35_PuzzleGuided.j0 : Nat → List Int → Bool → List (S55) → Int → List Int → Int → Option (Bool)
  | 0, _, _, _, _, _, _ => none
  | k + 1, x1, x19, x379000, x379001, x379002, x379003 => if x19 = true then ((skolemlaw35_head.f k).bind fun t381 => (some t381)) else ((puzzle_Wins.f x379000 x379001 x379002 x379003).bind fun bt382 => ((puzzle_Guide.f x379000 x379001 x379002 x379003).bind fun bt384 => (if bt382.2 = 0 then (if bt384.2 = 0 then (skolemlaw35_PuzzleGuided.j1 k x1 bt382.1 bt384.1 ((bt384.1.length : Int) != x379003) x379000 x379001 x379002 x379003) else (skolemlaw35_PuzzleGuided.j1 k x1 bt382.1 bt384.1 true x379000 x379001 x379002 x379003)) else (skolemlaw35_PuzzleGuided.j1 k x1 bt382.1 bt384.1 true x379000 x379001 x379002 x379003))))
def skolemlaw35_PuzzleGuided.j1 : Nat → List Int → Bool → List (List Int) → Bool → List (S55) → Int → List Int → Int → Option (Bool)
  | 0, _, _, _, _, _, _, _, _ => none
  | k + 1, x1, x5, x7, x43, x379000, x379001, x379002, x379003 => if x43 = true then (some false) else (skolemlaw35_PuzzleGuided.l0 k x1 x5 x7 x379001 0 x379000 x379001 x379002 x379003)
def skolemlaw35_PuzzleGuided.l0 : Nat → List Int → Bool → List (List Int) → Int → Int → List (S55) → Int → List Int → Int → Option (Bool)
  | 0, _, _, _, _, _, _, _, _, _ => none
  | k + 1, x1, x5, x7, x9, x10, x379000, x379001, x379002, x379003 => if x10 < x379003 then (if x5 = true then ((skolemref03_Has.f k x379002 x9).bind fun t388 => (skolemlaw35_PuzzleGuided.j3 k x1 x5 x7 x9 x10 (!t388) x379000 x379001 x379002 x379003)) else (skolemlaw35_PuzzleGuided.j3 k x1 x5 x7 x9 x10 false x379000 x379001 x379002 x379003)) else (skolemlaw35_PuzzleGuided.j3 k x1 x5 x7 x9 x10 false x379000 x379001 x379002 x379003)
def skolemlaw35_PuzzleGuided.j3 : Nat → List Int → Bool → List (List Int) → Int → Int → Bool → List (S55) → Int → List Int → Int → Option (Bool)
  | 0, _, _, _, _, _, _, _, _, _, _ => none
  | k + 1, x1, x5, x7, x9, x10, x59, x379000, x379001, x379002, x379003 => if x59 = true then (if 0 ≤ x9 then (if x9 < (x379000.length : Int) then (if x10 < (x1.length : Int) then (if 0 ≤ x10 then (skolemlaw35_PuzzleGuided.j4 k x1 x5 x7 x9 x10 (wrap64 (rd x1 x10)) x379000 x379001 x379002 x379003 ((rd_T55 x379000 x9).f0) ((rd_T55 x379000 x9).f1)) else (none)) else (skolemlaw35_PuzzleGuided.j4 k x1 x5 x7 x9 x10 0 x379000 x379001 x379002 x379003 ((rd_T55 x379000 x9).f0) ((rd_T55 x379000 x9).f1))) else (none)) else (none)) else (if x5 = true then ((skolemref03_Has.f k x379002 x9).bind fun t389 => (if t389 = true then ((skolemlaw35_head.f k).bind fun t390 => (some t390)) else (some false))) else ((skolemlaw35_head.f k).bind fun t391 => (some t391)))
def skolemlaw35_PuzzleGuided.j4 : Nat → List Int → Bool → List (List Int) → Int → Int → Int → List (S55) → Int → List Int → Int → Bool → List Int → Option (Bool)
  | 0, _, _, _, _, _, _, _, _, _, _, _, _ => none
  | k + 1, x1, x5, x7, x9, x10, x12, x379000, x379001, x379002, x379003, x394000, x394001 => if x394000 = true then (if 0 ≤ (wrap64 ((wrap64 (x379003 - 1)) - x10)) then (if (wrap64 ((wrap64 (x379003 - 1)) - x10)) < (x7.length : Int) then (if 0 ≤ x9 then (if x9 < ((rd_L2 x7 (wrap64 ((wrap64 (x379003 - 1)) - x10))).length : Int) then (if (x394001.length : Int) = 0 then (some false) else (if (rd (rd_L2 x7 (wrap64 ((wrap64 (x379003 - 1)) - x10))) x9) < 0 then (some false) else (if (rd (rd_L2 x7 (wrap64 ((wrap64 (x379003 - 1)) - x10))) x9) ≥ (x394001.length : Int) then (some false) else (if 0 ≤ (Int.tmod (rd (rd_L2 x7 (wrap64 ((wrap64 (x379003 - 1)) - x10))) x9) (x394001.length : Int)) then (if (Int.tmod (rd (rd_L2 x7 (wrap64 ((wrap64 (x379003 - 1)) - x10))) x9) (x394001.length : Int)) < (x394001.length : Int) then (skolemlaw35_PuzzleGuided.l0 k x1 x5 x7 (rd x394001 (Int.tmod (rd (rd_L2 x7 (wrap64 ((wrap64 (x379003 - 1)) - x10))) x9) (x394001.length : Int))) (wrap64 (x10 + 1)) x379000 x379001 x379002 x379003) else (none)) else (none))))) else (none)) else (none)) else (none)) else (none)) else (if (x394001.length : Int) = 0 then (some false) else (if x12 < 0 then (some false) else (if 0 ≤ (Int.tmod x12 (x394001.length : Int)) then (if (Int.tmod x12 (x394001.length : Int)) < (x394001.length : Int) then (skolemlaw35_PuzzleGuided.l0 k x1 x5 x7 (rd x394001 (Int.tmod x12 (x394001.length : Int))) (wrap64 (x10 + 1)) x379000 x379001 x379002 x379003) else (none)) else (none))))
end
def skolemlaw35_PuzzleGuided.f (k : Nat) (l0_0 : List (S55)) (a0_1 : Int) (l0_2 : List Int) (a0_3 : Int) (l1 : List Int) : Option (Bool) := (skolemlaw35_large.f k l0_0 a0_1 l0_2 a0_3).bind fun t379 => (if t379 = true then (skolemlaw35_PuzzleGuided.j0 k l1 true l0_0 a0_1 l0_2 a0_3) else ((skolemref35_May.f k l0_0 a0_1 l0_2 a0_3).bind fun t380 => (skolemlaw35_PuzzleGuided.j0 k l1 (!t380) l0_0 a0_1 l0_2 a0_3)))
theorem skolemlaw35_PuzzleGuided.mono_l : ∀ k, (∀ y0 y1 y2 y3 y4 y5, LeO (skolemlaw35_PuzzleGuided.j0 k y0 y1 y2 y3 y4 y5) (skolemlaw35_PuzzleGuided.j0 (k + 1) y0 y1 y2 y3 y4 y5)) ∧ (∀ y0 y1 y2 y3 y4 y5 y6 y7, LeO (skolemlaw35_PuzzleGuided.j1 k y0 y1 y2 y3 y4 y5 y6 y7) (skolemlaw35_PuzzleGuided.j1 (k + 1) y0 y1 y2 y3 y4 y5 y6 y7)) ∧ (∀ y0 y1 y2 y3 y4 y5 y6 y7 y8, LeO (skolemlaw35_PuzzleGuided.l0 k y0 y1 y2 y3 y4 y5 y6 y7 y8) (skolemlaw35_PuzzleGuided.l0 (k + 1) y0 y1 y2 y3 y4 y5 y6 y7 y8)) ∧ (∀ y0 y1 y2 y3 y4 y5 y6 y7 y8 y9, LeO (skolemlaw35_PuzzleGuided.j3 k y0 y1 y2 y3 y4 y5 y6 y7 y8 y9) (skolemlaw35_PuzzleGuided.j3 (k + 1) y0 y1 y2 y3 y4 y5 y6 y7 y8 y9)) ∧ (∀ y0 y1 y2 y3 y4 y5 y6 y7 y8 y9 y10 y11, LeO (skolemlaw35_PuzzleGuided.j4 k y0 y1 y2 y3 y4 y5 y6 y7 y8 y9 y10 y11) (skolemlaw35_PuzzleGuided.j4 (k + 1) y0 y1 y2 y3 y4 y5 y6 y7 y8 y9 y10 y11))
  | 0 => ⟨fun _ _ _ _ _ _ r h => by simp [skolemlaw35_PuzzleGuided.j0] at h, fun _ _ _ _ _ _ _ _ r h => by simp [skolemlaw35_PuzzleGuided.j1] at h, fun _ _ _ _ _ _ _ _ _ r h => by simp [skolemlaw35_PuzzleGuided.l0] at h, fun _ _ _ _ _ _ _ _ _ _ r h => by simp [skolemlaw35_PuzzleGuided.j3] at h, fun _ _ _ _ _ _ _ _ _ _ _ _ r h => by simp [skolemlaw35_PuzzleGuided.j4] at h⟩
  | k + 1 => by
    obtain ⟨ih0, ih1, ih2, ih3, ih4⟩ := skolemlaw35_PuzzleGuided.mono_l k
    refine ⟨?_, ?_, ?_, ?_, ?_⟩
    · intro y0 y1 y2 y3 y4 y5
      unfold skolemlaw35_PuzzleGuided.j0
      repeat' first
      | (with_reducible exact ih0 _ _ _ _ _ _)
      | (with_reducible exact ih1 _ _ _ _ _ _ _ _)
      | (with_reducible exact ih2 _ _ _ _ _ _ _ _ _)
      | (with_reducible exact ih3 _ _ _ _ _ _ _ _ _ _)
      | (with_reducible exact ih4 _ _ _ _ _ _ _ _ _ _ _ _)
      | (with_reducible exact skolemlaw35_head.mono _)
      | (with_reducible exact skolemlaw35_large.mono _ _ _ _ _)
      | (with_reducible exact skolemref03_Has.mono _ _ _)
      | (with_reducible exact skolemref35_May.mono _ _ _ _ _)
      | (with_reducible exact LeO.refl _)
      | (with_reducible exact LeO.none _)
      | (with_reducible refine LeO.ite ?_ ?_)
      | (with_reducible refine LeO.bind ?_ (fun _ => ?_))
      | exact ih0 _ _ _ _ _ _
      | exact ih1 _ _ _ _ _ _ _ _
      | exact ih2 _ _ _ _ _ _ _ _ _
      | exact ih3 _ _ _ _ _ _ _ _ _ _
      | exact ih4 _ _ _ _ _ _ _ _ _ _ _ _
      | exact skolemlaw35_head.mono _
      | exact skolemlaw35_large.mono _ _ _ _ _
      | exact skolemref03_Has.mono _ _ _
      | exact skolemref35_May.mono _ _ _ _ _
      | exact LeO.none _
      | refine LeO.ite ?_ ?_
      | refine LeO.bind ?_ (fun _ => ?_)
    · intro y0 y1 y2 y3 y4 y5 y6 y7
      unfold skolemlaw35_PuzzleGuided.j1
      repeat' first
      | (with_reducible exact ih0 _ _ _ _ _ _)
      | (with_reducible exact ih1 _ _ _ _ _ _ _ _)
      | (with_reducible exact ih2 _ _ _ _ _ _ _ _ _)
      | (with_reducible exact ih3 _ _ _ _ _ _ _ _ _ _)
      | (with_reducible exact ih4 _ _ _ _ _ _ _ _ _ _ _ _)
      | (with_reducible exact skolemlaw35_head.mono _)
      | (with_reducible exact skolemlaw35_large.mono _ _ _ _ _)
      | (with_reducible exact skolemref03_Has.mono _ _ _)
      | (with_reducible exact skolemref35_May.mono _ _ _ _ _)
      | (with_reducible exact LeO.refl _)
      | (with_reducible exact LeO.none _)
      | (with_reducible refine LeO.ite ?_ ?_)
      | (with_reducible refine LeO.bind ?_ (fun _ => ?_))
      | exact ih0 _ _ _ _ _ _
      | exact ih1 _ _ _ _ _ _ _ _
      | exact ih2 _ _ _ _ _ _ _ _ _
      | exact ih3 _ _ _ _ _ _ _ _ _ _
      | exact ih4 _ _ _ _ _ _ _ _ _ _ _ _
      | exact skolemlaw35_head.mono _
      | exact skolemlaw35_large.mono _ _ _ _ _
      | exact skolemref03_Has.mono _ _ _
      | exact skolemref35_May.mono _ _ _ _ _
      | exact LeO.none _
      | refine LeO.ite ?_ ?_
      | refine LeO.bind ?_ (fun _ => ?_)
    · intro y0 y1 y2 y3 y4 y5 y6 y7 y8
      unfold skolemlaw35_PuzzleGuided.l0
      repeat' first
      | (with_reducible exact ih0 _ _ _ _ _ _)
      | (with_reducible exact ih1 _ _ _ _ _ _ _ _)
      | (with_reducible exact ih2 _ _ _ _ _ _ _ _ _)
      | (with_reducible exact ih3 _ _ _ _ _ _ _ _ _ _)
      | (with_reducible exact ih4 _ _ _ _ _ _ _ _ _ _ _ _)
      | (with_reducible exact skolemlaw35_head.mono _)
      | (with_reducible exact skolemlaw35_large.mono _ _ _ _ _)
      | (with_reducible exact skolemref03_Has.mono _ _ _)
      | (with_reducible exact skolemref35_May.mono _ _ _ _ _)
      | (with_reducible exact LeO.refl _)
      | (with_reducible exact LeO.none _)
      | (with_reducible refine LeO.ite ?_ ?_)
      | (with_reducible refine LeO.bind ?_ (fun _ => ?_))
      | exact ih0 _ _ _ _ _ _
      | exact ih1 _ _ _ _ _ _ _ _
      | exact ih2 _ _ _ _ _ _ _ _ _
      | exact ih3 _ _ _ _ _ _ _ _ _ _
      | exact ih4 _ _ _ _ _ _ _ _ _ _ _ _
      | exact skolemlaw35_head.mono _
      | exact skolemlaw35_large.mono _ _ _ _ _
      | exact skolemref03_Has.mono _ _ _
      | exact skolemref35_May.mono _ _ _ _ _
      | exact LeO.none _
      | refine LeO.ite ?_ ?_
      | refine LeO.bind ?_ (fun _ => ?_)
    · intro y0 y1 y2 y3 y4 y5 y6 y7 y8 y9
      unfold skolemlaw35_PuzzleGuided.j3
      repeat' first
      | (with_reducible exact ih0 _ _ _ _ _ _)
      | (with_reducible exact ih1 _ _ _ _ _ _ _ _)
      | (with_reducible exact ih2 _ _ _ _ _ _ _ _ _)
      | (with_reducible exact ih3 _ _ _ _ _ _ _ _ _ _)
      | (with_reducible exact ih4 _ _ _ _ _ _ _ _ _ _ _ _)
      | (with_reducible exact skolemlaw35_head.mono _)
      | (with_reducible exact skolemlaw35_large.mono _ _ _ _ _)
      | (with_reducible exact skolemref03_Has.mono _ _ _)
      | (with_reducible exact skolemref35_May.mono _ _ _ _ _)
      | (with_reducible exact LeO.refl _)
      | (with_reducible exact LeO.none _)
      | (with_reducible refine LeO.ite ?_ ?_)
      | (with_reducible refine LeO.bind ?_ (fun _ => ?_))
      | exact ih0 _ _ _ _ _ _
      | exact ih1 _ _ _ _ _ _ _ _
      | exact ih2 _ _ _ _ _ _ _ _ _
      | exact ih3 _ _ _ _ _ _ _ _ _ _
      | exact ih4 _ _ _ _ _ _ _ _ _ _ _ _
      | exact skolemlaw35_head.mono _
      | exact skolemlaw35_large.mono _ _ _ _ _
      | exact skolemref03_Has.mono _ _ _
      | exact skolemref35_May.mono _ _ _ _ _
      | exact LeO.none _
      | refine LeO.ite ?_ ?_
      | refine LeO.bind ?_ (fun _ => ?_)
    · intro y0 y1 y2 y3 y4 y5 y6 y7 y8 y9 y10 y11
      unfold skolemlaw35_PuzzleGuided.j4
      repeat' first
      | (with_reducible exact ih0 _ _ _ _ _ _)
      | (with_reducible exact ih1 _ _ _ _ _ _ _ _)
      | (with_reducible exact ih2 _ _ _ _ _ _ _ _ _)
      | (with_reducible exact ih3 _ _ _ _ _ _ _ _ _ _)
      | (with_reducible exact ih4 _ _ _ _ _ _ _ _ _ _ _ _)
      | (with_reducible exact skolemlaw35_head.mono _)
      | (with_reducible exact skolemlaw35_large.mono _ _ _ _ _)
      | (with_reducible exact skolemref03_Has.mono _ _ _)
      | (with_reducible exact skolemref35_May.mono _ _ _ _ _)
      | (with_reducible exact LeO.refl _)
      | (with_reducible exact LeO.none _)
      | (with_reducible refine LeO.ite ?_ ?_)
      | (with_reducible refine LeO.bind ?_ (fun _ => ?_))
      | exact ih0 _ _ _ _ _ _
      | exact ih1 _ _ _ _ _ _ _ _
      | exact ih2 _ _ _ _ _ _ _ _ _
      | exact ih3 _ _ _ _ _ _ _ _ _ _
      | exact ih4 _ _ _ _ _ _ _ _ _ _ _ _
      | exact skolemlaw35_head.mono _
      | exact skolemlaw35_large.mono _ _ _ _ _
      | exact skolemref03_Has.mono _ _ _
      | exact skolemref35_May.mono _ _ _ _ _
      | exact LeO.none _
      | refine LeO.ite ?_ ?_
      | refine LeO.bind ?_ (fun _ => ?_)
theorem skolemlaw35_PuzzleGuided.mono : ∀ a0 a1 a2 a3 a4 k, LeO (skolemlaw35_PuzzleGuided.f k a0 a1 a2 a3 a4) (skolemlaw35_PuzzleGuided.f (k + 1) a0 a1 a2 a3 a4) := by
  intro a0 a1 a2 a3 a4 k
  obtain ⟨ih0, ih1, ih2, ih3, ih4⟩ := skolemlaw35_PuzzleGuided.mono_l k
  unfold skolemlaw35_PuzzleGuided.f
  repeat' first
      | (with_reducible exact ih0 _ _ _ _ _ _)
      | (with_reducible exact ih1 _ _ _ _ _ _ _ _)
      | (with_reducible exact ih2 _ _ _ _ _ _ _ _ _)
      | (with_reducible exact ih3 _ _ _ _ _ _ _ _ _ _)
      | (with_reducible exact ih4 _ _ _ _ _ _ _ _ _ _ _ _)
      | (with_reducible exact skolemlaw35_head.mono _)
      | (with_reducible exact skolemlaw35_large.mono _ _ _ _ _)
      | (with_reducible exact skolemref03_Has.mono _ _ _)
      | (with_reducible exact skolemref35_May.mono _ _ _ _ _)
      | (with_reducible exact LeO.refl _)
      | (with_reducible exact LeO.none _)
      | (with_reducible refine LeO.ite ?_ ?_)
      | (with_reducible refine LeO.bind ?_ (fun _ => ?_))
      | exact ih0 _ _ _ _ _ _
      | exact ih1 _ _ _ _ _ _ _ _
      | exact ih2 _ _ _ _ _ _ _ _ _
      | exact ih3 _ _ _ _ _ _ _ _ _ _
      | exact ih4 _ _ _ _ _ _ _ _ _ _ _ _
      | exact skolemlaw35_head.mono _
      | exact skolemlaw35_large.mono _ _ _ _ _
      | exact skolemref03_Has.mono _ _ _
      | exact skolemref35_May.mono _ _ _ _ _
      | exact LeO.none _
      | refine LeO.ite ?_ ?_
      | refine LeO.bind ?_ (fun _ => ?_)
set_option maxHeartbeats 8000000 in
set_option maxRecDepth 100000 in
theorem skolemlaw35_PuzzleGuided.callsT (k : Nat) (A0_0 : Option Addr) (c0_0 : Nat) (l0_0 : List (S55)) (a0_1 : Int) (A0_2 : Option Addr) (c0_2 : Nat) (l0_2 : List Int) (a0_3 : Int) (A1 : Option Addr) (c1 : Nat) (l1 : List Int) (r : Bool) (hr_ : r = true) (w : World) (hr0_0 : Kd.C k55 w A0_0 l0_0.length l0_0) (hc0_0 : l0_0.length ≤ c0_0) (hr0_2 : Kd.C (Kd.int .i64) w A0_2 l0_2.length l0_2) (hc0_2 : l0_2.length ≤ c0_2) (hr1 : Kd.C (Kd.int .u8) w A1 l1.length l1) (hc1 : l1.length ≤ c1) (h : skolemlaw35_PuzzleGuided.f k l0_0 a0_1 l0_2 a0_3 l1 = some r) :
    Calls Try.prog 5 #[.agg #[.slice A0_0 l0_0.length c0_0, .int .i64 a0_1, .slice A0_2 l0_2.length c0_2, .int .i64 a0_3], .slice A1 l1.length c1] w fun e w' => e = .returned (.bool r) ∧ Below w.heap.size w w' := by
  have hu25 := Try.underlying25
  have hu55 := Try.underlying55
  have HR0_0 := Aside0.mk hr0_0
  have HC0_0 := Aside0.mk hc0_0
  clear hr0_0 hc0_0
  have HR0_2 := Aside0.mk hr0_2
  have HC0_2 := Aside0.mk hc0_2
  clear hr0_2 hc0_2
  have HR1 := Aside0.mk hr1
  have HC1 := Aside0.mk hc1
  clear hr1 hc1
  have HT_ := Aside0.mk hr_
  clear hr_
  have HB := Aside0.mk (Below.refl w.heap.size w)
  have H : ((skolemlaw35_large.f k l0_0 a0_1 l0_2 a0_3).bind fun t379 => (if t379 = true then (skolemlaw35_PuzzleGuided.j0 k l1 true l0_0 a0_1 l0_2 a0_3) else ((skolemref35_May.f k l0_0 a0_1 l0_2 a0_3).bind fun t380 => (skolemlaw35_PuzzleGuided.j0 k l1 (!t380) l0_0 a0_1 l0_2 a0_3)))) = some r := h
  clear h
  have HC3 := Aside0.mk H
  clear H
  go_enter Try.func5, Try.ntmps5
  go_upto_region 1 with (first | ((with_reducible refine gate_dst (N := 2) rfl ?_); (try (refine gate_guard (by rfl) ?_; dsimp only)); refine box_event ?hg (N := 2) ?hd (cs := #[.slice A0_0 l0_0.length c0_0, .int .i64 a0_1, .slice A0_2 l0_2.length c0_2, .int .i64 a0_3]) (t := 25) ?hr ?_; (case hd => rfl); (case hg => rfl); (case hr => exact qz23); intro gb378 hg w4 hbox hb; have n0_ := Aside0.mk (below_step qz13 hb); have n1_ := Aside0.mk (hbox); have n2_ := Aside0.mk ((by rw [hg]; exact (below_size qz13) : w.heap.size ≤ gb378)); have n3_ := Aside0.mk ((by rw [hg]; exact (below_size qz13) : w.heap.size ≤ gb378)); clear HB; have HB := n0_; have BK378 := n1_; have GW378 := n2_; have GE378 := n3_; clear n0_ n1_ n2_ n3_; clear hb hbox hg))
  repeat (go_quiet (first | ((with_reducible refine gate_dst (N := 2) rfl ?_); (try (refine gate_guard (by rfl) ?_; dsimp only)); refine box_event ?hg (N := 2) ?hd (cs := #[.slice A0_0 l0_0.length c0_0, .int .i64 a0_1, .slice A0_2 l0_2.length c0_2, .int .i64 a0_3]) (t := 25) ?hr ?_; (case hd => rfl); (case hg => rfl); (case hr => exact qz23); intro gb378 hg w4 hbox hb; have n0_ := Aside0.mk (below_step qz13 hb); have n1_ := Aside0.mk (hbox); have n2_ := Aside0.mk ((by rw [hg]; exact (below_size qz13) : w.heap.size ≤ gb378)); have n3_ := Aside0.mk ((by rw [hg]; exact (below_size qz13) : w.heap.size ≤ gb378)); clear HB; have HB := n0_; have BK378 := n1_; have GW378 := n2_; have GE378 := n3_; clear n0_ n1_ n2_ n3_; clear hb hbox hg)); go_upto_region 1 with (first | ((with_reducible refine gate_dst (N := 2) rfl ?_); (try (refine gate_guard (by rfl) ?_; dsimp only)); refine box_event ?hg (N := 2) ?hd (cs := #[.slice A0_0 l0_0.length c0_0, .int .i64 a0_1, .slice A0_2 l0_2.length c0_2, .int .i64 a0_3]) (t := 25) ?hr ?_; (case hd => rfl); (case hg => rfl); (case hr => exact qz23); intro gb378 hg w4 hbox hb; have n0_ := Aside0.mk (below_step qz13 hb); have n1_ := Aside0.mk (hbox); have n2_ := Aside0.mk ((by rw [hg]; exact (below_size qz13) : w.heap.size ≤ gb378)); have n3_ := Aside0.mk ((by rw [hg]; exact (below_size qz13) : w.heap.size ≤ gb378)); clear HB; have HB := n0_; have BK378 := n1_; have GW378 := n2_; have GE378 := n3_; clear n0_ n1_ n2_ n3_; clear hb hbox hg)))
  (try simp only [Act.put, List.setIfInBounds_toArray, List.set_cons_zero, List.set_cons_succ])
  go_cut [19] (fun v19 wc => ∃ (kq : Nat) (x19_2 : Bool), v19 = .bool x19_2 ∧ Aside0 (skolemlaw35_PuzzleGuided.j0 kq l1 x19_2 l0_0 a0_1 l0_2 a0_3 = some r) ∧ Aside0 (kq ≤ k) ∧ Aside0 (wc.heap[gb378]? = some (.cells #[(.slice A0_0 l0_0.length c0_0), .int .i64 a0_1, (.slice A0_2 l0_2.length c0_2), .int .i64 a0_3] 25 (0, 0))) ∧ Aside0 (Below w.heap.size w wc))
  case first =>
    have H := HC3.out
    clear HC3
    replace H := Option.bind_eq_some_iff.mp H
    obtain ⟨t379, A50, H⟩ := H
    replace H : (if t379 = true then (skolemlaw35_PuzzleGuided.j0 k l1 true l0_0 a0_1 l0_2 a0_3) else ((skolemref35_May.f k l0_0 a0_1 l0_2 a0_3).bind fun t380 => (skolemlaw35_PuzzleGuided.j0 k l1 (!t380) l0_0 a0_1 l0_2 a0_3))) = some r := H
    have A5 := Aside0.mk A50
    clear A50
    by_cases c6 : t379 = true
    · subst c6
      have H1 : (skolemlaw35_PuzzleGuided.j0 k l1 true l0_0 a0_1 l0_2 a0_3) = some r := by rw [if_pos rfl] at H; exact H
      clear H
      have H := H1
      clear H1
      have H' := Aside0.mk H
      clear H
      have hcz7_0 : w4.cell? ⟨gb378, 0, none⟩ = some (.slice A0_0 l0_0.length c0_0) := (blk_cell BK378.out 0).trans rfl
      have hcz7_1 : w4.cell? ⟨gb378, 1, none⟩ = some (.int .i64 a0_1) := (blk_cell BK378.out 1).trans rfl
      have hcz7_2 : w4.cell? ⟨gb378, 2, none⟩ = some (.slice A0_2 l0_2.length c0_2) := (blk_cell BK378.out 2).trans rfl
      have hcz7_3 : w4.cell? ⟨gb378, 3, none⟩ = some (.int .i64 a0_3) := (blk_cell BK378.out 3).trans rfl
      have hfz7_0 := blk_frozen BK378.out 0
      have hfz7_1 := blk_frozen BK378.out 1
      have hfz7_2 := blk_frozen BK378.out 2
      have hfz7_3 := blk_frozen BK378.out 3
      go_wp2_with (first | (go_at_call 8; (with_reducible refine (skolemlaw35_large.calls k _ _ l0_0 a0_1 _ _ l0_2 a0_3 true _ ?side1 ?side2 ?side3 ?side4 A5.out).mono ?_); (case side1 => exact qz0); (case side2 => exact HC0_0.out); (case side3 => exact qz1); (case side4 => exact HC0_2.out); rintro e w8 ⟨rfl, hb⟩; have n0_ := Aside0.mk (blk_below (g := gb378) (o := .cells #[.slice A0_0 l0_0.length c0_0, .int .i64 a0_1, .slice A0_2 l0_2.length c0_2, .int .i64 a0_3] 25 (0, 0)) qz17 hb); have n1_ := Aside0.mk (below_step qz8 hb); clear BK378; clear HB; have BK378 := n0_; have HB := n1_; clear n0_ n1_; (try clear hb); (try clear hb2); (try clear hk); (try clear hi)))
      repeat (go_quiet (first | (go_at_call 8; (with_reducible refine (skolemlaw35_large.calls k _ _ l0_0 a0_1 _ _ l0_2 a0_3 true _ ?side1 ?side2 ?side3 ?side4 A5.out).mono ?_); (case side1 => exact qz0); (case side2 => exact HC0_0.out); (case side3 => exact qz1); (case side4 => exact HC0_2.out); rintro e w8 ⟨rfl, hb⟩; have n0_ := Aside0.mk (blk_below (g := gb378) (o := .cells #[.slice A0_0 l0_0.length c0_0, .int .i64 a0_1, .slice A0_2 l0_2.length c0_2, .int .i64 a0_3] 25 (0, 0)) qz17 hb); have n1_ := Aside0.mk (below_step qz8 hb); clear BK378; clear HB; have BK378 := n0_; have HB := n1_; clear n0_ n1_; (try clear hb); (try clear hb2); (try clear hk); (try clear hi))); try go_wp2_with (first | (go_at_call 8; (with_reducible refine (skolemlaw35_large.calls k _ _ l0_0 a0_1 _ _ l0_2 a0_3 true _ ?side1 ?side2 ?side3 ?side4 A5.out).mono ?_); (case side1 => exact qz0); (case side2 => exact HC0_0.out); (case side3 => exact qz1); (case side4 => exact HC0_2.out); rintro e w8 ⟨rfl, hb⟩; have n0_ := Aside0.mk (blk_below (g := gb378) (o := .cells #[.slice A0_0 l0_0.length c0_0, .int .i64 a0_1, .slice A0_2 l0_2.length c0_2, .int .i64 a0_3] 25 (0, 0)) qz17 hb); have n1_ := Aside0.mk (below_step qz8 hb); clear BK378; clear HB; have BK378 := n0_; have HB := n1_; clear n0_ n1_; (try clear hb); (try clear hb2); (try clear hk); (try clear hi))))
      go_meet
      case rel => exact ⟨_, (true), qz22, H', ⟨by first | omega | exact Nat.le_refl _⟩, ⟨by (with_reducible repeat (first | refine blk_drewN ?_ _ | refine blk_drew ?_ | refine blk_alloc ?_ _)); exact BK378.out⟩, ⟨by repeat (first | (with_reducible first | exact HB.out | apply below_alloc | apply pw_below_drewN | apply below_drew1 | refine below_set ?_ GE378.out) | exact HB.out)⟩⟩
    · replace c6 := Bool.eq_false_iff.mpr c6
      subst c6
      have H1 : ((skolemref35_May.f k l0_0 a0_1 l0_2 a0_3).bind fun t380 => (skolemlaw35_PuzzleGuided.j0 k l1 (!t380) l0_0 a0_1 l0_2 a0_3)) = some r := by rw [if_neg (show ¬ (false = true) by decide)] at H; exact H
      clear H
      have H := H1
      clear H1
      replace H := Option.bind_eq_some_iff.mp H
      obtain ⟨t380, A90, H⟩ := H
      replace H : (skolemlaw35_PuzzleGuided.j0 k l1 (!t380) l0_0 a0_1 l0_2 a0_3) = some r := H
      have A9 := Aside0.mk A90
      clear A90
      have H' := Aside0.mk H
      clear H
      have hcz10_0 : w4.cell? ⟨gb378, 0, none⟩ = some (.slice A0_0 l0_0.length c0_0) := (blk_cell BK378.out 0).trans rfl
      have hcz10_1 : w4.cell? ⟨gb378, 1, none⟩ = some (.int .i64 a0_1) := (blk_cell BK378.out 1).trans rfl
      have hcz10_2 : w4.cell? ⟨gb378, 2, none⟩ = some (.slice A0_2 l0_2.length c0_2) := (blk_cell BK378.out 2).trans rfl
      have hcz10_3 : w4.cell? ⟨gb378, 3, none⟩ = some (.int .i64 a0_3) := (blk_cell BK378.out 3).trans rfl
      have hfz10_0 := blk_frozen BK378.out 0
      have hfz10_1 := blk_frozen BK378.out 1
      have hfz10_2 := blk_frozen BK378.out 2
      have hfz10_3 := blk_frozen BK378.out 3
      go_wp2_with (first | (go_at_call 8; (with_reducible refine (skolemlaw35_large.calls k _ _ l0_0 a0_1 _ _ l0_2 a0_3 false _ ?side1 ?side2 ?side3 ?side4 A5.out).mono ?_); (case side1 => exact qz0); (case side2 => exact HC0_0.out); (case side3 => exact qz1); (case side4 => exact HC0_2.out); rintro e w11 ⟨rfl, hb⟩; have n0_ := Aside0.mk (blk_below (g := gb378) (o := .cells #[.slice A0_0 l0_0.length c0_0, .int .i64 a0_1, .slice A0_2 l0_2.length c0_2, .int .i64 a0_3] 25 (0, 0)) qz17 hb); have n1_ := Aside0.mk (below_step qz8 hb); clear BK378; clear HB; have BK378 := n0_; have HB := n1_; clear n0_ n1_; (try clear hb); (try clear hb2); (try clear hk); (try clear hi); have hcz12_0 : w11.cell? ⟨gb378, 0, none⟩ = some (.slice A0_0 l0_0.length c0_0) := (blk_cell BK378.out 0).trans rfl; have hcz12_1 : w11.cell? ⟨gb378, 1, none⟩ = some (.int .i64 a0_1) := (blk_cell BK378.out 1).trans rfl; have hcz12_2 : w11.cell? ⟨gb378, 2, none⟩ = some (.slice A0_2 l0_2.length c0_2) := (blk_cell BK378.out 2).trans rfl; have hcz12_3 : w11.cell? ⟨gb378, 3, none⟩ = some (.int .i64 a0_3) := (blk_cell BK378.out 3).trans rfl; have hfz12_0 := blk_frozen BK378.out 0; have hfz12_1 := blk_frozen BK378.out 1; have hfz12_2 := blk_frozen BK378.out 2; have hfz12_3 := blk_frozen BK378.out 3) | (go_at_call 19; (with_reducible refine (skolemref35_May.calls k _ _ l0_0 a0_1 _ _ l0_2 a0_3 t380 _ ?side1 ?side2 ?side3 ?side4 A9.out).mono ?_); (case side1 => exact qz0); (case side2 => exact HC0_0.out); (case side3 => exact qz1); (case side4 => exact HC0_2.out); rintro e w13 ⟨rfl, hb⟩; have n0_ := Aside0.mk (blk_below (g := gb378) (o := .cells #[.slice A0_0 l0_0.length c0_0, .int .i64 a0_1, .slice A0_2 l0_2.length c0_2, .int .i64 a0_3] 25 (0, 0)) qz17 hb); have n1_ := Aside0.mk (below_step qz8 hb); clear BK378; clear HB; have BK378 := n0_; have HB := n1_; clear n0_ n1_; (try clear hb); (try clear hb2); (try clear hk); (try clear hi)))
      repeat (go_quiet (first | (go_at_call 8; (with_reducible refine (skolemlaw35_large.calls k _ _ l0_0 a0_1 _ _ l0_2 a0_3 false _ ?side1 ?side2 ?side3 ?side4 A5.out).mono ?_); (case side1 => exact qz0); (case side2 => exact HC0_0.out); (case side3 => exact qz1); (case side4 => exact HC0_2.out); rintro e w11 ⟨rfl, hb⟩; have n0_ := Aside0.mk (blk_below (g := gb378) (o := .cells #[.slice A0_0 l0_0.length c0_0, .int .i64 a0_1, .slice A0_2 l0_2.length c0_2, .int .i64 a0_3] 25 (0, 0)) qz17 hb); have n1_ := Aside0.mk (below_step qz8 hb); clear BK378; clear HB; have BK378 := n0_; have HB := n1_; clear n0_ n1_; (try clear hb); (try clear hb2); (try clear hk); (try clear hi); have hcz12_0 : w11.cell? ⟨gb378, 0, none⟩ = some (.slice A0_0 l0_0.length c0_0) := (blk_cell BK378.out 0).trans rfl; have hcz12_1 : w11.cell? ⟨gb378, 1, none⟩ = some (.int .i64 a0_1) := (blk_cell BK378.out 1).trans rfl; have hcz12_2 : w11.cell? ⟨gb378, 2, none⟩ = some (.slice A0_2 l0_2.length c0_2) := (blk_cell BK378.out 2).trans rfl; have hcz12_3 : w11.cell? ⟨gb378, 3, none⟩ = some (.int .i64 a0_3) := (blk_cell BK378.out 3).trans rfl; have hfz12_0 := blk_frozen BK378.out 0; have hfz12_1 := blk_frozen BK378.out 1; have hfz12_2 := blk_frozen BK378.out 2; have hfz12_3 := blk_frozen BK378.out 3) | (go_at_call 19; (with_reducible refine (skolemref35_May.calls k _ _ l0_0 a0_1 _ _ l0_2 a0_3 t380 _ ?side1 ?side2 ?side3 ?side4 A9.out).mono ?_); (case side1 => exact qz0); (case side2 => exact HC0_0.out); (case side3 => exact qz1); (case side4 => exact HC0_2.out); rintro e w13 ⟨rfl, hb⟩; have n0_ := Aside0.mk (blk_below (g := gb378) (o := .cells #[.slice A0_0 l0_0.length c0_0, .int .i64 a0_1, .slice A0_2 l0_2.length c0_2, .int .i64 a0_3] 25 (0, 0)) qz17 hb); have n1_ := Aside0.mk (below_step qz8 hb); clear BK378; clear HB; have BK378 := n0_; have HB := n1_; clear n0_ n1_; (try clear hb); (try clear hb2); (try clear hk); (try clear hi))); try go_wp2_with (first | (go_at_call 8; (with_reducible refine (skolemlaw35_large.calls k _ _ l0_0 a0_1 _ _ l0_2 a0_3 false _ ?side1 ?side2 ?side3 ?side4 A5.out).mono ?_); (case side1 => exact qz0); (case side2 => exact HC0_0.out); (case side3 => exact qz1); (case side4 => exact HC0_2.out); rintro e w11 ⟨rfl, hb⟩; have n0_ := Aside0.mk (blk_below (g := gb378) (o := .cells #[.slice A0_0 l0_0.length c0_0, .int .i64 a0_1, .slice A0_2 l0_2.length c0_2, .int .i64 a0_3] 25 (0, 0)) qz17 hb); have n1_ := Aside0.mk (below_step qz8 hb); clear BK378; clear HB; have BK378 := n0_; have HB := n1_; clear n0_ n1_; (try clear hb); (try clear hb2); (try clear hk); (try clear hi); have hcz12_0 : w11.cell? ⟨gb378, 0, none⟩ = some (.slice A0_0 l0_0.length c0_0) := (blk_cell BK378.out 0).trans rfl; have hcz12_1 : w11.cell? ⟨gb378, 1, none⟩ = some (.int .i64 a0_1) := (blk_cell BK378.out 1).trans rfl; have hcz12_2 : w11.cell? ⟨gb378, 2, none⟩ = some (.slice A0_2 l0_2.length c0_2) := (blk_cell BK378.out 2).trans rfl; have hcz12_3 : w11.cell? ⟨gb378, 3, none⟩ = some (.int .i64 a0_3) := (blk_cell BK378.out 3).trans rfl; have hfz12_0 := blk_frozen BK378.out 0; have hfz12_1 := blk_frozen BK378.out 1; have hfz12_2 := blk_frozen BK378.out 2; have hfz12_3 := blk_frozen BK378.out 3) | (go_at_call 19; (with_reducible refine (skolemref35_May.calls k _ _ l0_0 a0_1 _ _ l0_2 a0_3 t380 _ ?side1 ?side2 ?side3 ?side4 A9.out).mono ?_); (case side1 => exact qz0); (case side2 => exact HC0_0.out); (case side3 => exact qz1); (case side4 => exact HC0_2.out); rintro e w13 ⟨rfl, hb⟩; have n0_ := Aside0.mk (blk_below (g := gb378) (o := .cells #[.slice A0_0 l0_0.length c0_0, .int .i64 a0_1, .slice A0_2 l0_2.length c0_2, .int .i64 a0_3] 25 (0, 0)) qz17 hb); have n1_ := Aside0.mk (below_step qz8 hb); clear BK378; clear HB; have BK378 := n0_; have HB := n1_; clear n0_ n1_; (try clear hb); (try clear hb2); (try clear hk); (try clear hi))))
      go_meet
      case rel => exact ⟨_, (!t380), qz22, H', ⟨by first | omega | exact Nat.le_refl _⟩, ⟨by (with_reducible repeat (first | refine blk_drewN ?_ _ | refine blk_drew ?_ | refine blk_alloc ?_ _)); exact BK378.out⟩, ⟨by repeat (first | (with_reducible first | exact HB.out | apply below_alloc | apply pw_below_drewN | apply below_drew1 | refine below_set ?_ GE378.out) | exact HB.out)⟩⟩
  case rest =>
    clear HC3
    try clear c1
    try clear p2
    try clear c5
    try clear c6
    try clear hcz10_0
    try clear hcz10_1
    try clear hcz10_2
    try clear hcz10_3
    try clear hcz12_0
    try clear hcz12_1
    try clear hcz12_2
    try clear hcz12_3
    try clear hcz7_0
    try clear hcz7_1
    try clear hcz7_2
    try clear hcz7_3
    try clear hfz10_0
    try clear hfz10_1
    try clear hfz10_2
    try clear hfz10_3
    try clear hfz12_0
    try clear hfz12_1
    try clear hfz12_2
    try clear hfz12_3
    try clear hfz7_0
    try clear hfz7_1
    try clear hfz7_2
    try clear hfz7_3
    obtain ⟨kq, x19_2, rfl, HA, HJ2, BK378, HB⟩ := hcut
    cases kq with
    | zero => exact absurd HA.out (by simp [skolemlaw35_PuzzleGuided.j0])
    | succ kj2 =>
      have H := HA.out
      clear HA
      simp only [skolemlaw35_PuzzleGuided.j0] at H
      by_cases c14 : x19_2 = true
      · subst c14
        have H1 : ((skolemlaw35_head.f kj2).bind fun t381 => (some t381)) = some r := by rw [if_pos rfl] at H; exact H
        clear H
        have H := H1
        clear H1
        replace H := Option.bind_eq_some_iff.mp H
        obtain ⟨t381, A150, H⟩ := H
        replace H : (some t381) = some r := H
        have A15 := Aside0.mk A150
        clear A150
        obtain rfl := Option.some.inj H
        go_wp2_with (first | (go_at_call 9; (with_reducible refine (skolemlaw35_head.calls kj2  t381 _ A15.out).mono ?_); rintro e w16 ⟨rfl, hb⟩; have n0_ := Aside0.mk (blk_below (g := gb378) (o := .cells #[.slice A0_0 l0_0.length c0_0, .int .i64 a0_1, .slice A0_2 l0_2.length c0_2, .int .i64 a0_3] 25 (0, 0)) qz17 hb); have n1_ := Aside0.mk (below_step qz8 hb); clear BK378; clear HB; have BK378 := n0_; have HB := n1_; clear n0_ n1_; (try clear hb); (try clear hb2); (try clear hk); (try clear hi)))
        repeat (go_quiet (first | (go_at_call 9; (with_reducible refine (skolemlaw35_head.calls kj2  t381 _ A15.out).mono ?_); rintro e w16 ⟨rfl, hb⟩; have n0_ := Aside0.mk (blk_below (g := gb378) (o := .cells #[.slice A0_0 l0_0.length c0_0, .int .i64 a0_1, .slice A0_2 l0_2.length c0_2, .int .i64 a0_3] 25 (0, 0)) qz17 hb); have n1_ := Aside0.mk (below_step qz8 hb); clear BK378; clear HB; have BK378 := n0_; have HB := n1_; clear n0_ n1_; (try clear hb); (try clear hb2); (try clear hk); (try clear hi))); try go_wp2_with (first | (go_at_call 9; (with_reducible refine (skolemlaw35_head.calls kj2  t381 _ A15.out).mono ?_); rintro e w16 ⟨rfl, hb⟩; have n0_ := Aside0.mk (blk_below (g := gb378) (o := .cells #[.slice A0_0 l0_0.length c0_0, .int .i64 a0_1, .slice A0_2 l0_2.length c0_2, .int .i64 a0_3] 25 (0, 0)) qz17 hb); have n1_ := Aside0.mk (below_step qz8 hb); clear BK378; clear HB; have BK378 := n0_; have HB := n1_; clear n0_ n1_; (try clear hb); (try clear hb2); (try clear hk); (try clear hi))))
        go_ret
        exact ⟨by first | rfl | (simp [errW_none, errW_some] <;> rfl) | (simp [*, errW_none, errW_some] <;> rfl), by repeat (first | (with_reducible first | exact HB.out | apply below_alloc | apply pw_below_drewN | apply below_drew1 | refine below_set ?_ GE378.out) | exact HB.out)⟩
      · replace c14 := Bool.eq_false_iff.mpr c14
        subst c14
        have H1 : ((puzzle_Wins.f l0_0 a0_1 l0_2 a0_3).bind fun bt382 => ((puzzle_Guide.f l0_0 a0_1 l0_2 a0_3).bind fun bt384 => (if bt382.2 = 0 then (if bt384.2 = 0 then (skolemlaw35_PuzzleGuided.j1 kj2 l1 bt382.1 bt384.1 ((bt384.1.length : Int) != a0_3) l0_0 a0_1 l0_2 a0_3) else (skolemlaw35_PuzzleGuided.j1 kj2 l1 bt382.1 bt384.1 true l0_0 a0_1 l0_2 a0_3)) else (skolemlaw35_PuzzleGuided.j1 kj2 l1 bt382.1 bt384.1 true l0_0 a0_1 l0_2 a0_3)))) = some r := by rw [if_neg (show ¬ (false = true) by decide)] at H; exact H
        clear H
        have H := H1
        clear H1
        replace H := Option.bind_eq_some_iff.mp H
        obtain ⟨⟨t382, t383⟩, A170, H⟩ := H
        replace H : ((puzzle_Guide.f l0_0 a0_1 l0_2 a0_3).bind fun bt384 => (if t383 = 0 then (if bt384.2 = 0 then (skolemlaw35_PuzzleGuided.j1 kj2 l1 t382 bt384.1 ((bt384.1.length : Int) != a0_3) l0_0 a0_1 l0_2 a0_3) else (skolemlaw35_PuzzleGuided.j1 kj2 l1 t382 bt384.1 true l0_0 a0_1 l0_2 a0_3)) else (skolemlaw35_PuzzleGuided.j1 kj2 l1 t382 bt384.1 true l0_0 a0_1 l0_2 a0_3))) = some r := H
        have A17 := Aside0.mk A170
        clear A170
        replace H := Option.bind_eq_some_iff.mp H
        obtain ⟨⟨t384, t387⟩, A180, H⟩ := H
        replace H : (if t383 = 0 then (if t387 = 0 then (skolemlaw35_PuzzleGuided.j1 kj2 l1 t382 t384 ((t384.length : Int) != a0_3) l0_0 a0_1 l0_2 a0_3) else (skolemlaw35_PuzzleGuided.j1 kj2 l1 t382 t384 true l0_0 a0_1 l0_2 a0_3)) else (skolemlaw35_PuzzleGuided.j1 kj2 l1 t382 t384 true l0_0 a0_1 l0_2 a0_3)) = some r := H
        have A18 := Aside0.mk A180
        clear A180
        have HC19 := Aside0.mk H
        clear H
        have hcz20_0 : wc.cell? ⟨gb378, 0, none⟩ = some (.slice A0_0 l0_0.length c0_0) := (blk_cell BK378.out 0).trans rfl
        have hcz20_1 : wc.cell? ⟨gb378, 1, none⟩ = some (.int .i64 a0_1) := (blk_cell BK378.out 1).trans rfl
        have hcz20_2 : wc.cell? ⟨gb378, 2, none⟩ = some (.slice A0_2 l0_2.length c0_2) := (blk_cell BK378.out 2).trans rfl
        have hcz20_3 : wc.cell? ⟨gb378, 3, none⟩ = some (.int .i64 a0_3) := (blk_cell BK378.out 3).trans rfl
        have hfz20_0 := blk_frozen BK378.out 0
        have hfz20_1 := blk_frozen BK378.out 1
        have hfz20_2 := blk_frozen BK378.out 2
        have hfz20_3 := blk_frozen BK378.out 3
        go_upto_region 5 with (first | (go_at_call 14; (with_reducible refine (puzzle_Wins.calls _ _ l0_0 a0_1 _ _ l0_2 a0_3 t382 t383 _ ?side1 ?side2 ?side3 ?side4 A17.out).mono ?_); (case side1 => exact qz0); (case side2 => exact HC0_0.out); (case side3 => exact qz1); (case side4 => exact HC0_2.out); rintro e w21 ⟨rfl, hb⟩; have n0_ := Aside0.mk (blk_below (g := gb378) (o := .cells #[.slice A0_0 l0_0.length c0_0, .int .i64 a0_1, .slice A0_2 l0_2.length c0_2, .int .i64 a0_3] 25 (0, 0)) qz17 hb); have n1_ := Aside0.mk (below_step qz8 hb); clear BK378; clear HB; have BK378 := n0_; have HB := n1_; clear n0_ n1_; (try clear hb); (try clear hb2); (try clear hk); (try clear hi); have hcz22_0 : w21.cell? ⟨gb378, 0, none⟩ = some (.slice A0_0 l0_0.length c0_0) := (blk_cell BK378.out 0).trans rfl; have hcz22_1 : w21.cell? ⟨gb378, 1, none⟩ = some (.int .i64 a0_1) := (blk_cell BK378.out 1).trans rfl; have hcz22_2 : w21.cell? ⟨gb378, 2, none⟩ = some (.slice A0_2 l0_2.length c0_2) := (blk_cell BK378.out 2).trans rfl; have hcz22_3 : w21.cell? ⟨gb378, 3, none⟩ = some (.int .i64 a0_3) := (blk_cell BK378.out 3).trans rfl; have hfz22_0 := blk_frozen BK378.out 0; have hfz22_1 := blk_frozen BK378.out 1; have hfz22_2 := blk_frozen BK378.out 2; have hfz22_3 := blk_frozen BK378.out 3) | (go_at_call 16; (with_reducible refine (puzzle_Guide.calls _ _ l0_0 a0_1 _ _ l0_2 a0_3 t384 t387 _ ?side1 ?side2 ?side3 ?side4 A18.out).mono ?_); (case side1 => exact qz0); (case side2 => exact HC0_0.out); (case side3 => exact qz1); (case side4 => exact HC0_2.out); rintro e w23 ⟨v385, rfl, ho0, hb⟩; have n0_ := Aside0.mk (Kd.S_lower ho0 (below_size qz8)); have n1_ := Aside0.mk (blk_below (g := gb378) (o := .cells #[.slice A0_0 l0_0.length c0_0, .int .i64 a0_1, .slice A0_2 l0_2.length c0_2, .int .i64 a0_3] 25 (0, 0)) qz17 hb); have n2_ := Aside0.mk (below_step qz8 hb); clear BK378; clear HB; have HO386 := n0_; have BK378 := n1_; have HB := n2_; clear n0_ n1_ n2_; (try clear hb); (try clear hb2); (try clear hk); (try clear hi); (try clear ho0)))
        repeat (go_quiet (first | (go_at_call 14; (with_reducible refine (puzzle_Wins.calls _ _ l0_0 a0_1 _ _ l0_2 a0_3 t382 t383 _ ?side1 ?side2 ?side3 ?side4 A17.out).mono ?_); (case side1 => exact qz0); (case side2 => exact HC0_0.out); (case side3 => exact qz1); (case side4 => exact HC0_2.out); rintro e w21 ⟨rfl, hb⟩; have n0_ := Aside0.mk (blk_below (g := gb378) (o := .cells #[.slice A0_0 l0_0.length c0_0, .int .i64 a0_1, .slice A0_2 l0_2.length c0_2, .int .i64 a0_3] 25 (0, 0)) qz17 hb); have n1_ := Aside0.mk (below_step qz8 hb); clear BK378; clear HB; have BK378 := n0_; have HB := n1_; clear n0_ n1_; (try clear hb); (try clear hb2); (try clear hk); (try clear hi); have hcz22_0 : w21.cell? ⟨gb378, 0, none⟩ = some (.slice A0_0 l0_0.length c0_0) := (blk_cell BK378.out 0).trans rfl; have hcz22_1 : w21.cell? ⟨gb378, 1, none⟩ = some (.int .i64 a0_1) := (blk_cell BK378.out 1).trans rfl; have hcz22_2 : w21.cell? ⟨gb378, 2, none⟩ = some (.slice A0_2 l0_2.length c0_2) := (blk_cell BK378.out 2).trans rfl; have hcz22_3 : w21.cell? ⟨gb378, 3, none⟩ = some (.int .i64 a0_3) := (blk_cell BK378.out 3).trans rfl; have hfz22_0 := blk_frozen BK378.out 0; have hfz22_1 := blk_frozen BK378.out 1; have hfz22_2 := blk_frozen BK378.out 2; have hfz22_3 := blk_frozen BK378.out 3) | (go_at_call 16; (with_reducible refine (puzzle_Guide.calls _ _ l0_0 a0_1 _ _ l0_2 a0_3 t384 t387 _ ?side1 ?side2 ?side3 ?side4 A18.out).mono ?_); (case side1 => exact qz0); (case side2 => exact HC0_0.out); (case side3 => exact qz1); (case side4 => exact HC0_2.out); rintro e w23 ⟨v385, rfl, ho0, hb⟩; have n0_ := Aside0.mk (Kd.S_lower ho0 (below_size qz8)); have n1_ := Aside0.mk (blk_below (g := gb378) (o := .cells #[.slice A0_0 l0_0.length c0_0, .int .i64 a0_1, .slice A0_2 l0_2.length c0_2, .int .i64 a0_3] 25 (0, 0)) qz17 hb); have n2_ := Aside0.mk (below_step qz8 hb); clear BK378; clear HB; have HO386 := n0_; have BK378 := n1_; have HB := n2_; clear n0_ n1_ n2_; (try clear hb); (try clear hb2); (try clear hk); (try clear hi); (try clear ho0))); go_upto_region 5 with (first | (go_at_call 14; (with_reducible refine (puzzle_Wins.calls _ _ l0_0 a0_1 _ _ l0_2 a0_3 t382 t383 _ ?side1 ?side2 ?side3 ?side4 A17.out).mono ?_); (case side1 => exact qz0); (case side2 => exact HC0_0.out); (case side3 => exact qz1); (case side4 => exact HC0_2.out); rintro e w21 ⟨rfl, hb⟩; have n0_ := Aside0.mk (blk_below (g := gb378) (o := .cells #[.slice A0_0 l0_0.length c0_0, .int .i64 a0_1, .slice A0_2 l0_2.length c0_2, .int .i64 a0_3] 25 (0, 0)) qz17 hb); have n1_ := Aside0.mk (below_step qz8 hb); clear BK378; clear HB; have BK378 := n0_; have HB := n1_; clear n0_ n1_; (try clear hb); (try clear hb2); (try clear hk); (try clear hi); have hcz22_0 : w21.cell? ⟨gb378, 0, none⟩ = some (.slice A0_0 l0_0.length c0_0) := (blk_cell BK378.out 0).trans rfl; have hcz22_1 : w21.cell? ⟨gb378, 1, none⟩ = some (.int .i64 a0_1) := (blk_cell BK378.out 1).trans rfl; have hcz22_2 : w21.cell? ⟨gb378, 2, none⟩ = some (.slice A0_2 l0_2.length c0_2) := (blk_cell BK378.out 2).trans rfl; have hcz22_3 : w21.cell? ⟨gb378, 3, none⟩ = some (.int .i64 a0_3) := (blk_cell BK378.out 3).trans rfl; have hfz22_0 := blk_frozen BK378.out 0; have hfz22_1 := blk_frozen BK378.out 1; have hfz22_2 := blk_frozen BK378.out 2; have hfz22_3 := blk_frozen BK378.out 3) | (go_at_call 16; (with_reducible refine (puzzle_Guide.calls _ _ l0_0 a0_1 _ _ l0_2 a0_3 t384 t387 _ ?side1 ?side2 ?side3 ?side4 A18.out).mono ?_); (case side1 => exact qz0); (case side2 => exact HC0_0.out); (case side3 => exact qz1); (case side4 => exact HC0_2.out); rintro e w23 ⟨v385, rfl, ho0, hb⟩; have n0_ := Aside0.mk (Kd.S_lower ho0 (below_size qz8)); have n1_ := Aside0.mk (blk_below (g := gb378) (o := .cells #[.slice A0_0 l0_0.length c0_0, .int .i64 a0_1, .slice A0_2 l0_2.length c0_2, .int .i64 a0_3] 25 (0, 0)) qz17 hb); have n2_ := Aside0.mk (below_step qz8 hb); clear BK378; clear HB; have HO386 := n0_; have BK378 := n1_; have HB := n2_; clear n0_ n1_ n2_; (try clear hb); (try clear hb2); (try clear hk); (try clear hi); (try clear ho0))))
        (try simp only [Act.put, List.setIfInBounds_toArray, List.set_cons_zero, List.set_cons_succ])
        go_cut [43] (fun v43 wc => ∃ (kq : Nat) (x43_18 : Bool), v43 = .bool x43_18 ∧ Aside0 (skolemlaw35_PuzzleGuided.j1 kq l1 t382 t384 x43_18 l0_0 a0_1 l0_2 a0_3 = some r) ∧ Aside0 (kq ≤ kj2) ∧ Aside0 (Kd.S (Kd.slice 3 (Kd.int .i64)) 23 wc w.heap.size (fun _ => True) v385 t384) ∧ Aside0 (wc.heap[gb378]? = some (.cells #[(.slice A0_0 l0_0.length c0_0), .int .i64 a0_1, (.slice A0_2 l0_2.length c0_2), .int .i64 a0_3] 25 (0, 0))) ∧ Aside0 (Below w.heap.size w wc))
        case first =>
          have H := HC19.out
          clear HC19
          by_cases c24 : t383 = 0
          · rw [if_pos c24] at H
            have c24b0 : (t383 == 0) = true := beq_iff_eq.mpr c24
            have c24b1 : (t383 != 0) = false := bne_eq_false_iff_eq.mpr c24
            clear c24
            (first | rw [c24b0] | (simp only [i64_w, i32_w]; rw [c24b0]) | skip)
            by_cases c25 : t387 = 0
            · rw [if_pos c25] at H
              have c25b0 : (t387 == 0) = true := beq_iff_eq.mpr c25
              have c25b1 : (t387 != 0) = false := bne_eq_false_iff_eq.mpr c25
              clear c25
              have H' := Aside0.mk H
              clear H
              obtain ⟨Ao26, co26, eo26⟩ := Kd.S_slice HO386.out
              subst eo26
              have hcz27_0 : w23.cell? ⟨gb378, 0, none⟩ = some (.slice A0_0 l0_0.length c0_0) := (blk_cell BK378.out 0).trans rfl
              have hcz27_1 : w23.cell? ⟨gb378, 1, none⟩ = some (.int .i64 a0_1) := (blk_cell BK378.out 1).trans rfl
              have hcz27_2 : w23.cell? ⟨gb378, 2, none⟩ = some (.slice A0_2 l0_2.length c0_2) := (blk_cell BK378.out 2).trans rfl
              have hcz27_3 : w23.cell? ⟨gb378, 3, none⟩ = some (.int .i64 a0_3) := (blk_cell BK378.out 3).trans rfl
              have hfz27_0 := blk_frozen BK378.out 0
              have hfz27_1 := blk_frozen BK378.out 1
              have hfz27_2 := blk_frozen BK378.out 2
              have hfz27_3 := blk_frozen BK378.out 3
              go_wp2
              repeat (go_quiet (fail); try go_wp2)
              go_meet
              case rel => exact ⟨_, (((t384.length : Int) != a0_3)), qz22, H', ⟨by have := HJ2.out; first | omega | exact Nat.le_refl _⟩, ⟨by (with_reducible repeat (first | apply Kd.S_alloc | apply Kd.S_drewN | apply Kd.S_drew)); exact HO386.out⟩, ⟨by (with_reducible repeat (first | refine blk_drewN ?_ _ | refine blk_drew ?_ | refine blk_alloc ?_ _)); exact BK378.out⟩, ⟨by repeat (first | (with_reducible first | exact HB.out | apply below_alloc | apply pw_below_drewN | apply below_drew1 | refine below_set ?_ GE378.out) | exact HB.out)⟩⟩
            · rw [if_neg c25] at H
              have c25b0 : (t387 == 0) = false := beq_eq_false_iff_ne.mpr c25
              have c25b1 : (t387 != 0) = true := bne_iff_ne.mpr c25
              have H' := Aside0.mk H
              clear H
              go_wp2
              repeat (go_quiet (fail); try go_wp2)
              go_meet
              case rel => exact ⟨_, (true), qz22, H', ⟨by have := HJ2.out; first | omega | exact Nat.le_refl _⟩, ⟨by (with_reducible repeat (first | apply Kd.S_alloc | apply Kd.S_drewN | apply Kd.S_drew)); exact HO386.out⟩, ⟨by (with_reducible repeat (first | refine blk_drewN ?_ _ | refine blk_drew ?_ | refine blk_alloc ?_ _)); exact BK378.out⟩, ⟨by repeat (first | (with_reducible first | exact HB.out | apply below_alloc | apply pw_below_drewN | apply below_drew1 | refine below_set ?_ GE378.out) | exact HB.out)⟩⟩
          · rw [if_neg c24] at H
            have c24b0 : (t383 == 0) = false := beq_eq_false_iff_ne.mpr c24
            have c24b1 : (t383 != 0) = true := bne_iff_ne.mpr c24
            (first | rw [c24b0] | (simp only [i64_w, i32_w]; rw [c24b0]) | skip)
            have H' := Aside0.mk H
            clear H
            go_wp2
            repeat (go_quiet (fail); try go_wp2)
            go_meet
            case rel => exact ⟨_, (true), qz22, H', ⟨by have := HJ2.out; first | omega | exact Nat.le_refl _⟩, ⟨by (with_reducible repeat (first | apply Kd.S_alloc | apply Kd.S_drewN | apply Kd.S_drew)); exact HO386.out⟩, ⟨by (with_reducible repeat (first | refine blk_drewN ?_ _ | refine blk_drew ?_ | refine blk_alloc ?_ _)); exact BK378.out⟩, ⟨by repeat (first | (with_reducible first | exact HB.out | apply below_alloc | apply pw_below_drewN | apply below_drew1 | refine below_set ?_ GE378.out) | exact HB.out)⟩⟩
        case rest =>
          clear HC19
          try clear c1
          try clear c2
          try clear p2
          try clear c5
          try clear c6
          try clear c14
          try clear c24
          try clear c24b0
          try clear c24b1
          try clear c25
          try clear c25b0
          try clear c25b1
          try clear hcz10_0
          try clear hcz10_1
          try clear hcz10_2
          try clear hcz10_3
          try clear hcz12_0
          try clear hcz12_1
          try clear hcz12_2
          try clear hcz12_3
          try clear hcz20_0
          try clear hcz20_1
          try clear hcz20_2
          try clear hcz20_3
          try clear hcz22_0
          try clear hcz22_1
          try clear hcz22_2
          try clear hcz22_3
          try clear hcz27_0
          try clear hcz27_1
          try clear hcz27_2
          try clear hcz27_3
          try clear hcz7_0
          try clear hcz7_1
          try clear hcz7_2
          try clear hcz7_3
          try clear hfz10_0
          try clear hfz10_1
          try clear hfz10_2
          try clear hfz10_3
          try clear hfz12_0
          try clear hfz12_1
          try clear hfz12_2
          try clear hfz12_3
          try clear hfz20_0
          try clear hfz20_1
          try clear hfz20_2
          try clear hfz20_3
          try clear hfz22_0
          try clear hfz22_1
          try clear hfz22_2
          try clear hfz22_3
          try clear hfz27_0
          try clear hfz27_1
          try clear hfz27_2
          try clear hfz27_3
          try clear hfz7_0
          try clear hfz7_1
          try clear hfz7_2
          try clear hfz7_3
          try clear p2
          obtain ⟨kq, x43_18, rfl, HA, HJ18, HO_7, BK378, HB⟩ := hcut
          cases kq with
          | zero => exact absurd HA.out (by simp [skolemlaw35_PuzzleGuided.j1])
          | succ kj18 =>
            have H := HA.out
            clear HA
            simp only [skolemlaw35_PuzzleGuided.j1] at H
            by_cases c28 : x43_18 = true
            · subst c28
              have H1 : (some false) = some r := by rw [if_pos rfl] at H; exact H
              clear H
              have H := H1
              clear H1
              exact absurd ((Option.some.inj H).trans HT_.out) (by decide)
            · replace c28 := Bool.eq_false_iff.mpr c28
              subst c28
              have H1 : (skolemlaw35_PuzzleGuided.l0 kj18 l1 t382 t384 a0_1 0 l0_0 a0_1 l0_2 a0_3) = some r := by rw [if_neg (show ¬ (false = true) by decide)] at H; exact H
              clear H
              have H := H1
              clear H1
              have H' := Aside0.mk H
              clear H
              have hcz29_0 : wc.cell? ⟨gb378, 0, none⟩ = some (.slice A0_0 l0_0.length c0_0) := (blk_cell BK378.out 0).trans rfl
              have hcz29_1 : wc.cell? ⟨gb378, 1, none⟩ = some (.int .i64 a0_1) := (blk_cell BK378.out 1).trans rfl
              have hcz29_2 : wc.cell? ⟨gb378, 2, none⟩ = some (.slice A0_2 l0_2.length c0_2) := (blk_cell BK378.out 2).trans rfl
              have hcz29_3 : wc.cell? ⟨gb378, 3, none⟩ = some (.int .i64 a0_3) := (blk_cell BK378.out 3).trans rfl
              have hfz29_0 := blk_frozen BK378.out 0
              have hfz29_1 := blk_frozen BK378.out 1
              have hfz29_2 := blk_frozen BK378.out 2
              have hfz29_3 := blk_frozen BK378.out 3
              go_wp2
              repeat (go_quiet (fail); try go_wp2)
              go_loopg [9, 10] kj18 (fun kq v9 v10 w' => ∃ (x9_3 : Int) (x10_3 : Int), v9 = .int .i64 x9_3 ∧ v10 = .int .i64 x10_3 ∧ Aside0 (skolemlaw35_PuzzleGuided.l0 kq l1 t382 t384 x9_3 x10_3 l0_0 a0_1 l0_2 a0_3 = some r) ∧ Aside0 (kq ≤ kj18) ∧ Aside0 (Kd.S (Kd.slice 3 (Kd.int .i64)) 23 w' w.heap.size (fun _ => True) v385 t384) ∧ Aside0 (w'.heap[gb378]? = some (.cells #[(.slice A0_0 l0_0.length c0_0), .int .i64 a0_1, (.slice A0_2 l0_2.length c0_2), .int .i64 a0_3] 25 (0, 0))) ∧ Aside0 (Below w.heap.size w w'))
              case atStart => exact ⟨(a0_1), (0), qz22, qz22, H', ⟨Nat.le_refl _⟩, ⟨by (with_reducible repeat (first | apply Kd.S_alloc | apply Kd.S_drewN | apply Kd.S_drew)); exact HO_7.out⟩, ⟨by (with_reducible repeat (first | refine blk_drewN ?_ _ | refine blk_drew ?_ | refine blk_alloc ?_ _)); exact BK378.out⟩, ⟨by repeat (first | (with_reducible first | exact HB.out | apply below_alloc | apply pw_below_drewN | apply below_drew1 | refine below_set ?_ GE378.out) | exact HB.out)⟩⟩
              case round =>
                clear H'
                try clear c1
                try clear c2
                try clear p2
                try clear c5
                try clear c6
                try clear c14
                try clear c24
                try clear c24b0
                try clear c24b1
                try clear c25
                try clear c25b0
                try clear c25b1
                try clear c28
                try clear hcz10_0
                try clear hcz10_1
                try clear hcz10_2
                try clear hcz10_3
                try clear hcz12_0
                try clear hcz12_1
                try clear hcz12_2
                try clear hcz12_3
                try clear hcz20_0
                try clear hcz20_1
                try clear hcz20_2
                try clear hcz20_3
                try clear hcz22_0
                try clear hcz22_1
                try clear hcz22_2
                try clear hcz22_3
                try clear hcz27_0
                try clear hcz27_1
                try clear hcz27_2
                try clear hcz27_3
                try clear hcz29_0
                try clear hcz29_1
                try clear hcz29_2
                try clear hcz29_3
                try clear hcz7_0
                try clear hcz7_1
                try clear hcz7_2
                try clear hcz7_3
                try clear hfz10_0
                try clear hfz10_1
                try clear hfz10_2
                try clear hfz10_3
                try clear hfz12_0
                try clear hfz12_1
                try clear hfz12_2
                try clear hfz12_3
                try clear hfz20_0
                try clear hfz20_1
                try clear hfz20_2
                try clear hfz20_3
                try clear hfz22_0
                try clear hfz22_1
                try clear hfz22_2
                try clear hfz22_3
                try clear hfz27_0
                try clear hfz27_1
                try clear hfz27_2
                try clear hfz27_3
                try clear hfz29_0
                try clear hfz29_1
                try clear hfz29_2
                try clear hfz29_3
                try clear hfz7_0
                try clear hfz7_1
                try clear hfz7_2
                try clear hfz7_3
                try clear p2
                obtain ⟨x9_3, x10_3, rfl, rfl, HA, HK3, HO_7, BK378, HB⟩ := hrel
                cases gk with
                | zero => exact absurd HA.out (by simp [skolemlaw35_PuzzleGuided.l0])
                | succ k3 =>
                  have H := HA.out
                  clear HA
                  simp only [skolemlaw35_PuzzleGuided.l0] at H
                  have HC30 := Aside0.mk H
                  clear H
                  go_upto_region 9 with (fail)
                  repeat (go_quiet (fail); go_upto_region 9 with (fail))
                  go_cut [59] (fun v59 wc => ∃ (kq : Nat) (x59_29 : Bool), v59 = .bool x59_29 ∧ Aside0 (skolemlaw35_PuzzleGuided.j3 kq l1 t382 t384 x9_3 x10_3 x59_29 l0_0 a0_1 l0_2 a0_3 = some r) ∧ Aside0 (kq ≤ k3) ∧ Aside0 (Kd.S (Kd.slice 3 (Kd.int .i64)) 23 wc w.heap.size (fun _ => True) v385 t384) ∧ Aside0 (wc.heap[gb378]? = some (.cells #[(.slice A0_0 l0_0.length c0_0), .int .i64 a0_1, (.slice A0_2 l0_2.length c0_2), .int .i64 a0_3] 25 (0, 0))) ∧ Aside0 (Below w.heap.size w wc))
                  case first =>
                    have H := HC30.out
                    clear HC30
                    by_cases c31 : x10_3 < a0_3
                    · rw [if_pos c31] at H
                      have c31b0 : decide (x10_3 < a0_3) = true := decide_eq_true c31
                      clear c31
                      (first | rw [c31b0] | (simp only [i64_w, i32_w]; rw [c31b0]) | skip)
                      by_cases c32 : t382 = true
                      · subst c32
                        have H1 : ((skolemref03_Has.f k3 l0_2 x9_3).bind fun t388 => (skolemlaw35_PuzzleGuided.j3 k3 l1 true t384 x9_3 x10_3 (!t388) l0_0 a0_1 l0_2 a0_3)) = some r := by rw [if_pos rfl] at H; exact H
                        clear H
                        have H := H1
                        clear H1
                        replace H := Option.bind_eq_some_iff.mp H
                        obtain ⟨t388, A330, H⟩ := H
                        replace H : (skolemlaw35_PuzzleGuided.j3 k3 l1 true t384 x9_3 x10_3 (!t388) l0_0 a0_1 l0_2 a0_3) = some r := H
                        have A33 := Aside0.mk A330
                        clear A330
                        have H' := Aside0.mk H
                        clear H
                        have hcz34_0 : wr.cell? ⟨gb378, 0, none⟩ = some (.slice A0_0 l0_0.length c0_0) := (blk_cell BK378.out 0).trans rfl
                        have hcz34_1 : wr.cell? ⟨gb378, 1, none⟩ = some (.int .i64 a0_1) := (blk_cell BK378.out 1).trans rfl
                        have hcz34_2 : wr.cell? ⟨gb378, 2, none⟩ = some (.slice A0_2 l0_2.length c0_2) := (blk_cell BK378.out 2).trans rfl
                        have hcz34_3 : wr.cell? ⟨gb378, 3, none⟩ = some (.int .i64 a0_3) := (blk_cell BK378.out 3).trans rfl
                        have hfz34_0 := blk_frozen BK378.out 0
                        have hfz34_1 := blk_frozen BK378.out 1
                        have hfz34_2 := blk_frozen BK378.out 2
                        have hfz34_3 := blk_frozen BK378.out 3
                        go_wp2_with (first | (go_at_call 24; (with_reducible refine (skolemref03_Has.calls k3 _ _ l0_2 x9_3 t388 _ ?side1 ?side2 A33.out).mono ?_); (case side1 => exact qz1); (case side2 => exact HC0_2.out); rintro e w' ⟨rfl, ⟨nd, rfl⟩⟩; (try exact qz11)))
                        repeat (go_quiet (first | (go_at_call 24; (with_reducible refine (skolemref03_Has.calls k3 _ _ l0_2 x9_3 t388 _ ?side1 ?side2 A33.out).mono ?_); (case side1 => exact qz1); (case side2 => exact HC0_2.out); rintro e w' ⟨rfl, ⟨nd, rfl⟩⟩; (try exact qz11))); try go_wp2_with (first | (go_at_call 24; (with_reducible refine (skolemref03_Has.calls k3 _ _ l0_2 x9_3 t388 _ ?side1 ?side2 A33.out).mono ?_); (case side1 => exact qz1); (case side2 => exact HC0_2.out); rintro e w' ⟨rfl, ⟨nd, rfl⟩⟩; (try exact qz11))))
                        go_meet
                        case rel => exact ⟨_, (!t388), qz22, H', ⟨by have := HJ2.out; have := HJ18.out; have := HK3.out; first | omega | exact Nat.le_refl _⟩, ⟨by (with_reducible repeat (first | apply Kd.S_alloc | apply Kd.S_drewN | apply Kd.S_drew)); exact HO_7.out⟩, ⟨by (with_reducible repeat (first | refine blk_drewN ?_ _ | refine blk_drew ?_ | refine blk_alloc ?_ _)); exact BK378.out⟩, ⟨by repeat (first | (with_reducible first | exact HB.out | apply below_alloc | apply pw_below_drewN | apply below_drew1 | refine below_set ?_ GE378.out) | exact HB.out)⟩⟩
                      · replace c32 := Bool.eq_false_iff.mpr c32
                        subst c32
                        have H1 : (skolemlaw35_PuzzleGuided.j3 k3 l1 false t384 x9_3 x10_3 false l0_0 a0_1 l0_2 a0_3) = some r := by rw [if_neg (show ¬ (false = true) by decide)] at H; exact H
                        clear H
                        have H := H1
                        clear H1
                        have H' := Aside0.mk H
                        clear H
                        have hcz35_0 : wr.cell? ⟨gb378, 0, none⟩ = some (.slice A0_0 l0_0.length c0_0) := (blk_cell BK378.out 0).trans rfl
                        have hcz35_1 : wr.cell? ⟨gb378, 1, none⟩ = some (.int .i64 a0_1) := (blk_cell BK378.out 1).trans rfl
                        have hcz35_2 : wr.cell? ⟨gb378, 2, none⟩ = some (.slice A0_2 l0_2.length c0_2) := (blk_cell BK378.out 2).trans rfl
                        have hcz35_3 : wr.cell? ⟨gb378, 3, none⟩ = some (.int .i64 a0_3) := (blk_cell BK378.out 3).trans rfl
                        have hfz35_0 := blk_frozen BK378.out 0
                        have hfz35_1 := blk_frozen BK378.out 1
                        have hfz35_2 := blk_frozen BK378.out 2
                        have hfz35_3 := blk_frozen BK378.out 3
                        go_wp2
                        repeat (go_quiet (fail); try go_wp2)
                        go_meet
                        case rel => exact ⟨_, (false), qz22, H', ⟨by have := HJ2.out; have := HJ18.out; have := HK3.out; first | omega | exact Nat.le_refl _⟩, ⟨by (with_reducible repeat (first | apply Kd.S_alloc | apply Kd.S_drewN | apply Kd.S_drew)); exact HO_7.out⟩, ⟨by (with_reducible repeat (first | refine blk_drewN ?_ _ | refine blk_drew ?_ | refine blk_alloc ?_ _)); exact BK378.out⟩, ⟨by repeat (first | (with_reducible first | exact HB.out | apply below_alloc | apply pw_below_drewN | apply below_drew1 | refine below_set ?_ GE378.out) | exact HB.out)⟩⟩
                    · rw [if_neg c31] at H
                      have c31b0 : decide (x10_3 < a0_3) = false := decide_eq_false c31
                      clear c31
                      (first | rw [c31b0] | (simp only [i64_w, i32_w]; rw [c31b0]) | skip)
                      have H' := Aside0.mk H
                      clear H
                      have hcz36_0 : wr.cell? ⟨gb378, 0, none⟩ = some (.slice A0_0 l0_0.length c0_0) := (blk_cell BK378.out 0).trans rfl
                      have hcz36_1 : wr.cell? ⟨gb378, 1, none⟩ = some (.int .i64 a0_1) := (blk_cell BK378.out 1).trans rfl
                      have hcz36_2 : wr.cell? ⟨gb378, 2, none⟩ = some (.slice A0_2 l0_2.length c0_2) := (blk_cell BK378.out 2).trans rfl
                      have hcz36_3 : wr.cell? ⟨gb378, 3, none⟩ = some (.int .i64 a0_3) := (blk_cell BK378.out 3).trans rfl
                      have hfz36_0 := blk_frozen BK378.out 0
                      have hfz36_1 := blk_frozen BK378.out 1
                      have hfz36_2 := blk_frozen BK378.out 2
                      have hfz36_3 := blk_frozen BK378.out 3
                      go_wp2
                      repeat (go_quiet (fail); try go_wp2)
                      go_meet
                      case rel => exact ⟨_, (false), qz22, H', ⟨by have := HJ2.out; have := HJ18.out; have := HK3.out; first | omega | exact Nat.le_refl _⟩, ⟨by (with_reducible repeat (first | apply Kd.S_alloc | apply Kd.S_drewN | apply Kd.S_drew)); exact HO_7.out⟩, ⟨by (with_reducible repeat (first | refine blk_drewN ?_ _ | refine blk_drew ?_ | refine blk_alloc ?_ _)); exact BK378.out⟩, ⟨by repeat (first | (with_reducible first | exact HB.out | apply below_alloc | apply pw_below_drewN | apply below_drew1 | refine below_set ?_ GE378.out) | exact HB.out)⟩⟩
                  case rest =>
                    clear HC30
                    try clear c1
                    try clear c2
                    try clear p2
                    try clear c3
                    try clear c5
                    try clear c6
                    try clear c14
                    try clear c24
                    try clear c24b0
                    try clear c24b1
                    try clear c25
                    try clear c25b0
                    try clear c25b1
                    try clear c28
                    try clear c31
                    try clear c31b0
                    try clear c32
                    try clear hcz10_0
                    try clear hcz10_1
                    try clear hcz10_2
                    try clear hcz10_3
                    try clear hcz12_0
                    try clear hcz12_1
                    try clear hcz12_2
                    try clear hcz12_3
                    try clear hcz20_0
                    try clear hcz20_1
                    try clear hcz20_2
                    try clear hcz20_3
                    try clear hcz22_0
                    try clear hcz22_1
                    try clear hcz22_2
                    try clear hcz22_3
                    try clear hcz27_0
                    try clear hcz27_1
                    try clear hcz27_2
                    try clear hcz27_3
                    try clear hcz29_0
                    try clear hcz29_1
                    try clear hcz29_2
                    try clear hcz29_3
                    try clear hcz34_0
                    try clear hcz34_1
                    try clear hcz34_2
                    try clear hcz34_3
                    try clear hcz35_0
                    try clear hcz35_1
                    try clear hcz35_2
                    try clear hcz35_3
                    try clear hcz36_0
                    try clear hcz36_1
                    try clear hcz36_2
                    try clear hcz36_3
                    try clear hcz7_0
                    try clear hcz7_1
                    try clear hcz7_2
                    try clear hcz7_3
                    try clear hfz10_0
                    try clear hfz10_1
                    try clear hfz10_2
                    try clear hfz10_3
                    try clear hfz12_0
                    try clear hfz12_1
                    try clear hfz12_2
                    try clear hfz12_3
                    try clear hfz20_0
                    try clear hfz20_1
                    try clear hfz20_2
                    try clear hfz20_3
                    try clear hfz22_0
                    try clear hfz22_1
                    try clear hfz22_2
                    try clear hfz22_3
                    try clear hfz27_0
                    try clear hfz27_1
                    try clear hfz27_2
                    try clear hfz27_3
                    try clear hfz29_0
                    try clear hfz29_1
                    try clear hfz29_2
                    try clear hfz29_3
                    try clear hfz34_0
                    try clear hfz34_1
                    try clear hfz34_2
                    try clear hfz34_3
                    try clear hfz35_0
                    try clear hfz35_1
                    try clear hfz35_2
                    try clear hfz35_3
                    try clear hfz36_0
                    try clear hfz36_1
                    try clear hfz36_2
                    try clear hfz36_3
                    try clear hfz7_0
                    try clear hfz7_1
                    try clear hfz7_2
                    try clear hfz7_3
                    try clear p2
                    obtain ⟨kq, x59_29, rfl, HA, HJ29, HO_7, BK378, HB⟩ := hcut
                    cases kq with
                    | zero => exact absurd HA.out (by simp [skolemlaw35_PuzzleGuided.j3])
                    | succ kj29 =>
                      have H := HA.out
                      clear HA
                      simp only [skolemlaw35_PuzzleGuided.j3] at H
                      by_cases c37 : x59_29 = true
                      · subst c37
                        have H1 : (if 0 ≤ x9_3 then (if x9_3 < (l0_0.length : Int) then (if x10_3 < (l1.length : Int) then (if 0 ≤ x10_3 then (skolemlaw35_PuzzleGuided.j4 kj29 l1 t382 t384 x9_3 x10_3 (wrap64 (rd l1 x10_3)) l0_0 a0_1 l0_2 a0_3 ((rd_T55 l0_0 x9_3).f0) ((rd_T55 l0_0 x9_3).f1)) else (none)) else (skolemlaw35_PuzzleGuided.j4 kj29 l1 t382 t384 x9_3 x10_3 0 l0_0 a0_1 l0_2 a0_3 ((rd_T55 l0_0 x9_3).f0) ((rd_T55 l0_0 x9_3).f1))) else (none)) else (none)) = some r := by rw [if_pos rfl] at H; exact H
                        clear H
                        have H := H1
                        clear H1
                        by_cases c38 : 0 ≤ x9_3
                        case neg => rw [if_neg c38] at H; exact absurd H (by simp)
                        rw [if_pos c38] at H
                        have c38b0 : decide (0 ≤ x9_3) = true := decide_eq_true c38
                        clear c38
                        by_cases c39 : x9_3 < (l0_0.length : Int)
                        case neg => rw [if_neg c39] at H; exact absurd H (by simp)
                        rw [if_pos c39] at H
                        have c39b0 : decide (x9_3 < (l0_0.length : Int)) = true := decide_eq_true c39
                        clear c39
                        have HC40 := Aside0.mk H
                        clear H
                        have hcz41_0 : wc.cell? ⟨gb378, 0, none⟩ = some (.slice A0_0 l0_0.length c0_0) := (blk_cell BK378.out 0).trans rfl
                        have hcz41_1 : wc.cell? ⟨gb378, 1, none⟩ = some (.int .i64 a0_1) := (blk_cell BK378.out 1).trans rfl
                        have hcz41_2 : wc.cell? ⟨gb378, 2, none⟩ = some (.slice A0_2 l0_2.length c0_2) := (blk_cell BK378.out 2).trans rfl
                        have hcz41_3 : wc.cell? ⟨gb378, 3, none⟩ = some (.int .i64 a0_3) := (blk_cell BK378.out 3).trans rfl
                        have hfz41_0 := blk_frozen BK378.out 0
                        have hfz41_1 := blk_frozen BK378.out 1
                        have hfz41_2 := blk_frozen BK378.out 2
                        have hfz41_3 := blk_frozen BK378.out 3
                        have p392 : 0 ≤ (x9_3 : Int) := of_decide_eq_true qz21
                        have q392 : x9_3 < (l0_0.length : Int) := of_decide_eq_true qz21
                        obtain ⟨ad392, A392_1, c392_1, e392, hx392_0, hx392_1, hl392_1, hi392_1⟩ := at_T55 HR0_0.out x9_3 p392 q392
                        cases e392
                        replace hx392_0 := (HB.out.cell (World.block_lt_of_cell? w _ hx392_0)).trans hx392_0
                        replace hx392_1 := (HB.out.cell (World.block_lt_of_cell? w _ hx392_1)).trans hx392_1
                        have HR392_1 := Aside0.mk hi392_1
                        have HC392_1 := Aside0.mk hl392_1
                        clear hi392_1 hl392_1
                        replace p392 := eq_true p392
                        replace q392 := eq_true q392
                        go_upto_if 70 with (first | ((with_reducible refine gate_dst (N := 11) rfl ?_); (try (refine gate_guard (by rfl) ?_; dsimp only)); refine box_event ?hg (N := 11) ?hd (cs := #[.bool false, .slice none 0 0]) (t := 55) ?hr ?_; (case hd => rfl); (case hg => rfl); (case hr => exact qz23); intro gb393 hg w42 hbox hb; have n0_ := Aside0.mk (Kd.S_below qz19 hb); have n1_ := Aside0.mk (blk_below (g := gb378) (o := .cells #[.slice (some ad392) l0_0.length c0_0, .int .i64 a0_1, .slice A0_2 l0_2.length c0_2, .int .i64 a0_3] 25 (0, 0)) qz17 hb); have n2_ := Aside0.mk (below_step qz8 hb); have n3_ := Aside0.mk (hbox); have n4_ := Aside0.mk ((by rw [hg]; exact (below_size qz8) : w.heap.size ≤ gb393)); have n5_ := Aside0.mk ((by rw [hg]; exact (below_size qz8) : w.heap.size ≤ gb393)); have n6_ := Aside0.mk ((by rw [hg]; exact Nat.ne_of_lt (blk_lt (g := gb378) (o := .cells #[.slice (some ad392) l0_0.length c0_0, .int .i64 a0_1, .slice A0_2 l0_2.length c0_2, .int .i64 a0_3] 25 (0, 0)) qz17) : gb378 ≠ gb393)); have n7_ := Aside0.mk ((by rw [hg]; exact Nat.ne_of_gt (blk_lt (g := gb378) (o := .cells #[.slice (some ad392) l0_0.length c0_0, .int .i64 a0_1, .slice A0_2 l0_2.length c0_2, .int .i64 a0_3] 25 (0, 0)) qz17) : gb393 ≠ gb378)); clear HO_7; clear BK378; clear HB; have HO_7 := n0_; have BK378 := n1_; have HB := n2_; have BK393 := n3_; have GW393 := n4_; have GE393 := n5_; have NB378_393 := n6_; have NB393_378 := n7_; clear n0_ n1_ n2_ n3_ n4_ n5_ n6_ n7_; clear hb hbox hg; have hnb43 := NB393_378.out; have hnc43 := NB378_393.out; have hcz44_0 : w42.cell? ⟨gb393, 0, none⟩ = some (.bool false) := (blk_cell BK393.out 0).trans rfl; have hcz44_1 : w42.cell? ⟨gb393, 1, none⟩ = some (.slice none 0 0) := (blk_cell BK393.out 1).trans rfl; have hfz44_0 := blk_frozen BK393.out 0; have hfz44_1 := blk_frozen BK393.out 1))
                        repeat (go_quiet (first | ((with_reducible refine gate_dst (N := 11) rfl ?_); (try (refine gate_guard (by rfl) ?_; dsimp only)); refine box_event ?hg (N := 11) ?hd (cs := #[.bool false, .slice none 0 0]) (t := 55) ?hr ?_; (case hd => rfl); (case hg => rfl); (case hr => exact qz23); intro gb393 hg w42 hbox hb; have n0_ := Aside0.mk (Kd.S_below qz19 hb); have n1_ := Aside0.mk (blk_below (g := gb378) (o := .cells #[.slice (some ad392) l0_0.length c0_0, .int .i64 a0_1, .slice A0_2 l0_2.length c0_2, .int .i64 a0_3] 25 (0, 0)) qz17 hb); have n2_ := Aside0.mk (below_step qz8 hb); have n3_ := Aside0.mk (hbox); have n4_ := Aside0.mk ((by rw [hg]; exact (below_size qz8) : w.heap.size ≤ gb393)); have n5_ := Aside0.mk ((by rw [hg]; exact (below_size qz8) : w.heap.size ≤ gb393)); have n6_ := Aside0.mk ((by rw [hg]; exact Nat.ne_of_lt (blk_lt (g := gb378) (o := .cells #[.slice (some ad392) l0_0.length c0_0, .int .i64 a0_1, .slice A0_2 l0_2.length c0_2, .int .i64 a0_3] 25 (0, 0)) qz17) : gb378 ≠ gb393)); have n7_ := Aside0.mk ((by rw [hg]; exact Nat.ne_of_gt (blk_lt (g := gb378) (o := .cells #[.slice (some ad392) l0_0.length c0_0, .int .i64 a0_1, .slice A0_2 l0_2.length c0_2, .int .i64 a0_3] 25 (0, 0)) qz17) : gb393 ≠ gb378)); clear HO_7; clear BK378; clear HB; have HO_7 := n0_; have BK378 := n1_; have HB := n2_; have BK393 := n3_; have GW393 := n4_; have GE393 := n5_; have NB378_393 := n6_; have NB393_378 := n7_; clear n0_ n1_ n2_ n3_ n4_ n5_ n6_ n7_; clear hb hbox hg; have hnb43 := NB393_378.out; have hnc43 := NB378_393.out; have hcz44_0 : w42.cell? ⟨gb393, 0, none⟩ = some (.bool false) := (blk_cell BK393.out 0).trans rfl; have hcz44_1 : w42.cell? ⟨gb393, 1, none⟩ = some (.slice none 0 0) := (blk_cell BK393.out 1).trans rfl; have hfz44_0 := blk_frozen BK393.out 0; have hfz44_1 := blk_frozen BK393.out 1)); go_upto_if 70 with (first | ((with_reducible refine gate_dst (N := 11) rfl ?_); (try (refine gate_guard (by rfl) ?_; dsimp only)); refine box_event ?hg (N := 11) ?hd (cs := #[.bool false, .slice none 0 0]) (t := 55) ?hr ?_; (case hd => rfl); (case hg => rfl); (case hr => exact qz23); intro gb393 hg w42 hbox hb; have n0_ := Aside0.mk (Kd.S_below qz19 hb); have n1_ := Aside0.mk (blk_below (g := gb378) (o := .cells #[.slice (some ad392) l0_0.length c0_0, .int .i64 a0_1, .slice A0_2 l0_2.length c0_2, .int .i64 a0_3] 25 (0, 0)) qz17 hb); have n2_ := Aside0.mk (below_step qz8 hb); have n3_ := Aside0.mk (hbox); have n4_ := Aside0.mk ((by rw [hg]; exact (below_size qz8) : w.heap.size ≤ gb393)); have n5_ := Aside0.mk ((by rw [hg]; exact (below_size qz8) : w.heap.size ≤ gb393)); have n6_ := Aside0.mk ((by rw [hg]; exact Nat.ne_of_lt (blk_lt (g := gb378) (o := .cells #[.slice (some ad392) l0_0.length c0_0, .int .i64 a0_1, .slice A0_2 l0_2.length c0_2, .int .i64 a0_3] 25 (0, 0)) qz17) : gb378 ≠ gb393)); have n7_ := Aside0.mk ((by rw [hg]; exact Nat.ne_of_gt (blk_lt (g := gb378) (o := .cells #[.slice (some ad392) l0_0.length c0_0, .int .i64 a0_1, .slice A0_2 l0_2.length c0_2, .int .i64 a0_3] 25 (0, 0)) qz17) : gb393 ≠ gb378)); clear HO_7; clear BK378; clear HB; have HO_7 := n0_; have BK378 := n1_; have HB := n2_; have BK393 := n3_; have GW393 := n4_; have GE393 := n5_; have NB378_393 := n6_; have NB393_378 := n7_; clear n0_ n1_ n2_ n3_ n4_ n5_ n6_ n7_; clear hb hbox hg; have hnb43 := NB393_378.out; have hnc43 := NB378_393.out; have hcz44_0 : w42.cell? ⟨gb393, 0, none⟩ = some (.bool false) := (blk_cell BK393.out 0).trans rfl; have hcz44_1 : w42.cell? ⟨gb393, 1, none⟩ = some (.slice none 0 0) := (blk_cell BK393.out 1).trans rfl; have hfz44_0 := blk_frozen BK393.out 0; have hfz44_1 := blk_frozen BK393.out 1)))
                        (try simp only [Act.put, List.setIfInBounds_toArray, List.set_cons_zero, List.set_cons_succ])
                        go_cut [12] (fun v12 wc => ∃ (kq : Nat) (x12_39 : Int), v12 = .int .i64 x12_39 ∧ Aside0 (skolemlaw35_PuzzleGuided.j4 kq l1 t382 t384 x9_3 x10_3 x12_39 l0_0 a0_1 l0_2 a0_3 ((rd_T55 l0_0 x9_3).f0) ((rd_T55 l0_0 x9_3).f1) = some r) ∧ Aside0 (kq ≤ kj29) ∧ Aside0 (Kd.S (Kd.slice 3 (Kd.int .i64)) 23 wc w.heap.size (fun _ => True) v385 t384) ∧ Aside0 (wc.heap[gb378]? = some (.cells #[(.slice (some ad392) l0_0.length c0_0), .int .i64 a0_1, (.slice A0_2 l0_2.length c0_2), .int .i64 a0_3] 25 (0, 0))) ∧ Aside0 (wc.heap[gb393]? = some (.cells #[.bool ((rd_T55 l0_0 x9_3).f0), (.slice A392_1 ((rd_T55 l0_0 x9_3).f1).length c392_1)] 55 (0, 0))) ∧ Aside0 (Below w.heap.size w wc))
                        case first =>
                          have H := HC40.out
                          clear HC40
                          by_cases c45 : x10_3 < (l1.length : Int)
                          · rw [if_pos c45] at H
                            have c45b0 : decide (x10_3 < (l1.length : Int)) = true := decide_eq_true c45
                            clear c45
                            (first | rw [c45b0] | (simp only [i64_w, i32_w]; rw [c45b0]) | skip)
                            by_cases c46 : 0 ≤ x10_3
                            case neg => rw [if_neg c46] at H; exact absurd H (by simp)
                            rw [if_pos c46] at H
                            have c46b0 : decide (0 ≤ x10_3) = true := decide_eq_true c46
                            clear c46
                            have H' := Aside0.mk H
                            clear H
                            have p394 : 0 ≤ (x10_3 : Int) := of_decide_eq_true qz21
                            have q394 : x10_3 < (l1.length : Int) := of_decide_eq_true qz21
                            obtain ⟨ad394, e394, hx394_0⟩ := Kd.at_int HR1.out x10_3 p394 q394
                            cases e394
                            have hn394_0 : ad394.block ≠ gb393 := Nat.ne_of_lt (Nat.lt_of_lt_of_le (by have := World.block_lt_of_cell? _ _ hx394_0; first | rwa [add_block] at this | exact this) GW393.out)
                            have hn394_1 : ad394.block ≠ gb393 := Nat.ne_of_lt (Nat.lt_of_lt_of_le (by have := World.block_lt_of_cell? _ _ hx394_0; first | rwa [add_block] at this | exact this) GW393.out)
                            replace hx394_0 := (HB.out.cell (World.block_lt_of_cell? w _ hx394_0)).trans hx394_0
                            replace hx394_0 := (cell_far (p := ⟨gb393, 0, none⟩) (by first | (rw [add_block]; exact hn394_0) | (show (Addr.add _ _).block ≠ _; rw [add_block]; exact hn394_0) | exact hn394_0) (.bool ((rd_T55 l0_0 x9_3).f0))).trans hx394_0
                            replace hx394_0 := (cell_far (p := ⟨gb393, 1, none⟩) (by first | (rw [add_block]; exact hn394_1) | (show (Addr.add _ _).block ≠ _; rw [add_block]; exact hn394_1) | exact hn394_1) (.slice A392_1 ((rd_T55 l0_0 x9_3).f1).length c392_1)).trans hx394_0
                            (try have hy394_0 := fun (n_ : Nat) => (show ((((w42.drewN n_).setCell ⟨gb393, 0, none⟩ (.bool ((rd_T55 l0_0 x9_3).f0))).setCell ⟨gb393, 1, none⟩ (.slice A392_1 ((rd_T55 l0_0 x9_3).f1).length c392_1))).cell? _ = some _ from hx394_0))
                            clear hn394_0
                            clear hn394_1
                            replace p394 := eq_true p394
                            replace q394 := eq_true q394
                            go_wp2
                            repeat (go_quiet (fail); try go_wp2)
                            go_meet
                            case rel => exact ⟨_, (wrap64 (rd l1 x10_3)), qz22, H', ⟨by have := HJ2.out; have := HJ18.out; have := HK3.out; have := HJ29.out; first | omega | exact Nat.le_refl _⟩, ⟨by (with_reducible repeat (first | apply Kd.S_alloc | apply Kd.S_drewN | apply Kd.S_drew)); exact Kd.S_mono (Kd.S_far (p := ⟨gb393, 1, none⟩) (Kd.S_far (p := ⟨gb393, 0, none⟩) (Kd.S_types HO_7.out BK393.out (by decide)) (fun _ hk => hk.2) (.bool ((rd_T55 l0_0 x9_3).f0))) (fun _ hk => hk.2) (.slice A392_1 ((rd_T55 l0_0 x9_3).f1).length c392_1)) (fun _ hk => trivial)⟩, ⟨by (with_reducible repeat (first | refine blk_drewN ?_ _ | refine blk_drew ?_ | refine blk_alloc ?_ _)); refine blk_far ?_ NB378_393.out _; (with_reducible repeat (first | refine blk_drewN ?_ _ | refine blk_drew ?_ | refine blk_alloc ?_ _)); refine blk_far ?_ NB378_393.out _; (with_reducible repeat (first | refine blk_drewN ?_ _ | refine blk_drew ?_ | refine blk_alloc ?_ _)); exact BK378.out⟩, ⟨by (with_reducible repeat (first | refine blk_drewN ?_ _ | refine blk_drew ?_ | refine blk_alloc ?_ _)); refine blk_put (cs := #[.bool ((rd_T55 l0_0 x9_3).f0), .slice none 0 0]) ?_ 1 _ rfl; (with_reducible repeat (first | refine blk_drewN ?_ _ | refine blk_drew ?_ | refine blk_alloc ?_ _)); refine blk_put (cs := #[.bool false, .slice none 0 0]) ?_ 0 _ rfl; (with_reducible repeat (first | refine blk_drewN ?_ _ | refine blk_drew ?_ | refine blk_alloc ?_ _)); exact BK393.out⟩, ⟨by repeat (first | (with_reducible first | exact HB.out | apply below_alloc | apply pw_below_drewN | apply below_drew1 | refine below_set ?_ GE378.out | refine below_set ?_ GE393.out) | exact HB.out)⟩⟩
                          · rw [if_neg c45] at H
                            have c45b0 : decide (x10_3 < (l1.length : Int)) = false := decide_eq_false c45
                            clear c45
                            (first | rw [c45b0] | (simp only [i64_w, i32_w]; rw [c45b0]) | skip)
                            have H' := Aside0.mk H
                            clear H
                            go_wp2
                            repeat (go_quiet (fail); try go_wp2)
                            go_meet
                            case rel => exact ⟨_, (0), qz22, H', ⟨by have := HJ2.out; have := HJ18.out; have := HK3.out; have := HJ29.out; first | omega | exact Nat.le_refl _⟩, ⟨by (with_reducible repeat (first | apply Kd.S_alloc | apply Kd.S_drewN | apply Kd.S_drew)); exact Kd.S_mono (Kd.S_far (p := ⟨gb393, 1, none⟩) (Kd.S_far (p := ⟨gb393, 0, none⟩) (Kd.S_types HO_7.out BK393.out (by decide)) (fun _ hk => hk.2) (.bool ((rd_T55 l0_0 x9_3).f0))) (fun _ hk => hk.2) (.slice A392_1 ((rd_T55 l0_0 x9_3).f1).length c392_1)) (fun _ hk => trivial)⟩, ⟨by (with_reducible repeat (first | refine blk_drewN ?_ _ | refine blk_drew ?_ | refine blk_alloc ?_ _)); refine blk_far ?_ NB378_393.out _; (with_reducible repeat (first | refine blk_drewN ?_ _ | refine blk_drew ?_ | refine blk_alloc ?_ _)); refine blk_far ?_ NB378_393.out _; (with_reducible repeat (first | refine blk_drewN ?_ _ | refine blk_drew ?_ | refine blk_alloc ?_ _)); exact BK378.out⟩, ⟨by (with_reducible repeat (first | refine blk_drewN ?_ _ | refine blk_drew ?_ | refine blk_alloc ?_ _)); refine blk_put (cs := #[.bool ((rd_T55 l0_0 x9_3).f0), .slice none 0 0]) ?_ 1 _ rfl; (with_reducible repeat (first | refine blk_drewN ?_ _ | refine blk_drew ?_ | refine blk_alloc ?_ _)); refine blk_put (cs := #[.bool false, .slice none 0 0]) ?_ 0 _ rfl; (with_reducible repeat (first | refine blk_drewN ?_ _ | refine blk_drew ?_ | refine blk_alloc ?_ _)); exact BK393.out⟩, ⟨by repeat (first | (with_reducible first | exact HB.out | apply below_alloc | apply pw_below_drewN | apply below_drew1 | refine below_set ?_ GE378.out | refine below_set ?_ GE393.out) | exact HB.out)⟩⟩
                        case rest =>
                          clear HC40
                          try clear c1
                          try clear c2
                          try clear p2
                          try clear c3
                          try clear p3
                          try clear q3
                          try clear hx3
                          try clear c4
                          try clear c5
                          try clear c6
                          try clear p6
                          try clear c14
                          try clear c24
                          try clear c24b0
                          try clear c24b1
                          try clear c25
                          try clear c25b0
                          try clear c25b1
                          try clear c28
                          try clear c31
                          try clear c31b0
                          try clear c32
                          try clear c37
                          try clear c38
                          try clear c38b0
                          try clear c39
                          try clear c39b0
                          try clear p39
                          try clear q39
                          try clear hx39
                          try clear c43
                          try clear c45
                          try clear c45b0
                          try clear c46
                          try clear c46b0
                          try clear hcz10_0
                          try clear hcz10_1
                          try clear hcz10_2
                          try clear hcz10_3
                          try clear hcz12_0
                          try clear hcz12_1
                          try clear hcz12_2
                          try clear hcz12_3
                          try clear hcz20_0
                          try clear hcz20_1
                          try clear hcz20_2
                          try clear hcz20_3
                          try clear hcz22_0
                          try clear hcz22_1
                          try clear hcz22_2
                          try clear hcz22_3
                          try clear hcz27_0
                          try clear hcz27_1
                          try clear hcz27_2
                          try clear hcz27_3
                          try clear hcz29_0
                          try clear hcz29_1
                          try clear hcz29_2
                          try clear hcz29_3
                          try clear hcz34_0
                          try clear hcz34_1
                          try clear hcz34_2
                          try clear hcz34_3
                          try clear hcz35_0
                          try clear hcz35_1
                          try clear hcz35_2
                          try clear hcz35_3
                          try clear hcz36_0
                          try clear hcz36_1
                          try clear hcz36_2
                          try clear hcz36_3
                          try clear hcz41_0
                          try clear hcz41_1
                          try clear hcz41_2
                          try clear hcz41_3
                          try clear hcz44_0
                          try clear hcz44_1
                          try clear hcz7_0
                          try clear hcz7_1
                          try clear hcz7_2
                          try clear hcz7_3
                          try clear hfz10_0
                          try clear hfz10_1
                          try clear hfz10_2
                          try clear hfz10_3
                          try clear hfz12_0
                          try clear hfz12_1
                          try clear hfz12_2
                          try clear hfz12_3
                          try clear hfz20_0
                          try clear hfz20_1
                          try clear hfz20_2
                          try clear hfz20_3
                          try clear hfz22_0
                          try clear hfz22_1
                          try clear hfz22_2
                          try clear hfz22_3
                          try clear hfz27_0
                          try clear hfz27_1
                          try clear hfz27_2
                          try clear hfz27_3
                          try clear hfz29_0
                          try clear hfz29_1
                          try clear hfz29_2
                          try clear hfz29_3
                          try clear hfz34_0
                          try clear hfz34_1
                          try clear hfz34_2
                          try clear hfz34_3
                          try clear hfz35_0
                          try clear hfz35_1
                          try clear hfz35_2
                          try clear hfz35_3
                          try clear hfz36_0
                          try clear hfz36_1
                          try clear hfz36_2
                          try clear hfz36_3
                          try clear hfz41_0
                          try clear hfz41_1
                          try clear hfz41_2
                          try clear hfz41_3
                          try clear hfz44_0
                          try clear hfz44_1
                          try clear hfz7_0
                          try clear hfz7_1
                          try clear hfz7_2
                          try clear hfz7_3
                          try clear hx392_0
                          try clear hx392_1
                          try clear hx394_0
                          try clear p2
                          try clear p392
                          try clear p394
                          try clear q392
                          try clear q394
                          obtain ⟨kq, x12_39, rfl, HA, HJ39, HO_7, BK378, BK393, HB⟩ := hcut
                          cases kq with
                          | zero => exact absurd HA.out (by simp [skolemlaw35_PuzzleGuided.j4])
                          | succ kj39 =>
                            have H := HA.out
                            clear HA
                            simp only [skolemlaw35_PuzzleGuided.j4] at H
                            by_cases c47 : ((rd_T55 l0_0 x9_3).f0) = true
                            · rw [if_pos c47] at H
                              have c47b0 : ((rd_T55 l0_0 x9_3).f0) = true := c47
                              clear c47
                              obtain ⟨ji48, hji48⟩ : ∃ j_ : Int, (wrap64 ((wrap64 (a0_3 - 1)) - x10_3)) = j_ := ⟨_, rfl⟩
                              replace H : (if 0 ≤ (ji48) then (if (ji48) < (t384.length : Int) then (if 0 ≤ x9_3 then (if x9_3 < ((rd_L2 t384 (ji48)).length : Int) then (if (((rd_T55 l0_0 x9_3).f1).length : Int) = 0 then (some false) else (if (rd (rd_L2 t384 (ji48)) x9_3) < 0 then (some false) else (if (rd (rd_L2 t384 (ji48)) x9_3) ≥ (((rd_T55 l0_0 x9_3).f1).length : Int) then (some false) else (if 0 ≤ (Int.tmod (rd (rd_L2 t384 (ji48)) x9_3) (((rd_T55 l0_0 x9_3).f1).length : Int)) then (if (Int.tmod (rd (rd_L2 t384 (ji48)) x9_3) (((rd_T55 l0_0 x9_3).f1).length : Int)) < (((rd_T55 l0_0 x9_3).f1).length : Int) then (skolemlaw35_PuzzleGuided.l0 kj39 l1 t382 t384 (rd ((rd_T55 l0_0 x9_3).f1) (Int.tmod (rd (rd_L2 t384 (ji48)) x9_3) (((rd_T55 l0_0 x9_3).f1).length : Int))) (wrap64 (x10_3 + 1)) l0_0 a0_1 l0_2 a0_3) else (none)) else (none))))) else (none)) else (none)) else (none)) else (none)) = some r := by first | (rw [hji48] at H; exact H) | (simp only [hji48] at H ⊢; exact H)
                              have hji48w : (IntKind.i64.wrap ((wrap64 (a0_3 - 1)) - x10_3)) = ji48 := (i64_w _).trans hji48
                              by_cases c49 : 0 ≤ (ji48)
                              case neg => rw [if_neg c49] at H; exact absurd H (by simp)
                              rw [if_pos c49] at H
                              have c49b0 : decide (0 ≤ (ji48)) = true := decide_eq_true c49
                              clear c49
                              by_cases c50 : (ji48) < (t384.length : Int)
                              case neg => rw [if_neg c50] at H; exact absurd H (by simp)
                              rw [if_pos c50] at H
                              have c50b0 : decide ((ji48) < (t384.length : Int)) = true := decide_eq_true c50
                              clear c50
                              by_cases c51 : 0 ≤ x9_3
                              case neg => rw [if_neg c51] at H; exact absurd H (by simp)
                              rw [if_pos c51] at H
                              have c51b0 : decide (0 ≤ x9_3) = true := decide_eq_true c51
                              clear c51
                              by_cases c52 : x9_3 < ((rd_L2 t384 (ji48)).length : Int)
                              case neg => rw [if_neg c52] at H; exact absurd H (by simp)
                              rw [if_pos c52] at H
                              have c52b0 : decide (x9_3 < ((rd_L2 t384 (ji48)).length : Int)) = true := decide_eq_true c52
                              clear c52
                              by_cases c53 : (((rd_T55 l0_0 x9_3).f1).length : Int) = 0
                              · rw [if_pos c53] at H
                                have c53b0 : ((((rd_T55 l0_0 x9_3).f1).length : Int) == 0) = true := beq_iff_eq.mpr c53
                                have c53b1 : ((((rd_T55 l0_0 x9_3).f1).length : Int) != 0) = false := bne_eq_false_iff_eq.mpr c53
                                clear c53
                                exact absurd ((Option.some.inj H).trans HT_.out) (by decide)
                              · rw [if_neg c53] at H
                                have c53b0 : ((((rd_T55 l0_0 x9_3).f1).length : Int) == 0) = false := beq_eq_false_iff_ne.mpr c53
                                have c53b1 : ((((rd_T55 l0_0 x9_3).f1).length : Int) != 0) = true := bne_iff_ne.mpr c53
                                have c53b2 : ¬ (((rd_T55 l0_0 x9_3).f1) = []) := fun h_ => c53 (by rw [h_]; rfl)
                                by_cases c54 : (rd (rd_L2 t384 (ji48)) x9_3) < 0
                                · rw [if_pos c54] at H
                                  have c54b0 : decide ((rd (rd_L2 t384 (ji48)) x9_3) < 0) = true := decide_eq_true c54
                                  clear c54
                                  exact absurd ((Option.some.inj H).trans HT_.out) (by decide)
                                · rw [if_neg c54] at H
                                  have c54b0 : decide ((rd (rd_L2 t384 (ji48)) x9_3) < 0) = false := decide_eq_false c54
                                  clear c54
                                  by_cases c55 : (rd (rd_L2 t384 (ji48)) x9_3) ≥ (((rd_T55 l0_0 x9_3).f1).length : Int)
                                  · rw [if_pos c55] at H
                                    have c55b0 : decide ((((rd_T55 l0_0 x9_3).f1).length : Int) ≤ (rd (rd_L2 t384 (ji48)) x9_3)) = true := decide_eq_true c55
                                    clear c55
                                    exact absurd ((Option.some.inj H).trans HT_.out) (by decide)
                                  · rw [if_neg c55] at H
                                    have c55b0 : decide ((((rd_T55 l0_0 x9_3).f1).length : Int) ≤ (rd (rd_L2 t384 (ji48)) x9_3)) = false := decide_eq_false c55
                                    clear c55
                                    obtain ⟨ji56, hji56⟩ : ∃ j_ : Int, (Int.tmod (rd (rd_L2 t384 (ji48)) x9_3) (((rd_T55 l0_0 x9_3).f1).length : Int)) = j_ := ⟨_, rfl⟩
                                    replace H : (if 0 ≤ (ji56) then (if (ji56) < (((rd_T55 l0_0 x9_3).f1).length : Int) then (skolemlaw35_PuzzleGuided.l0 kj39 l1 t382 t384 (rd ((rd_T55 l0_0 x9_3).f1) (ji56)) (wrap64 (x10_3 + 1)) l0_0 a0_1 l0_2 a0_3) else (none)) else (none)) = some r := by first | (rw [hji56] at H; exact H) | (simp only [hji56] at H ⊢; exact H)
                                    by_cases c57 : 0 ≤ (ji56)
                                    case neg => rw [if_neg c57] at H; exact absurd H (by simp)
                                    rw [if_pos c57] at H
                                    have c57b0 : decide (0 ≤ (ji56)) = true := decide_eq_true c57
                                    clear c57
                                    by_cases c58 : (ji56) < (((rd_T55 l0_0 x9_3).f1).length : Int)
                                    case neg => rw [if_neg c58] at H; exact absurd H (by simp)
                                    rw [if_pos c58] at H
                                    have c58b0 : decide ((ji56) < (((rd_T55 l0_0 x9_3).f1).length : Int)) = true := decide_eq_true c58
                                    clear c58
                                    have H' := Aside0.mk H
                                    clear H
                                    have hnb59 := NB393_378.out
                                    have hnc59 := NB378_393.out
                                    have hcz60_0 : wc.cell? ⟨gb393, 0, none⟩ = some (.bool ((rd_T55 l0_0 x9_3).f0)) := (blk_cell BK393.out 0).trans rfl
                                    have hcz60_1 : wc.cell? ⟨gb393, 1, none⟩ = some (.slice A392_1 ((rd_T55 l0_0 x9_3).f1).length c392_1) := (blk_cell BK393.out 1).trans rfl
                                    have hfz60_0 := blk_frozen BK393.out 0
                                    have hfz60_1 := blk_frozen BK393.out 1
                                    have hcz61_0 : wc.cell? ⟨gb378, 0, none⟩ = some (.slice (some ad392) l0_0.length c0_0) := (blk_cell BK378.out 0).trans rfl
                                    have hcz61_1 : wc.cell? ⟨gb378, 1, none⟩ = some (.int .i64 a0_1) := (blk_cell BK378.out 1).trans rfl
                                    have hcz61_2 : wc.cell? ⟨gb378, 2, none⟩ = some (.slice A0_2 l0_2.length c0_2) := (blk_cell BK378.out 2).trans rfl
                                    have hcz61_3 : wc.cell? ⟨gb378, 3, none⟩ = some (.int .i64 a0_3) := (blk_cell BK378.out 3).trans rfl
                                    have hfz61_0 := blk_frozen BK378.out 0
                                    have hfz61_1 := blk_frozen BK378.out 1
                                    have hfz61_2 := blk_frozen BK378.out 2
                                    have hfz61_3 := blk_frozen BK378.out 3
                                    obtain ⟨Ao62, co62, eo62⟩ := Kd.S_slice HO_7.out
                                    subst eo62
                                    have p395 : 0 ≤ ((ji48) : Int) := of_decide_eq_true qz21
                                    have q395 : (ji48) < (t384.length : Int) := of_decide_eq_true qz21
                                    obtain ⟨ad395, A395_0, c395_0, e395, hx395_0, hl395_0, hi395_0⟩ := at_L2 (Kd.S_reads' HO_7.out).2.2 (ji48) p395 q395
                                    cases e395
                                    obtain ⟨ce395, hce395, hMe395, hcc395⟩ := Kd.S_get HO_7.out [] (ji48) p395 (by first | exact q395 | exact of_decide_eq_true qz21 | (have e_ := (Kd.S_reads' HO_7.out).1; omega))
                                    obtain ⟨ve395_0, rfl, ge395_0⟩ := hMe395
                                    have hv395_0 := hcc395 0 _ rfl
                                    rw [Nat.add_zero, show ((Kd.slice 3 (Kd.int .i64))).sz = 1 from rfl, Nat.mul_one] at hv395_0
                                    replace hv395_0 := Option.some.inj (hv395_0.symm.trans hx395_0)
                                    rw [hv395_0] at ge395_0
                                    have HL395_0 := Aside0.mk (show Kd.R (Kd.int .i64) 3 _ _ _ _ (rd_L2 t384 (ji48)) from ge395_0)
                                    clear hv395_0 ge395_0
                                    clear hcc395 hce395
                                    have HR395_0 := Aside0.mk hi395_0
                                    have HC395_0 := Aside0.mk hl395_0
                                    clear hi395_0 hl395_0
                                    replace p395 := eq_true p395
                                    replace q395 := eq_true q395
                                    have p396 : 0 ≤ (x9_3 : Int) := of_decide_eq_true qz21
                                    have q396 : x9_3 < ((rd_L2 t384 (ji48)).length : Int) := of_decide_eq_true qz21
                                    obtain ⟨ad396, e396, hx396_0⟩ := Kd.at_int (by repeat (first | (with_reducible exact HR395_0.out) | (with_reducible refine Kd.C_alloc ?_ _) | (with_reducible refine Kd.C_drewN ?_ _) | (with_reducible refine Kd.C_drew ?_) | exact HR395_0.out)) x9_3 p396 q396
                                    cases e396
                                    replace p396 := eq_true p396
                                    replace q396 := eq_true q396
                                    have p397 : 0 ≤ ((ji56) : Int) := of_decide_eq_true qz21
                                    have q397 : (ji56) < (((rd_T55 l0_0 x9_3).f1).length : Int) := of_decide_eq_true qz21
                                    obtain ⟨ad397, e397, hx397_0⟩ := Kd.at_int HR392_1.out (ji56) p397 q397
                                    cases e397
                                    replace hx397_0 := (HB.out.cell (World.block_lt_of_cell? w _ hx397_0)).trans hx397_0
                                    replace p397 := eq_true p397
                                    replace q397 := eq_true q397
                                    go_wp2
                                    repeat (go_quiet (fail); try go_wp2)
                                    go_roundg kj39
                                    case measure => have := HJ2.out; have := HJ18.out; have := HK3.out; have := HJ29.out; have := HJ39.out; omega
                                    case rel => exact ⟨(rd ((rd_T55 l0_0 x9_3).f1) (ji56)), (wrap64 (x10_3 + 1)), (by first | rfl | (simp; done) | (simp only [← hji56] <;> (first | rfl | simp)) | (simp [*]; done)), qz22, H', ⟨by have := HJ2.out; have := HJ18.out; have := HK3.out; have := HJ29.out; have := HJ39.out; omega⟩, ⟨by (with_reducible repeat (first | apply Kd.S_alloc | apply Kd.S_drewN | apply Kd.S_drew)); exact HO_7.out⟩, ⟨by (with_reducible repeat (first | refine blk_drewN ?_ _ | refine blk_drew ?_ | refine blk_alloc ?_ _)); exact BK378.out⟩, ⟨by repeat (first | (with_reducible first | exact HB.out | apply below_alloc | apply pw_below_drewN | apply below_drew1 | refine below_set ?_ GE378.out | refine below_set ?_ GE393.out) | exact HB.out)⟩⟩
                            · rw [if_neg c47] at H
                              have c47b0 : ((rd_T55 l0_0 x9_3).f0) = false := by simpa using c47
                              clear c47
                              by_cases c63 : (((rd_T55 l0_0 x9_3).f1).length : Int) = 0
                              · rw [if_pos c63] at H
                                have c63b0 : ((((rd_T55 l0_0 x9_3).f1).length : Int) == 0) = true := beq_iff_eq.mpr c63
                                have c63b1 : ((((rd_T55 l0_0 x9_3).f1).length : Int) != 0) = false := bne_eq_false_iff_eq.mpr c63
                                clear c63
                                exact absurd ((Option.some.inj H).trans HT_.out) (by decide)
                              · rw [if_neg c63] at H
                                have c63b0 : ((((rd_T55 l0_0 x9_3).f1).length : Int) == 0) = false := beq_eq_false_iff_ne.mpr c63
                                have c63b1 : ((((rd_T55 l0_0 x9_3).f1).length : Int) != 0) = true := bne_iff_ne.mpr c63
                                have c63b2 : ¬ (((rd_T55 l0_0 x9_3).f1) = []) := fun h_ => c63 (by rw [h_]; rfl)
                                by_cases c64 : x12_39 < 0
                                · rw [if_pos c64] at H
                                  have c64b0 : decide (x12_39 < 0) = true := decide_eq_true c64
                                  clear c64
                                  exact absurd ((Option.some.inj H).trans HT_.out) (by decide)
                                · rw [if_neg c64] at H
                                  have c64b0 : decide (x12_39 < 0) = false := decide_eq_false c64
                                  clear c64
                                  obtain ⟨ji65, hji65⟩ : ∃ j_ : Int, (Int.tmod x12_39 (((rd_T55 l0_0 x9_3).f1).length : Int)) = j_ := ⟨_, rfl⟩
                                  replace H : (if 0 ≤ (ji65) then (if (ji65) < (((rd_T55 l0_0 x9_3).f1).length : Int) then (skolemlaw35_PuzzleGuided.l0 kj39 l1 t382 t384 (rd ((rd_T55 l0_0 x9_3).f1) (ji65)) (wrap64 (x10_3 + 1)) l0_0 a0_1 l0_2 a0_3) else (none)) else (none)) = some r := by first | (rw [hji65] at H; exact H) | (simp only [hji65] at H ⊢; exact H)
                                  by_cases c66 : 0 ≤ (ji65)
                                  case neg => rw [if_neg c66] at H; exact absurd H (by simp)
                                  rw [if_pos c66] at H
                                  have c66b0 : decide (0 ≤ (ji65)) = true := decide_eq_true c66
                                  clear c66
                                  by_cases c67 : (ji65) < (((rd_T55 l0_0 x9_3).f1).length : Int)
                                  case neg => rw [if_neg c67] at H; exact absurd H (by simp)
                                  rw [if_pos c67] at H
                                  have c67b0 : decide ((ji65) < (((rd_T55 l0_0 x9_3).f1).length : Int)) = true := decide_eq_true c67
                                  clear c67
                                  have H' := Aside0.mk H
                                  clear H
                                  have hnb68 := NB393_378.out
                                  have hnc68 := NB378_393.out
                                  have hcz69_0 : wc.cell? ⟨gb393, 0, none⟩ = some (.bool ((rd_T55 l0_0 x9_3).f0)) := (blk_cell BK393.out 0).trans rfl
                                  have hcz69_1 : wc.cell? ⟨gb393, 1, none⟩ = some (.slice A392_1 ((rd_T55 l0_0 x9_3).f1).length c392_1) := (blk_cell BK393.out 1).trans rfl
                                  have hfz69_0 := blk_frozen BK393.out 0
                                  have hfz69_1 := blk_frozen BK393.out 1
                                  have p398 : 0 ≤ ((ji65) : Int) := of_decide_eq_true qz21
                                  have q398 : (ji65) < (((rd_T55 l0_0 x9_3).f1).length : Int) := of_decide_eq_true qz21
                                  obtain ⟨ad398, e398, hx398_0⟩ := Kd.at_int HR392_1.out (ji65) p398 q398
                                  cases e398
                                  replace hx398_0 := (HB.out.cell (World.block_lt_of_cell? w _ hx398_0)).trans hx398_0
                                  replace p398 := eq_true p398
                                  replace q398 := eq_true q398
                                  go_wp2
                                  repeat (go_quiet (fail); try go_wp2)
                                  go_roundg kj39
                                  case measure => have := HJ2.out; have := HJ18.out; have := HK3.out; have := HJ29.out; have := HJ39.out; omega
                                  case rel => exact ⟨(rd ((rd_T55 l0_0 x9_3).f1) (ji65)), (wrap64 (x10_3 + 1)), (by first | rfl | (simp; done) | (simp only [← hji65] <;> (first | rfl | simp)) | (simp [*]; done)), qz22, H', ⟨by have := HJ2.out; have := HJ18.out; have := HK3.out; have := HJ29.out; have := HJ39.out; omega⟩, ⟨by (with_reducible repeat (first | apply Kd.S_alloc | apply Kd.S_drewN | apply Kd.S_drew)); exact HO_7.out⟩, ⟨by (with_reducible repeat (first | refine blk_drewN ?_ _ | refine blk_drew ?_ | refine blk_alloc ?_ _)); exact BK378.out⟩, ⟨by repeat (first | (with_reducible first | exact HB.out | apply below_alloc | apply pw_below_drewN | apply below_drew1 | refine below_set ?_ GE378.out | refine below_set ?_ GE393.out) | exact HB.out)⟩⟩
                      · replace c37 := Bool.eq_false_iff.mpr c37
                        subst c37
                        have H1 : (if t382 = true then ((skolemref03_Has.f kj29 l0_2 x9_3).bind fun t389 => (if t389 = true then ((skolemlaw35_head.f kj29).bind fun t390 => (some t390)) else (some false))) else ((skolemlaw35_head.f kj29).bind fun t391 => (some t391))) = some r := by rw [if_neg (show ¬ (false = true) by decide)] at H; exact H
                        clear H
                        have H := H1
                        clear H1
                        by_cases c70 : t382 = true
                        · subst c70
                          have H1 : ((skolemref03_Has.f kj29 l0_2 x9_3).bind fun t389 => (if t389 = true then ((skolemlaw35_head.f kj29).bind fun t390 => (some t390)) else (some false))) = some r := by rw [if_pos rfl] at H; exact H
                          clear H
                          have H := H1
                          clear H1
                          replace H := Option.bind_eq_some_iff.mp H
                          obtain ⟨t389, A710, H⟩ := H
                          replace H : (if t389 = true then ((skolemlaw35_head.f kj29).bind fun t390 => (some t390)) else (some false)) = some r := H
                          have A71 := Aside0.mk A710
                          clear A710
                          by_cases c72 : t389 = true
                          · subst c72
                            have H1 : ((skolemlaw35_head.f kj29).bind fun t390 => (some t390)) = some r := by rw [if_pos rfl] at H; exact H
                            clear H
                            have H := H1
                            clear H1
                            replace H := Option.bind_eq_some_iff.mp H
                            obtain ⟨t390, A730, H⟩ := H
                            replace H : (some t390) = some r := H
                            have A73 := Aside0.mk A730
                            clear A730
                            obtain rfl := Option.some.inj H
                            have hcz74_0 : wc.cell? ⟨gb378, 0, none⟩ = some (.slice A0_0 l0_0.length c0_0) := (blk_cell BK378.out 0).trans rfl
                            have hcz74_1 : wc.cell? ⟨gb378, 1, none⟩ = some (.int .i64 a0_1) := (blk_cell BK378.out 1).trans rfl
                            have hcz74_2 : wc.cell? ⟨gb378, 2, none⟩ = some (.slice A0_2 l0_2.length c0_2) := (blk_cell BK378.out 2).trans rfl
                            have hcz74_3 : wc.cell? ⟨gb378, 3, none⟩ = some (.int .i64 a0_3) := (blk_cell BK378.out 3).trans rfl
                            have hfz74_0 := blk_frozen BK378.out 0
                            have hfz74_1 := blk_frozen BK378.out 1
                            have hfz74_2 := blk_frozen BK378.out 2
                            have hfz74_3 := blk_frozen BK378.out 3
                            go_wp2_with (first | (go_at_call 24; (with_reducible refine (skolemref03_Has.calls kj29 _ _ l0_2 x9_3 true _ ?side1 ?side2 A71.out).mono ?_); (case side1 => exact qz1); (case side2 => exact HC0_2.out); rintro e w' ⟨rfl, ⟨nd, rfl⟩⟩; (try exact qz11)) | (go_at_call 9; (with_reducible refine (skolemlaw35_head.calls kj29  t390 _ A73.out).mono ?_); rintro e w75 ⟨rfl, hb⟩; have n0_ := Aside0.mk (Kd.S_below qz19 hb); have n1_ := Aside0.mk (blk_below (g := gb378) (o := .cells #[.slice A0_0 l0_0.length c0_0, .int .i64 a0_1, .slice A0_2 l0_2.length c0_2, .int .i64 a0_3] 25 (0, 0)) qz17 hb); have n2_ := Aside0.mk (below_step qz8 hb); clear HO_7; clear BK378; clear HB; have HO_7 := n0_; have BK378 := n1_; have HB := n2_; clear n0_ n1_ n2_; (try clear hb); (try clear hb2); (try clear hk); (try clear hi)))
                            repeat (go_quiet (first | (go_at_call 24; (with_reducible refine (skolemref03_Has.calls kj29 _ _ l0_2 x9_3 true _ ?side1 ?side2 A71.out).mono ?_); (case side1 => exact qz1); (case side2 => exact HC0_2.out); rintro e w' ⟨rfl, ⟨nd, rfl⟩⟩; (try exact qz11)) | (go_at_call 9; (with_reducible refine (skolemlaw35_head.calls kj29  t390 _ A73.out).mono ?_); rintro e w75 ⟨rfl, hb⟩; have n0_ := Aside0.mk (Kd.S_below qz19 hb); have n1_ := Aside0.mk (blk_below (g := gb378) (o := .cells #[.slice A0_0 l0_0.length c0_0, .int .i64 a0_1, .slice A0_2 l0_2.length c0_2, .int .i64 a0_3] 25 (0, 0)) qz17 hb); have n2_ := Aside0.mk (below_step qz8 hb); clear HO_7; clear BK378; clear HB; have HO_7 := n0_; have BK378 := n1_; have HB := n2_; clear n0_ n1_ n2_; (try clear hb); (try clear hb2); (try clear hk); (try clear hi))); try go_wp2_with (first | (go_at_call 24; (with_reducible refine (skolemref03_Has.calls kj29 _ _ l0_2 x9_3 true _ ?side1 ?side2 A71.out).mono ?_); (case side1 => exact qz1); (case side2 => exact HC0_2.out); rintro e w' ⟨rfl, ⟨nd, rfl⟩⟩; (try exact qz11)) | (go_at_call 9; (with_reducible refine (skolemlaw35_head.calls kj29  t390 _ A73.out).mono ?_); rintro e w75 ⟨rfl, hb⟩; have n0_ := Aside0.mk (Kd.S_below qz19 hb); have n1_ := Aside0.mk (blk_below (g := gb378) (o := .cells #[.slice A0_0 l0_0.length c0_0, .int .i64 a0_1, .slice A0_2 l0_2.length c0_2, .int .i64 a0_3] 25 (0, 0)) qz17 hb); have n2_ := Aside0.mk (below_step qz8 hb); clear HO_7; clear BK378; clear HB; have HO_7 := n0_; have BK378 := n1_; have HB := n2_; clear n0_ n1_ n2_; (try clear hb); (try clear hb2); (try clear hk); (try clear hi))))
                            go_ret
                            exact ⟨by first | rfl | (simp [errW_none, errW_some] <;> rfl) | (simp [*, errW_none, errW_some] <;> rfl), by repeat (first | (with_reducible first | exact HB.out | apply below_alloc | apply pw_below_drewN | apply below_drew1 | refine below_set ?_ GE378.out) | exact HB.out)⟩
                          · replace c72 := Bool.eq_false_iff.mpr c72
                            subst c72
                            have H1 : (some false) = some r := by rw [if_neg (show ¬ (false = true) by decide)] at H; exact H
                            clear H
                            have H := H1
                            clear H1
                            exact absurd ((Option.some.inj H).trans HT_.out) (by decide)
                        · replace c70 := Bool.eq_false_iff.mpr c70
                          subst c70
                          have H1 : ((skolemlaw35_head.f kj29).bind fun t391 => (some t391)) = some r := by rw [if_neg (show ¬ (false = true) by decide)] at H; exact H
                          clear H
                          have H := H1
                          clear H1
                          replace H := Option.bind_eq_some_iff.mp H
                          obtain ⟨t391, A760, H⟩ := H
                          replace H : (some t391) = some r := H
                          have A76 := Aside0.mk A760
                          clear A760
                          obtain rfl := Option.some.inj H
                          go_wp2_with (first | (go_at_call 9; (with_reducible refine (skolemlaw35_head.calls kj29  t391 _ A76.out).mono ?_); rintro e w77 ⟨rfl, hb⟩; have n0_ := Aside0.mk (Kd.S_below qz19 hb); have n1_ := Aside0.mk (blk_below (g := gb378) (o := .cells #[.slice A0_0 l0_0.length c0_0, .int .i64 a0_1, .slice A0_2 l0_2.length c0_2, .int .i64 a0_3] 25 (0, 0)) qz17 hb); have n2_ := Aside0.mk (below_step qz8 hb); clear HO_7; clear BK378; clear HB; have HO_7 := n0_; have BK378 := n1_; have HB := n2_; clear n0_ n1_ n2_; (try clear hb); (try clear hb2); (try clear hk); (try clear hi)))
                          repeat (go_quiet (first | (go_at_call 9; (with_reducible refine (skolemlaw35_head.calls kj29  t391 _ A76.out).mono ?_); rintro e w77 ⟨rfl, hb⟩; have n0_ := Aside0.mk (Kd.S_below qz19 hb); have n1_ := Aside0.mk (blk_below (g := gb378) (o := .cells #[.slice A0_0 l0_0.length c0_0, .int .i64 a0_1, .slice A0_2 l0_2.length c0_2, .int .i64 a0_3] 25 (0, 0)) qz17 hb); have n2_ := Aside0.mk (below_step qz8 hb); clear HO_7; clear BK378; clear HB; have HO_7 := n0_; have BK378 := n1_; have HB := n2_; clear n0_ n1_ n2_; (try clear hb); (try clear hb2); (try clear hk); (try clear hi))); try go_wp2_with (first | (go_at_call 9; (with_reducible refine (skolemlaw35_head.calls kj29  t391 _ A76.out).mono ?_); rintro e w77 ⟨rfl, hb⟩; have n0_ := Aside0.mk (Kd.S_below qz19 hb); have n1_ := Aside0.mk (blk_below (g := gb378) (o := .cells #[.slice A0_0 l0_0.length c0_0, .int .i64 a0_1, .slice A0_2 l0_2.length c0_2, .int .i64 a0_3] 25 (0, 0)) qz17 hb); have n2_ := Aside0.mk (below_step qz8 hb); clear HO_7; clear BK378; clear HB; have HO_7 := n0_; have BK378 := n1_; have HB := n2_; clear n0_ n1_ n2_; (try clear hb); (try clear hb2); (try clear hk); (try clear hi))))
                          go_ret
                          exact ⟨by first | rfl | (simp [errW_none, errW_some] <;> rfl) | (simp [*, errW_none, errW_some] <;> rfl), by repeat (first | (with_reducible first | exact HB.out | apply below_alloc | apply pw_below_drewN | apply below_drew1 | refine below_set ?_ GE378.out) | exact HB.out)⟩

end Go.Proofs.Ytjlehbncpjccmaa.Q
namespace Go.Proofs.Ytjlehbncpjccmaa.Q
open Go.RowKit Go.Proofs.YtjlehbncpjccmaaW.PrintWords Go.Proofs.YtjlehbncpjccmaaW.PrintLast Go.Proofs.YtjlehbncpjccmaaW.PrintMore
set_option linter.unusedVariables false
set_option linter.unusedSimpArgs false

theorem win_succ (ps : List S55) (gs : List Int) (hp : ps.length ≤ 16) (n j : Nat) (h : j < ps.length) : (winSet ps gs (n + 1)).getD j false = (decide ((j : Int) ∈ gs) || winB (winSet ps gs n) (rd_T55 ps (j : Int))) := by
  rw [winSet, befS, bstep_get _ ps 0 _ j (by rw [gset_length]; omega), gset_get gs j (by omega), decide_eq_true (show 0 ≤ j ∧ j < 0 + ps.length by omega), Bool.true_and]
  congr 2
theorem idxF_spec {p : Int → Bool} : ∀ (l : List Int) (i : Int), 0 ≤ i → 0 ≤ idxF p l i → i ≤ idxF p l i ∧ idxF p l i < i + l.length ∧ p (rd l (idxF p l i - i)) = true
  | [], i, h, h2 => by simp [idxF] at h2
  | x :: r, i, h, h2 => by
    rw [idxF] at h2 ⊢
    by_cases hx : p x = true
    · rw [if_pos hx]
      refine ⟨Int.le_refl _, by simp only [List.length_cons]; omega, ?_⟩
      rw [show i - i = 0 by omega]
      exact hx
    · rw [if_neg hx] at h2 ⊢
      have ih := idxF_spec r (i + 1) (by omega) h2
      refine ⟨by omega, by simp only [List.length_cons]; omega, ?_⟩
      have : rd (x :: r) (idxF p r (i + 1) - i) = rd r (idxF p r (i + 1) - (i + 1)) := by
        unfold rd
        rw [show (idxF p r (i + 1) - i).toNat = (idxF p r (i + 1) - (i + 1)).toNat + 1 by omega, List.getD_cons_succ]
      rw [this]
      exact ih.2.2
section
variable (ps : List S55) (st : Int) (gs : List Int) (mv : Int) (th : List Int)
theorem guided_end (hs : Small ps gs) (w : Bool) (rows : List (List Int)) (v t : Int) (h : w = true → v ∈ gs) : Ev (fun k => skolemlaw35_PuzzleGuided.j3 k th w rows v t false ps st gs mv) true := by
  refine Ev.succ ?_
  simp only [skolemlaw35_PuzzleGuided.j3, Bool.false_eq_true, if_false]
  cases w with
  | true =>
    simp only [if_true]
    refine Ev.bind (has_ev gs v (by have := hs.ng; omega)) ?_
    simp only [h rfl, decide_true, if_true]
    exact head_end
  | false =>
    simp only [Bool.false_eq_true, if_false]
    exact head_end
theorem guided_l (hs : Small ps gs) (hm : mayB ps st gs mv = true) (hth : ∀ x ∈ th, 0 ≤ x ∧ x < 256) (w : Bool) : ∀ (n : Nat) (t v : Int), t + n = mv → 0 ≤ t → 0 ≤ v ∧ v < (ps.length : Int) → (w = true → (winSet ps gs n).getD v.toNat false = true) →
    Ev (fun k => skolemlaw35_PuzzleGuided.l0 k th w (guideF ps gs mv.toNat) v t ps st gs mv) true
  | 0, t, v, h, ht, hv, hw => by
    refine Ev.succ ?_
    simp only [skolemlaw35_PuzzleGuided.l0]
    simp only [if_neg (show ¬ (t < mv) by omega)]
    refine guided_end ps st gs mv th hs w _ v t (fun e => ?_)
    have h1 := hw e
    have hp := (mayB_facts hm).1
    rw [winSet, gset_get gs v.toNat (by omega)] at h1
    rw [show ((v.toNat : Nat) : Int) = v by omega] at h1
    exact of_decide_eq_true h1
  | n + 1, t, v, h, ht, hv, hw => by
    refine Ev.succ ?_
    have hf := mayB_facts hm
    have hmv := mayB_mv hm
    have hto := mayB_to2 hm
    simp only [skolemlaw35_PuzzleGuided.l0]
    simp only [if_pos (show t < mv by omega)]
    cases w with
    | false =>
      simp only [Bool.false_eq_true, if_false]
      exact guided_end ps st gs mv th hs false _ v t (fun e => absurd e (by simp))
    | true =>
      simp only [if_true]
      refine Ev.bind (has_ev gs v (by have := hs.ng; omega)) ?_
      by_cases hg : v ∈ gs
      · simp only [hg, decide_true, Bool.not_true]
        exact guided_end ps st gs mv th hs true _ v t (fun _ => hg)
      · simp only [hg, decide_false, Bool.not_false]
        refine Ev.succ ?_
        have hv2 : ((v.toNat : Nat) : Int) = v := by omega
        have hwin := hw rfl
        rw [win_succ ps gs hf.1 n v.toNat (by omega), hv2, decide_eq_false hg, Bool.false_or, winB_eq] at hwin
        have hmem : rd_T55 ps v ∈ ps := getD_mem ps z55 _ (by omega)
        have hih := fun v' hv' hw' => guided_l hs hm hth true n (t + 1) v' (by omega) (by omega) hv' hw'
        have hlt := (hf.2.2.2.2.2 _ hmem).1
        simp only [Bool.and_eq_true, decide_eq_true_eq] at hwin
        obtain ⟨hlen, hsel⟩ := hwin
        have hnext : ∀ j : Int, 0 ≤ j → j < ((rd_T55 ps v).f1.length : Int) → rdOf false (winSet ps gs n) (rd (rd_T55 ps v).f1 j) = true →
            Ev (fun k => skolemlaw35_PuzzleGuided.l0 k th true (guideF ps gs mv.toNat) (rd (rd_T55 ps v).f1 j) (t + 1) ps st gs mv) true := by
          intro j h0 h1 h2
          exact hih _ (hto _ hmem _ (getD_mem _ 0 _ (by omega))) (fun _ => h2)
        have hw1 : wrap64 (t + 1) = t + 1 := w_id (by omega)
        have hj4 : ∀ c : Int, 0 ≤ c ∧ c < 256 → Ev (fun k => skolemlaw35_PuzzleGuided.j4 k th true (guideF ps gs mv.toNat) v t c ps st gs mv (rd_T55 ps v).f0 (rd_T55 ps v).f1) true := by
          intro c hc
          refine Ev.succ ?_
          simp only [skolemlaw35_PuzzleGuided.j4]
          cases hmine : (rd_T55 ps v).f0 with
          | true =>
            rw [hmine] at hsel
            simp only [if_true] at hsel ⊢
            have hrow : rd_L2 (guideF ps gs mv.toNat) (n : Int) = rowG ps (gset gs) (winSet ps gs n) := by
              simp [rd_L2, guideF, List.getD_eq_getElem?_getD, show n < mv.toNat by omega]
            have hwr : wrap64 (wrap64 (mv - 1) - t) = (n : Int) := by
              rw [w_id (show -9223372036854775808 ≤ mv - 1 ∧ mv - 1 < 9223372036854775808 by omega), w_id (by omega)]; omega
            have hent : rd (rowG ps (gset gs) (winSet ps gs n)) v = idxF (rdOf false (winSet ps gs n)) (rd_T55 ps v).f1 0 := by
              have h1 : rd (rowG ps (gset gs) (winSet ps gs n)) v = entG ps (gset gs) (winSet ps gs n) v.toNat := by
                simp [rd, rowG, List.getD_eq_getElem?_getD, show v.toNat < ps.length by omega]
              rw [h1, entG, gset_get gs v.toNat (by omega), hv2, decide_eq_false hg]
              rw [show ps.getD v.toNat z55 = rd_T55 ps v from rfl, hmine]
              rfl
            have hrl : (rowG ps (gset gs) (winSet ps gs n)).length = ps.length := by simp [rowG]
            simp only [hwr, guideF_length, hrow, hent, hrl]
            have hi0 : 0 ≤ idxF (rdOf false (winSet ps gs n)) (rd_T55 ps v).f1 0 := by
              have := idxF_any (rdOf false (winSet ps gs n)) (rd_T55 ps v).f1 0 (Int.le_refl _)
              rw [hsel] at this
              exact of_decide_eq_true this
            have hi := idxF_spec (p := rdOf false (winSet ps gs n)) (rd_T55 ps v).f1 0 (Int.le_refl _) hi0
            obtain ⟨c, hcc⟩ : ∃ c, idxF (rdOf false (winSet ps gs n)) (rd_T55 ps v).f1 0 = c := ⟨_, rfl⟩
            rw [hcc] at hi hi0
            simp only [hcc, if_pos (show (0 : Int) ≤ (n : Int) by omega), if_pos (show (n : Int) < (mv.toNat : Int) by omega), if_pos hv.1, if_pos hv.2, if_neg (show ¬ (((rd_T55 ps v).f1.length : Int) = 0) by omega), if_neg (show ¬ (c < 0) by omega), if_neg (show ¬ (c ≥ ((rd_T55 ps v).f1.length : Int)) by omega)]
            have htm : Int.tmod c ((rd_T55 ps v).f1.length : Int) = c := Int.tmod_eq_of_lt hi0 (by omega)
            simp only [htm, if_pos hi0, if_pos (show c < ((rd_T55 ps v).f1.length : Int) by omega), hw1]
            exact hnext c hi0 (by omega) (by have := hi.2.2; rw [show c - 0 = c by omega] at this; exact this)
          | false =>
            rw [hmine] at hsel
            simp only [Bool.false_eq_true, if_false] at hsel ⊢
            have hj := tmod_rng hc.1 hlen
            simp only [if_neg (show ¬ (((rd_T55 ps v).f1.length : Int) = 0) by omega), if_neg (show ¬ (c < 0) by omega), if_pos hj.1, if_pos hj.2, hw1]
            exact hnext _ hj.1 hj.2 (List.all_eq_true.1 hsel _ (getD_mem _ 0 _ (by omega)))
        simp only [skolemlaw35_PuzzleGuided.j3, if_true, if_pos hv.1, if_pos hv.2]
        by_cases htl : t < (th.length : Int)
        · simp only [if_pos htl, if_pos ht]
          have hx := hth (rd th t) (getD_mem th 0 _ (by omega))
          rw [w_id (show -9223372036854775808 ≤ rd th t ∧ rd th t < 9223372036854775808 by omega)]
          exact hj4 _ hx
        · simp only [if_neg htl]
          exact hj4 0 (by omega)
end
theorem guided_ev (ps : List S55) (st : Int) (gs : List Int) (mv : Int) (th : List Int) (hth : ∀ x ∈ th, 0 ≤ x ∧ x < 256) : Ev (fun k => skolemlaw35_PuzzleGuided.f k ps st gs mv th) true := by
  simp only [skolemlaw35_PuzzleGuided.f]
  have hbig : Ev (fun k => skolemlaw35_PuzzleGuided.j0 k th true ps st gs mv) true := by
    refine Ev.succ ?_
    simp only [skolemlaw35_PuzzleGuided.j0, if_true]
    exact head_end
  refine Ev.bind (large_ev ps st gs mv) ?_
  cases hl : largeB ps gs with
  | true =>
    simp only [if_true]
    exact hbig
  | false =>
    have hs := small_of hl
    simp only [Bool.false_eq_true, if_false]
    refine Ev.bind (may_ev ps st gs mv hs) ?_
    cases hm : mayB ps st gs mv with
    | false =>
      simp only [Bool.not_false]
      exact hbig
    | true =>
      simp only [Bool.not_true]
      have hmv := mayB_mv hm
      have hf := mayB_facts hm
      refine Ev.succ ?_
      simp only [skolemlaw35_PuzzleGuided.j0, Bool.false_eq_true, if_false, puzzle_Wins.f, puzzle_Guide.f, Option.bind_some, hm, if_true, guideF_length]
      have hne : ((mv.toNat : Int) != mv) = false := by simp; omega
      simp only [hne]
      refine Ev.succ ?_
      simp only [skolemlaw35_PuzzleGuided.j1, Bool.false_eq_true, if_false]
      exact guided_l ps st gs mv th hs hm hth _ mv.toNat 0 st (by omega) (by omega) hf.2.1 (fun e => e)
end Go.Proofs.Ytjlehbncpjccmaa.Q
namespace Go.Proofs.Ytjlehbncpjccmaa.Q
open Go.ChangeShapes Go.WideShapes Go.ChangeAt Go.RowKit Go.Proofs.YtjlehbncpjccmaaW.PrintWords Go.Proofs.YtjlehbncpjccmaaW.PrintLast Go.Proofs.YtjlehbncpjccmaaW.PrintMore
set_option linter.unusedVariables false
set_option linter.unusedSimpArgs false
namespace RowPuzzleGuided
set_option maxRecDepth 100000 in
theorem lifted (os : Os) (started : os.Started) (H : Type) (enc : TypeId × Value → H) :
    ReturnsInHanded {} Try.checked os 5 .any (Rows.puzzleGuidedSpec.pre6 enc Try.prog Try.f5 Rows.puzzleGuidedRow.domain false) (Rows.puzzleGuidedSpec.post enc Try.prog Try.f5 false true false false) := by
  refine returnsInHanded_of_change_sized (C := Try.checked) own started (by kernel_rfl) Try.func5
    (ChangeSpec.witness6 (enc := enc) (C := Try.checked) false ⟨#[], #[.agg #[.slice none 0 0, .int .i64 0, .slice none 0 0, .int .i64 0], .slice none 0 0], []⟩ 8 (by kernel_rfl) (by kernel_rfl) (by kernel_rfl) (by kernel_rfl)) ?_
  intro W base args ds gs before hval0 hW hcnd hsz0 _
  have hval : ∀ (j : Nat) t v, Try.f5.params[j]? = some t → args[j]? = some v → Value.okWide Try.prog W .any base t v := hval0
  have hW' := hW
  obtain ⟨p, q, hA0, hV, rfl, hfz, hnd⟩ := hW
  have hA : DataW.TrodAll enc Try.prog W 0 (fun _ => true) true Try.f5.params.toList args.toList ds p := hA0
  rw [Try.params5] at hA hval
  obtain ⟨v0, vs0, d0, ds0, p0, q0, hargs, rfl, rfl, h0, r0⟩ := trodAll_cons hA
  obtain ⟨v1, vs1, d1, ds1, p1, q1, rfl, rfl, rfl, h1, r1⟩ := trodAll_cons r0
  obtain ⟨rfl, rfl, rfl⟩ := trodAll_nil r1
  obtain rfl : args = #[v0, v1] := by cases args; simp_all
  obtain ⟨rfl, rfl⟩ := trodVars_none hV
  have k0 := h0
  have lt0 : ∀ x ∈ p0, x.block < W.heap.size := by obtain ⟨m, hm⟩ := k0; exact DataW.trod_lt m _ _ _ hm
  obtain ⟨A0_0, c0_0, l0_0, a0_1, A0_2, c0_2, l0_2, a0_3, rfl, hr0_0, hc0_0, hr0_2, hc0_2⟩ := open_puzzle (hval 0 25 v0 rfl rfl) h0
  have k1 := h1
  have lt1 : ∀ x ∈ p1, x.block < W.heap.size := by obtain ⟨m, hm⟩ := k1; exact DataW.trod_lt m _ _ _ hm
  obtain ⟨A1, c1, l1, rfl, hr1, hc1, hw1⟩ := open_list Try.underlying52 Try.underlying5 (by kernel_rfl) (hval 1 52 v1 rfl rfl) h1
  clear hA0 hval0 hsz0
  obtain ⟨k, hk⟩ := (guided_ev l0_0 a0_1 l0_2 a0_3 l1 (fun x hx => lit_u8 (hw1 x hx))).some'
  refine (skolemlaw35_PuzzleGuided.callsT k _ _ l0_0 a0_1 _ _ l0_2 a0_3 _ _ l1 true rfl W hr0_0 hc0_0 hr0_2 hc0_2 hr1 hc1 hk).mono fun e W' ⟨he, bel⟩ => ?_
  subst he
  exact ⟨_, rfl, _, _, _, [], _, [], hW', trodAll_mk1 (shut_bool Try.underlying4 _), (trodAll_cons_mk (Below.trod laidOut (by kernel_rfl) (of_decide_eq_true (by kernel_rfl)) k0 bel lt0) (trodAll_cons_mk (Below.trod laidOut (by kernel_rfl) (of_decide_eq_true (by kernel_rfl)) k1 bel lt1) trodAll_mk0)), rfl, bel.frame _, fun h => by cases h⟩
theorem over : Rows.puzzleGuidedRow.holds Try.pinned (OpenSpec.ofChange Rows.puzzleGuidedSpec) :=
  OpenClaim.holds_of_wide 5 Try.f5 rfl rfl rfl rfl rfl rfl rfl ⟨rfl, rfl, rfl, rfl, rfl⟩ rfl rfl rfl rfl rfl (by kernel_rfl) Try.func5 (by kernel_rfl)
    (of_decide_eq_true (by kernel_rfl)) (by unfold Func.isWrapper; first | (rw [if_pos (by decide +kernel)]; kernel_rfl) | (rw [if_neg (by decide +kernel)]; exact ⟨rfl, rfl⟩))
    (fun os started H enc _ => lifted os started H enc)
theorem proved : Rows.PuzzleGuidedSaid := over
end RowPuzzleGuided
end Go.Proofs.Ytjlehbncpjccmaa.Q
namespace Go.Proofs.Ytjlehbncpjccmaa
/-- The row, under a short name, for the claim. -/
theorem puzzleGuided_holds : Rows.PuzzleGuidedSaid := Q.RowPuzzleGuided.proved
#print axioms puzzleGuided_holds
end Go.Proofs.Ytjlehbncpjccmaa
