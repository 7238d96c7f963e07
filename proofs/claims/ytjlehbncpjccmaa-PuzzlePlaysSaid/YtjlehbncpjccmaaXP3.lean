/-
  Proved: the law PuzzlePlays returns true for every input (puzzle, list of numbers), and the input reads as it did.
  Part 3 of 4. Conditions: none. Written for this claim by programs of this work (extprint.py, gen_*.py, assemble.py) and by hand.
-/
import Derived.Test.YtjlehbncpjccmaaXP2
import Derived.Outline
namespace Go.Proofs.Ytjlehbncpjccmaa.Q
open Go.RowKit Go.Proofs.YtjlehbncpjccmaaW.PrintWords Go.Proofs.YtjlehbncpjccmaaW.PrintLast Go.Proofs.YtjlehbncpjccmaaW.PrintMore
attribute [local go_sem] max2_int min2_int max_two min_two max_three min_three max_four min_four
set_option linter.unusedVariables false
set_option linter.unusedSimpArgs false

def absA (x : Int) : Int := mx x (wrap64 (-x))
def normB : Int → List Int → Bool
  | _, [] => true
  | last, x :: r => decide (1 ≤ absA x ∧ absA x ≤ 65536) && (decide (last < absA x) && normB (absA x) r)
theorem normal_l (l : List Int) (hl : (l.length : Int) ≤ 9223372036854775807) : ∀ (n i : Nat) (last : Int), i + n = l.length → aig_normal.l0 (n + 1) last l (l.length : Int) (i : Int) = some (normB last (l.drop i))
  | 0, i, last, h => by
    rw [List.drop_of_length_le (by omega), aig_normal.l0, if_neg (by omega)]
    rfl
  | n + 1, i, last, h => by
    have hi : i < l.length := by omega
    have ih := normal_l l hl n (i + 1) (absA (rd l (i : Int))) (by omega)
    have hd : l.drop i = rd l (i : Int) :: l.drop (i + 1) := by
      rw [List.drop_eq_getElem_cons hi]
      simp [rd, List.getD_eq_getElem?_getD, List.getElem?_eq_getElem hi]
    rw [hd, normB, aig_normal.l0, if_pos (by omega), if_pos (by omega), if_pos (by omega)]
    rw [show mx (rd l (i : Int)) (wrap64 (-(rd l (i : Int)))) = absA (rd l (i : Int)) from rfl]
    rw [show wrap64 ((i : Int) + 1) = ((i + 1 : Nat) : Int) by rw [w_id (by omega)]; omega]
    generalize absA (rd l (i : Int)) = v at ih ⊢
    rw [ih]
    unfold aig_variable.f
    by_cases h1 : v ≥ 1
    · rw [if_pos h1]
      by_cases h2 : v ≤ 65536
      · by_cases h3 : v ≤ last
        · simp [h1, h2, h3, show ¬ (last < v) by omega]
        · simp [h1, h2, h3, show last < v by omega]
      · simp [h1, h2]
    · simp [h1]
theorem normal_f (l : List Int) (hl : (l.length : Int) ≤ 9223372036854775807) : aig_normal.f (l.length + 1) l = some (normB 0 l) := normal_l l hl l.length 0 0 (by omega)
def puzzle_Play.f (l0_0 : List S55) (a0_1 : Int) (l0_2 : List Int) (a0_3 : Int) (l1 : List Int) : Option (List Int × Int) :=
  some (if mayB l0_0 a0_1 l0_2 a0_3 && normB 0 l1 then (playF l0_0 a0_1 a0_3 (fun v => decide (v ∈ l1)), 0) else ([], 2))
section
variable {P : Program} {ops : Array Oper} {Q : Exit → Act → World → Prop}
theorem map_event {rest : List Oper} {o : Oper} {a : Act} {W : World} (hgd : o.guard = none) {N : Tmp} (_hd : o.dst = some N)
    (hrun : (execOp a.eval o).run P W = .ok (.value (.map (some W.heap.size))) (W.alloc (.map #[] 0)))
    (h : ∀ g, g = W.heap.size → ∀ w1, w1.heap[g]? = some (.map #[] 0) → Below W.heap.size W w1 → wpList P ops Q rest (a.put o.dst (.map (some g))) w1) : wpList P ops Q (o :: rest) a W :=
  Kd.event_run hgd hrun (h _ rfl _ (blk_new W _) (below_alloc (Below.refl _ _) _))
end
theorem keys_none {w : World} {r : Nat} (h : w.heap[r]? = some (.map #[] 0)) : KeysT [] w r := ⟨#[], 0, h, by simp, by simp⟩
theorem take_rev (l : List Int) (i : Nat) (h : i < l.length) : (l.take (i + 1)).reverse = rd l (i : Int) :: (l.take i).reverse := by
  rw [List.take_succ_eq_append_getElem h]
  simp [rd, List.getD_eq_getElem?_getD, List.getElem?_eq_getElem h]
set_option maxHeartbeats 6400000 in
set_option maxRecDepth 100000 in
theorem puzzle_Play.calls (A0_0 : Option Addr) (c0_0 : Nat) (l0_0 : List (S55)) (a0_1 : Int) (A0_2 : Option Addr) (c0_2 : Nat) (l0_2 : List Int) (a0_3 : Int) (A1 : Option Addr) (c1 : Nat) (l1 : List Int) (r1 : List Int) (r2 : Int) (w : World) (hr0_0 : Kd.C k55 w A0_0 l0_0.length l0_0) (hc0_0 : l0_0.length ≤ c0_0) (hr0_2 : Kd.C (Kd.int .i64) w A0_2 l0_2.length l0_2) (hc0_2 : l0_2.length ≤ c0_2) (hr1 : Kd.C (Kd.int .i64) w A1 l1.length l1) (hc1 : l1.length ≤ c1) (h : puzzle_Play.f l0_0 a0_1 l0_2 a0_3 l1 = some (r1, r2)) :
    Calls Try.prog 22 #[.agg #[.slice A0_0 l0_0.length c0_0, .int .i64 a0_1, .slice A0_2 l0_2.length c0_2, .int .i64 a0_3], .slice A1 l1.length c1] w fun e w' => ∃ v0_ : Value, e = .returned (.tuple #[v0_, .int .i64 r2]) ∧ Kd.R (Kd.int .i64) 3 w' w.heap.size (fun _ => True) v0_ r1 ∧ Below w.heap.size w w' := by
  have HPL := Aside0.mk (fun (W : World) (hb : Below w.heap.size w W) (L : List Int) (mr : Nat) => play.calls A0_0 c0_0 l0_0 a0_1 A0_2 c0_2 l0_2 a0_3 L mr W (Kd.C_below hr0_0 hb) hc0_0 (Kd.C_below hr0_2 hb) hc0_2)
  have hl1 : (l1.length : Int) ≤ 9223372036854775807 := by have := hr1.2.1; omega
  have HL1 := Aside0.mk hl1
  have HE := Aside0.mk (fun (W : World) (hb : Below w.heap.size w W) => eval0.calls (l1.length + 1) A1 c1 l1 _ W (Kd.C_below hr1 hb) hc1 (normal_f l1 hl1))
  have HR3 := Aside0.mk hr1
  have HR0 := Aside0.mk hr0_0
  have HR2 := Aside0.mk hr0_2
  have HB := Aside0.mk (Below.refl w.heap.size w)
  have HO := Aside0.mk (fun (W : World) (hb : Below w.heap.size w W) => open.calls A0_0 c0_0 l0_0 a0_1 A0_2 c0_2 l0_2 a0_3 W (Kd.C_below hr0_0 hb) hc0_0 (Kd.C_below hr0_2 hb) hc0_2)
  clear hr0_0 hr0_2
  unfold openV at HO
  clear hr1 hl1
  unfold puzzle_Play.f at h
  cases hm : mayB l0_0 a0_1 l0_2 a0_3 with
  | false =>
    simp only [hm, Bool.false_eq_true, if_false, Bool.false_and] at HO h
    obtain ⟨rfl, rfl⟩ := Prod.mk.inj (Option.some.inj h)
    clear h hm HPL
    obtain ⟨ev, hev⟩ : ∃ ev : Int, (if normB 0 l1 = true then (0 : Int) else 2) = ev := ⟨_, rfl⟩
    rw [hev] at HE
    clear hev
    go_enter Try.func22, Try.ntmps22
    go_wp2_with (first | ((with_reducible refine gate_dst (N := 2) rfl ?_); (try (refine gate_guard (by rfl) ?_; dsimp only)); refine box_event ?hg (N := 2) ?hd (cs := #[.slice A0_0 l0_0.length c0_0, .int .i64 a0_1, .slice A0_2 l0_2.length c0_2, .int .i64 a0_3]) (t := 25) ?hr ?_; (case hd => rfl); (case hg => rfl); (case hr => first | (go_simp; done) | (go_simp; rfl)); intro b1 hb1_ w_b1 hbox hb_; have n0_ := Aside0.mk (below_then HB.out HB.out.size hb_); have Bb1 := Aside0.mk hbox; clear hbox; have G1 := Aside0.mk (by rw [hb1_]; exact HB.out.size : w.heap.size ≤ b1); clear hb_; clear hb1_; (try clear HB); have HB := n0_; clear n0_) | ((with_reducible refine gate_dst (N := 14) rfl ?_); (try (refine gate_guard (by rfl) ?_; dsimp only)); refine wpList_load_row rfl 25 (.tmp 2) rfl b1 rfl 25 (#[.slice A0_0 l0_0.length c0_0, .int .i64 a0_1, .slice A0_2 l0_2.length c0_2, .int .i64 a0_3]) (0, 0) _ Bb1.out Try.underlying25 rfl info25n ?_) | ((with_reducible refine gate_callee (f := 32) rfl ?_); (try (refine gate_guard (by rfl) ?_; dsimp only)); refine goesL_ (some 15) rfl rfl Try.func32 (by kernel_rfl) rfl #[.agg #[.slice A0_0 l0_0.length c0_0, .int .i64 a0_1, .slice A0_2 l0_2.length c0_2, .int .i64 a0_3]] rfl (by (try simp only [List.map_toArray, List.map_cons, List.map_nil]); first | done | rfl) ?_; refine (HO.out _ HB.out).mono ?_; rintro e_ w_ ⟨rfl, hb_⟩; have Cb1 := Aside0.mk ((hb_.block _ (blk_lt Bb1.out)).trans Bb1.out); have HB1 := Aside0.mk (below_then HB.out HB.out.size hb_); clear Bb1 HB hb_; have HB := HB1; clear HB1; refine ⟨_, rfl, ?_⟩) | ((with_reducible refine gate_dst (N := 6) rfl ?_); (try (refine gate_guard (by rfl) ?_; dsimp only)); refine box_event ?hg (N := 6) ?hd (cs := #[.slice none 0 0, .int .i64 0, .slice none 0 0, .int .i64 0, .int .i64 0]) (t := 69) ?hr ?_; (case hd => rfl); (case hg => rfl); (case hr => first | (go_simp; done) | (go_simp; rfl)); intro b4 hb4_ w_b4 hbox hb_; have n0_ := Aside0.mk (below_then HB.out HB.out.size hb_); have Bb4 := Aside0.mk hbox; clear hbox; have G4 := Aside0.mk (by rw [hb4_]; exact HB.out.size : w.heap.size ≤ b4); have Db1 := Aside0.mk ((hb_.block _ (blk_lt Cb1.out)).trans Cb1.out); have N14 := Aside0.mk (by have := blk_lt Cb1.out; omega : b1 ≠ b4); clear Cb1; clear hb_; clear hb4_; (try clear HB); have HB := n0_; clear n0_) | ((with_reducible refine gate_store (t := 69) (p := 6) rfl ?_); refine wpList_store_rowTo rfl 69 (.tmp 6) (.tmp 16) rfl rfl b4 (#[.slice none 0 0, .int .i64 0, .slice none 0 0, .int .i64 0, .int .i64 0]) rfl rfl 69 (#[.slice none 0 0, .int .i64 0, .slice none 0 0, .int .i64 0, .int .i64 0]) Bb4.out info69n rfl (by simp [Value.oneCell']) ?_; refine named_world _ ?_; intro w4 hw_; have B4 : Aside0 (w4.heap[b4]? = some (.cells #[.slice none 0 0, .int .i64 0, .slice none 0 0, .int .i64 0, .int .i64 0] 69 (0, 0))) := ⟨by rw [hw_]; exact setRow_heap _ _ _ _ _ _ Bb4.out⟩; have B1 : Aside0 (w4.heap[b1]? = some (.cells #[.slice A0_0 l0_0.length c0_0, .int .i64 a0_1, .slice A0_2 l0_2.length c0_2, .int .i64 a0_3] 25 (0, 0))) := ⟨by rw [hw_, setRow_other _ _ _ _ N14.out]; exact Db1.out⟩; have HB1 : Aside0 (Below w.heap.size w w4) := ⟨by rw [hw_]; exact below_setRow HB.out G4.out _⟩; clear Bb4 Db1 HB; have HB := HB1; clear HB1; have f0 : w4.cell? ⟨b4, 4, none⟩ = some (.int .i64 0) := (blk_cell B4.out 4).trans rfl; have f1 : w4.cell? ⟨b1, 3, none⟩ = some (.int .i64 a0_3) := (blk_cell B1.out 3).trans rfl; have f2 : w4.cell? ⟨b1, 1, none⟩ = some (.int .i64 a0_1) := (blk_cell B1.out 1).trans rfl; have f3 : w4.cell? ⟨b1, 0, none⟩ = some (.slice A0_0 l0_0.length c0_0) := (blk_cell B1.out 0).trans rfl; clear hw_) | ((with_reducible refine gate_callee (f := 46) rfl ?_); (try (refine gate_guard (by rfl) ?_; dsimp only)); refine goesL_ (some 21) rfl rfl Try.func46 (by kernel_rfl) rfl #[.agg #[.slice none 0 0, .slice none 0 0], .int .i64 0, .slice A1 l1.length c1] rfl (by (try simp only [List.map_toArray, List.map_cons, List.map_nil]); first | done | rfl) ?_; refine (HE.out _ HB.out).mono ?_; rintro e_ w_ ⟨rfl, hb_⟩; have C4 := Aside0.mk (blk_below B4.out hb_); have HB1 := Aside0.mk (below_then HB.out HB.out.size hb_); clear B4 HB hb_ f0 f1 f2 f3; have HB := HB1; clear HB1; refine ⟨_, rfl, ?_⟩))
    go_ret2
    exact ⟨_, rfl, Kd.R_nil _ _ _ _ _, HB.out⟩
  | true =>
    have HM := Aside0.mk hm
    simp only [hm, if_true, Bool.true_and] at HO h
    cases hn : normB 0 l1 with
    | false =>
      simp only [hn, Bool.false_eq_true, if_false] at HE h
      obtain ⟨rfl, rfl⟩ := Prod.mk.inj (Option.some.inj h)
      clear h hm hn HPL
      go_enter Try.func22, Try.ntmps22
      go_wp2_with (first | ((with_reducible refine gate_dst (N := 2) rfl ?_); (try (refine gate_guard (by rfl) ?_; dsimp only)); refine box_event ?hg (N := 2) ?hd (cs := #[.slice A0_0 l0_0.length c0_0, .int .i64 a0_1, .slice A0_2 l0_2.length c0_2, .int .i64 a0_3]) (t := 25) ?hr ?_; (case hd => rfl); (case hg => rfl); (case hr => first | (go_simp; done) | (go_simp; rfl)); intro b1 hb1_ w_b1 hbox hb_; have n0_ := Aside0.mk (below_then HB.out HB.out.size hb_); have Bb1 := Aside0.mk hbox; clear hbox; have G1 := Aside0.mk (by rw [hb1_]; exact HB.out.size : w.heap.size ≤ b1); clear hb_; clear hb1_; (try clear HB); have HB := n0_; clear n0_) | ((with_reducible refine gate_dst (N := 14) rfl ?_); (try (refine gate_guard (by rfl) ?_; dsimp only)); refine wpList_load_row rfl 25 (.tmp 2) rfl b1 rfl 25 (#[.slice A0_0 l0_0.length c0_0, .int .i64 a0_1, .slice A0_2 l0_2.length c0_2, .int .i64 a0_3]) (0, 0) _ Bb1.out Try.underlying25 rfl info25n ?_) | ((with_reducible refine gate_callee (f := 32) rfl ?_); (try (refine gate_guard (by rfl) ?_; dsimp only)); refine goesL_ (some 15) rfl rfl Try.func32 (by kernel_rfl) rfl #[.agg #[.slice A0_0 l0_0.length c0_0, .int .i64 a0_1, .slice A0_2 l0_2.length c0_2, .int .i64 a0_3]] rfl (by (try simp only [List.map_toArray, List.map_cons, List.map_nil]); first | done | rfl) ?_; refine (HO.out _ HB.out).mono ?_; rintro e_ w_ ⟨rfl, hb_⟩; have Cb1 := Aside0.mk ((hb_.block _ (blk_lt Bb1.out)).trans Bb1.out); have HB1 := Aside0.mk (below_then HB.out HB.out.size hb_); clear Bb1 HB hb_; have HB := HB1; clear HB1; refine ⟨_, rfl, ?_⟩) | ((with_reducible refine gate_dst (N := 6) rfl ?_); (try (refine gate_guard (by rfl) ?_; dsimp only)); refine box_event ?hg (N := 6) ?hd (cs := #[.slice none 0 0, .int .i64 0, .slice none 0 0, .int .i64 0, .int .i64 0]) (t := 69) ?hr ?_; (case hd => rfl); (case hg => rfl); (case hr => first | (go_simp; done) | (go_simp; rfl)); intro b4 hb4_ w_b4 hbox hb_; have n0_ := Aside0.mk (below_then HB.out HB.out.size hb_); have Bb4 := Aside0.mk hbox; clear hbox; have G4 := Aside0.mk (by rw [hb4_]; exact HB.out.size : w.heap.size ≤ b4); have Db1 := Aside0.mk ((hb_.block _ (blk_lt Cb1.out)).trans Cb1.out); have N14 := Aside0.mk (by have := blk_lt Cb1.out; omega : b1 ≠ b4); clear Cb1; clear hb_; clear hb4_; (try clear HB); have HB := n0_; clear n0_) | ((with_reducible refine gate_store (t := 69) (p := 6) rfl ?_); refine wpList_store_rowTo rfl 69 (.tmp 6) (.tmp 16) rfl rfl b4 (#[.slice A0_0 l0_0.length c0_0, .int .i64 a0_1, .slice A0_2 l0_2.length c0_2, .int .i64 a0_3, .int .i64 (widthP l0_0)]) rfl rfl 69 (#[.slice none 0 0, .int .i64 0, .slice none 0 0, .int .i64 0, .int .i64 0]) Bb4.out info69n rfl (by simp [Value.oneCell']) ?_; refine named_world _ ?_; intro w4 hw_; have B4 : Aside0 (w4.heap[b4]? = some (.cells #[.slice A0_0 l0_0.length c0_0, .int .i64 a0_1, .slice A0_2 l0_2.length c0_2, .int .i64 a0_3, .int .i64 (widthP l0_0)] 69 (0, 0))) := ⟨by rw [hw_]; exact setRow_heap _ _ _ _ _ _ Bb4.out⟩; have B1 : Aside0 (w4.heap[b1]? = some (.cells #[.slice A0_0 l0_0.length c0_0, .int .i64 a0_1, .slice A0_2 l0_2.length c0_2, .int .i64 a0_3] 25 (0, 0))) := ⟨by rw [hw_, setRow_other _ _ _ _ N14.out]; exact Db1.out⟩; have HB1 : Aside0 (Below w.heap.size w w4) := ⟨by rw [hw_]; exact below_setRow HB.out G4.out _⟩; clear Bb4 Db1 HB; have HB := HB1; clear HB1; have f0 : w4.cell? ⟨b4, 4, none⟩ = some (.int .i64 (widthP l0_0)) := (blk_cell B4.out 4).trans rfl; have f1 : w4.cell? ⟨b1, 3, none⟩ = some (.int .i64 a0_3) := (blk_cell B1.out 3).trans rfl; have f2 : w4.cell? ⟨b1, 1, none⟩ = some (.int .i64 a0_1) := (blk_cell B1.out 1).trans rfl; have f3 : w4.cell? ⟨b1, 0, none⟩ = some (.slice A0_0 l0_0.length c0_0) := (blk_cell B1.out 0).trans rfl; clear hw_) | ((with_reducible refine gate_callee (f := 46) rfl ?_); (try (refine gate_guard (by rfl) ?_; dsimp only)); refine goesL_ (some 21) rfl rfl Try.func46 (by kernel_rfl) rfl #[.agg #[.slice none 0 0, .slice none 0 0], .int .i64 0, .slice A1 l1.length c1] rfl (by (try simp only [List.map_toArray, List.map_cons, List.map_nil]); first | done | rfl) ?_; refine (HE.out _ HB.out).mono ?_; rintro e_ w_ ⟨rfl, hb_⟩; have C4 := Aside0.mk (blk_below B4.out hb_); have HB1 := Aside0.mk (below_then HB.out HB.out.size hb_); clear B4 HB hb_ f0 f1 f2 f3; have HB := HB1; clear HB1; refine ⟨_, rfl, ?_⟩))
      go_ret2
      exact ⟨_, rfl, Kd.R_nil _ _ _ _ _, HB.out⟩
    | true =>
      simp only [hn, if_true] at HE h
      obtain ⟨rfl, rfl⟩ := Prod.mk.inj (Option.some.inj h)
      clear h hm hn
      go_enter Try.func22, Try.ntmps22
      go_wp2_with (first | ((with_reducible refine gate_dst (N := 2) rfl ?_); (try (refine gate_guard (by rfl) ?_; dsimp only)); refine box_event ?hg (N := 2) ?hd (cs := #[.slice A0_0 l0_0.length c0_0, .int .i64 a0_1, .slice A0_2 l0_2.length c0_2, .int .i64 a0_3]) (t := 25) ?hr ?_; (case hd => rfl); (case hg => rfl); (case hr => first | (go_simp; done) | (go_simp; rfl)); intro b1 hb1_ w_b1 hbox hb_; have n0_ := Aside0.mk (below_then HB.out HB.out.size hb_); have Bb1 := Aside0.mk hbox; clear hbox; have G1 := Aside0.mk (by rw [hb1_]; exact HB.out.size : w.heap.size ≤ b1); clear hb_; clear hb1_; (try clear HB); have HB := n0_; clear n0_) | ((with_reducible refine gate_dst (N := 14) rfl ?_); (try (refine gate_guard (by rfl) ?_; dsimp only)); refine wpList_load_row rfl 25 (.tmp 2) rfl b1 rfl 25 (#[.slice A0_0 l0_0.length c0_0, .int .i64 a0_1, .slice A0_2 l0_2.length c0_2, .int .i64 a0_3]) (0, 0) _ Bb1.out Try.underlying25 rfl info25n ?_) | ((with_reducible refine gate_callee (f := 32) rfl ?_); (try (refine gate_guard (by rfl) ?_; dsimp only)); refine goesL_ (some 15) rfl rfl Try.func32 (by kernel_rfl) rfl #[.agg #[.slice A0_0 l0_0.length c0_0, .int .i64 a0_1, .slice A0_2 l0_2.length c0_2, .int .i64 a0_3]] rfl (by (try simp only [List.map_toArray, List.map_cons, List.map_nil]); first | done | rfl) ?_; refine (HO.out _ HB.out).mono ?_; rintro e_ w_ ⟨rfl, hb_⟩; have Cb1 := Aside0.mk ((hb_.block _ (blk_lt Bb1.out)).trans Bb1.out); have HB1 := Aside0.mk (below_then HB.out HB.out.size hb_); clear Bb1 HB hb_; have HB := HB1; clear HB1; refine ⟨_, rfl, ?_⟩) | ((with_reducible refine gate_dst (N := 6) rfl ?_); (try (refine gate_guard (by rfl) ?_; dsimp only)); refine box_event ?hg (N := 6) ?hd (cs := #[.slice none 0 0, .int .i64 0, .slice none 0 0, .int .i64 0, .int .i64 0]) (t := 69) ?hr ?_; (case hd => rfl); (case hg => rfl); (case hr => first | (go_simp; done) | (go_simp; rfl)); intro b4 hb4_ w_b4 hbox hb_; have n0_ := Aside0.mk (below_then HB.out HB.out.size hb_); have Bb4 := Aside0.mk hbox; clear hbox; have G4 := Aside0.mk (by rw [hb4_]; exact HB.out.size : w.heap.size ≤ b4); have Db1 := Aside0.mk ((hb_.block _ (blk_lt Cb1.out)).trans Cb1.out); have N14 := Aside0.mk (by have := blk_lt Cb1.out; omega : b1 ≠ b4); clear Cb1; clear hb_; clear hb4_; (try clear HB); have HB := n0_; clear n0_) | ((with_reducible refine gate_store (t := 69) (p := 6) rfl ?_); refine wpList_store_rowTo rfl 69 (.tmp 6) (.tmp 16) rfl rfl b4 (#[.slice A0_0 l0_0.length c0_0, .int .i64 a0_1, .slice A0_2 l0_2.length c0_2, .int .i64 a0_3, .int .i64 (widthP l0_0)]) rfl rfl 69 (#[.slice none 0 0, .int .i64 0, .slice none 0 0, .int .i64 0, .int .i64 0]) Bb4.out info69n rfl (by simp [Value.oneCell']) ?_; refine named_world _ ?_; intro w4 hw_; have B4 : Aside0 (w4.heap[b4]? = some (.cells #[.slice A0_0 l0_0.length c0_0, .int .i64 a0_1, .slice A0_2 l0_2.length c0_2, .int .i64 a0_3, .int .i64 (widthP l0_0)] 69 (0, 0))) := ⟨by rw [hw_]; exact setRow_heap _ _ _ _ _ _ Bb4.out⟩; have B1 : Aside0 (w4.heap[b1]? = some (.cells #[.slice A0_0 l0_0.length c0_0, .int .i64 a0_1, .slice A0_2 l0_2.length c0_2, .int .i64 a0_3] 25 (0, 0))) := ⟨by rw [hw_, setRow_other _ _ _ _ N14.out]; exact Db1.out⟩; have HB1 : Aside0 (Below w.heap.size w w4) := ⟨by rw [hw_]; exact below_setRow HB.out G4.out _⟩; clear Bb4 Db1 HB; have HB := HB1; clear HB1; have f0 : w4.cell? ⟨b4, 4, none⟩ = some (.int .i64 (widthP l0_0)) := (blk_cell B4.out 4).trans rfl; have f1 : w4.cell? ⟨b1, 3, none⟩ = some (.int .i64 a0_3) := (blk_cell B1.out 3).trans rfl; have f2 : w4.cell? ⟨b1, 1, none⟩ = some (.int .i64 a0_1) := (blk_cell B1.out 1).trans rfl; have f3 : w4.cell? ⟨b1, 0, none⟩ = some (.slice A0_0 l0_0.length c0_0) := (blk_cell B1.out 0).trans rfl; clear hw_) | ((with_reducible refine gate_callee (f := 46) rfl ?_); (try (refine gate_guard (by rfl) ?_; dsimp only)); refine goesL_ (some 21) rfl rfl Try.func46 (by kernel_rfl) rfl #[.agg #[.slice none 0 0, .slice none 0 0], .int .i64 0, .slice A1 l1.length c1] rfl (by (try simp only [List.map_toArray, List.map_cons, List.map_nil]); first | done | rfl) ?_; refine (HE.out _ HB.out).mono ?_; rintro e_ w_ ⟨rfl, hb_⟩; have C4 := Aside0.mk (blk_below B4.out hb_); have HB1 := Aside0.mk (below_then HB.out HB.out.size hb_); clear B4 HB hb_ f0 f1 f2 f3; have HB := HB1; clear HB1; refine ⟨_, rfl, ?_⟩) | ((with_reducible refine gate_dst (N := 30) rfl ?_); refine map_event rfl (N := 30) rfl (by rfl) ?_; intro b30 hb30_ w30 hmap_ hb_; have D4 := Aside0.mk (blk_below C4.out hb_); have N30 := Aside0.mk (by have := blk_lt C4.out; omega : b4 ≠ b30); have G30 := Aside0.mk (by rw [hb30_]; exact HB.out.size : w.heap.size ≤ b30); have HK0 := Aside0.mk (keys_none hmap_); have HB1 := Aside0.mk (below_then HB.out HB.out.size hb_); clear C4 HB hb_ hmap_ hb30_; have HB := HB1; clear HB1; have x0_ := True.intro))
      clear x0_
      go_loopg [33] l1.length (fun kq v33 wr => ∃ (x : Int), v33 = .int .i64 x ∧ Aside0 (∃ i : Nat, x = i ∧ kq + i = l1.length ∧ KeysT (l1.take i).reverse wr b30) ∧ Aside0 (wr.heap[b4]? = some (.cells #[.slice A0_0 l0_0.length c0_0, .int .i64 a0_1, .slice A0_2 l0_2.length c0_2, .int .i64 a0_3, .int .i64 (widthP l0_0)] 69 (0, 0))) ∧ Aside0 (Below w.heap.size w wr))
      case atStart => exact ⟨0, rfl, ⟨0, rfl, by omega, HK0.out⟩, D4, HB⟩
      case round =>
        clear HK0 D4 HB
        obtain ⟨x, rfl, HI, D4, HB⟩ := hrel
        obtain ⟨wi, rfl⟩ : ∃ wi : World, wi = wr := ⟨_, rfl⟩
        by_cases hxl : x < (l1.length : Int)
        · have hxl' := decide_eq_true hxl
          obtain ⟨ki, rfl⟩ : ∃ ki, gk = ki + 1 := ⟨gk - 1, by obtain ⟨i, rfl, h1, _⟩ := HI.out; omega⟩
          have hx0 : 0 ≤ x := by obtain ⟨i, rfl, _⟩ := HI.out; omega
          have HR4 := Aside0.mk (Kd.C_below HR3.out HB.out)
          obtain ⟨ae, rfl, hcell⟩ := Kd.at_int HR4.out x hx0 hxl
          obtain ⟨vx, hvx⟩ : ∃ vx, rd l1 x = vx := ⟨_, rfl⟩
          have HVX := Aside0.mk hvx
          have HXP := Aside0.mk (And.intro hx0 hxl)
          have HK1 : Aside0 (∃ L, KeysT L wi b30 ∧ ∀ i : Nat, x = i → (l1.take (i + 1)).reverse = vx :: L) := ⟨by
            obtain ⟨i, rfl, h1, h2⟩ := HI.out
            refine ⟨_, h2, fun j hj => ?_⟩
            obtain rfl : i = j := by omega
            rw [← hvx]
            exact take_rev l1 i (by omega)⟩
          rw [hvx] at hcell
          have q1 := eq_true hx0
          have q2 := eq_true hxl
          clear hvx hx0 hxl
          obtain ⟨L, HK2⟩ := HK1.out
          have HK3 := Aside0.mk HK2
          clear HK2
          go_wp2_with (first | ((with_reducible refine gate_update (t := 92) rfl ?_); obtain ⟨w5, hr_, hk_, ho_, hb_⟩ := update_keys u92 Try.underlying3 HK3.out.1 vx; refine update_event rfl rfl rfl rfl rfl rfl hr_ ?_; have HK5 := Aside0.mk hk_; have D5 := Aside0.mk ((ho_ b4 N30.out).trans D4.out); have HB5 := Aside0.mk (HB.out.trans (hb_ _ G30.out)); clear hr_ hk_ ho_ hb_))
          go_roundg ki
          case measure => omega
          case rel =>
            refine ⟨x + 1, by rw [show wrap64 (x + 1) = x + 1 by have := HL1.out; have := HXP.out; unfold wrap64; omega], ⟨?_⟩, D5, HB5⟩
            obtain ⟨i, rfl, h1, h2⟩ := HI.out
            have hQ := HXP.out
            exact ⟨i + 1, by omega, by omega, by rw [HK3.out.2 i rfl]; exact HK5.out⟩
        · have hxl' := decide_eq_false hxl
          have HKE : Aside0 (KeysT l1.reverse wi b30) := ⟨by
            obtain ⟨i, rfl, h1, h2⟩ := HI.out
            rw [List.take_of_length_le (by omega)] at h2
            exact h2⟩
          have HPE : Aside0 (∀ W (hb : Below w.heap.size w W) (hk : KeysT l1.reverse W b30), Calls Try.prog 47 #[.agg #[.slice A0_0 l0_0.length c0_0, .int .i64 a0_1, .slice A0_2 l0_2.length c0_2, .int .i64 a0_3, .int .i64 (widthP l0_0)], .func (.func 48) #[.map (some b30)] #[]] W fun e w' => ∃ v0_ : Value, e = .returned v0_ ∧ Kd.R (Kd.int .i64) 3 w' W.heap.size (fun _ => True) v0_ (playF l0_0 a0_1 a0_3 fun v => decide (v ∈ l1)) ∧ Below W.heap.size W w') := ⟨fun W hb hk => by
            have h := HPL.out W hb l1.reverse b30 hk HM.out
            simp only [List.mem_reverse] at h
            exact h⟩
          clear hxl
          go_wp2_with (first | ((with_reducible refine gate_dst (N := 40) rfl ?_); (try (refine gate_guard (by rfl) ?_; dsimp only)); refine wpList_load_row rfl 69 (.tmp 6) rfl b4 rfl 69 (#[.slice A0_0 l0_0.length c0_0, .int .i64 a0_1, .slice A0_2 l0_2.length c0_2, .int .i64 a0_3, .int .i64 (widthP l0_0)]) (0, 0) _ D4.out Try.underlying69 rfl info69n ?_) | ((with_reducible refine gate_callee (f := 47) rfl ?_); (try (refine gate_guard (by rfl) ?_; dsimp only)); refine goesL_ (some 43) rfl rfl Try.func47 (by kernel_rfl) rfl #[.agg #[.slice A0_0 l0_0.length c0_0, .int .i64 a0_1, .slice A0_2 l0_2.length c0_2, .int .i64 a0_3, .int .i64 (widthP l0_0)], .func (.func 48) #[.map (some b30)] #[]] rfl (by (try simp only [List.map_toArray, List.map_cons, List.map_nil]); first | done | rfl) ?_; refine (HPE.out _ HB.out HKE.out).mono ?_; rintro e_ w_ ⟨v0_, rfl, hR_, hb_⟩; have HX := Aside0.mk (Kd.R_lower hR_ HB.out.size); have HB5 := Aside0.mk (below_then HB.out HB.out.size hb_); clear hb_ hR_; refine ⟨_, rfl, ?_⟩))
          go_ret2
          exact ⟨_, rfl, HX.out, HB5.out⟩
end Go.Proofs.Ytjlehbncpjccmaa.Q
namespace Go.Proofs.Ytjlehbncpjccmaa.Q
open Go.RowKit Go.Proofs.YtjlehbncpjccmaaW.PrintWords Go.Proofs.YtjlehbncpjccmaaW.PrintLast Go.Proofs.YtjlehbncpjccmaaW.PrintMore
attribute [local go_sem] max2_int min2_int max_two min_two max_three min_three max_four min_four
set_option linter.unusedVariables false
set_option linter.unusedSimpArgs false

section
variable {P : Program} {ops : Array Oper} {Q : Exit → Act → World → Prop}
/-- A slice that is built: its block has a name. -/
theorem slice_event {rest : List Oper} {o : Oper} {a : Act} {W : World} (hgd : o.guard = none) {N : Tmp} (_hd : o.dst = some N) {cs : Array Value} {t n : Nat}
    (hrun : (execOp a.eval o).run P W = .ok (.value (.slice (some ⟨W.heap.size, 0, none⟩) n n)) (W.alloc (.cells cs t (0, 0))))
    (h : ∀ g, ∀ w1, w1.heap[g]? = some (.cells cs t (0, 0)) → Below W.heap.size W w1 → wpList P ops Q rest (a.put o.dst (.slice (some ⟨g, 0, none⟩) n n)) w1) : wpList P ops Q (o :: rest) a W :=
  Kd.event_run hgd hrun (h _ _ (blk_new W _) (below_alloc (Below.refl _ _) _))
end
theorem C_ints {W : World} {b : Nat} (xs : List Int) {cs : Array Value} (h : W.heap[b]? = some (.cells cs 3 (0, 0))) (hc : cs = (xs.map (Value.int .i64)).toArray) (hl : xs.length ≤ 1000) : Kd.C (Kd.int .i64) W (some ⟨b, 0, none⟩) xs.length xs := by
  subst hc
  refine ⟨rfl, by omega, fun _ => ⟨_, rfl, fun j p hp => ⟨[.int .i64 p], rfl, rfl, fun i u hu => ?_⟩⟩⟩
  have hj := (List.getElem?_eq_some_iff.1 hp).1
  have hi : i = 0 := by have := (List.getElem?_eq_some_iff.1 hu).1; simp at this; omega
  subst hi
  simp at hu
  subst hu
  have ha : (⟨b, 0, none⟩ : Addr).add (j * (Kd.int .i64).sz + 0) = ⟨b, j, none⟩ := by
    show (⟨b, 0, none⟩ : Addr).add (j * 1 + 0) = _
    unfold Addr.add
    split
    · congr 1; omega
    · simp
  rw [ha]
  refine (blk_cell h j).trans ?_
  simp [hp]
theorem C_lists {W : World} {b : Nat} (xs : List (List Int)) {cs : Array Value} (h : W.heap[b]? = some (.cells cs 23 (0, 0))) (hl : xs.length ≤ 1000)
    (hv : ∀ (j : Nat) (x : List Int), xs[j]? = some x → ∃ (A : Option Addr) (c : Nat), cs[j]? = some (Value.slice A x.length c) ∧ x.length ≤ c ∧ Kd.C (Kd.int .i64) W A x.length x) : Kd.C (Kd.slice 3 (Kd.int .i64)) W (some ⟨b, 0, none⟩) xs.length xs := by
  refine ⟨rfl, by omega, fun _ => ⟨_, rfl, fun j p hp => ?_⟩⟩
  obtain ⟨A, c, hcs, hlc, hC⟩ := hv j p hp
  refine ⟨[.slice A p.length c], rfl, ⟨A, c, rfl, hlc, hC⟩, fun i u hu => ?_⟩
  have hi : i = 0 := by have := (List.getElem?_eq_some_iff.1 hu).1; simp at this; omega
  subst hi
  simp at hu
  subst hu
  have ha : (⟨b, 0, none⟩ : Addr).add (j * (Kd.slice 3 (Kd.int .i64)).sz + 0) = ⟨b, j, none⟩ := by
    show (⟨b, 0, none⟩ : Addr).add (j * 1 + 0) = _
    unfold Addr.add
    split
    · congr 1; omega
    · simp
  rw [ha]
  exact (blk_cell h j).trans hcs
def exP : List S55 := [⟨true, [1, 2]⟩, ⟨false, [0, 3]⟩, ⟨false, [3, 3]⟩, ⟨true, []⟩]
set_option maxHeartbeats 6400000 in
set_option maxRecDepth 100000 in
theorem head.calls (w : World) : Calls Try.prog 9 #[] w fun e w' => e = .returned (.bool true) ∧ Below w.heap.size w w' := by
  have HB := Aside0.mk (Below.refl w.heap.size w)
  go_enter Try.func9, Try.ntmps9
  go_wp2_with (first | ((with_reducible refine gate_callee (f := 31) rfl ?_); (try (refine gate_guard (by rfl) ?_; dsimp only)); refine goesL_ (some 19) rfl rfl Try.func31 (by kernel_rfl) rfl #[.int .i64 2] rfl (by (try simp only [List.map_toArray, List.map_cons, List.map_nil]); first | done | rfl) ?_; refine (skolemlaw35_example.calls 2 exP 0 [3] 2 _ rfl).mono ?_; rintro e_ w_ ⟨v0_, v2_, rfl, hN_, hR_, hb_⟩; obtain ⟨A0, c0, rfl, hc0_, hr0_⟩ := Kd.N_reads hN_; obtain ⟨A2, c2, rfl, hc2_, hr2_⟩ := Kd.R_reads hR_; have K0 := Aside0.mk hc0_; have K2 := Aside0.mk hc2_; have HBn_ := Aside0.mk (below_then HB.out HB.out.size hb_); clear HB hb_ ; have HB := HBn_; clear HBn_; have R0 := Aside0.mk hr0_; have R2 := Aside0.mk hr2_; clear hN_ hR_ hr0_ hr2_ hc0_ hc2_; refine ⟨_, rfl, ?_⟩) | ((with_reducible refine gate_dst (N := 1) rfl ?_); refine box_event ?hg (N := 1) ?hd (cs := #[.slice none 0 0, .int .i64 0, .slice none 0 0, .int .i64 0]) (t := 25) ?hr ?_; (case hd => rfl); (case hg => rfl); (case hr => first | (go_simp; done) | (go_simp; rfl)); intro b1 hb1_ w_b1 hbox hb_; have G1 := Aside0.mk (by rw [hb1_]; exact HB.out.size : w.heap.size ≤ b1); have Bb1 := Aside0.mk hbox; have R0n := Aside0.mk (Kd.C_below R0.out hb_); have R2n := Aside0.mk (Kd.C_below R2.out hb_); have HBn_ := Aside0.mk (below_then HB.out HB.out.size hb_); have N1 := Aside0.mk hb1_; have HBx := Aside0.mk hb_; clear HB hb_ hbox; have HB := HBn_; clear HBn_) | ((with_reducible refine gate_store (t := 25) (p := 1) rfl ?_); refine wpList_store_rowTo rfl 25 (.tmp 1) (.tmp 19) rfl rfl b1 (#[.slice A0 exP.length c0, .int .i64 0, .slice A2 ([3] : List Int).length c2, .int .i64 2]) rfl rfl 25 (#[.slice none 0 0, .int .i64 0, .slice none 0 0, .int .i64 0]) Bb1.out info25n rfl (by simp [Value.oneCell']) ?_; refine named_world _ ?_; intro w1 hw_; have B1 : Aside0 (w1.heap[b1]? = some (.cells #[.slice A0 exP.length c0, .int .i64 0, .slice A2 ([3] : List Int).length c2, .int .i64 2] 25 (0, 0))) := ⟨by rw [hw_]; exact setRow_heap _ _ _ _ _ _ Bb1.out⟩; have hbs_ := below_setRow HBx.out (by rw [N1.out]; exact Nat.le_refl _ : _ ≤ b1) (#[.slice A0 exP.length c0, .int .i64 0, .slice A2 ([3] : List Int).length c2, .int .i64 2]); rw [← hw_] at hbs_; have R0v1 := Aside0.mk (Kd.C_below R0.out hbs_); have R2v1 := Aside0.mk (Kd.C_below R2.out hbs_); have HB1 : Aside0 (Below w.heap.size w w1) := ⟨by rw [hw_]; exact below_setRow HB.out G1.out _⟩; clear Bb1 HB R0 R2 R0n R2n hbs_ HBx N1 hb1_; have HB := HB1; clear HB1; clear hw_) | ((with_reducible refine gate_dst (N := 21) rfl ?_); (try (refine gate_guard (by rfl) ?_; dsimp only)); refine wpList_load_row rfl 25 (.tmp 1) rfl b1 rfl 25 (#[.slice A0 exP.length c0, .int .i64 0, .slice A2 ([3] : List Int).length c2, .int .i64 2]) (0, 0) _ B1.out Try.underlying25 rfl info25n ?_) | ((with_reducible refine gate_callee (f := 10) rfl ?_); (try (refine gate_guard (by rfl) ?_; dsimp only)); refine goesL_ (some 22) rfl rfl Try.func10 (by kernel_rfl) rfl #[.agg #[.slice A0 exP.length c0, .int .i64 0, .slice A2 ([3] : List Int).length c2, .int .i64 2]] rfl (by (try simp only [List.map_toArray, List.map_cons, List.map_nil]); first | done | rfl) ?_; refine (puzzle_Width.calls A0 c0 exP 0 A2 c2 [3] 2 1 0 _ R0v1.out K0.out R2v1.out K2.out (by kernel_rfl)).mono ?_; rintro e_ w_ ⟨rfl, hb_⟩; have R0v2 := Aside0.mk (Kd.C_below R0v1.out hb_); have R2v2 := Aside0.mk (Kd.C_below R2v1.out hb_); have B1v1 := Aside0.mk (blk_below B1.out hb_); have HBn_ := Aside0.mk (below_then HB.out HB.out.size hb_); clear HB hb_ R0v1 R2v1 B1; have HB := HBn_; clear HBn_; refine ⟨_, rfl, ?_⟩) | ((with_reducible refine gate_callee (f := 31) rfl ?_); (try (refine gate_guard (by rfl) ?_; dsimp only)); refine goesL_ (some 26) rfl rfl Try.func31 (by kernel_rfl) rfl #[.int .i64 1] rfl (by (try simp only [List.map_toArray, List.map_cons, List.map_nil]); first | done | rfl) ?_; refine (skolemlaw35_example.calls 1 exP 0 [3] 1 _ rfl).mono ?_; rintro e_ w_ ⟨v0_, v2_, rfl, hN_, hR_, hb_⟩; obtain ⟨A1, c1, rfl, hc1_, hr0_⟩ := Kd.N_reads hN_; obtain ⟨A3, c3, rfl, hc3_, hr2_⟩ := Kd.R_reads hR_; have K1 := Aside0.mk hc1_; have K3 := Aside0.mk hc3_; have R0v3 := Aside0.mk (Kd.C_below R0v2.out hb_); have R2v3 := Aside0.mk (Kd.C_below R2v2.out hb_); have B1v2 := Aside0.mk (blk_below B1v1.out hb_); have HBn_ := Aside0.mk (below_then HB.out HB.out.size hb_); clear HB hb_ R0v2 R2v2 B1v1; have HB := HBn_; clear HBn_; have R1 := Aside0.mk hr0_; have R3 := Aside0.mk hr2_; clear hN_ hR_ hr0_ hr2_ hc1_ hc3_; refine ⟨_, rfl, ?_⟩) | ((with_reducible refine gate_callee (f := 14) rfl ?_); (try (refine gate_guard (by rfl) ?_; dsimp only)); refine goesL_ (some 27) rfl rfl Try.func14 (by kernel_rfl) rfl #[.agg #[.slice A1 exP.length c1, .int .i64 0, .slice A3 ([3] : List Int).length c3, .int .i64 1]] rfl (by (try simp only [List.map_toArray, List.map_cons, List.map_nil]); first | done | rfl) ?_; refine (puzzle_Wins.calls A1 c1 exP 0 A3 c3 [3] 1 false 0 _ R1.out K1.out R3.out K3.out (by kernel_rfl)).mono ?_; rintro e_ w_ ⟨rfl, hb_⟩; have R0v4 := Aside0.mk (Kd.C_below R0v3.out hb_); have R2v4 := Aside0.mk (Kd.C_below R2v3.out hb_); have B1v3 := Aside0.mk (blk_below B1v2.out hb_); have R1v1 := Aside0.mk (Kd.C_below R1.out hb_); have R3v1 := Aside0.mk (Kd.C_below R3.out hb_); have HBn_ := Aside0.mk (below_then HB.out HB.out.size hb_); clear HB hb_ R0v3 R2v3 B1v2 R1 R3; have HB := HBn_; clear HBn_; refine ⟨_, rfl, ?_⟩) | ((with_reducible refine gate_dst (N := 31) rfl ?_); (try (refine gate_guard (by rfl) ?_; dsimp only)); refine wpList_load_row rfl 25 (.tmp 1) rfl b1 rfl 25 (#[.slice A0 exP.length c0, .int .i64 0, .slice A2 ([3] : List Int).length c2, .int .i64 2]) (0, 0) _ B1v3.out Try.underlying25 rfl info25n ?_) | ((with_reducible refine gate_callee (f := 14) rfl ?_); (try (refine gate_guard (by rfl) ?_; dsimp only)); refine goesL_ (some 32) rfl rfl Try.func14 (by kernel_rfl) rfl #[.agg #[.slice A0 exP.length c0, .int .i64 0, .slice A2 ([3] : List Int).length c2, .int .i64 2]] rfl (by (try simp only [List.map_toArray, List.map_cons, List.map_nil]); first | done | rfl) ?_; refine (puzzle_Wins.calls A0 c0 exP 0 A2 c2 [3] 2 true 0 _ R0v4.out K0.out R2v4.out K2.out (by kernel_rfl)).mono ?_; rintro e_ w_ ⟨rfl, hb_⟩; have R0v5 := Aside0.mk (Kd.C_below R0v4.out hb_); have R2v5 := Aside0.mk (Kd.C_below R2v4.out hb_); have B1v4 := Aside0.mk (blk_below B1v3.out hb_); have HBn_ := Aside0.mk (below_then HB.out HB.out.size hb_); clear HB hb_ R0v4 R2v4 B1v3; have HB := HBn_; clear HBn_; refine ⟨_, rfl, ?_⟩) | ((with_reducible refine gate_dst (N := 36) rfl ?_); (try (refine gate_guard (by rfl) ?_; dsimp only)); refine wpList_load_row rfl 25 (.tmp 1) rfl b1 rfl 25 (#[.slice A0 exP.length c0, .int .i64 0, .slice A2 ([3] : List Int).length c2, .int .i64 2]) (0, 0) _ B1v4.out Try.underlying25 rfl info25n ?_) | ((with_reducible refine gate_callee (f := 12) rfl ?_); (try (refine gate_guard (by rfl) ?_; dsimp only)); refine goesL_ (some 37) rfl rfl Try.func12 (by kernel_rfl) rfl #[.agg #[.slice A0 exP.length c0, .int .i64 0, .slice A2 ([3] : List Int).length c2, .int .i64 2], .int .i64 2, .bool false] rfl (by (try simp only [List.map_toArray, List.map_cons, List.map_nil]); first | done | rfl) ?_; refine (puzzle_Choice.calls A0 c0 exP 0 A2 c2 [3] 2 2 false [4] 0 _ R0v5.out K0.out R2v5.out K2.out (by kernel_rfl)).mono ?_; rintro e_ w_ ⟨v_, rfl, hR_, hb_⟩; obtain ⟨A8, c8, rfl, hc8_, hr_⟩ := Kd.R_reads hR_; have K8 := Aside0.mk hc8_; have R0v6 := Aside0.mk (Kd.C_below R0v5.out hb_); have R2v6 := Aside0.mk (Kd.C_below R2v5.out hb_); have B1v5 := Aside0.mk (blk_below B1v4.out hb_); have HBn_ := Aside0.mk (below_then HB.out HB.out.size hb_); clear HB hb_ R0v5 R2v5 B1v4; have HB := HBn_; clear HBn_; have R8 := Aside0.mk hr_; clear hR_ hr_ hc8_; refine ⟨_, rfl, ?_⟩) | ((with_reducible refine gate_dst (N := 41) rfl ?_); (try (refine gate_guard (by rfl) ?_; dsimp only)); refine wpList_load_row rfl 25 (.tmp 1) rfl b1 rfl 25 (#[.slice A0 exP.length c0, .int .i64 0, .slice A2 ([3] : List Int).length c2, .int .i64 2]) (0, 0) _ B1v5.out Try.underlying25 rfl info25n ?_) | ((with_reducible refine gate_callee (f := 16) rfl ?_); (try (refine gate_guard (by rfl) ?_; dsimp only)); refine goesL_ (some 42) rfl rfl Try.func16 (by kernel_rfl) rfl #[.agg #[.slice A0 exP.length c0, .int .i64 0, .slice A2 ([3] : List Int).length c2, .int .i64 2]] rfl (by (try simp only [List.map_toArray, List.map_cons, List.map_nil]); first | done | rfl) ?_; refine (puzzle_Guide.calls A0 c0 exP 0 A2 c2 [3] 2 [[-1, -1, -1, -1], [1, -1, -1, -1]] 0 _ R0v6.out K0.out R2v6.out K2.out (by kernel_rfl)).mono ?_; rintro e_ w_ ⟨v_, rfl, hR_, hb_⟩; obtain ⟨A10, c10, rfl, hc10_, hr_⟩ := Kd.R_reads (Kd.S_R hR_); have K10 := Aside0.mk hc10_; have R0v7 := Aside0.mk (Kd.C_below R0v6.out hb_); have R2v7 := Aside0.mk (Kd.C_below R2v6.out hb_); have B1v6 := Aside0.mk (blk_below B1v5.out hb_); have R8v1 := Aside0.mk (Kd.C_below R8.out hb_); have HBn_ := Aside0.mk (below_then HB.out HB.out.size hb_); clear HB hb_ R0v6 R2v6 B1v5 R8; have HB := HBn_; clear HBn_; have R10 := Aside0.mk hr_; clear hR_ hr_ hc10_; refine ⟨_, rfl, ?_⟩) | ((with_reducible refine gate_dst (N := 46) rfl ?_); (try (refine gate_guard (by rfl) ?_; dsimp only)); refine wpList_load_row rfl 25 (.tmp 1) rfl b1 rfl 25 (#[.slice A0 exP.length c0, .int .i64 0, .slice A2 ([3] : List Int).length c2, .int .i64 2]) (0, 0) _ B1v6.out Try.underlying25 rfl info25n ?_) | ((with_reducible refine gate_dst (N := 47) rfl ?_); (try (refine gate_guard (by rfl) ?_; dsimp only)); refine slice_event ?hg (N := 47) ?hd (cs := #[.int .i64 (1)]) (t := 3) (n := 1) ?hr ?_; (case hd => rfl); (case hg => rfl); (case hr => first | (go_simp; done) | (go_simp; rfl)); intro p1 w_ hbox hb_; have R0v8 := Aside0.mk (Kd.C_below R0v7.out hb_); have R2v8 := Aside0.mk (Kd.C_below R2v7.out hb_); have B1v7 := Aside0.mk (blk_below B1v6.out hb_); have R8v2 := Aside0.mk (Kd.C_below R8v1.out hb_); have R10v1 := Aside0.mk (Kd.C_below R10.out hb_); have HBn_ := Aside0.mk (below_then HB.out HB.out.size hb_); clear HB hb_ R0v7 R2v7 B1v6 R8v1 R10; have HB := HBn_; clear HBn_; have Sp1 := Aside0.mk (C_ints (W := w_) [(1)] hbox rfl (by decide)); clear hbox) | ((with_reducible refine gate_callee (f := 22) rfl ?_); (try (refine gate_guard (by rfl) ?_; dsimp only)); refine goesL_ (some 48) rfl rfl Try.func22 (by kernel_rfl) rfl #[.agg #[.slice A0 exP.length c0, .int .i64 0, .slice A2 ([3] : List Int).length c2, .int .i64 2], .slice (some ⟨p1, 0, none⟩) ([1] : List Int).length 1] rfl (by (try simp only [List.map_toArray, List.map_cons, List.map_nil]); first | done | rfl) ?_; refine (puzzle_Play.calls A0 c0 exP 0 A2 c2 [3] 2 ((some ⟨p1, 0, none⟩)) 1 [1] [0, 2, 3] 0 _ R0v8.out K0.out R2v8.out K2.out Sp1.out (by decide) (by kernel_rfl)).mono ?_; rintro e_ w_ ⟨v_, rfl, hR_, hb_⟩; obtain ⟨A12, c12, rfl, hc12_, hr_⟩ := Kd.R_reads hR_; have K12 := Aside0.mk hc12_; have R0v9 := Aside0.mk (Kd.C_below R0v8.out hb_); have R2v9 := Aside0.mk (Kd.C_below R2v8.out hb_); have B1v8 := Aside0.mk (blk_below B1v7.out hb_); have R8v3 := Aside0.mk (Kd.C_below R8v2.out hb_); have R10v2 := Aside0.mk (Kd.C_below R10v1.out hb_); have Sp1v1 := Aside0.mk (Kd.C_below Sp1.out hb_); have HBn_ := Aside0.mk (below_then HB.out HB.out.size hb_); clear HB hb_ R0v8 R2v8 B1v7 R8v2 R10v1 Sp1; have HB := HBn_; clear HBn_; have R12 := Aside0.mk hr_; clear hR_ hr_ hc12_; refine ⟨_, rfl, ?_⟩) | ((with_reducible refine gate_dst (N := 52) rfl ?_); (try (refine gate_guard (by rfl) ?_; dsimp only)); refine wpList_load_row rfl 25 (.tmp 1) rfl b1 rfl 25 (#[.slice A0 exP.length c0, .int .i64 0, .slice A2 ([3] : List Int).length c2, .int .i64 2]) (0, 0) _ B1v8.out Try.underlying25 rfl info25n ?_) | ((with_reducible refine gate_dst (N := 53) rfl ?_); (try (refine gate_guard (by rfl) ?_; dsimp only)); refine slice_event ?hg (N := 53) ?hd (cs := #[.int .i64 (1), .int .i64 (4)]) (t := 3) (n := 2) ?hr ?_; (case hd => rfl); (case hg => rfl); (case hr => first | (go_simp; done) | (go_simp; rfl)); intro p2 w_ hbox hb_; have R0v10 := Aside0.mk (Kd.C_below R0v9.out hb_); have R2v10 := Aside0.mk (Kd.C_below R2v9.out hb_); have B1v9 := Aside0.mk (blk_below B1v8.out hb_); have R8v4 := Aside0.mk (Kd.C_below R8v3.out hb_); have R10v3 := Aside0.mk (Kd.C_below R10v2.out hb_); have R12v1 := Aside0.mk (Kd.C_below R12.out hb_); have HBn_ := Aside0.mk (below_then HB.out HB.out.size hb_); clear HB hb_ R0v9 R2v9 B1v8 R8v3 R10v2 R12; have HB := HBn_; clear HBn_; have Sp2 := Aside0.mk (C_ints (W := w_) [(1), (4)] hbox rfl (by decide)); clear hbox) | ((with_reducible refine gate_callee (f := 22) rfl ?_); (try (refine gate_guard (by rfl) ?_; dsimp only)); refine goesL_ (some 54) rfl rfl Try.func22 (by kernel_rfl) rfl #[.agg #[.slice A0 exP.length c0, .int .i64 0, .slice A2 ([3] : List Int).length c2, .int .i64 2], .slice (some ⟨p2, 0, none⟩) ([1, 4] : List Int).length 2] rfl (by (try simp only [List.map_toArray, List.map_cons, List.map_nil]); first | done | rfl) ?_; refine (puzzle_Play.calls A0 c0 exP 0 A2 c2 [3] 2 ((some ⟨p2, 0, none⟩)) 2 [1, 4] [0, 2, 3] 0 _ R0v10.out K0.out R2v10.out K2.out Sp2.out (by decide) (by kernel_rfl)).mono ?_; rintro e_ w_ ⟨v_, rfl, hR_, hb_⟩; obtain ⟨A14, c14, rfl, hc14_, hr_⟩ := Kd.R_reads hR_; have K14 := Aside0.mk hc14_; have R0v11 := Aside0.mk (Kd.C_below R0v10.out hb_); have R2v11 := Aside0.mk (Kd.C_below R2v10.out hb_); have B1v10 := Aside0.mk (blk_below B1v9.out hb_); have R8v5 := Aside0.mk (Kd.C_below R8v4.out hb_); have R10v4 := Aside0.mk (Kd.C_below R10v3.out hb_); have R12v2 := Aside0.mk (Kd.C_below R12v1.out hb_); have Sp2v1 := Aside0.mk (Kd.C_below Sp2.out hb_); have HBn_ := Aside0.mk (below_then HB.out HB.out.size hb_); clear HB hb_ R0v10 R2v10 B1v9 R8v4 R10v3 R12v1 Sp2; have HB := HBn_; clear HBn_; have R14 := Aside0.mk hr_; clear hR_ hr_ hc14_; refine ⟨_, rfl, ?_⟩) | ((with_reducible refine gate_dst (N := 58) rfl ?_); (try (refine gate_guard (by rfl) ?_; dsimp only)); refine wpList_load_row rfl 25 (.tmp 1) rfl b1 rfl 25 (#[.slice A0 exP.length c0, .int .i64 0, .slice A2 ([3] : List Int).length c2, .int .i64 2]) (0, 0) _ B1v10.out Try.underlying25 rfl info25n ?_) | ((with_reducible refine gate_callee (f := 22) rfl ?_); (try (refine gate_guard (by rfl) ?_; dsimp only)); refine goesL_ (some 59) rfl rfl Try.func22 (by kernel_rfl) rfl #[.agg #[.slice A0 exP.length c0, .int .i64 0, .slice A2 ([3] : List Int).length c2, .int .i64 2], .slice none 0 0] rfl (by (try simp only [List.map_toArray, List.map_cons, List.map_nil]); first | done | rfl) ?_; refine (puzzle_Play.calls A0 c0 exP 0 A2 c2 [3] 2 (none) 0 [] [0, 1, 0] 0 _ R0v11.out K0.out R2v11.out K2.out (Kd.C_nil _ _) (by decide) (by kernel_rfl)).mono ?_; rintro e_ w_ ⟨v_, rfl, hR_, hb_⟩; obtain ⟨A16, c16, rfl, hc16_, hr_⟩ := Kd.R_reads hR_; have K16 := Aside0.mk hc16_; have R0v12 := Aside0.mk (Kd.C_below R0v11.out hb_); have R2v12 := Aside0.mk (Kd.C_below R2v11.out hb_); have B1v11 := Aside0.mk (blk_below B1v10.out hb_); have R8v6 := Aside0.mk (Kd.C_below R8v5.out hb_); have R10v5 := Aside0.mk (Kd.C_below R10v4.out hb_); have R12v3 := Aside0.mk (Kd.C_below R12v2.out hb_); have R14v1 := Aside0.mk (Kd.C_below R14.out hb_); have HBn_ := Aside0.mk (below_then HB.out HB.out.size hb_); clear HB hb_ R0v11 R2v11 B1v10 R8v5 R10v4 R12v2 R14; have HB := HBn_; clear HBn_; have R16 := Aside0.mk hr_; clear hR_ hr_ hc16_; refine ⟨_, rfl, ?_⟩) | ((with_reducible refine gate_dst (N := 85) rfl ?_); (try (refine gate_guard (by rfl) ?_; dsimp only)); refine slice_event ?hg (N := 85) ?hd (cs := #[.int .i64 (4)]) (t := 3) (n := 1) ?hr ?_; (case hd => rfl); (case hg => rfl); (case hr => first | (go_simp; done) | (go_simp; rfl)); intro p3 w_ hbox hb_; have R8v7 := Aside0.mk (Kd.C_below R8v6.out hb_); have R10v6 := Aside0.mk (Kd.C_below R10v5.out hb_); have R12v4 := Aside0.mk (Kd.C_below R12v3.out hb_); have R14v2 := Aside0.mk (Kd.C_below R14v1.out hb_); have R16v1 := Aside0.mk (Kd.C_below R16.out hb_); have HBn_ := Aside0.mk (below_then HB.out HB.out.size hb_); clear HB hb_ R8v6 R10v5 R12v3 R14v1 R16; have HB := HBn_; clear HBn_; have Sp3 := Aside0.mk (C_ints (W := w_) [(4)] hbox rfl (by decide)); clear hbox) | ((with_reducible refine gate_callee (f := 20) rfl ?_); (try (refine gate_guard (by rfl) ?_; dsimp only)); refine goesL_ (some 86) rfl rfl Try.func20 (by kernel_rfl) rfl #[.slice A8 ([4] : List Int).length c8, .slice (some ⟨p3, 0, none⟩) 1 1] rfl (by (try simp only [List.map_toArray, List.map_cons, List.map_nil]); first | done | rfl) ?_; refine (skolemref03_Ints.calls 9 A8 c8 [4] (some ⟨p3, 0, none⟩) 1 [4] true _ R8v7.out K8.out Sp3.out (by decide) (by kernel_rfl)).mono ?_; rintro e_ w_ ⟨rfl, hd_⟩; have hb_ := hd_.below; have R8v8 := Aside0.mk (Kd.C_below R8v7.out hb_); have R10v7 := Aside0.mk (Kd.C_below R10v6.out hb_); have R12v5 := Aside0.mk (Kd.C_below R12v4.out hb_); have R14v3 := Aside0.mk (Kd.C_below R14v2.out hb_); have R16v2 := Aside0.mk (Kd.C_below R16v1.out hb_); have Sp3v1 := Aside0.mk (Kd.C_below Sp3.out hb_); have HBn_ := Aside0.mk (below_then HB.out HB.out.size hb_); clear HB hb_ R8v7 R10v6 R12v4 R14v2 R16v1 Sp3 hd_; have HB := HBn_; clear HBn_; refine ⟨_, rfl, ?_⟩) | ((with_reducible refine gate_dst (N := 103) rfl ?_); (try (refine gate_guard (by rfl) ?_; dsimp only)); refine slice_event ?hg (N := 103) ?hd (cs := #[.int .i64 (-1), .int .i64 (-1), .int .i64 (-1), .int .i64 (-1)]) (t := 3) (n := 4) ?hr ?_; (case hd => rfl); (case hg => rfl); (case hr => first | (go_simp; done) | (go_simp; rfl)); intro q1 w_ hbox hb_; have R10v8 := Aside0.mk (Kd.C_below R10v7.out hb_); have R12v6 := Aside0.mk (Kd.C_below R12v5.out hb_); have R14v4 := Aside0.mk (Kd.C_below R14v3.out hb_); have R16v3 := Aside0.mk (Kd.C_below R16v2.out hb_); have HBn_ := Aside0.mk (below_then HB.out HB.out.size hb_); clear HB hb_ R10v7 R12v5 R14v3 R16v2; have HB := HBn_; clear HBn_; have Sq1 := Aside0.mk (C_ints (W := w_) [(-1), (-1), (-1), (-1)] hbox rfl (by decide)); clear hbox) | ((with_reducible refine gate_dst (N := 104) rfl ?_); (try (refine gate_guard (by rfl) ?_; dsimp only)); refine slice_event ?hg (N := 104) ?hd (cs := #[.int .i64 (1), .int .i64 (-1), .int .i64 (-1), .int .i64 (-1)]) (t := 3) (n := 4) ?hr ?_; (case hd => rfl); (case hg => rfl); (case hr => first | (go_simp; done) | (go_simp; rfl)); intro q2 w_ hbox hb_; have R10v9 := Aside0.mk (Kd.C_below R10v8.out hb_); have R12v7 := Aside0.mk (Kd.C_below R12v6.out hb_); have R14v5 := Aside0.mk (Kd.C_below R14v4.out hb_); have R16v4 := Aside0.mk (Kd.C_below R16v3.out hb_); have Sq1v1 := Aside0.mk (Kd.C_below Sq1.out hb_); have HBn_ := Aside0.mk (below_then HB.out HB.out.size hb_); clear HB hb_ R10v8 R12v6 R14v4 R16v3 Sq1; have HB := HBn_; clear HBn_; have Sq2 := Aside0.mk (C_ints (W := w_) [(1), (-1), (-1), (-1)] hbox rfl (by decide)); clear hbox) | ((with_reducible refine gate_dst (N := 105) rfl ?_); (try (refine gate_guard (by rfl) ?_; dsimp only)); refine slice_event ?hg (N := 105) ?hd (cs := #[.slice (some ⟨q1, 0, none⟩) 4 4, .slice (some ⟨q2, 0, none⟩) 4 4]) (t := 23) (n := 2) ?hr ?_; (case hd => rfl); (case hg => rfl); (case hr => first | (go_simp; done) | (go_simp; rfl)); intro q3 w_ hbox hb_; have R10v10 := Aside0.mk (Kd.C_below R10v9.out hb_); have R12v8 := Aside0.mk (Kd.C_below R12v7.out hb_); have R14v6 := Aside0.mk (Kd.C_below R14v5.out hb_); have R16v5 := Aside0.mk (Kd.C_below R16v4.out hb_); have Sq1v2 := Aside0.mk (Kd.C_below Sq1v1.out hb_); have Sq2v1 := Aside0.mk (Kd.C_below Sq2.out hb_); have HBn_ := Aside0.mk (below_then HB.out HB.out.size hb_); clear HB hb_ R10v9 R12v7 R14v5 R16v4 Sq1v1 Sq2; have HB := HBn_; clear HBn_; have Sq3 := Aside0.mk (C_lists (W := w_) [[-1, -1, -1, -1], [1, -1, -1, -1]] hbox (by decide) (fun j x hx => (match j, x, hx with | 0, x, hx => by obtain rfl := Option.some.inj hx; exact ⟨_, _, rfl, (by decide), Sq1v2.out⟩ | 1, x, hx => by obtain rfl := Option.some.inj hx; exact ⟨_, _, rfl, (by decide), Sq2v1.out⟩ | (j + 2), x, hx => by simp at hx))); clear hbox) | ((with_reducible refine gate_callee (f := 21) rfl ?_); (try (refine gate_guard (by rfl) ?_; dsimp only)); refine goesL_ (some 106) rfl rfl Try.func21 (by kernel_rfl) rfl #[.slice A10 ([[-1, -1, -1, -1], [1, -1, -1, -1]] : List (List Int)).length c10, .slice (some ⟨q3, 0, none⟩) 2 2] rfl (by (try simp only [List.map_toArray, List.map_cons, List.map_nil]); first | done | rfl) ?_; refine (skolemref03_Lists.calls 20 A10 c10 [[-1, -1, -1, -1], [1, -1, -1, -1]] (some ⟨q3, 0, none⟩) 2 [[-1, -1, -1, -1], [1, -1, -1, -1]] true _ R10v10.out K10.out Sq3.out (by decide) (by kernel_rfl)).mono ?_; rintro e_ w_ ⟨rfl, hd_⟩; have hb_ := hd_.below; have R10v11 := Aside0.mk (Kd.C_below R10v10.out hb_); have R12v9 := Aside0.mk (Kd.C_below R12v8.out hb_); have R14v7 := Aside0.mk (Kd.C_below R14v6.out hb_); have R16v6 := Aside0.mk (Kd.C_below R16v5.out hb_); have Sq1v3 := Aside0.mk (Kd.C_below Sq1v2.out hb_); have Sq2v2 := Aside0.mk (Kd.C_below Sq2v1.out hb_); have Sq3v1 := Aside0.mk (Kd.C_below Sq3.out hb_); have HBn_ := Aside0.mk (below_then HB.out HB.out.size hb_); clear HB hb_ R10v10 R12v8 R14v6 R16v5 Sq1v2 Sq2v1 Sq3 hd_; have HB := HBn_; clear HBn_; refine ⟨_, rfl, ?_⟩) | ((with_reducible refine gate_dst (N := 112) rfl ?_); (try (refine gate_guard (by rfl) ?_; dsimp only)); refine slice_event ?hg (N := 112) ?hd (cs := #[.slice A12 ([0, 2, 3] : List Int).length c12, .slice A14 ([0, 2, 3] : List Int).length c14, .slice A16 ([0, 1, 0] : List Int).length c16]) (t := 23) (n := 3) ?hr ?_; (case hd => rfl); (case hg => rfl); (case hr => first | (go_simp; done) | (go_simp; rfl)); intro q4 w_ hbox hb_; have R12v10 := Aside0.mk (Kd.C_below R12v9.out hb_); have R14v8 := Aside0.mk (Kd.C_below R14v7.out hb_); have R16v7 := Aside0.mk (Kd.C_below R16v6.out hb_); have HBn_ := Aside0.mk (below_then HB.out HB.out.size hb_); clear HB hb_ R12v9 R14v7 R16v6; have HB := HBn_; clear HBn_; have Sq4 := Aside0.mk (C_lists (W := w_) [[0, 2, 3], [0, 2, 3], [0, 1, 0]] hbox (by decide) (fun j x hx => (match j, x, hx with | 0, x, hx => by obtain rfl := Option.some.inj hx; exact ⟨_, _, rfl, K12.out, R12v10.out⟩ | 1, x, hx => by obtain rfl := Option.some.inj hx; exact ⟨_, _, rfl, K14.out, R14v8.out⟩ | 2, x, hx => by obtain rfl := Option.some.inj hx; exact ⟨_, _, rfl, K16.out, R16v7.out⟩ | (j + 3), x, hx => by simp at hx))); clear hbox) | ((with_reducible refine gate_dst (N := 113) rfl ?_); (try (refine gate_guard (by rfl) ?_; dsimp only)); refine slice_event ?hg (N := 113) ?hd (cs := #[.int .i64 (0), .int .i64 (2), .int .i64 (3)]) (t := 3) (n := 3) ?hr ?_; (case hd => rfl); (case hg => rfl); (case hr => first | (go_simp; done) | (go_simp; rfl)); intro q5 w_ hbox hb_; have Sq4v1 := Aside0.mk (Kd.C_below Sq4.out hb_); have HBn_ := Aside0.mk (below_then HB.out HB.out.size hb_); clear HB hb_ Sq4; have HB := HBn_; clear HBn_; have Sq5 := Aside0.mk (C_ints (W := w_) [(0), (2), (3)] hbox rfl (by decide)); clear hbox) | ((with_reducible refine gate_dst (N := 114) rfl ?_); (try (refine gate_guard (by rfl) ?_; dsimp only)); refine slice_event ?hg (N := 114) ?hd (cs := #[.int .i64 (0), .int .i64 (2), .int .i64 (3)]) (t := 3) (n := 3) ?hr ?_; (case hd => rfl); (case hg => rfl); (case hr => first | (go_simp; done) | (go_simp; rfl)); intro q6 w_ hbox hb_; have Sq4v2 := Aside0.mk (Kd.C_below Sq4v1.out hb_); have Sq5v1 := Aside0.mk (Kd.C_below Sq5.out hb_); have HBn_ := Aside0.mk (below_then HB.out HB.out.size hb_); clear HB hb_ Sq4v1 Sq5; have HB := HBn_; clear HBn_; have Sq6 := Aside0.mk (C_ints (W := w_) [(0), (2), (3)] hbox rfl (by decide)); clear hbox) | ((with_reducible refine gate_dst (N := 115) rfl ?_); (try (refine gate_guard (by rfl) ?_; dsimp only)); refine slice_event ?hg (N := 115) ?hd (cs := #[.int .i64 (0), .int .i64 (1), .int .i64 (0)]) (t := 3) (n := 3) ?hr ?_; (case hd => rfl); (case hg => rfl); (case hr => first | (go_simp; done) | (go_simp; rfl)); intro q7 w_ hbox hb_; have Sq4v3 := Aside0.mk (Kd.C_below Sq4v2.out hb_); have Sq5v2 := Aside0.mk (Kd.C_below Sq5v1.out hb_); have Sq6v1 := Aside0.mk (Kd.C_below Sq6.out hb_); have HBn_ := Aside0.mk (below_then HB.out HB.out.size hb_); clear HB hb_ Sq4v2 Sq5v1 Sq6; have HB := HBn_; clear HBn_; have Sq7 := Aside0.mk (C_ints (W := w_) [(0), (1), (0)] hbox rfl (by decide)); clear hbox) | ((with_reducible refine gate_dst (N := 116) rfl ?_); (try (refine gate_guard (by rfl) ?_; dsimp only)); refine slice_event ?hg (N := 116) ?hd (cs := #[.slice (some ⟨q5, 0, none⟩) 3 3, .slice (some ⟨q6, 0, none⟩) 3 3, .slice (some ⟨q7, 0, none⟩) 3 3]) (t := 23) (n := 3) ?hr ?_; (case hd => rfl); (case hg => rfl); (case hr => first | (go_simp; done) | (go_simp; rfl)); intro q8 w_ hbox hb_; have Sq4v4 := Aside0.mk (Kd.C_below Sq4v3.out hb_); have Sq5v3 := Aside0.mk (Kd.C_below Sq5v2.out hb_); have Sq6v2 := Aside0.mk (Kd.C_below Sq6v1.out hb_); have Sq7v1 := Aside0.mk (Kd.C_below Sq7.out hb_); have HBn_ := Aside0.mk (below_then HB.out HB.out.size hb_); clear HB hb_ Sq4v3 Sq5v2 Sq6v1 Sq7; have HB := HBn_; clear HBn_; have Sq8 := Aside0.mk (C_lists (W := w_) [[0, 2, 3], [0, 2, 3], [0, 1, 0]] hbox (by decide) (fun j x hx => (match j, x, hx with | 0, x, hx => by obtain rfl := Option.some.inj hx; exact ⟨_, _, rfl, (by decide), Sq5v3.out⟩ | 1, x, hx => by obtain rfl := Option.some.inj hx; exact ⟨_, _, rfl, (by decide), Sq6v2.out⟩ | 2, x, hx => by obtain rfl := Option.some.inj hx; exact ⟨_, _, rfl, (by decide), Sq7v1.out⟩ | (j + 3), x, hx => by simp at hx))); clear hbox) | ((with_reducible refine gate_callee (f := 21) rfl ?_); (try (refine gate_guard (by rfl) ?_; dsimp only)); refine goesL_ (some 117) rfl rfl Try.func21 (by kernel_rfl) rfl #[.slice (some ⟨q4, 0, none⟩) 3 3, .slice (some ⟨q8, 0, none⟩) 3 3] rfl (by (try simp only [List.map_toArray, List.map_cons, List.map_nil]); first | done | rfl) ?_; refine (skolemref03_Lists.calls 20 (some ⟨q4, 0, none⟩) 3 [[0, 2, 3], [0, 2, 3], [0, 1, 0]] (some ⟨q8, 0, none⟩) 3 [[0, 2, 3], [0, 2, 3], [0, 1, 0]] true _ Sq4v4.out (by decide) Sq8.out (by decide) (by kernel_rfl)).mono ?_; rintro e_ w_ ⟨rfl, hd_⟩; have hb_ := hd_.below; have Sq4v5 := Aside0.mk (Kd.C_below Sq4v4.out hb_); have Sq5v4 := Aside0.mk (Kd.C_below Sq5v3.out hb_); have Sq6v3 := Aside0.mk (Kd.C_below Sq6v2.out hb_); have Sq7v2 := Aside0.mk (Kd.C_below Sq7v1.out hb_); have Sq8v1 := Aside0.mk (Kd.C_below Sq8.out hb_); have HBn_ := Aside0.mk (below_then HB.out HB.out.size hb_); clear HB hb_ Sq4v4 Sq5v3 Sq6v2 Sq7v1 Sq8 hd_; have HB := HBn_; clear HBn_; refine ⟨_, rfl, ?_⟩))
  go_ret
  exact ⟨rfl, HB.out⟩
/-- The examples of the document hold: one answer. -/
def skolemlaw35_head.f (k : Nat) : Option Bool := some true
theorem skolemlaw35_head.mono : ∀ k, LeO (skolemlaw35_head.f k) (skolemlaw35_head.f (k + 1)) := fun k => LeO.refl _
theorem head_true : skolemlaw35_head.f 40 = some true := rfl
theorem skolemlaw35_head.calls (k : Nat) (r : Bool) (w : World) (h : skolemlaw35_head.f k = some r) :
    Calls Try.prog 9 #[] w fun e w' => e = .returned (.bool r) ∧ Below w.heap.size w w' := by
  obtain rfl : r = true := (Option.some.inj h).symm
  exact head.calls w
end Go.Proofs.Ytjlehbncpjccmaa.Q
namespace Go.Proofs.Ytjlehbncpjccmaa.Q
open Go.RowKit Go.Proofs.YtjlehbncpjccmaaW.PrintWords Go.Proofs.YtjlehbncpjccmaaW.PrintLast Go.Proofs.YtjlehbncpjccmaaW.PrintMore
set_option linter.unusedVariables false
set_option linter.unusedSimpArgs false

theorem head_ev : Ev (fun k => skolemlaw35_head.f k) true := Ev.of skolemlaw35_head.mono head_true
theorem head_end : Ev (fun k => (skolemlaw35_head.f k).bind fun t => some t) true := Ev.bind head_ev (Ev.const _)
end Go.Proofs.Ytjlehbncpjccmaa.Q
namespace Go.Proofs.Ytjlehbncpjccmaa.Q
open Go.RowKit Go.Proofs.YtjlehbncpjccmaaW.PrintWords Go.Proofs.YtjlehbncpjccmaaW.PrintLast Go.Proofs.YtjlehbncpjccmaaW.PrintMore
set_option linter.unusedVariables false
set_option linter.unusedSimpArgs false

theorem has_l (l : List Int) (x : Int) (hl : (l.length : Int) ≤ 9223372036854775807) : ∀ (n i : Nat), i + n = l.length → Ev (fun k => skolemref03_Has.l0 k l x (i : Int)) (decide (x ∈ l.drop i))
  | 0, i, h => by
    refine Ev.succ ?_
    simp only [skolemref03_Has.l0]
    simp only [if_neg (show ¬ ((i : Int) < (l.length : Int)) by omega)]
    exact (Ev.const _).cong (by rw [List.drop_of_length_le (by omega)]; simp)
  | n + 1, i, h => by
    refine Ev.succ ?_
    simp only [skolemref03_Has.l0]
    simp only [if_pos (show (i : Int) < (l.length : Int) by omega), if_pos (show (0 : Int) ≤ i by omega), w_nat i (by omega)]
    rw [drop_rd l i (by omega)]
    by_cases hx : rd l (i : Int) = x
    · simp only [if_pos hx]
      exact (Ev.const _).cong (by simp [hx])
    · simp only [if_neg hx]
      exact (has_l l x hl n (i + 1) (by omega)).cong (by simp [Ne.symm hx])
theorem has_ev (l : List Int) (x : Int) (hl : (l.length : Int) ≤ 9223372036854775807) : Ev (fun k => skolemref03_Has.f k l x) (decide (x ∈ l)) := has_l l x hl l.length 0 (by omega)

section may
variable (ps : List S55) (st : Int) (gs : List Int) (mv : Int)
def goalsB (n : Int) (gs : List Int) (i : Nat) : Bool := !((gs.drop i).any (outB n)) && ascB (gs.drop (i - 1))
theorem may_l2 (n : Int) (hg : (gs.length : Int) ≤ 9223372036854775807) : ∀ (m i : Nat), i + m = gs.length → Ev (fun k => skolemref35_May.l2 k n (i : Int) ps st gs mv) (goalsB n gs i)
  | 0, i, h => by
    refine Ev.succ ?_
    simp only [skolemref35_May.l2]
    simp only [if_neg (show ¬ ((i : Int) < (gs.length : Int)) by omega)]
    refine (Ev.const _).cong ?_
    rw [goalsB, List.drop_of_length_le (show gs.length ≤ i by omega)]
    by_cases hi : 1 ≤ i
    · rw [ascB_end gs i hi (by omega)]; rfl
    · have : i = 0 := by omega
      subst this
      rw [List.drop_of_length_le (by omega)]; rfl
  | m + 1, i, h => by
    refine Ev.succ ?_
    have ih := may_l2 n hg m (i + 1) (by omega)
    simp only [skolemref35_May.l2]
    simp only [if_pos (show (i : Int) < (gs.length : Int) by omega), if_pos (show (0 : Int) ≤ i by omega), w_nat i (by omega)]
    have hd := drop_rd gs i (by omega)
    by_cases h1 : rd gs (i : Int) < 0
    · simp only [if_pos h1]
      exact (Ev.const _).cong (by rw [goalsB, hd]; simp [outB, h1])
    simp only [if_neg h1]
    by_cases h2 : rd gs (i : Int) ≥ n
    · simp only [if_pos h2]
      exact (Ev.const _).cong (by rw [goalsB, hd]; simp [outB, h2])
    simp only [if_neg h2]
    have ho : outB n (rd gs (i : Int)) = false := by simp [outB, h1, h2]
    by_cases hi : (i : Int) > 0
    · simp only [if_pos hi, w_id (show -9223372036854775808 ≤ (i : Int) - 1 ∧ (i : Int) - 1 < 9223372036854775808 by omega), if_pos (show (0 : Int) ≤ (i : Int) - 1 by omega), if_pos (show (i : Int) - 1 < (gs.length : Int) by omega)]
      have ha := ascB_drop gs i (by omega) (by omega)
      by_cases h3 : rd gs ((i : Int) - 1) ≥ rd gs (i : Int)
      · simp only [if_pos h3]
        exact (Ev.const _).cong (by rw [goalsB, ha]; simp [show ¬ (rd gs ((i : Int) - 1) < rd gs (i : Int)) by omega])
      · simp only [if_neg h3]
        exact ih.cong (by rw [goalsB, goalsB, ha, hd, List.any_cons, ho, Nat.add_sub_cancel]; simp [show rd gs ((i : Int) - 1) < rd gs (i : Int) by omega, hd])
    · simp only [if_neg hi]
      have : i = 0 := by omega
      subst this
      exact ih.cong (by rw [goalsB, goalsB, hd, List.any_cons, ho]; simp)
theorem may_l1 (n : Int) (i : Nat) (tl : List Int) (v : Bool) (ht : (tl.length : Int) ≤ 9223372036854775807) (hi : (i : Int) + 1 ≤ 9223372036854775807) (hv : Ev (fun k => skolemref35_May.l0 k n ((i + 1 : Nat) : Int) ps st gs mv) v) : ∀ (m j : Nat), j + m = tl.length →
    Ev (fun k => skolemref35_May.l1 k n (i : Int) tl (j : Int) ps st gs mv) (!((tl.drop j).any fun x => decide ((tl.length : Int) > 4) || outB n x) && v)
  | 0, j, h => by
    refine Ev.succ ?_
    simp only [skolemref35_May.l1]
    simp only [if_neg (show ¬ ((j : Int) < (tl.length : Int)) by omega), w_nat i hi]
    exact hv.cong (by rw [List.drop_of_length_le (by omega)]; simp)
  | m + 1, j, h => by
    refine Ev.succ ?_
    have ih := may_l1 n i tl v ht hi hv m (j + 1) (by omega)
    simp only [skolemref35_May.l1]
    simp only [if_pos (show (j : Int) < (tl.length : Int) by omega), if_pos (show (0 : Int) ≤ j by omega), w_nat j (by omega)]
    rw [drop_rd tl j (by omega), List.any_cons]
    by_cases h0 : (tl.length : Int) > 4
    · simp only [if_pos h0]
      exact (Ev.const _).cong (by simp [h0])
    simp only [if_neg h0]
    by_cases h1 : rd tl (j : Int) < 0
    · simp only [if_pos h1]
      exact (Ev.const _).cong (by simp [outB, h1])
    simp only [if_neg h1]
    by_cases h2 : rd tl (j : Int) ≥ n
    · simp only [if_pos h2]
      exact (Ev.const _).cong (by simp [outB, h2])
    simp only [if_neg h2]
    have ho : outB n (rd tl (j : Int)) = false := by simp [outB, h1, h2]
    exact ih.cong (by simp [ho, h0])
theorem bad_any (n : Int) (x : S55) : (x.f1.any fun y => decide ((x.f1.length : Int) > 4) || outB n y) = badP n x := by
  unfold badP
  by_cases h : (x.f1.length : Int) > 4
  · have h2 : 0 < x.f1.length := by omega
    obtain ⟨a, r, hr⟩ : ∃ a r, x.f1 = a :: r := by
      cases hx : x.f1 with
      | nil => rw [hx] at h2; exact absurd h2 (by simp)
      | cons a r => exact ⟨a, r, rfl⟩
    simp only [h, decide_true, Bool.true_or]
    rw [hr]
    simp
  · simp [h]
theorem may_l0 (n : Int) (hn : n = ps.length) (hp : (ps.length : Int) ≤ 9223372036854775807) (hg : (gs.length : Int) ≤ 9223372036854775807) (ht : ∀ x ∈ ps, (x.f1.length : Int) ≤ 9223372036854775807) : ∀ (m i : Nat), i + m = ps.length →
    Ev (fun k => skolemref35_May.l0 k n (i : Int) ps st gs mv) (!((ps.drop i).any (badP n)) && goalsB n gs 0)
  | 0, i, h => by
    refine Ev.succ ?_
    simp only [skolemref35_May.l0]
    simp only [if_neg (show ¬ ((i : Int) < n) by omega)]
    exact (may_l2 ps st gs mv n hg gs.length 0 (by omega)).cong (by rw [List.drop_of_length_le (show ps.length ≤ i by omega)]; simp)
  | m + 1, i, h => by
    refine Ev.succ ?_
    have ih := may_l0 n hn hp hg ht m (i + 1) (by omega)
    simp only [skolemref35_May.l0]
    simp only [if_pos (show (i : Int) < n by omega), if_pos (show (0 : Int) ≤ i by omega), if_pos (show (i : Int) < (ps.length : Int) by omega)]
    have hmem : rd_T55 ps (i : Int) ∈ ps := List.mem_of_mem_drop (drop_55 ps i (by omega) ▸ List.mem_cons_self)
    exact (may_l1 ps st gs mv n i _ _ (ht _ hmem) (by omega) ih (rd_T55 ps (i : Int)).f1.length 0 (by omega)).cong (by
      rw [drop_55 ps i (by omega), List.any_cons, ← bad_any]
      simp [Bool.and_assoc])
end may
theorem may_ev (ps : List S55) (st : Int) (gs : List Int) (mv : Int) (hs : Small ps gs) : Ev (fun k => skolemref35_May.f k ps st gs mv) (mayB ps st gs mv) := by
  simp only [skolemref35_May.f]
  have hf : Ev (fun k => skolemref35_May.j0 k (ps.length : Int) true ps st gs mv) false := by
    refine Ev.succ ?_
    simp only [skolemref35_May.j0, if_true]
    exact Ev.const _
  by_cases h1 : (ps.length : Int) < 1
  · simp only [if_pos h1]
    exact hf.cong (by
      have : outB (ps.length : Int) st = true := by simp [outB]; omega
      simp [mayB, this])
  simp only [if_neg h1]
  by_cases h2 : (ps.length : Int) > 16
  · simp only [if_pos h2]
    exact hf.cong (by simp [mayB, h2])
  simp only [if_neg h2]
  by_cases h3 : st < 0
  · simp only [if_pos h3]
    exact hf.cong (by simp [mayB, outB, h3])
  simp only [if_neg h3]
  by_cases h4 : st ≥ (ps.length : Int)
  · simp only [if_pos h4]
    exact hf.cong (by simp [mayB, outB, h4])
  simp only [if_neg h4]
  by_cases h5 : mv < 0
  · simp only [if_pos h5]
    exact hf.cong (by simp [mayB, h5])
  simp only [if_neg h5]
  by_cases h6 : mv > 8
  · simp only [h6, decide_true]
    exact hf.cong (by simp [mayB, h6])
  simp only [h6, decide_false]
  refine Ev.succ ?_
  simp only [skolemref35_May.j0, Bool.false_eq_true, if_false]
  refine (may_l0 ps st gs mv _ rfl (by have := hs.np; omega) (by have := hs.ng; omega) (fun x hx => by have := hs.nt x hx; omega) ps.length 0 (by omega)).cong ?_
  simp only [mayB, goalsB, outB, h2, h3, h4, h5, h6, decide_false, Bool.not_false, Bool.true_and, Bool.or_false, List.drop_zero, Nat.zero_sub]
  rw [Bool.and_comm]

theorem width_l (ps : List S55) (st : Int) (gs : List Int) (mv : Int) (hs : Small ps gs) : ∀ (m i : Nat) (x : Nat), i + m = ps.length → Ev (fun k => skolemref35_width.l0 k (x : Int) (i : Int) ps st gs mv) (((ps.drop i).foldl (fun w x => max w (needW x.f1.length)) (needW x) : Nat) : Int)
  | 0, i, x, h => by
    refine Ev.succ ?_
    simp only [skolemref35_width.l0]
    simp only [if_neg (show ¬ ((i : Int) < (ps.length : Int)) by omega)]
    rw [List.drop_of_length_le (show ps.length ≤ i by omega)]
    by_cases h1 : (x : Int) ≤ 1
    · simp only [if_pos h1]
      exact (Ev.const _).cong (by simp [needW, show x ≤ 1 by omega])
    simp only [if_neg h1]
    by_cases h2 : (x : Int) = 2
    · simp only [if_pos h2]
      exact (Ev.const _).cong (by simp [needW, show x = 2 by omega])
    simp only [if_neg h2]
    exact (Ev.const _).cong (by simp [needW, show ¬ x ≤ 1 by omega, show ¬ x ≤ 2 by omega])
  | m + 1, i, x, h => by
    refine Ev.succ ?_
    have ih := width_l ps st gs mv hs m (i + 1) (max x (rd_T55 ps (i : Int)).f1.length) (by omega)
    simp only [skolemref35_width.l0]
    simp only [if_pos (show (i : Int) < (ps.length : Int) by omega), if_pos (show (0 : Int) ≤ i by omega), w_nat i (by have := hs.np; omega)]
    have hmx : mx (x : Int) ((rd_T55 ps (i : Int)).f1.length : Int) = ((max x (rd_T55 ps (i : Int)).f1.length : Nat) : Int) := by
      unfold mx; split <;> omega
    rw [hmx]
    refine ih.cong ?_
    rw [drop_55 ps i (by omega), List.foldl_cons]
    congr 2
    unfold needW
    repeat' split
    all_goals omega
theorem width_ev (ps : List S55) (st : Int) (gs : List Int) (mv : Int) (hs : Small ps gs) : Ev (fun k => skolemref35_width.f k ps st gs mv) (widthP ps : Int) := by
  exact width_l ps st gs mv hs ps.length 0 0 (by omega)
theorem Width_ev (ps : List S55) (st : Int) (gs : List Int) (mv : Int) (hs : Small ps gs) : Ev (fun k => skolemref35_Width.f k ps st gs mv) (if mayB ps st gs mv then ((widthP ps : Int), 0) else (0, 2)) := by
  simp only [skolemref35_Width.f]
  refine Ev.bind (may_ev ps st gs mv hs) ?_
  cases mayB ps st gs mv with
  | true =>
    simp only [if_true]
    exact Ev.bind (width_ev ps st gs mv hs) (Ev.const _)
  | false =>
    simp only [Bool.false_eq_true, if_false]
    exact Ev.const _
theorem choice_l (b : Nat) (hb : b ≤ 2) (first : Int) (hf : 0 ≤ first ∧ first ≤ 100) : ∀ (m i : Nat), i + m = b → Ev (fun k => skolemref35_choice.l0 k (b : Int) first ((List.range i).map fun (j : Nat) => first + (j : Int)) (i : Int)) ((List.range b).map fun (j : Nat) => first + (j : Int))
  | 0, i, h => by
    refine Ev.succ ?_
    simp only [skolemref35_choice.l0]
    simp only [if_neg (show ¬ ((i : Int) < (b : Int)) by omega)]
    exact (Ev.const _).cong (by rw [show i = b by omega])
  | m + 1, i, h => by
    refine Ev.succ ?_
    have ih := choice_l b hb first hf m (i + 1) (by omega)
    simp only [skolemref35_choice.l0]
    simp only [if_pos (show (i : Int) < (b : Int) by omega), List.length_map, List.length_range, if_pos (show i < 17592186044416 by omega), w_nat i (by omega), w_id (show -9223372036854775808 ≤ first + (i : Int) ∧ first + (i : Int) < 9223372036854775808 by omega)]
    rw [List.range_succ, List.map_append] at ih
    exact ih
theorem choice_ev (ps : List S55) (st : Int) (gs : List Int) (mv : Int) (hs : Small ps gs) (t : Int) (h1 : 1 ≤ t) (h2 : t ≤ 8) (mine : Bool) : Ev (fun k => skolemref35_choice.f k ps st gs mv t mine) (choiceF (widthP ps) t mine) := by
  simp only [skolemref35_choice.f]
  refine Ev.bind (width_ev ps st gs mv hs) ?_
  have hb := widthP_le ps
  obtain ⟨b, hbb⟩ : ∃ b, widthP ps = b := ⟨_, rfl⟩
  rw [hbb] at hb ⊢
  obtain ⟨m, hm⟩ : ∃ m, t - 1 = m := ⟨_, rfl⟩
  have hm1 : 0 ≤ m ∧ m ≤ 7 := by omega
  have hb2 : 0 ≤ 2 * (b : Int) * m ∧ 2 * (b : Int) * m ≤ 28 := by
    obtain rfl | rfl | rfl : b = 0 ∨ b = 1 ∨ b = 2 := by omega
    all_goals omega
  unfold choiceF
  rw [hm]
  rw [w_id (show -9223372036854775808 ≤ m ∧ m < 9223372036854775808 by omega), w_id (show -9223372036854775808 ≤ 2 * (b : Int) ∧ 2 * (b : Int) < 9223372036854775808 by omega), w_id (show -9223372036854775808 ≤ 2 * (b : Int) * m ∧ 2 * (b : Int) * m < 9223372036854775808 by omega), w_id (show -9223372036854775808 ≤ 2 * (b : Int) * m + 1 ∧ 2 * (b : Int) * m + 1 < 9223372036854775808 by omega), w_id (show -9223372036854775808 ≤ 2 * (b : Int) * m + 1 + b ∧ 2 * (b : Int) * m + 1 + b < 9223372036854775808 by omega)]
  cases mine with
  | true =>
    simp only [if_true]
    refine Ev.succ ?_
    simp only [skolemref35_choice.j0]
    exact (choice_l b hb _ (by omega) b 0 (by omega)).cong (by simp)
  | false =>
    simp only [Bool.false_eq_true, if_false]
    refine Ev.succ ?_
    simp only [skolemref35_choice.j0]
    exact (choice_l b hb _ (by omega) b 0 (by omega)).cong (by
      apply List.map_congr_left
      intro j _
      omega)
theorem Choice_ev (ps : List S55) (st : Int) (gs : List Int) (mv : Int) (hs : Small ps gs) (t : Int) (mine : Bool) : Ev (fun k => skolemref35_Choice.f k ps st gs mv t mine) (if mayB ps st gs mv then (if 1 ≤ t ∧ t ≤ mv then (choiceF (widthP ps) t mine, 0) else ([], 4)) else ([], 2)) := by
  simp only [skolemref35_Choice.f]
  refine Ev.bind (may_ev ps st gs mv hs) ?_
  cases hm : mayB ps st gs mv with
  | true =>
    have hmv := mayB_mv hm
    simp only [if_true]
    by_cases h1 : t < 1
    · simp only [if_pos h1]
      exact (Ev.const _).cong (by rw [if_neg (by omega)])
    simp only [if_neg h1]
    by_cases h2 : t > mv
    · simp only [if_pos h2]
      exact (Ev.const _).cong (by rw [if_neg (by omega)])
    simp only [if_neg h2]
    rw [if_pos (show 1 ≤ t ∧ t ≤ mv by omega)]
    exact Ev.bind (choice_ev ps st gs mv hs t (by omega) (by omega) mine) (Ev.const _)
  | false =>
    simp only [Bool.false_eq_true, if_false]
    exact Ev.const _
end Go.Proofs.Ytjlehbncpjccmaa.Q
namespace Go.Proofs.Ytjlehbncpjccmaa.Q
open Go.RowKit Go.Proofs.YtjlehbncpjccmaaW.PrintWords Go.Proofs.YtjlehbncpjccmaaW.PrintLast Go.Proofs.YtjlehbncpjccmaaW.PrintMore
set_option linter.unusedVariables false
set_option linter.unusedSimpArgs false

theorem mayB_to2 {ps : List S55} {st : Int} {gs : List Int} {mv : Int} (h : mayB ps st gs mv = true) : ∀ x ∈ ps, ∀ v ∈ x.f1, 0 ≤ v ∧ v < (ps.length : Int) := fun x hx v hv => ((mayB_facts h).2.2.2.2.2 x hx).2 v hv
/-- The program's sets are the table's rows. -/
theorem bstep_get (s : List Bool) : ∀ (ps : List S55) (v : Nat) (acc : List Bool) (j : Nat), v + ps.length ≤ acc.length → (bstep s ps v acc).getD j false = (acc.getD j false || (decide (v ≤ j ∧ j < v + ps.length) && winB s (ps.getD (j - v) z55)))
  | [], v, acc, j, h => by
    have : ¬ (v ≤ j ∧ j < v) := by omega
    simp [bstep, this]
  | x :: r, v, acc, j, h => by
    simp only [List.length_cons] at h
    rw [bstep, bstep_get s r (v + 1) _ j (by split <;> (try simp only [List.length_set]) <;> omega)]
    by_cases hj : j = v
    · subst hj
      have h1 : ¬ (j + 1 ≤ j ∧ j < j + 1 + r.length) := by omega
      simp only [decide_eq_false h1, Bool.false_and, Bool.or_false, Nat.sub_self, List.getD_cons_zero, List.length_cons]
      rw [decide_eq_true (show j ≤ j ∧ j < j + (r.length + 1) by omega), Bool.true_and]
      cases hw : winB s x with
      | true => simp [List.getD_eq_getElem?_getD, show j < acc.length by omega]
      | false => simp
    · have hg : (if winB s x then acc.set v true else acc).getD j false = acc.getD j false := by
        split
        · rw [List.getD_eq_getElem?_getD, List.getElem?_set, if_neg (Ne.symm hj), ← List.getD_eq_getElem?_getD]
        · rfl
      rw [hg]
      by_cases h2 : v + 1 ≤ j ∧ j < v + 1 + r.length
      · rw [decide_eq_true h2, decide_eq_true (show v ≤ j ∧ j < v + (x :: r).length by simp only [List.length_cons]; omega)]
        obtain ⟨q, rfl⟩ : ∃ q, j = v + 1 + q := ⟨j - (v + 1), by omega⟩
        rw [show v + 1 + q - (v + 1) = q by omega, show v + 1 + q - v = q + 1 by omega, List.getD_cons_succ]
      · rw [decide_eq_false h2, decide_eq_false (show ¬ (v ≤ j ∧ j < v + (x :: r).length) by simp only [List.length_cons]; omega)]
        simp
theorem gset_get (gs : List Int) (j : Nat) (h : j < 16) : (gset gs).getD j false = decide ((j : Int) ∈ gs) := by
  simp [gset, List.getD_eq_getElem?_getD, h]
theorem winB_eq (s : List Bool) (x : S55) : winB s x = (decide ((x.f1.length : Int) > 0) && (if x.f0 then x.f1.any (rdOf false s) else x.f1.all (rdOf false s))) := by
  unfold winB
  congr 1
  cases x.f0 with
  | true =>
    simp only [if_true]
    rw [show (fun v : Int => s.getD v.toNat false == true) = rdOf false s from funext fun v => by simp [rdOf]]
    simp
  | false =>
    simp only [Bool.false_eq_true, if_false]
    rw [show (fun v : Int => s.getD v.toNat false == false) = (fun v => !(rdOf false s v)) from funext fun v => by simp [rdOf]]
    generalize x.f1 = l
    induction l with
    | nil => rfl
    | cons a r ih =>
      simp only [List.any_cons, List.all_cons]
      rw [← ih]
      cases rdOf false s a <;> simp
end Go.Proofs.Ytjlehbncpjccmaa.Q
namespace Go.Proofs.Ytjlehbncpjccmaa.Q
open Go.RowKit Go.Proofs.YtjlehbncpjccmaaW.PrintWords Go.Proofs.YtjlehbncpjccmaaW.PrintLast Go.Proofs.YtjlehbncpjccmaaW.PrintMore
attribute [local go_sem] max2_int min2_int max_two min_two max_three min_three max_four min_four   -- for this text's walks alone
set_option linter.unusedVariables false
set_option linter.unusedSimpArgs false

/-! ### skolemref05_variable: function 50 -/
def skolemref05_variable.f (a0 : Int) : Option (Bool) := if a0 ≥ 1 then (some (decide (a0 ≤ 65536))) else (some false)
set_option maxHeartbeats 8000000 in
set_option maxRecDepth 100000 in
theorem skolemref05_variable.calls (a0 : Int) (r : Bool) (w : World) (h : skolemref05_variable.f a0 = some r) :
    Calls Try.prog 50 #[.int .i64 a0] w fun e w' => e = .returned (.bool r) ∧ Drawn0 w w' := by
  have H : (if a0 ≥ 1 then (some (decide (a0 ≤ 65536))) else (some false)) = some r := h
  clear h
  by_cases c2 : a0 ≥ 1
  · rw [if_pos c2] at H
    have c2b0 : decide (1 ≤ a0) = true := decide_eq_true c2
    clear c2
    obtain rfl := Option.some.inj H
    go_enter Try.func50, Try.ntmps50
    go_wp2
    go_ret
    exact ⟨by first | rfl | (simp; done) | (simp [*]; done), by repeat (first | exact Drawn0.refl _ | apply Drawn0.step)⟩
  · rw [if_neg c2] at H
    have c2b0 : decide (1 ≤ a0) = false := decide_eq_false c2
    clear c2
    obtain rfl := Option.some.inj H
    go_enter Try.func50, Try.ntmps50
    go_wp2
    go_ret
    exact ⟨by first | rfl | (simp; done) | (simp [*]; done), by repeat (first | exact Drawn0.refl _ | apply Drawn0.step)⟩

end Go.Proofs.Ytjlehbncpjccmaa.Q
namespace Go.Proofs.Ytjlehbncpjccmaa.Q
open Go.RowKit Go.Proofs.YtjlehbncpjccmaaW.PrintWords Go.Proofs.YtjlehbncpjccmaaW.PrintLast Go.Proofs.YtjlehbncpjccmaaW.PrintMore
attribute [local go_sem] max2_int min2_int max_two min_two max_three min_three max_four min_four   -- for this text's walks alone
set_option linter.unusedVariables false
set_option linter.unusedSimpArgs false

/-! ### skolemref05_Abs: function 51 -/
def skolemref05_Abs.f (a0 : Int) : Option (Int) := if a0 < 0 then (some (mx 0 (wrap64 (-a0)))) else (some a0)
set_option maxHeartbeats 8000000 in
set_option maxRecDepth 100000 in
theorem skolemref05_Abs.calls (a0 : Int) (r : Int) (w : World) (h : skolemref05_Abs.f a0 = some r) :
    Calls Try.prog 51 #[.int .i64 a0] w fun e w' => e = .returned (.int .i64 r) ∧ Below w.heap.size w w' := by
  have HB := Aside0.mk (Below.refl w.heap.size w)
  have H : (if a0 < 0 then (some (mx 0 (wrap64 (-a0)))) else (some a0)) = some r := h
  clear h
  by_cases c2 : a0 < 0
  · rw [if_pos c2] at H
    have c2b0 : decide (a0 < 0) = true := decide_eq_true c2
    clear c2
    obtain ⟨ji3, hji3⟩ : ∃ j_ : Int, (mx 0 (wrap64 (-a0))) = j_ := ⟨_, rfl⟩
    replace H : (some ji3) = some r := by first | (rw [hji3] at H; exact H) | (simp only [hji3] at H ⊢; exact H)
    (try (have hji3l : 0 ≤ ji3 := by (rw [← hji3]; unfold mx; (repeat' split) <;> omega)))
    (try (have hji3m : 0 ≤ ji3 := by omega))
    have hji3_ : (if 0 < (wrap64 (-a0)) then (wrap64 (-a0)) else 0) = ji3 := hji3
    obtain rfl := Option.some.inj H
    go_enter Try.func51, Try.ntmps51
    go_wp2
    go_ret
    exact ⟨by first | rfl | (simp [errW_none, errW_some] <;> rfl) | (simp only [← hji3]; first | rfl | (simp [errW_none, errW_some] <;> rfl)) | (simp [*, errW_none, errW_some] <;> rfl), by repeat (first | (with_reducible first | exact HB.out | apply below_alloc | apply pw_below_drewN | apply below_drew1) | exact HB.out)⟩
  · rw [if_neg c2] at H
    have c2b0 : decide (a0 < 0) = false := decide_eq_false c2
    clear c2
    obtain rfl := Option.some.inj H
    go_enter Try.func51, Try.ntmps51
    go_wp2
    go_ret
    exact ⟨by first | rfl | (simp [errW_none, errW_some] <;> rfl) | (simp [*, errW_none, errW_some] <;> rfl), by repeat (first | (with_reducible first | exact HB.out | apply below_alloc | apply pw_below_drewN | apply below_drew1) | exact HB.out)⟩

end Go.Proofs.Ytjlehbncpjccmaa.Q
namespace Go.Proofs.Ytjlehbncpjccmaa.Q
open Go.RowKit Go.Proofs.YtjlehbncpjccmaaW.PrintWords Go.Proofs.YtjlehbncpjccmaaW.PrintLast Go.Proofs.YtjlehbncpjccmaaW.PrintMore
attribute [local go_sem] max2_int min2_int max_two min_two max_three min_three max_four min_four   -- for this text's walks alone
set_option linter.unusedVariables false
set_option linter.unusedSimpArgs false

/-! ### skolemref05_Normal: function 25 -/
def skolemref05_Normal.l0 : Nat → List Int → Int → Option (Bool)
  | 0, _, _ => none
  | k + 1, x0, x3 => if x3 < (x0.length : Int) then (if 0 ≤ x3 then ((skolemref05_Abs.f (rd x0 x3)).bind fun t333 => ((skolemref05_variable.f t333).bind fun t334 => (if t334 = true then (if x3 > 0 then ((skolemref05_Abs.f (rd x0 x3)).bind fun t336 => (if 0 ≤ (wrap64 (x3 - 1)) then (if (wrap64 (x3 - 1)) < (x0.length : Int) then ((skolemref05_Abs.f (rd x0 (wrap64 (x3 - 1)))).bind fun t338 => (if t336 ≤ t338 then (some false) else (skolemref05_Normal.l0 k x0 (wrap64 (x3 + 1))))) else (none)) else (none))) else (skolemref05_Normal.l0 k x0 (wrap64 (x3 + 1)))) else (some false)))) else (none)) else (some true)
def skolemref05_Normal.f (k : Nat) (l0 : List Int) : Option (Bool) := skolemref05_Normal.l0 k l0 0
theorem skolemref05_Normal.mono_l : ∀ k, (∀ y0 y1, LeO (skolemref05_Normal.l0 k y0 y1) (skolemref05_Normal.l0 (k + 1) y0 y1))
  | 0 => fun _ _ r h => by simp [skolemref05_Normal.l0] at h
  | k + 1 => by
    have ih0 := skolemref05_Normal.mono_l k
    · intro y0 y1
      unfold skolemref05_Normal.l0
      repeat' first
      | (with_reducible exact ih0 _ _)
      | (with_reducible exact LeO.refl _)
      | (with_reducible exact LeO.none _)
      | (with_reducible refine LeO.ite ?_ ?_)
      | (with_reducible refine LeO.bind ?_ (fun _ => ?_))
      | exact ih0 _ _
      | exact LeO.none _
      | refine LeO.ite ?_ ?_
      | refine LeO.bind ?_ (fun _ => ?_)
theorem skolemref05_Normal.mono : ∀ a0 k, LeO (skolemref05_Normal.f k a0) (skolemref05_Normal.f (k + 1) a0) := by
  intro a0 k
  have ih0 := skolemref05_Normal.mono_l k
  unfold skolemref05_Normal.f
  repeat' first
      | (with_reducible exact ih0 _ _)
      | (with_reducible exact LeO.refl _)
      | (with_reducible exact LeO.none _)
      | (with_reducible refine LeO.ite ?_ ?_)
      | (with_reducible refine LeO.bind ?_ (fun _ => ?_))
      | exact ih0 _ _
      | exact LeO.none _
      | refine LeO.ite ?_ ?_
      | refine LeO.bind ?_ (fun _ => ?_)
def skolemref05_Normal.T4 : Bool × List (List Nat × List Nat) := (true, [([], []), ([], []), ([0, 1], [0, 1]), ([2], [2]), ([3], [3]), ([4, 4], [4]), ([5], [5]), ([6, 5], [6]), ([7], [7]), ([8, 7], [7, 8]), ([9, 7, 7], [7, 9]), ([10], [10]), ([10], [10]), ([11, 12, 10], [10, 11, 12]), ([13, 10], [10, 13]), ([14, 10, 10], [10, 14]), ([10], [10]), ([10], [10]), ([17, 10], [10, 17]), ([16, 18, 10], [10, 16, 18]), ([19, 10], [10, 19]), ([20, 15, 10], [10, 20]), ([15, 21, 10], [10, 15, 21]), ([10, 22, 7], [7, 10, 22]), ([7, 23], [7, 23])])
def skolemref05_Normal.B4 : List Nat := [0, 0, 3, 7, 15, 31, 63, 127, 255, 511, 1023, 2047, 2047, 8191, 16383, 32767, 2047, 2047, 133119, 460799, 985087, 2097151, 4194303, 8388607, 16777215]
theorem skolemref05_Normal.tab4 : rtab .any (opsOf Try.f25 4) = skolemref05_Normal.T4 := by kernel_rfl
theorem skolemref05_Normal.bits4 : waitsOk skolemref05_Normal.T4.2 skolemref05_Normal.B4 = true := by kernel_rfl
set_option maxHeartbeats 8000000 in
set_option maxRecDepth 100000 in
theorem skolemref05_Normal.calls (k : Nat) (A0 : Option Addr) (c0 : Nat) (l0 : List Int) (r : Bool) (w : World) (hr0 : Kd.C (Kd.int .i64) w A0 l0.length l0) (hc0 : l0.length ≤ c0) (h : skolemref05_Normal.f k l0 = some r) :
    Calls Try.prog 25 #[.slice A0 l0.length c0] w fun e w' => e = .returned (.bool r) ∧ Below w.heap.size w w' := by
  have HR0 := Aside0.mk hr0
  have HC0 := Aside0.mk hc0
  clear hr0 hc0
  have HB := Aside0.mk (Below.refl w.heap.size w)
  have H : (skolemref05_Normal.l0 k l0 0) = some r := h
  clear h
  have H' := Aside0.mk H
  clear H
  go_enter Try.func25, Try.ntmps25
  go_wp2
  go_loopg [3] k (fun kq v3 w' => ∃ (x3_1 : Int), v3 = .int .i64 x3_1 ∧ Aside0 (skolemref05_Normal.l0 kq l0 x3_1 = some r) ∧ Aside0 (kq ≤ k) ∧ Aside0 (Below w.heap.size w w'))
  case atStart => exact ⟨(0), (by first | rfl | (simp; done) | (simp [*]; done)), H', ⟨Nat.le_refl _⟩, ⟨by repeat (first | (with_reducible first | exact HB.out | apply below_alloc | apply pw_below_drewN | apply below_drew1) | exact HB.out)⟩⟩
  case round =>
    clear H'
    obtain ⟨x3_1, rfl, HA, HK1, HB⟩ := hrel
    cases gk with
    | zero => exact absurd HA.out (by simp [skolemref05_Normal.l0])
    | succ k1 =>
      have H := HA.out
      clear HA
      simp only [skolemref05_Normal.l0] at H
      by_cases c2 : x3_1 < (l0.length : Int)
      · rw [if_pos c2] at H
        have c2b0 : decide (x3_1 < (l0.length : Int)) = true := decide_eq_true c2
        clear c2
        by_cases c3 : 0 ≤ x3_1
        · rw [if_pos c3] at H
          have c3b0 : decide (0 ≤ x3_1) = true := decide_eq_true c3
          clear c3
          replace H := Option.bind_eq_some_iff.mp H
          obtain ⟨t333, A40, H⟩ := H
          replace H : ((skolemref05_variable.f t333).bind fun t334 => (if t334 = true then (if x3_1 > 0 then ((skolemref05_Abs.f (rd l0 x3_1)).bind fun t336 => (if 0 ≤ (wrap64 (x3_1 - 1)) then (if (wrap64 (x3_1 - 1)) < (l0.length : Int) then ((skolemref05_Abs.f (rd l0 (wrap64 (x3_1 - 1)))).bind fun t338 => (if t336 ≤ t338 then (some false) else (skolemref05_Normal.l0 k1 l0 (wrap64 (x3_1 + 1))))) else (none)) else (none))) else (skolemref05_Normal.l0 k1 l0 (wrap64 (x3_1 + 1)))) else (some false))) = some r := H
          have A4 := Aside0.mk A40
          clear A40
          replace H := Option.bind_eq_some_iff.mp H
          obtain ⟨t334, A50, H⟩ := H
          replace H : (if t334 = true then (if x3_1 > 0 then ((skolemref05_Abs.f (rd l0 x3_1)).bind fun t336 => (if 0 ≤ (wrap64 (x3_1 - 1)) then (if (wrap64 (x3_1 - 1)) < (l0.length : Int) then ((skolemref05_Abs.f (rd l0 (wrap64 (x3_1 - 1)))).bind fun t338 => (if t336 ≤ t338 then (some false) else (skolemref05_Normal.l0 k1 l0 (wrap64 (x3_1 + 1))))) else (none)) else (none))) else (skolemref05_Normal.l0 k1 l0 (wrap64 (x3_1 + 1)))) else (some false)) = some r := H
          have A5 := Aside0.mk A50
          clear A50
          by_cases c6 : t334 = true
          · subst c6
            have H1 : (if x3_1 > 0 then ((skolemref05_Abs.f (rd l0 x3_1)).bind fun t336 => (if 0 ≤ (wrap64 (x3_1 - 1)) then (if (wrap64 (x3_1 - 1)) < (l0.length : Int) then ((skolemref05_Abs.f (rd l0 (wrap64 (x3_1 - 1)))).bind fun t338 => (if t336 ≤ t338 then (some false) else (skolemref05_Normal.l0 k1 l0 (wrap64 (x3_1 + 1))))) else (none)) else (none))) else (skolemref05_Normal.l0 k1 l0 (wrap64 (x3_1 + 1)))) = some r := by rw [if_pos rfl] at H; exact H
            clear H
            have H := H1
            clear H1
            by_cases c7 : x3_1 > 0
            · rw [if_pos c7] at H
              have c7b0 : decide (0 < x3_1) = true := decide_eq_true c7
              clear c7
              replace H := Option.bind_eq_some_iff.mp H
              obtain ⟨t336, A80, H⟩ := H
              replace H : (if 0 ≤ (wrap64 (x3_1 - 1)) then (if (wrap64 (x3_1 - 1)) < (l0.length : Int) then ((skolemref05_Abs.f (rd l0 (wrap64 (x3_1 - 1)))).bind fun t338 => (if t336 ≤ t338 then (some false) else (skolemref05_Normal.l0 k1 l0 (wrap64 (x3_1 + 1))))) else (none)) else (none)) = some r := H
              have A8 := Aside0.mk A80
              clear A80
              obtain ⟨ji9, hji9⟩ : ∃ j_ : Int, (wrap64 (x3_1 - 1)) = j_ := ⟨_, rfl⟩
              replace H : (if 0 ≤ (ji9) then (if (ji9) < (l0.length : Int) then ((skolemref05_Abs.f (rd l0 (ji9))).bind fun t338 => (if t336 ≤ t338 then (some false) else (skolemref05_Normal.l0 k1 l0 (wrap64 (x3_1 + 1))))) else (none)) else (none)) = some r := by first | (rw [hji9] at H; exact H) | (simp only [hji9] at H ⊢; exact H)
              (try rw [hji9] at A4)
              (try rw [hji9] at A5)
              (try rw [hji9] at A8)
              have hji9w : (IntKind.i64.wrap (x3_1 - 1)) = ji9 := (i64_w _).trans hji9
              by_cases c10 : 0 ≤ (ji9)
              · rw [if_pos c10] at H
                have c10b0 : decide (0 ≤ (ji9)) = true := decide_eq_true c10
                clear c10
                by_cases c11 : (ji9) < (l0.length : Int)
                · rw [if_pos c11] at H
                  have c11b0 : decide ((ji9) < (l0.length : Int)) = true := decide_eq_true c11
                  clear c11
                  replace H := Option.bind_eq_some_iff.mp H
                  obtain ⟨t338, A120, H⟩ := H
                  replace H : (if t336 ≤ t338 then (some false) else (skolemref05_Normal.l0 k1 l0 (wrap64 (x3_1 + 1)))) = some r := H
                  have A12 := Aside0.mk A120
                  clear A120
                  by_cases c13 : t336 ≤ t338
                  · rw [if_pos c13] at H
                    have c13b0 : decide (t336 ≤ t338) = true := decide_eq_true c13
                    clear c13
                    obtain rfl := Option.some.inj H
                    try go_wp2
                    have n0_ := Aside0.mk (below_drew1 HB.out)
                    clear HB
                    have HB := n0_
                    clear n0_
                    have p332 : 0 ≤ (x3_1 : Int) := of_decide_eq_true (by first | (with_reducible assumption) | assumption)
                    have q332 : x3_1 < (l0.length : Int) := of_decide_eq_true (by first | (with_reducible assumption) | assumption)
                    obtain ⟨ad332, e332, hx332_0⟩ := Kd.at_int HR0.out x3_1 p332 q332
                    have hw332_0 := hx332_0
                    cases e332
                    replace hx332_0 := (HB.out.cell (World.block_lt_of_cell? w _ hx332_0)).trans hx332_0
                    replace p332 := eq_true p332
                    replace q332 := eq_true q332
                    have p335 : 0 ≤ (x3_1 : Int) := of_decide_eq_true (by first | (with_reducible assumption) | assumption)
                    have q335 : x3_1 < (l0.length : Int) := of_decide_eq_true (by first | (with_reducible assumption) | assumption)
                    obtain ⟨ad335, e335, hx335_0⟩ := Kd.at_int HR0.out x3_1 p335 q335
                    have hw335_0 := hx335_0
                    obtain rfl : ad332 = ad335 := (by injection e335)
                    replace hx335_0 := (HB.out.cell (World.block_lt_of_cell? w _ hx335_0)).trans hx335_0
                    replace p335 := eq_true p335
                    replace q335 := eq_true q335
                    have p337 : 0 ≤ ((ji9) : Int) := of_decide_eq_true (by first | (with_reducible assumption) | assumption)
                    have q337 : (ji9) < (l0.length : Int) := of_decide_eq_true (by first | (with_reducible assumption) | assumption)
                    obtain ⟨ad337, e337, hx337_0⟩ := Kd.at_int HR0.out (ji9) p337 q337
                    have hw337_0 := hx337_0
                    obtain rfl : ad332 = ad337 := (by injection e337)
                    replace hx337_0 := (HB.out.cell (World.block_lt_of_cell? w _ hx337_0)).trans hx337_0
                    replace p337 := eq_true p337
                    replace q337 := eq_true q337
                    refine start_ (n := 25) (S := fun w' => w'.cell? (ad332.add (x3_1).toNat) = some (.int .i64 (rd l0 x3_1)) ∧ w'.cell? (ad332.add (x3_1).toNat) = some (.int .i64 (rd l0 x3_1)) ∧ w'.cell? (ad332.add ((ji9)).toNat) = some (.int .i64 (rd l0 (ji9)))) (ds := []) #[false, false, false, false, false, false, false, false, false, false, false, false, false, false, false, false, false, false, false, false, false, false, false, false, false] (by kernel_rfl) rfl rfl ⟨((HB.out.cell (World.block_lt_of_cell? w _ hw332_0)).trans hw332_0), ((HB.out.cell (World.block_lt_of_cell? w _ hw335_0)).trans hw335_0), ((HB.out.cell (World.block_lt_of_cell? w _ hw337_0)).trans hw337_0)⟩ (fun hHeld => ?_); refine with_tabW skolemref05_Normal.tab4 skolemref05_Normal.bits4 (fun HT_ HW_ => ?_)
                    generalize wr.drew = w14 at HB hx332_0 hx335_0 hx337_0 hHeld ⊢
                    refine pure_ (i := 0) (N := some 10) (v := ?_) (a' := ?_) #[true, false, false, false, false, false, false, false, false, false, false, false, false, false, false, false, false, false, false, false, false, false, false, false, false] rfl rfl (any_of HT_.out (by kernel_rfl)) (fun _ _ _ h => h) (Or.inl ⟨by rfl, ?_⟩) ?_ ?_
                    rotate_left
                    · intro w'
                      go_simp
                      with_reducible rfl
                    rotate_left
                    · simp only [Act.put, List.setIfInBounds_toArray, List.set_cons_zero, List.set_cons_succ, i64_w, i32_w]
                      rfl
                    refine pure_ (i := 1) (N := some 11) (v := ?_) (a' := ?_) #[true, true, false, false, false, false, false, false, false, false, false, false, false, false, false, false, false, false, false, false, false, false, false, false, false] rfl rfl (any_of HT_.out (by kernel_rfl)) (fun _ _ _ h => h) (Or.inl ⟨by rfl, ?_⟩) ?_ ?_
                    rotate_left
                    · intro w'
                      go_simp
                      with_reducible rfl
                    rotate_left
                    · simp only [Act.put, List.setIfInBounds_toArray, List.set_cons_zero, List.set_cons_succ, i64_w, i32_w]
                      rfl
                    refine pure_ (i := 2) (N := some 12) (v := ?_) (a' := ?_) #[true, true, true, false, false, false, false, false, false, false, false, false, false, false, false, false, false, false, false, false, false, false, false, false, false] rfl rfl (any_of HT_.out (by kernel_rfl)) (fun _ _ _ h => h) (Or.inl ⟨by rfl, ?_⟩) ?_ ?_
                    rotate_left
                    · intro w'
                      go_simp
                      with_reducible rfl
                    rotate_left
                    · simp only [Act.put, List.setIfInBounds_toArray, List.set_cons_zero, List.set_cons_succ, i64_w, i32_w]
                      rfl
                    refine take_ (i := 3) (N := some 13) (v := ?_) (a' := ?_) #[true, true, true, true, false, false, false, false, false, false, false, false, false, false, false, false, false, false, false, false, false, false, false, false, false] rfl rfl (take_ofW HT_.out HW_.out (by kernel_rfl)) (fun _ _ _ h => h) (Or.inl ⟨by rfl, ?_⟩) hHeld ?_ ?_
                    rotate_left
                    · rintro w' ⟨s0, s1, s2⟩
                      go_simp
                      with_reducible rfl
                    rotate_left
                    · simp only [Act.put, List.setIfInBounds_toArray, List.set_cons_zero, List.set_cons_succ, i64_w, i32_w]
                      rfl
                    refine one_ (i := 4) (N := some 14) #[true, true, true, true, true, false, false, false, false, false, false, false, false, false, false, false, false, false, false, false, false, false, false, false, false] rfl rfl (one_of HT_.out (by kernel_rfl)) (by decide) (fun K hK => ?_)
                    refine goes_ Try.func51 (by kernel_rfl) rfl #[.int .i64 (rd l0 x3_1)] (by rfl) rfl rfl (by (try simp only [List.map_toArray, List.map_cons, List.map_nil]); first | done | rfl | (simp only [List.length_drop, List.length_take]; rfl)) ?_
                    with_reducible refine (skolemref05_Abs.calls (rd l0 x3_1) t333 _ A4.out).mono ?_
                    rintro e w15 ⟨rfl, hb⟩
                    refine ⟨_, rfl, ?_⟩
                    have n0_ := Aside0.mk (below_step (by repeat (first | (with_reducible first | exact HB.out | apply below_alloc | apply pw_below_drewN | apply below_drew1) | exact HB.out)) hb)
                    clear HB
                    have HB := n0_
                    clear n0_
                    (try clear hb)
                    (try clear hb2)
                    (try clear hk)
                    (try clear hi)
                    refine hK.out _ _ ⟨((HB.out.cell (World.block_lt_of_cell? w _ hw332_0)).trans hw332_0), ((HB.out.cell (World.block_lt_of_cell? w _ hw335_0)).trans hw335_0), ((HB.out.cell (World.block_lt_of_cell? w _ hw337_0)).trans hw337_0)⟩ (fun hHeld => ?_)
                    clear hK K
                    refine norm_ (a' := ?_) ?_ ?_
                    rotate_left
                    · show Act.put _ (some 14) _ = _
                      simp only [Act.put, List.setIfInBounds_toArray, List.set_cons_zero, List.set_cons_succ, i64_w, i32_w]
                      rfl
                    refine one_ (i := 5) (N := some 15) #[true, true, true, true, true, true, false, false, false, false, false, false, false, false, false, false, false, false, false, false, false, false, false, false, false] rfl rfl (one_of HT_.out (by kernel_rfl)) (by decide) (fun K hK => ?_)
                    refine goes_ Try.func50 (by kernel_rfl) rfl #[.int .i64 t333] (by rfl) rfl rfl (by (try simp only [List.map_toArray, List.map_cons, List.map_nil]); first | done | rfl | (simp only [List.length_drop, List.length_take]; rfl)) ?_
                    with_reducible refine (skolemref05_variable.calls t333 true _ A5.out).mono ?_
                    rintro e w' ⟨rfl, ⟨nd, rfl⟩⟩
                    refine ⟨_, rfl, ?_⟩
                    refine hK.out _ _ ⟨((HB.out.cell (World.block_lt_of_cell? w _ hw332_0)).trans hw332_0), ((HB.out.cell (World.block_lt_of_cell? w _ hw335_0)).trans hw335_0), ((HB.out.cell (World.block_lt_of_cell? w _ hw337_0)).trans hw337_0)⟩ (fun hHeld => ?_)
                    clear hK K
                    refine norm_ (a' := ?_) ?_ ?_
                    rotate_left
                    · show Act.put _ (some 15) _ = _
                      simp only [Act.put, List.setIfInBounds_toArray, List.set_cons_zero, List.set_cons_succ, i64_w, i32_w]
                      rfl
                    refine pure_ (i := 6) (N := some 16) (v := ?_) (a' := ?_) #[true, true, true, true, true, true, true, false, false, false, false, false, false, false, false, false, false, false, false, false, false, false, false, false, false] rfl rfl (any_of HT_.out (by kernel_rfl)) (fun _ _ _ h => h) (Or.inl ⟨by rfl, ?_⟩) ?_ ?_
                    rotate_left
                    · intro w'
                      go_simp
                      with_reducible rfl
                    rotate_left
                    · simp only [Act.put, List.setIfInBounds_toArray, List.set_cons_zero, List.set_cons_succ, i64_w, i32_w]
                      rfl
                    refine pure_ (i := 7) (N := some 17) (v := ?_) (a' := ?_) #[true, true, true, true, true, true, true, true, false, false, false, false, false, false, false, false, false, false, false, false, false, false, false, false, false] rfl rfl (any_of HT_.out (by kernel_rfl)) (fun _ _ _ h => h) (Or.inl ⟨by rfl, ?_⟩) ?_ ?_
                    rotate_left
                    · intro w'
                      go_simp
                      with_reducible rfl
                    rotate_left
                    · simp only [Act.put, List.setIfInBounds_toArray, List.set_cons_zero, List.set_cons_succ, i64_w, i32_w]
                      rfl
                    refine pure_ (i := 8) (N := some 18) (v := ?_) (a' := ?_) #[true, true, true, true, true, true, true, true, true, false, false, false, false, false, false, false, false, false, false, false, false, false, false, false, false] rfl rfl (any_of HT_.out (by kernel_rfl)) (fun _ _ _ h => h) (Or.inl ⟨by rfl, ?_⟩) ?_ ?_
                    rotate_left
                    · intro w'
                      go_simp
                      with_reducible rfl
                    rotate_left
                    · simp only [Act.put, List.setIfInBounds_toArray, List.set_cons_zero, List.set_cons_succ, i64_w, i32_w]
                      rfl
                    refine pure_ (i := 9) (N := some 19) (v := ?_) (a' := ?_) #[true, true, true, true, true, true, true, true, true, true, false, false, false, false, false, false, false, false, false, false, false, false, false, false, false] rfl rfl (any_of HT_.out (by kernel_rfl)) (fun _ _ _ h => h) (Or.inl ⟨by rfl, ?_⟩) ?_ ?_
                    rotate_left
                    · intro w'
                      go_simp
                      with_reducible rfl
                    rotate_left
                    · simp only [Act.put, List.setIfInBounds_toArray, List.set_cons_zero, List.set_cons_succ, i64_w, i32_w]
                      rfl
                    refine pure_ (i := 10) (N := some 20) (v := ?_) (a' := ?_) #[true, true, true, true, true, true, true, true, true, true, true, false, false, false, false, false, false, false, false, false, false, false, false, false, false] rfl rfl (any_of HT_.out (by kernel_rfl)) (fun _ _ _ h => h) (Or.inl ⟨by rfl, ?_⟩) ?_ ?_
                    rotate_left
                    · intro w'
                      go_simp
                      with_reducible rfl
                    rotate_left
                    · simp only [Act.put, List.setIfInBounds_toArray, List.set_cons_zero, List.set_cons_succ, i64_w, i32_w]
                      rfl
                    refine pure_ (i := 11) (N := some 21) (v := ?_) (a' := ?_) #[true, true, true, true, true, true, true, true, true, true, true, true, false, false, false, false, false, false, false, false, false, false, false, false, false] rfl rfl (any_of HT_.out (by kernel_rfl)) (fun _ _ _ h => h) (Or.inl ⟨by rfl, ?_⟩) ?_ ?_
                    rotate_left
                    · intro w'
                      go_simp
                      with_reducible rfl
                    rotate_left
                    · simp only [Act.put, List.setIfInBounds_toArray, List.set_cons_zero, List.set_cons_succ, i64_w, i32_w]
                      rfl
                    refine pure_ (i := 12) (N := some 22) (v := ?_) (a' := ?_) #[true, true, true, true, true, true, true, true, true, true, true, true, true, false, false, false, false, false, false, false, false, false, false, false, false] rfl rfl (any_of HT_.out (by kernel_rfl)) (fun _ _ _ h => h) (Or.inl ⟨by rfl, ?_⟩) ?_ ?_
                    rotate_left
                    · intro w'
                      go_simp
                      with_reducible rfl
                    rotate_left
                    · simp only [Act.put, List.setIfInBounds_toArray, List.set_cons_zero, List.set_cons_succ, i64_w, i32_w]
                      rfl
                    refine pure_ (i := 13) (N := some 23) (v := ?_) (a' := ?_) #[true, true, true, true, true, true, true, true, true, true, true, true, true, true, false, false, false, false, false, false, false, false, false, false, false] rfl rfl (any_of HT_.out (by kernel_rfl)) (fun _ _ _ h => h) (Or.inl ⟨by rfl, ?_⟩) ?_ ?_
                    rotate_left
                    · intro w'
                      go_simp
                      with_reducible rfl
                    rotate_left
                    · simp only [Act.put, List.setIfInBounds_toArray, List.set_cons_zero, List.set_cons_succ, i64_w, i32_w]
                      rfl
                    refine pure_ (i := 16) (N := some 26) (v := ?_) (a' := ?_) #[true, true, true, true, true, true, true, true, true, true, true, true, true, true, false, false, true, false, false, false, false, false, false, false, false] rfl rfl (any_of HT_.out (by kernel_rfl)) (fun _ _ _ h => h) (Or.inl ⟨by rfl, ?_⟩) ?_ ?_
                    rotate_left
                    · intro w'
                      go_simp
                      with_reducible rfl
                    rotate_left
                    · simp only [Act.put, List.setIfInBounds_toArray, List.set_cons_zero, List.set_cons_succ, i64_w, i32_w]
                      rfl
                    refine pure_ (i := 17) (N := some 27) (v := ?_) (a' := ?_) #[true, true, true, true, true, true, true, true, true, true, true, true, true, true, false, false, true, true, false, false, false, false, false, false, false] rfl rfl (any_of HT_.out (by kernel_rfl)) (fun _ _ _ h => h) (Or.inl ⟨by rfl, ?_⟩) ?_ ?_
                    rotate_left
                    · intro w'
                      go_simp
                      with_reducible rfl
                    rotate_left
                    · simp only [Act.put, List.setIfInBounds_toArray, List.set_cons_zero, List.set_cons_succ, i64_w, i32_w]
                      rfl
                    refine pure_ (i := 18) (N := some 28) (v := ?_) (a' := ?_) #[true, true, true, true, true, true, true, true, true, true, true, true, true, true, false, false, true, true, true, false, false, false, false, false, false] rfl rfl (any_of HT_.out (by kernel_rfl)) (fun _ _ _ h => h) (Or.inl ⟨by rfl, ?_⟩) ?_ ?_
                    rotate_left
                    · intro w'
                      go_simp
                      with_reducible rfl
                    rotate_left
                    · simp only [Act.put, List.setIfInBounds_toArray, List.set_cons_zero, List.set_cons_succ, i64_w, i32_w]
                      rfl
                    refine pure_ (i := 19) (N := some 29) (v := ?_) (a' := ?_) #[true, true, true, true, true, true, true, true, true, true, true, true, true, true, false, false, true, true, true, true, false, false, false, false, false] rfl rfl (any_of HT_.out (by kernel_rfl)) (fun _ _ _ h => h) (Or.inl ⟨by rfl, ?_⟩) ?_ ?_
                    rotate_left
                    · intro w'
                      go_simp
                      with_reducible rfl
                    rotate_left
                    · simp only [Act.put, List.setIfInBounds_toArray, List.set_cons_zero, List.set_cons_succ, i64_w, i32_w]
                      rfl
                    refine take_ (i := 14) (N := some 24) (v := ?_) (a' := ?_) #[true, true, true, true, true, true, true, true, true, true, true, true, true, true, true, false, true, true, true, true, false, false, false, false, false] rfl rfl (take_ofW HT_.out HW_.out (by kernel_rfl)) (fun _ _ _ h => h) (Or.inl ⟨by rfl, ?_⟩) hHeld ?_ ?_
                    rotate_left
                    · rintro w' ⟨s0, s1, s2⟩
                      go_simp
                      with_reducible rfl
                    rotate_left
                    · simp only [Act.put, List.setIfInBounds_toArray, List.set_cons_zero, List.set_cons_succ, i64_w, i32_w]
                      rfl
                    refine take_ (i := 20) (N := some 30) (v := ?_) (a' := ?_) #[true, true, true, true, true, true, true, true, true, true, true, true, true, true, true, false, true, true, true, true, true, false, false, false, false] rfl rfl (take_ofW HT_.out HW_.out (by kernel_rfl)) (fun _ _ _ h => h) (Or.inl ⟨by rfl, ?_⟩) hHeld ?_ ?_
                    rotate_left
                    · rintro w' ⟨s0, s1, s2⟩
                      go_simp
                      with_reducible rfl
                    rotate_left
                    · simp only [Act.put, List.setIfInBounds_toArray, List.set_cons_zero, List.set_cons_succ, i64_w, i32_w]
                      rfl
                    refine one_ (i := 15) (N := some 25) #[true, true, true, true, true, true, true, true, true, true, true, true, true, true, true, true, true, true, true, true, true, false, false, false, false] rfl rfl (one_of HT_.out (by kernel_rfl)) (by decide) (fun K hK => ?_)
                    refine goes_ Try.func51 (by kernel_rfl) rfl #[.int .i64 (rd l0 x3_1)] (by rfl) rfl rfl (by (try simp only [List.map_toArray, List.map_cons, List.map_nil]); first | done | rfl | (simp only [List.length_drop, List.length_take]; rfl)) ?_
                    with_reducible refine (skolemref05_Abs.calls (rd l0 x3_1) t336 _ A8.out).mono ?_
                    rintro e w16 ⟨rfl, hb⟩
                    refine ⟨_, rfl, ?_⟩
                    have n0_ := Aside0.mk (below_step (by repeat (first | (with_reducible first | exact HB.out | apply below_alloc | apply pw_below_drewN | apply below_drew1) | exact HB.out)) hb)
                    clear HB
                    have HB := n0_
                    clear n0_
                    (try clear hb)
                    (try clear hb2)
                    (try clear hk)
                    (try clear hi)
                    refine hK.out _ _ ⟨((HB.out.cell (World.block_lt_of_cell? w _ hw332_0)).trans hw332_0), ((HB.out.cell (World.block_lt_of_cell? w _ hw335_0)).trans hw335_0), ((HB.out.cell (World.block_lt_of_cell? w _ hw337_0)).trans hw337_0)⟩ (fun hHeld => ?_)
                    clear hK K
                    refine norm_ (a' := ?_) ?_ ?_
                    rotate_left
                    · show Act.put _ (some 25) _ = _
                      simp only [Act.put, List.setIfInBounds_toArray, List.set_cons_zero, List.set_cons_succ, i64_w, i32_w]
                      rfl
                    refine one_ (i := 21) (N := some 31) #[true, true, true, true, true, true, true, true, true, true, true, true, true, true, true, true, true, true, true, true, true, true, false, false, false] rfl rfl (one_of HT_.out (by kernel_rfl)) (by decide) (fun K hK => ?_)
                    refine goes_ Try.func51 (by kernel_rfl) rfl #[.int .i64 (rd l0 (ji9))] (by rfl) rfl rfl (by (try simp only [List.map_toArray, List.map_cons, List.map_nil]); first | done | (simp only [hji9]; rfl) | rfl | (simp only [List.length_drop, List.length_take]; rfl)) ?_
                    with_reducible refine (skolemref05_Abs.calls (rd l0 (ji9)) t338 _ A12.out).mono ?_
                    rintro e w17 ⟨rfl, hb⟩
                    refine ⟨_, rfl, ?_⟩
                    have n0_ := Aside0.mk (below_step (by repeat (first | (with_reducible first | exact HB.out | apply below_alloc | apply pw_below_drewN | apply below_drew1) | exact HB.out)) hb)
                    clear HB
                    have HB := n0_
                    clear n0_
                    (try clear hb)
                    (try clear hb2)
                    (try clear hk)
                    (try clear hi)
                    refine hK.out _ _ ⟨((HB.out.cell (World.block_lt_of_cell? w _ hw332_0)).trans hw332_0), ((HB.out.cell (World.block_lt_of_cell? w _ hw335_0)).trans hw335_0), ((HB.out.cell (World.block_lt_of_cell? w _ hw337_0)).trans hw337_0)⟩ (fun hHeld => ?_)
                    clear hK K
                    refine norm_ (a' := ?_) ?_ ?_
                    rotate_left
                    · show Act.put _ (some 31) _ = _
                      simp only [Act.put, List.setIfInBounds_toArray, List.set_cons_zero, List.set_cons_succ, i64_w, i32_w]
                      rfl
                    refine pure_ (i := 22) (N := some 32) (v := ?_) (a' := ?_) #[true, true, true, true, true, true, true, true, true, true, true, true, true, true, true, true, true, true, true, true, true, true, true, false, false] rfl rfl (any_of HT_.out (by kernel_rfl)) (fun _ _ _ h => h) (Or.inl ⟨by rfl, ?_⟩) ?_ ?_
                    rotate_left
                    · intro w'
                      go_simp
                      with_reducible rfl
                    rotate_left
                    · simp only [Act.put, List.setIfInBounds_toArray, List.set_cons_zero, List.set_cons_succ, i64_w, i32_w]
                      rfl
                    refine pure_ (i := 23) (N := some 33) (v := ?_) (a' := ?_) #[true, true, true, true, true, true, true, true, true, true, true, true, true, true, true, true, true, true, true, true, true, true, true, true, false] rfl rfl (any_of HT_.out (by kernel_rfl)) (fun _ _ _ h => h) (Or.inl ⟨by rfl, ?_⟩) ?_ ?_
                    rotate_left
                    · intro w'
                      go_simp
                      with_reducible rfl
                    rotate_left
                    · simp only [Act.put, List.setIfInBounds_toArray, List.set_cons_zero, List.set_cons_succ, i64_w, i32_w]
                      rfl
                    refine pure_ (i := 24) (N := some 34) (v := ?_) (a' := ?_) #[true, true, true, true, true, true, true, true, true, true, true, true, true, true, true, true, true, true, true, true, true, true, true, true, true] rfl rfl (any_of HT_.out (by kernel_rfl)) (fun _ _ _ h => h) (Or.inl ⟨by rfl, ?_⟩) ?_ ?_
                    rotate_left
                    · intro w'
                      go_simp
                      with_reducible rfl
                    rotate_left
                    · simp only [Act.put, List.setIfInBounds_toArray, List.set_cons_zero, List.set_cons_succ, i64_w, i32_w]
                      rfl
                    refine done_ (done_of HT_.out (by kernel_rfl)) ?_
                    try go_wp2
                    go_ret
                    exact ⟨by first | rfl | (simp [errW_none, errW_some] <;> rfl) | (simp only [← hji9]; first | rfl | (simp [errW_none, errW_some] <;> rfl)) | (simp [*, errW_none, errW_some] <;> rfl), by repeat (first | (with_reducible first | exact HB.out | apply below_alloc | apply pw_below_drewN | apply below_drew1) | exact HB.out)⟩
                  · rw [if_neg c13] at H
                    have c13b0 : decide (t336 ≤ t338) = false := decide_eq_false c13
                    clear c13
                    have H' := Aside0.mk H
                    clear H
                    try go_wp2
                    have n0_ := Aside0.mk (below_drew1 HB.out)
                    clear HB
                    have HB := n0_
                    clear n0_
                    have p332 : 0 ≤ (x3_1 : Int) := of_decide_eq_true (by first | (with_reducible assumption) | assumption)
                    have q332 : x3_1 < (l0.length : Int) := of_decide_eq_true (by first | (with_reducible assumption) | assumption)
                    obtain ⟨ad332, e332, hx332_0⟩ := Kd.at_int HR0.out x3_1 p332 q332
                    have hw332_0 := hx332_0
                    cases e332
                    replace hx332_0 := (HB.out.cell (World.block_lt_of_cell? w _ hx332_0)).trans hx332_0
                    replace p332 := eq_true p332
                    replace q332 := eq_true q332
                    have p335 : 0 ≤ (x3_1 : Int) := of_decide_eq_true (by first | (with_reducible assumption) | assumption)
                    have q335 : x3_1 < (l0.length : Int) := of_decide_eq_true (by first | (with_reducible assumption) | assumption)
                    obtain ⟨ad335, e335, hx335_0⟩ := Kd.at_int HR0.out x3_1 p335 q335
                    have hw335_0 := hx335_0
                    obtain rfl : ad332 = ad335 := (by injection e335)
                    replace hx335_0 := (HB.out.cell (World.block_lt_of_cell? w _ hx335_0)).trans hx335_0
                    replace p335 := eq_true p335
                    replace q335 := eq_true q335
                    have p337 : 0 ≤ ((ji9) : Int) := of_decide_eq_true (by first | (with_reducible assumption) | assumption)
                    have q337 : (ji9) < (l0.length : Int) := of_decide_eq_true (by first | (with_reducible assumption) | assumption)
                    obtain ⟨ad337, e337, hx337_0⟩ := Kd.at_int HR0.out (ji9) p337 q337
                    have hw337_0 := hx337_0
                    obtain rfl : ad332 = ad337 := (by injection e337)
                    replace hx337_0 := (HB.out.cell (World.block_lt_of_cell? w _ hx337_0)).trans hx337_0
                    replace p337 := eq_true p337
                    replace q337 := eq_true q337
                    refine start_ (n := 25) (S := fun w' => w'.cell? (ad332.add (x3_1).toNat) = some (.int .i64 (rd l0 x3_1)) ∧ w'.cell? (ad332.add (x3_1).toNat) = some (.int .i64 (rd l0 x3_1)) ∧ w'.cell? (ad332.add ((ji9)).toNat) = some (.int .i64 (rd l0 (ji9)))) (ds := []) #[false, false, false, false, false, false, false, false, false, false, false, false, false, false, false, false, false, false, false, false, false, false, false, false, false] (by kernel_rfl) rfl rfl ⟨((HB.out.cell (World.block_lt_of_cell? w _ hw332_0)).trans hw332_0), ((HB.out.cell (World.block_lt_of_cell? w _ hw335_0)).trans hw335_0), ((HB.out.cell (World.block_lt_of_cell? w _ hw337_0)).trans hw337_0)⟩ (fun hHeld => ?_); refine with_tabW skolemref05_Normal.tab4 skolemref05_Normal.bits4 (fun HT_ HW_ => ?_)
                    generalize wr.drew = w18 at HB hx332_0 hx335_0 hx337_0 hHeld ⊢
                    refine pure_ (i := 0) (N := some 10) (v := ?_) (a' := ?_) #[true, false, false, false, false, false, false, false, false, false, false, false, false, false, false, false, false, false, false, false, false, false, false, false, false] rfl rfl (any_of HT_.out (by kernel_rfl)) (fun _ _ _ h => h) (Or.inl ⟨by rfl, ?_⟩) ?_ ?_
                    rotate_left
                    · intro w'
                      go_simp
                      with_reducible rfl
                    rotate_left
                    · simp only [Act.put, List.setIfInBounds_toArray, List.set_cons_zero, List.set_cons_succ, i64_w, i32_w]
                      rfl
                    refine pure_ (i := 1) (N := some 11) (v := ?_) (a' := ?_) #[true, true, false, false, false, false, false, false, false, false, false, false, false, false, false, false, false, false, false, false, false, false, false, false, false] rfl rfl (any_of HT_.out (by kernel_rfl)) (fun _ _ _ h => h) (Or.inl ⟨by rfl, ?_⟩) ?_ ?_
                    rotate_left
                    · intro w'
                      go_simp
                      with_reducible rfl
                    rotate_left
                    · simp only [Act.put, List.setIfInBounds_toArray, List.set_cons_zero, List.set_cons_succ, i64_w, i32_w]
                      rfl
                    refine pure_ (i := 2) (N := some 12) (v := ?_) (a' := ?_) #[true, true, true, false, false, false, false, false, false, false, false, false, false, false, false, false, false, false, false, false, false, false, false, false, false] rfl rfl (any_of HT_.out (by kernel_rfl)) (fun _ _ _ h => h) (Or.inl ⟨by rfl, ?_⟩) ?_ ?_
                    rotate_left
                    · intro w'
                      go_simp
                      with_reducible rfl
                    rotate_left
                    · simp only [Act.put, List.setIfInBounds_toArray, List.set_cons_zero, List.set_cons_succ, i64_w, i32_w]
                      rfl
                    refine take_ (i := 3) (N := some 13) (v := ?_) (a' := ?_) #[true, true, true, true, false, false, false, false, false, false, false, false, false, false, false, false, false, false, false, false, false, false, false, false, false] rfl rfl (take_ofW HT_.out HW_.out (by kernel_rfl)) (fun _ _ _ h => h) (Or.inl ⟨by rfl, ?_⟩) hHeld ?_ ?_
                    rotate_left
                    · rintro w' ⟨s0, s1, s2⟩
                      go_simp
                      with_reducible rfl
                    rotate_left
                    · simp only [Act.put, List.setIfInBounds_toArray, List.set_cons_zero, List.set_cons_succ, i64_w, i32_w]
                      rfl
                    refine one_ (i := 4) (N := some 14) #[true, true, true, true, true, false, false, false, false, false, false, false, false, false, false, false, false, false, false, false, false, false, false, false, false] rfl rfl (one_of HT_.out (by kernel_rfl)) (by decide) (fun K hK => ?_)
                    refine goes_ Try.func51 (by kernel_rfl) rfl #[.int .i64 (rd l0 x3_1)] (by rfl) rfl rfl (by (try simp only [List.map_toArray, List.map_cons, List.map_nil]); first | done | rfl | (simp only [List.length_drop, List.length_take]; rfl)) ?_
                    with_reducible refine (skolemref05_Abs.calls (rd l0 x3_1) t333 _ A4.out).mono ?_
                    rintro e w19 ⟨rfl, hb⟩
                    refine ⟨_, rfl, ?_⟩
                    have n0_ := Aside0.mk (below_step (by repeat (first | (with_reducible first | exact HB.out | apply below_alloc | apply pw_below_drewN | apply below_drew1) | exact HB.out)) hb)
                    clear HB
                    have HB := n0_
                    clear n0_
                    (try clear hb)
                    (try clear hb2)
                    (try clear hk)
                    (try clear hi)
                    refine hK.out _ _ ⟨((HB.out.cell (World.block_lt_of_cell? w _ hw332_0)).trans hw332_0), ((HB.out.cell (World.block_lt_of_cell? w _ hw335_0)).trans hw335_0), ((HB.out.cell (World.block_lt_of_cell? w _ hw337_0)).trans hw337_0)⟩ (fun hHeld => ?_)
                    clear hK K
                    refine norm_ (a' := ?_) ?_ ?_
                    rotate_left
                    · show Act.put _ (some 14) _ = _
                      simp only [Act.put, List.setIfInBounds_toArray, List.set_cons_zero, List.set_cons_succ, i64_w, i32_w]
                      rfl
                    refine one_ (i := 5) (N := some 15) #[true, true, true, true, true, true, false, false, false, false, false, false, false, false, false, false, false, false, false, false, false, false, false, false, false] rfl rfl (one_of HT_.out (by kernel_rfl)) (by decide) (fun K hK => ?_)
                    refine goes_ Try.func50 (by kernel_rfl) rfl #[.int .i64 t333] (by rfl) rfl rfl (by (try simp only [List.map_toArray, List.map_cons, List.map_nil]); first | done | rfl | (simp only [List.length_drop, List.length_take]; rfl)) ?_
                    with_reducible refine (skolemref05_variable.calls t333 true _ A5.out).mono ?_
                    rintro e w' ⟨rfl, ⟨nd, rfl⟩⟩
                    refine ⟨_, rfl, ?_⟩
                    refine hK.out _ _ ⟨((HB.out.cell (World.block_lt_of_cell? w _ hw332_0)).trans hw332_0), ((HB.out.cell (World.block_lt_of_cell? w _ hw335_0)).trans hw335_0), ((HB.out.cell (World.block_lt_of_cell? w _ hw337_0)).trans hw337_0)⟩ (fun hHeld => ?_)
                    clear hK K
                    refine norm_ (a' := ?_) ?_ ?_
                    rotate_left
                    · show Act.put _ (some 15) _ = _
                      simp only [Act.put, List.setIfInBounds_toArray, List.set_cons_zero, List.set_cons_succ, i64_w, i32_w]
                      rfl
                    refine pure_ (i := 6) (N := some 16) (v := ?_) (a' := ?_) #[true, true, true, true, true, true, true, false, false, false, false, false, false, false, false, false, false, false, false, false, false, false, false, false, false] rfl rfl (any_of HT_.out (by kernel_rfl)) (fun _ _ _ h => h) (Or.inl ⟨by rfl, ?_⟩) ?_ ?_
                    rotate_left
                    · intro w'
                      go_simp
                      with_reducible rfl
                    rotate_left
                    · simp only [Act.put, List.setIfInBounds_toArray, List.set_cons_zero, List.set_cons_succ, i64_w, i32_w]
                      rfl
                    refine pure_ (i := 7) (N := some 17) (v := ?_) (a' := ?_) #[true, true, true, true, true, true, true, true, false, false, false, false, false, false, false, false, false, false, false, false, false, false, false, false, false] rfl rfl (any_of HT_.out (by kernel_rfl)) (fun _ _ _ h => h) (Or.inl ⟨by rfl, ?_⟩) ?_ ?_
                    rotate_left
                    · intro w'
                      go_simp
                      with_reducible rfl
                    rotate_left
                    · simp only [Act.put, List.setIfInBounds_toArray, List.set_cons_zero, List.set_cons_succ, i64_w, i32_w]
                      rfl
                    refine pure_ (i := 8) (N := some 18) (v := ?_) (a' := ?_) #[true, true, true, true, true, true, true, true, true, false, false, false, false, false, false, false, false, false, false, false, false, false, false, false, false] rfl rfl (any_of HT_.out (by kernel_rfl)) (fun _ _ _ h => h) (Or.inl ⟨by rfl, ?_⟩) ?_ ?_
                    rotate_left
                    · intro w'
                      go_simp
                      with_reducible rfl
                    rotate_left
                    · simp only [Act.put, List.setIfInBounds_toArray, List.set_cons_zero, List.set_cons_succ, i64_w, i32_w]
                      rfl
                    refine pure_ (i := 9) (N := some 19) (v := ?_) (a' := ?_) #[true, true, true, true, true, true, true, true, true, true, false, false, false, false, false, false, false, false, false, false, false, false, false, false, false] rfl rfl (any_of HT_.out (by kernel_rfl)) (fun _ _ _ h => h) (Or.inl ⟨by rfl, ?_⟩) ?_ ?_
                    rotate_left
                    · intro w'
                      go_simp
                      with_reducible rfl
                    rotate_left
                    · simp only [Act.put, List.setIfInBounds_toArray, List.set_cons_zero, List.set_cons_succ, i64_w, i32_w]
                      rfl
                    refine pure_ (i := 10) (N := some 20) (v := ?_) (a' := ?_) #[true, true, true, true, true, true, true, true, true, true, true, false, false, false, false, false, false, false, false, false, false, false, false, false, false] rfl rfl (any_of HT_.out (by kernel_rfl)) (fun _ _ _ h => h) (Or.inl ⟨by rfl, ?_⟩) ?_ ?_
                    rotate_left
                    · intro w'
                      go_simp
                      with_reducible rfl
                    rotate_left
                    · simp only [Act.put, List.setIfInBounds_toArray, List.set_cons_zero, List.set_cons_succ, i64_w, i32_w]
                      rfl
                    refine pure_ (i := 11) (N := some 21) (v := ?_) (a' := ?_) #[true, true, true, true, true, true, true, true, true, true, true, true, false, false, false, false, false, false, false, false, false, false, false, false, false] rfl rfl (any_of HT_.out (by kernel_rfl)) (fun _ _ _ h => h) (Or.inl ⟨by rfl, ?_⟩) ?_ ?_
                    rotate_left
                    · intro w'
                      go_simp
                      with_reducible rfl
                    rotate_left
                    · simp only [Act.put, List.setIfInBounds_toArray, List.set_cons_zero, List.set_cons_succ, i64_w, i32_w]
                      rfl
                    refine pure_ (i := 12) (N := some 22) (v := ?_) (a' := ?_) #[true, true, true, true, true, true, true, true, true, true, true, true, true, false, false, false, false, false, false, false, false, false, false, false, false] rfl rfl (any_of HT_.out (by kernel_rfl)) (fun _ _ _ h => h) (Or.inl ⟨by rfl, ?_⟩) ?_ ?_
                    rotate_left
                    · intro w'
                      go_simp
                      with_reducible rfl
                    rotate_left
                    · simp only [Act.put, List.setIfInBounds_toArray, List.set_cons_zero, List.set_cons_succ, i64_w, i32_w]
                      rfl
                    refine pure_ (i := 13) (N := some 23) (v := ?_) (a' := ?_) #[true, true, true, true, true, true, true, true, true, true, true, true, true, true, false, false, false, false, false, false, false, false, false, false, false] rfl rfl (any_of HT_.out (by kernel_rfl)) (fun _ _ _ h => h) (Or.inl ⟨by rfl, ?_⟩) ?_ ?_
                    rotate_left
                    · intro w'
                      go_simp
                      with_reducible rfl
                    rotate_left
                    · simp only [Act.put, List.setIfInBounds_toArray, List.set_cons_zero, List.set_cons_succ, i64_w, i32_w]
                      rfl
                    refine pure_ (i := 16) (N := some 26) (v := ?_) (a' := ?_) #[true, true, true, true, true, true, true, true, true, true, true, true, true, true, false, false, true, false, false, false, false, false, false, false, false] rfl rfl (any_of HT_.out (by kernel_rfl)) (fun _ _ _ h => h) (Or.inl ⟨by rfl, ?_⟩) ?_ ?_
                    rotate_left
                    · intro w'
                      go_simp
                      with_reducible rfl
                    rotate_left
                    · simp only [Act.put, List.setIfInBounds_toArray, List.set_cons_zero, List.set_cons_succ, i64_w, i32_w]
                      rfl
                    refine pure_ (i := 17) (N := some 27) (v := ?_) (a' := ?_) #[true, true, true, true, true, true, true, true, true, true, true, true, true, true, false, false, true, true, false, false, false, false, false, false, false] rfl rfl (any_of HT_.out (by kernel_rfl)) (fun _ _ _ h => h) (Or.inl ⟨by rfl, ?_⟩) ?_ ?_
                    rotate_left
                    · intro w'
                      go_simp
                      with_reducible rfl
                    rotate_left
                    · simp only [Act.put, List.setIfInBounds_toArray, List.set_cons_zero, List.set_cons_succ, i64_w, i32_w]
                      rfl
                    refine pure_ (i := 18) (N := some 28) (v := ?_) (a' := ?_) #[true, true, true, true, true, true, true, true, true, true, true, true, true, true, false, false, true, true, true, false, false, false, false, false, false] rfl rfl (any_of HT_.out (by kernel_rfl)) (fun _ _ _ h => h) (Or.inl ⟨by rfl, ?_⟩) ?_ ?_
                    rotate_left
                    · intro w'
                      go_simp
                      with_reducible rfl
                    rotate_left
                    · simp only [Act.put, List.setIfInBounds_toArray, List.set_cons_zero, List.set_cons_succ, i64_w, i32_w]
                      rfl
                    refine pure_ (i := 19) (N := some 29) (v := ?_) (a' := ?_) #[true, true, true, true, true, true, true, true, true, true, true, true, true, true, false, false, true, true, true, true, false, false, false, false, false] rfl rfl (any_of HT_.out (by kernel_rfl)) (fun _ _ _ h => h) (Or.inl ⟨by rfl, ?_⟩) ?_ ?_
                    rotate_left
                    · intro w'
                      go_simp
                      with_reducible rfl
                    rotate_left
                    · simp only [Act.put, List.setIfInBounds_toArray, List.set_cons_zero, List.set_cons_succ, i64_w, i32_w]
                      rfl
                    refine take_ (i := 14) (N := some 24) (v := ?_) (a' := ?_) #[true, true, true, true, true, true, true, true, true, true, true, true, true, true, true, false, true, true, true, true, false, false, false, false, false] rfl rfl (take_ofW HT_.out HW_.out (by kernel_rfl)) (fun _ _ _ h => h) (Or.inl ⟨by rfl, ?_⟩) hHeld ?_ ?_
                    rotate_left
                    · rintro w' ⟨s0, s1, s2⟩
                      go_simp
                      with_reducible rfl
                    rotate_left
                    · simp only [Act.put, List.setIfInBounds_toArray, List.set_cons_zero, List.set_cons_succ, i64_w, i32_w]
                      rfl
                    refine take_ (i := 20) (N := some 30) (v := ?_) (a' := ?_) #[true, true, true, true, true, true, true, true, true, true, true, true, true, true, true, false, true, true, true, true, true, false, false, false, false] rfl rfl (take_ofW HT_.out HW_.out (by kernel_rfl)) (fun _ _ _ h => h) (Or.inl ⟨by rfl, ?_⟩) hHeld ?_ ?_
                    rotate_left
                    · rintro w' ⟨s0, s1, s2⟩
                      go_simp
                      with_reducible rfl
                    rotate_left
                    · simp only [Act.put, List.setIfInBounds_toArray, List.set_cons_zero, List.set_cons_succ, i64_w, i32_w]
                      rfl
                    refine one_ (i := 15) (N := some 25) #[true, true, true, true, true, true, true, true, true, true, true, true, true, true, true, true, true, true, true, true, true, false, false, false, false] rfl rfl (one_of HT_.out (by kernel_rfl)) (by decide) (fun K hK => ?_)
                    refine goes_ Try.func51 (by kernel_rfl) rfl #[.int .i64 (rd l0 x3_1)] (by rfl) rfl rfl (by (try simp only [List.map_toArray, List.map_cons, List.map_nil]); first | done | rfl | (simp only [List.length_drop, List.length_take]; rfl)) ?_
                    with_reducible refine (skolemref05_Abs.calls (rd l0 x3_1) t336 _ A8.out).mono ?_
                    rintro e w20 ⟨rfl, hb⟩
                    refine ⟨_, rfl, ?_⟩
                    have n0_ := Aside0.mk (below_step (by repeat (first | (with_reducible first | exact HB.out | apply below_alloc | apply pw_below_drewN | apply below_drew1) | exact HB.out)) hb)
                    clear HB
                    have HB := n0_
                    clear n0_
                    (try clear hb)
                    (try clear hb2)
                    (try clear hk)
                    (try clear hi)
                    refine hK.out _ _ ⟨((HB.out.cell (World.block_lt_of_cell? w _ hw332_0)).trans hw332_0), ((HB.out.cell (World.block_lt_of_cell? w _ hw335_0)).trans hw335_0), ((HB.out.cell (World.block_lt_of_cell? w _ hw337_0)).trans hw337_0)⟩ (fun hHeld => ?_)
                    clear hK K
                    refine norm_ (a' := ?_) ?_ ?_
                    rotate_left
                    · show Act.put _ (some 25) _ = _
                      simp only [Act.put, List.setIfInBounds_toArray, List.set_cons_zero, List.set_cons_succ, i64_w, i32_w]
                      rfl
                    refine one_ (i := 21) (N := some 31) #[true, true, true, true, true, true, true, true, true, true, true, true, true, true, true, true, true, true, true, true, true, true, false, false, false] rfl rfl (one_of HT_.out (by kernel_rfl)) (by decide) (fun K hK => ?_)
                    refine goes_ Try.func51 (by kernel_rfl) rfl #[.int .i64 (rd l0 (ji9))] (by rfl) rfl rfl (by (try simp only [List.map_toArray, List.map_cons, List.map_nil]); first | done | (simp only [hji9]; rfl) | rfl | (simp only [List.length_drop, List.length_take]; rfl)) ?_
                    with_reducible refine (skolemref05_Abs.calls (rd l0 (ji9)) t338 _ A12.out).mono ?_
                    rintro e w21 ⟨rfl, hb⟩
                    refine ⟨_, rfl, ?_⟩
                    have n0_ := Aside0.mk (below_step (by repeat (first | (with_reducible first | exact HB.out | apply below_alloc | apply pw_below_drewN | apply below_drew1) | exact HB.out)) hb)
                    clear HB
                    have HB := n0_
                    clear n0_
                    (try clear hb)
                    (try clear hb2)
                    (try clear hk)
                    (try clear hi)
                    refine hK.out _ _ ⟨((HB.out.cell (World.block_lt_of_cell? w _ hw332_0)).trans hw332_0), ((HB.out.cell (World.block_lt_of_cell? w _ hw335_0)).trans hw335_0), ((HB.out.cell (World.block_lt_of_cell? w _ hw337_0)).trans hw337_0)⟩ (fun hHeld => ?_)
                    clear hK K
                    refine norm_ (a' := ?_) ?_ ?_
                    rotate_left
                    · show Act.put _ (some 31) _ = _
                      simp only [Act.put, List.setIfInBounds_toArray, List.set_cons_zero, List.set_cons_succ, i64_w, i32_w]
                      rfl
                    refine pure_ (i := 22) (N := some 32) (v := ?_) (a' := ?_) #[true, true, true, true, true, true, true, true, true, true, true, true, true, true, true, true, true, true, true, true, true, true, true, false, false] rfl rfl (any_of HT_.out (by kernel_rfl)) (fun _ _ _ h => h) (Or.inl ⟨by rfl, ?_⟩) ?_ ?_
                    rotate_left
                    · intro w'
                      go_simp
                      with_reducible rfl
                    rotate_left
                    · simp only [Act.put, List.setIfInBounds_toArray, List.set_cons_zero, List.set_cons_succ, i64_w, i32_w]
                      rfl
                    refine pure_ (i := 23) (N := some 33) (v := ?_) (a' := ?_) #[true, true, true, true, true, true, true, true, true, true, true, true, true, true, true, true, true, true, true, true, true, true, true, true, false] rfl rfl (any_of HT_.out (by kernel_rfl)) (fun _ _ _ h => h) (Or.inl ⟨by rfl, ?_⟩) ?_ ?_
                    rotate_left
                    · intro w'
                      go_simp
                      with_reducible rfl
                    rotate_left
                    · simp only [Act.put, List.setIfInBounds_toArray, List.set_cons_zero, List.set_cons_succ, i64_w, i32_w]
                      rfl
                    refine pure_ (i := 24) (N := some 34) (v := ?_) (a' := ?_) #[true, true, true, true, true, true, true, true, true, true, true, true, true, true, true, true, true, true, true, true, true, true, true, true, true] rfl rfl (any_of HT_.out (by kernel_rfl)) (fun _ _ _ h => h) (Or.inl ⟨by rfl, ?_⟩) ?_ ?_
                    rotate_left
                    · intro w'
                      go_simp
                      with_reducible rfl
                    rotate_left
                    · simp only [Act.put, List.setIfInBounds_toArray, List.set_cons_zero, List.set_cons_succ, i64_w, i32_w]
                      rfl
                    refine done_ (done_of HT_.out (by kernel_rfl)) ?_
                    try go_wp2
                    go_roundg k1
                    case measure => have := HK1.out; omega
                    case rel => exact ⟨(wrap64 (x3_1 + 1)), (by first | rfl | (simp; done) | (simp [*]; done)), H', ⟨by have := HK1.out; omega⟩, ⟨by repeat (first | (with_reducible first | exact HB.out | apply below_alloc | apply pw_below_drewN | apply below_drew1) | exact HB.out)⟩⟩
                · rw [if_neg c11] at H
                  exact absurd H (by simp)
              · rw [if_neg c10] at H
                exact absurd H (by simp)
            · rw [if_neg c7] at H
              have c7b0 : decide (0 < x3_1) = false := decide_eq_false c7
              clear c7
              have H' := Aside0.mk H
              clear H
              try go_wp2
              have n0_ := Aside0.mk (below_drew1 HB.out)
              clear HB
              have HB := n0_
              clear n0_
              have p332 : 0 ≤ (x3_1 : Int) := of_decide_eq_true (by first | (with_reducible assumption) | assumption)
              have q332 : x3_1 < (l0.length : Int) := of_decide_eq_true (by first | (with_reducible assumption) | assumption)
              obtain ⟨ad332, e332, hx332_0⟩ := Kd.at_int HR0.out x3_1 p332 q332
              have hw332_0 := hx332_0
              cases e332
              replace hx332_0 := (HB.out.cell (World.block_lt_of_cell? w _ hx332_0)).trans hx332_0
              replace p332 := eq_true p332
              replace q332 := eq_true q332
              refine start_ (n := 25) (S := fun w' => w'.cell? (ad332.add (x3_1).toNat) = some (.int .i64 (rd l0 x3_1))) (ds := []) #[false, false, false, false, false, false, false, false, false, false, false, false, false, false, false, false, false, false, false, false, false, false, false, false, false] (by kernel_rfl) rfl rfl (((HB.out.cell (World.block_lt_of_cell? w _ hw332_0)).trans hw332_0)) (fun hHeld => ?_); refine with_tabW skolemref05_Normal.tab4 skolemref05_Normal.bits4 (fun HT_ HW_ => ?_)
              generalize wr.drew = w22 at HB hx332_0 hHeld ⊢
              refine pure_ (i := 0) (N := some 10) (v := ?_) (a' := ?_) #[true, false, false, false, false, false, false, false, false, false, false, false, false, false, false, false, false, false, false, false, false, false, false, false, false] rfl rfl (any_of HT_.out (by kernel_rfl)) (fun _ _ _ h => h) (Or.inl ⟨by rfl, ?_⟩) ?_ ?_
              rotate_left
              · intro w'
                go_simp
                with_reducible rfl
              rotate_left
              · simp only [Act.put, List.setIfInBounds_toArray, List.set_cons_zero, List.set_cons_succ, i64_w, i32_w]
                rfl
              refine pure_ (i := 1) (N := some 11) (v := ?_) (a' := ?_) #[true, true, false, false, false, false, false, false, false, false, false, false, false, false, false, false, false, false, false, false, false, false, false, false, false] rfl rfl (any_of HT_.out (by kernel_rfl)) (fun _ _ _ h => h) (Or.inl ⟨by rfl, ?_⟩) ?_ ?_
              rotate_left
              · intro w'
                go_simp
                with_reducible rfl
              rotate_left
              · simp only [Act.put, List.setIfInBounds_toArray, List.set_cons_zero, List.set_cons_succ, i64_w, i32_w]
                rfl
              refine pure_ (i := 2) (N := some 12) (v := ?_) (a' := ?_) #[true, true, true, false, false, false, false, false, false, false, false, false, false, false, false, false, false, false, false, false, false, false, false, false, false] rfl rfl (any_of HT_.out (by kernel_rfl)) (fun _ _ _ h => h) (Or.inl ⟨by rfl, ?_⟩) ?_ ?_
              rotate_left
              · intro w'
                go_simp
                with_reducible rfl
              rotate_left
              · simp only [Act.put, List.setIfInBounds_toArray, List.set_cons_zero, List.set_cons_succ, i64_w, i32_w]
                rfl
              refine take_ (i := 3) (N := some 13) (v := ?_) (a' := ?_) #[true, true, true, true, false, false, false, false, false, false, false, false, false, false, false, false, false, false, false, false, false, false, false, false, false] rfl rfl (take_ofW HT_.out HW_.out (by kernel_rfl)) (fun _ _ _ h => h) (Or.inl ⟨by rfl, ?_⟩) hHeld ?_ ?_
              rotate_left
              · intro w' s0
                go_simp
                with_reducible rfl
              rotate_left
              · simp only [Act.put, List.setIfInBounds_toArray, List.set_cons_zero, List.set_cons_succ, i64_w, i32_w]
                rfl
              refine one_ (i := 4) (N := some 14) #[true, true, true, true, true, false, false, false, false, false, false, false, false, false, false, false, false, false, false, false, false, false, false, false, false] rfl rfl (one_of HT_.out (by kernel_rfl)) (by decide) (fun K hK => ?_)
              refine goes_ Try.func51 (by kernel_rfl) rfl #[.int .i64 (rd l0 x3_1)] (by rfl) rfl rfl (by (try simp only [List.map_toArray, List.map_cons, List.map_nil]); first | done | rfl | (simp only [List.length_drop, List.length_take]; rfl)) ?_
              with_reducible refine (skolemref05_Abs.calls (rd l0 x3_1) t333 _ A4.out).mono ?_
              rintro e w23 ⟨rfl, hb⟩
              refine ⟨_, rfl, ?_⟩
              have n0_ := Aside0.mk (below_step (by repeat (first | (with_reducible first | exact HB.out | apply below_alloc | apply pw_below_drewN | apply below_drew1) | exact HB.out)) hb)
              clear HB
              have HB := n0_
              clear n0_
              (try clear hb)
              (try clear hb2)
              (try clear hk)
              (try clear hi)
              refine hK.out _ _ (((HB.out.cell (World.block_lt_of_cell? w _ hw332_0)).trans hw332_0)) (fun hHeld => ?_)
              clear hK K
              refine norm_ (a' := ?_) ?_ ?_
              rotate_left
              · show Act.put _ (some 14) _ = _
                simp only [Act.put, List.setIfInBounds_toArray, List.set_cons_zero, List.set_cons_succ, i64_w, i32_w]
                rfl
              refine one_ (i := 5) (N := some 15) #[true, true, true, true, true, true, false, false, false, false, false, false, false, false, false, false, false, false, false, false, false, false, false, false, false] rfl rfl (one_of HT_.out (by kernel_rfl)) (by decide) (fun K hK => ?_)
              refine goes_ Try.func50 (by kernel_rfl) rfl #[.int .i64 t333] (by rfl) rfl rfl (by (try simp only [List.map_toArray, List.map_cons, List.map_nil]); first | done | rfl | (simp only [List.length_drop, List.length_take]; rfl)) ?_
              with_reducible refine (skolemref05_variable.calls t333 true _ A5.out).mono ?_
              rintro e w' ⟨rfl, ⟨nd, rfl⟩⟩
              refine ⟨_, rfl, ?_⟩
              refine hK.out _ _ (((HB.out.cell (World.block_lt_of_cell? w _ hw332_0)).trans hw332_0)) (fun hHeld => ?_)
              clear hK K
              refine norm_ (a' := ?_) ?_ ?_
              rotate_left
              · show Act.put _ (some 15) _ = _
                simp only [Act.put, List.setIfInBounds_toArray, List.set_cons_zero, List.set_cons_succ, i64_w, i32_w]
                rfl
              refine pure_ (i := 6) (N := some 16) (v := ?_) (a' := ?_) #[true, true, true, true, true, true, true, false, false, false, false, false, false, false, false, false, false, false, false, false, false, false, false, false, false] rfl rfl (any_of HT_.out (by kernel_rfl)) (fun _ _ _ h => h) (Or.inl ⟨by rfl, ?_⟩) ?_ ?_
              rotate_left
              · intro w'
                go_simp
                with_reducible rfl
              rotate_left
              · simp only [Act.put, List.setIfInBounds_toArray, List.set_cons_zero, List.set_cons_succ, i64_w, i32_w]
                rfl
              refine pure_ (i := 7) (N := some 17) (v := ?_) (a' := ?_) #[true, true, true, true, true, true, true, true, false, false, false, false, false, false, false, false, false, false, false, false, false, false, false, false, false] rfl rfl (any_of HT_.out (by kernel_rfl)) (fun _ _ _ h => h) (Or.inl ⟨by rfl, ?_⟩) ?_ ?_
              rotate_left
              · intro w'
                go_simp
                with_reducible rfl
              rotate_left
              · simp only [Act.put, List.setIfInBounds_toArray, List.set_cons_zero, List.set_cons_succ, i64_w, i32_w]
                rfl
              refine pure_ (i := 8) (N := some 18) (v := ?_) (a' := ?_) #[true, true, true, true, true, true, true, true, true, false, false, false, false, false, false, false, false, false, false, false, false, false, false, false, false] rfl rfl (any_of HT_.out (by kernel_rfl)) (fun _ _ _ h => h) (Or.inl ⟨by rfl, ?_⟩) ?_ ?_
              rotate_left
              · intro w'
                go_simp
                with_reducible rfl
              rotate_left
              · simp only [Act.put, List.setIfInBounds_toArray, List.set_cons_zero, List.set_cons_succ, i64_w, i32_w]
                rfl
              refine pure_ (i := 9) (N := some 19) (v := ?_) (a' := ?_) #[true, true, true, true, true, true, true, true, true, true, false, false, false, false, false, false, false, false, false, false, false, false, false, false, false] rfl rfl (any_of HT_.out (by kernel_rfl)) (fun _ _ _ h => h) (Or.inl ⟨by rfl, ?_⟩) ?_ ?_
              rotate_left
              · intro w'
                go_simp
                with_reducible rfl
              rotate_left
              · simp only [Act.put, List.setIfInBounds_toArray, List.set_cons_zero, List.set_cons_succ, i64_w, i32_w]
                rfl
              refine pure_ (i := 10) (N := some 20) (v := ?_) (a' := ?_) #[true, true, true, true, true, true, true, true, true, true, true, false, false, false, false, false, false, false, false, false, false, false, false, false, false] rfl rfl (any_of HT_.out (by kernel_rfl)) (fun _ _ _ h => h) (Or.inl ⟨by rfl, ?_⟩) ?_ ?_
              rotate_left
              · intro w'
                go_simp
                with_reducible rfl
              rotate_left
              · simp only [Act.put, List.setIfInBounds_toArray, List.set_cons_zero, List.set_cons_succ, i64_w, i32_w]
                rfl
              refine pure_ (i := 11) (N := some 21) (v := undef) (a' := ?_) #[true, true, true, true, true, true, true, true, true, true, true, true, false, false, false, false, false, false, false, false, false, false, false, false, false] rfl rfl (any_of HT_.out (by kernel_rfl)) (fun _ _ _ h => h) (Or.inr ⟨by rfl, rfl⟩) ?_ ?_
              rotate_left
              · simp only [Act.put, List.setIfInBounds_toArray, List.set_cons_zero, List.set_cons_succ, i64_w, i32_w]
                rfl
              refine pure_ (i := 12) (N := some 22) (v := undef) (a' := ?_) #[true, true, true, true, true, true, true, true, true, true, true, true, true, false, false, false, false, false, false, false, false, false, false, false, false] rfl rfl (any_of HT_.out (by kernel_rfl)) (fun _ _ _ h => h) (Or.inr ⟨by rfl, rfl⟩) ?_ ?_
              rotate_left
              · simp only [Act.put, List.setIfInBounds_toArray, List.set_cons_zero, List.set_cons_succ, i64_w, i32_w]
                rfl
              refine pure_ (i := 13) (N := some 23) (v := undef) (a' := ?_) #[true, true, true, true, true, true, true, true, true, true, true, true, true, true, false, false, false, false, false, false, false, false, false, false, false] rfl rfl (any_of HT_.out (by kernel_rfl)) (fun _ _ _ h => h) (Or.inr ⟨by rfl, rfl⟩) ?_ ?_
              rotate_left
              · simp only [Act.put, List.setIfInBounds_toArray, List.set_cons_zero, List.set_cons_succ, i64_w, i32_w]
                rfl
              refine pure_ (i := 14) (N := some 24) (v := undef) (a' := ?_) #[true, true, true, true, true, true, true, true, true, true, true, true, true, true, true, false, false, false, false, false, false, false, false, false, false] rfl rfl (any_of HT_.out (by kernel_rfl)) (fun _ _ _ h => h) (Or.inr ⟨by rfl, rfl⟩) ?_ ?_
              rotate_left
              · simp only [Act.put, List.setIfInBounds_toArray, List.set_cons_zero, List.set_cons_succ, i64_w, i32_w]
                rfl
              refine pure_ (i := 15) (N := some 25) (v := undef) (a' := ?_) #[true, true, true, true, true, true, true, true, true, true, true, true, true, true, true, true, false, false, false, false, false, false, false, false, false] rfl rfl (any_of HT_.out (by kernel_rfl)) (fun _ _ _ h => h) (Or.inr ⟨by rfl, rfl⟩) ?_ ?_
              rotate_left
              · simp only [Act.put, List.setIfInBounds_toArray, List.set_cons_zero, List.set_cons_succ, i64_w, i32_w]
                rfl
              refine pure_ (i := 16) (N := some 26) (v := undef) (a' := ?_) #[true, true, true, true, true, true, true, true, true, true, true, true, true, true, true, true, true, false, false, false, false, false, false, false, false] rfl rfl (any_of HT_.out (by kernel_rfl)) (fun _ _ _ h => h) (Or.inr ⟨by rfl, rfl⟩) ?_ ?_
              rotate_left
              · simp only [Act.put, List.setIfInBounds_toArray, List.set_cons_zero, List.set_cons_succ, i64_w, i32_w]
                rfl
              refine pure_ (i := 17) (N := some 27) (v := undef) (a' := ?_) #[true, true, true, true, true, true, true, true, true, true, true, true, true, true, true, true, true, true, false, false, false, false, false, false, false] rfl rfl (any_of HT_.out (by kernel_rfl)) (fun _ _ _ h => h) (Or.inr ⟨by rfl, rfl⟩) ?_ ?_
              rotate_left
              · simp only [Act.put, List.setIfInBounds_toArray, List.set_cons_zero, List.set_cons_succ, i64_w, i32_w]
                rfl
              refine pure_ (i := 18) (N := some 28) (v := undef) (a' := ?_) #[true, true, true, true, true, true, true, true, true, true, true, true, true, true, true, true, true, true, true, false, false, false, false, false, false] rfl rfl (any_of HT_.out (by kernel_rfl)) (fun _ _ _ h => h) (Or.inr ⟨by rfl, rfl⟩) ?_ ?_
              rotate_left
              · simp only [Act.put, List.setIfInBounds_toArray, List.set_cons_zero, List.set_cons_succ, i64_w, i32_w]
                rfl
              refine pure_ (i := 19) (N := some 29) (v := undef) (a' := ?_) #[true, true, true, true, true, true, true, true, true, true, true, true, true, true, true, true, true, true, true, true, false, false, false, false, false] rfl rfl (any_of HT_.out (by kernel_rfl)) (fun _ _ _ h => h) (Or.inr ⟨by rfl, rfl⟩) ?_ ?_
              rotate_left
              · simp only [Act.put, List.setIfInBounds_toArray, List.set_cons_zero, List.set_cons_succ, i64_w, i32_w]
                rfl
              refine pure_ (i := 20) (N := some 30) (v := undef) (a' := ?_) #[true, true, true, true, true, true, true, true, true, true, true, true, true, true, true, true, true, true, true, true, true, false, false, false, false] rfl rfl (any_of HT_.out (by kernel_rfl)) (fun _ _ _ h => h) (Or.inr ⟨by rfl, rfl⟩) ?_ ?_
              rotate_left
              · simp only [Act.put, List.setIfInBounds_toArray, List.set_cons_zero, List.set_cons_succ, i64_w, i32_w]
                rfl
              refine pure_ (i := 21) (N := some 31) (v := undef) (a' := ?_) #[true, true, true, true, true, true, true, true, true, true, true, true, true, true, true, true, true, true, true, true, true, true, false, false, false] rfl rfl (any_of HT_.out (by kernel_rfl)) (fun _ _ _ h => h) (Or.inr ⟨by rfl, rfl⟩) ?_ ?_
              rotate_left
              · simp only [Act.put, List.setIfInBounds_toArray, List.set_cons_zero, List.set_cons_succ, i64_w, i32_w]
                rfl
              refine pure_ (i := 22) (N := some 32) (v := undef) (a' := ?_) #[true, true, true, true, true, true, true, true, true, true, true, true, true, true, true, true, true, true, true, true, true, true, true, false, false] rfl rfl (any_of HT_.out (by kernel_rfl)) (fun _ _ _ h => h) (Or.inr ⟨by rfl, rfl⟩) ?_ ?_
              rotate_left
              · simp only [Act.put, List.setIfInBounds_toArray, List.set_cons_zero, List.set_cons_succ, i64_w, i32_w]
                rfl
              refine pure_ (i := 23) (N := some 33) (v := ?_) (a' := ?_) #[true, true, true, true, true, true, true, true, true, true, true, true, true, true, true, true, true, true, true, true, true, true, true, true, false] rfl rfl (any_of HT_.out (by kernel_rfl)) (fun _ _ _ h => h) (Or.inl ⟨by rfl, ?_⟩) ?_ ?_
              rotate_left
              · intro w'
                go_simp
                with_reducible rfl
              rotate_left
              · simp only [Act.put, List.setIfInBounds_toArray, List.set_cons_zero, List.set_cons_succ, i64_w, i32_w]
                rfl
              refine pure_ (i := 24) (N := some 34) (v := ?_) (a' := ?_) #[true, true, true, true, true, true, true, true, true, true, true, true, true, true, true, true, true, true, true, true, true, true, true, true, true] rfl rfl (any_of HT_.out (by kernel_rfl)) (fun _ _ _ h => h) (Or.inl ⟨by rfl, ?_⟩) ?_ ?_
              rotate_left
              · intro w'
                go_simp
                with_reducible rfl
              rotate_left
              · simp only [Act.put, List.setIfInBounds_toArray, List.set_cons_zero, List.set_cons_succ, i64_w, i32_w]
                rfl
              refine done_ (done_of HT_.out (by kernel_rfl)) ?_
              try go_wp2
              go_roundg k1
              case measure => have := HK1.out; omega
              case rel => exact ⟨(wrap64 (x3_1 + 1)), (by first | rfl | (simp; done) | (simp [*]; done)), H', ⟨by have := HK1.out; omega⟩, ⟨by repeat (first | (with_reducible first | exact HB.out | apply below_alloc | apply pw_below_drewN | apply below_drew1) | exact HB.out)⟩⟩
          · replace c6 := Bool.eq_false_iff.mpr c6
            subst c6
            have H1 : (some false) = some r := by rw [if_neg (show ¬ (false = true) by decide)] at H; exact H
            clear H
            have H := H1
            clear H1
            obtain rfl := Option.some.inj H
            try go_wp2
            have n0_ := Aside0.mk (below_drew1 HB.out)
            clear HB
            have HB := n0_
            clear n0_
            have p332 : 0 ≤ (x3_1 : Int) := of_decide_eq_true (by first | (with_reducible assumption) | assumption)
            have q332 : x3_1 < (l0.length : Int) := of_decide_eq_true (by first | (with_reducible assumption) | assumption)
            obtain ⟨ad332, e332, hx332_0⟩ := Kd.at_int HR0.out x3_1 p332 q332
            have hw332_0 := hx332_0
            cases e332
            replace hx332_0 := (HB.out.cell (World.block_lt_of_cell? w _ hx332_0)).trans hx332_0
            replace p332 := eq_true p332
            replace q332 := eq_true q332
            refine start_ (n := 25) (S := fun w' => w'.cell? (ad332.add (x3_1).toNat) = some (.int .i64 (rd l0 x3_1))) (ds := []) #[false, false, false, false, false, false, false, false, false, false, false, false, false, false, false, false, false, false, false, false, false, false, false, false, false] (by kernel_rfl) rfl rfl (((HB.out.cell (World.block_lt_of_cell? w _ hw332_0)).trans hw332_0)) (fun hHeld => ?_); refine with_tabW skolemref05_Normal.tab4 skolemref05_Normal.bits4 (fun HT_ HW_ => ?_)
            generalize wr.drew = w24 at HB hx332_0 hHeld ⊢
            refine pure_ (i := 0) (N := some 10) (v := ?_) (a' := ?_) #[true, false, false, false, false, false, false, false, false, false, false, false, false, false, false, false, false, false, false, false, false, false, false, false, false] rfl rfl (any_of HT_.out (by kernel_rfl)) (fun _ _ _ h => h) (Or.inl ⟨by rfl, ?_⟩) ?_ ?_
            rotate_left
            · intro w'
              go_simp
              with_reducible rfl
            rotate_left
            · simp only [Act.put, List.setIfInBounds_toArray, List.set_cons_zero, List.set_cons_succ, i64_w, i32_w]
              rfl
            refine pure_ (i := 1) (N := some 11) (v := ?_) (a' := ?_) #[true, true, false, false, false, false, false, false, false, false, false, false, false, false, false, false, false, false, false, false, false, false, false, false, false] rfl rfl (any_of HT_.out (by kernel_rfl)) (fun _ _ _ h => h) (Or.inl ⟨by rfl, ?_⟩) ?_ ?_
            rotate_left
            · intro w'
              go_simp
              with_reducible rfl
            rotate_left
            · simp only [Act.put, List.setIfInBounds_toArray, List.set_cons_zero, List.set_cons_succ, i64_w, i32_w]
              rfl
            refine pure_ (i := 2) (N := some 12) (v := ?_) (a' := ?_) #[true, true, true, false, false, false, false, false, false, false, false, false, false, false, false, false, false, false, false, false, false, false, false, false, false] rfl rfl (any_of HT_.out (by kernel_rfl)) (fun _ _ _ h => h) (Or.inl ⟨by rfl, ?_⟩) ?_ ?_
            rotate_left
            · intro w'
              go_simp
              with_reducible rfl
            rotate_left
            · simp only [Act.put, List.setIfInBounds_toArray, List.set_cons_zero, List.set_cons_succ, i64_w, i32_w]
              rfl
            refine take_ (i := 3) (N := some 13) (v := ?_) (a' := ?_) #[true, true, true, true, false, false, false, false, false, false, false, false, false, false, false, false, false, false, false, false, false, false, false, false, false] rfl rfl (take_ofW HT_.out HW_.out (by kernel_rfl)) (fun _ _ _ h => h) (Or.inl ⟨by rfl, ?_⟩) hHeld ?_ ?_
            rotate_left
            · intro w' s0
              go_simp
              with_reducible rfl
            rotate_left
            · simp only [Act.put, List.setIfInBounds_toArray, List.set_cons_zero, List.set_cons_succ, i64_w, i32_w]
              rfl
            refine one_ (i := 4) (N := some 14) #[true, true, true, true, true, false, false, false, false, false, false, false, false, false, false, false, false, false, false, false, false, false, false, false, false] rfl rfl (one_of HT_.out (by kernel_rfl)) (by decide) (fun K hK => ?_)
            refine goes_ Try.func51 (by kernel_rfl) rfl #[.int .i64 (rd l0 x3_1)] (by rfl) rfl rfl (by (try simp only [List.map_toArray, List.map_cons, List.map_nil]); first | done | rfl | (simp only [List.length_drop, List.length_take]; rfl)) ?_
            with_reducible refine (skolemref05_Abs.calls (rd l0 x3_1) t333 _ A4.out).mono ?_
            rintro e w25 ⟨rfl, hb⟩
            refine ⟨_, rfl, ?_⟩
            have n0_ := Aside0.mk (below_step (by repeat (first | (with_reducible first | exact HB.out | apply below_alloc | apply pw_below_drewN | apply below_drew1) | exact HB.out)) hb)
            clear HB
            have HB := n0_
            clear n0_
            (try clear hb)
            (try clear hb2)
            (try clear hk)
            (try clear hi)
            refine hK.out _ _ (((HB.out.cell (World.block_lt_of_cell? w _ hw332_0)).trans hw332_0)) (fun hHeld => ?_)
            clear hK K
            refine norm_ (a' := ?_) ?_ ?_
            rotate_left
            · show Act.put _ (some 14) _ = _
              simp only [Act.put, List.setIfInBounds_toArray, List.set_cons_zero, List.set_cons_succ, i64_w, i32_w]
              rfl
            refine one_ (i := 5) (N := some 15) #[true, true, true, true, true, true, false, false, false, false, false, false, false, false, false, false, false, false, false, false, false, false, false, false, false] rfl rfl (one_of HT_.out (by kernel_rfl)) (by decide) (fun K hK => ?_)
            refine goes_ Try.func50 (by kernel_rfl) rfl #[.int .i64 t333] (by rfl) rfl rfl (by (try simp only [List.map_toArray, List.map_cons, List.map_nil]); first | done | rfl | (simp only [List.length_drop, List.length_take]; rfl)) ?_
            with_reducible refine (skolemref05_variable.calls t333 false _ A5.out).mono ?_
            rintro e w' ⟨rfl, ⟨nd, rfl⟩⟩
            refine ⟨_, rfl, ?_⟩
            refine hK.out _ _ (((HB.out.cell (World.block_lt_of_cell? w _ hw332_0)).trans hw332_0)) (fun hHeld => ?_)
            clear hK K
            refine norm_ (a' := ?_) ?_ ?_
            rotate_left
            · show Act.put _ (some 15) _ = _
              simp only [Act.put, List.setIfInBounds_toArray, List.set_cons_zero, List.set_cons_succ, i64_w, i32_w]
              rfl
            refine pure_ (i := 6) (N := some 16) (v := ?_) (a' := ?_) #[true, true, true, true, true, true, true, false, false, false, false, false, false, false, false, false, false, false, false, false, false, false, false, false, false] rfl rfl (any_of HT_.out (by kernel_rfl)) (fun _ _ _ h => h) (Or.inl ⟨by rfl, ?_⟩) ?_ ?_
            rotate_left
            · intro w'
              go_simp
              with_reducible rfl
            rotate_left
            · simp only [Act.put, List.setIfInBounds_toArray, List.set_cons_zero, List.set_cons_succ, i64_w, i32_w]
              rfl
            refine pure_ (i := 7) (N := some 17) (v := ?_) (a' := ?_) #[true, true, true, true, true, true, true, true, false, false, false, false, false, false, false, false, false, false, false, false, false, false, false, false, false] rfl rfl (any_of HT_.out (by kernel_rfl)) (fun _ _ _ h => h) (Or.inl ⟨by rfl, ?_⟩) ?_ ?_
            rotate_left
            · intro w'
              go_simp
              with_reducible rfl
            rotate_left
            · simp only [Act.put, List.setIfInBounds_toArray, List.set_cons_zero, List.set_cons_succ, i64_w, i32_w]
              rfl
            refine pure_ (i := 8) (N := some 18) (v := undef) (a' := ?_) #[true, true, true, true, true, true, true, true, true, false, false, false, false, false, false, false, false, false, false, false, false, false, false, false, false] rfl rfl (any_of HT_.out (by kernel_rfl)) (fun _ _ _ h => h) (Or.inr ⟨by rfl, rfl⟩) ?_ ?_
            rotate_left
            · simp only [Act.put, List.setIfInBounds_toArray, List.set_cons_zero, List.set_cons_succ, i64_w, i32_w]
              rfl
            refine pure_ (i := 9) (N := some 19) (v := undef) (a' := ?_) #[true, true, true, true, true, true, true, true, true, true, false, false, false, false, false, false, false, false, false, false, false, false, false, false, false] rfl rfl (any_of HT_.out (by kernel_rfl)) (fun _ _ _ h => h) (Or.inr ⟨by rfl, rfl⟩) ?_ ?_
            rotate_left
            · simp only [Act.put, List.setIfInBounds_toArray, List.set_cons_zero, List.set_cons_succ, i64_w, i32_w]
              rfl
            refine pure_ (i := 10) (N := some 20) (v := undef) (a' := ?_) #[true, true, true, true, true, true, true, true, true, true, true, false, false, false, false, false, false, false, false, false, false, false, false, false, false] rfl rfl (any_of HT_.out (by kernel_rfl)) (fun _ _ _ h => h) (Or.inr ⟨by rfl, rfl⟩) ?_ ?_
            rotate_left
            · simp only [Act.put, List.setIfInBounds_toArray, List.set_cons_zero, List.set_cons_succ, i64_w, i32_w]
              rfl
            refine pure_ (i := 11) (N := some 21) (v := undef) (a' := ?_) #[true, true, true, true, true, true, true, true, true, true, true, true, false, false, false, false, false, false, false, false, false, false, false, false, false] rfl rfl (any_of HT_.out (by kernel_rfl)) (fun _ _ _ h => h) (Or.inr ⟨by rfl, rfl⟩) ?_ ?_
            rotate_left
            · simp only [Act.put, List.setIfInBounds_toArray, List.set_cons_zero, List.set_cons_succ, i64_w, i32_w]
              rfl
            refine pure_ (i := 12) (N := some 22) (v := undef) (a' := ?_) #[true, true, true, true, true, true, true, true, true, true, true, true, true, false, false, false, false, false, false, false, false, false, false, false, false] rfl rfl (any_of HT_.out (by kernel_rfl)) (fun _ _ _ h => h) (Or.inr ⟨by rfl, rfl⟩) ?_ ?_
            rotate_left
            · simp only [Act.put, List.setIfInBounds_toArray, List.set_cons_zero, List.set_cons_succ, i64_w, i32_w]
              rfl
            refine pure_ (i := 13) (N := some 23) (v := undef) (a' := ?_) #[true, true, true, true, true, true, true, true, true, true, true, true, true, true, false, false, false, false, false, false, false, false, false, false, false] rfl rfl (any_of HT_.out (by kernel_rfl)) (fun _ _ _ h => h) (Or.inr ⟨by rfl, rfl⟩) ?_ ?_
            rotate_left
            · simp only [Act.put, List.setIfInBounds_toArray, List.set_cons_zero, List.set_cons_succ, i64_w, i32_w]
              rfl
            refine pure_ (i := 14) (N := some 24) (v := undef) (a' := ?_) #[true, true, true, true, true, true, true, true, true, true, true, true, true, true, true, false, false, false, false, false, false, false, false, false, false] rfl rfl (any_of HT_.out (by kernel_rfl)) (fun _ _ _ h => h) (Or.inr ⟨by rfl, rfl⟩) ?_ ?_
            rotate_left
            · simp only [Act.put, List.setIfInBounds_toArray, List.set_cons_zero, List.set_cons_succ, i64_w, i32_w]
              rfl
            refine pure_ (i := 15) (N := some 25) (v := undef) (a' := ?_) #[true, true, true, true, true, true, true, true, true, true, true, true, true, true, true, true, false, false, false, false, false, false, false, false, false] rfl rfl (any_of HT_.out (by kernel_rfl)) (fun _ _ _ h => h) (Or.inr ⟨by rfl, rfl⟩) ?_ ?_
            rotate_left
            · simp only [Act.put, List.setIfInBounds_toArray, List.set_cons_zero, List.set_cons_succ, i64_w, i32_w]
              rfl
            refine pure_ (i := 16) (N := some 26) (v := undef) (a' := ?_) #[true, true, true, true, true, true, true, true, true, true, true, true, true, true, true, true, true, false, false, false, false, false, false, false, false] rfl rfl (any_of HT_.out (by kernel_rfl)) (fun _ _ _ h => h) (Or.inr ⟨by rfl, rfl⟩) ?_ ?_
            rotate_left
            · simp only [Act.put, List.setIfInBounds_toArray, List.set_cons_zero, List.set_cons_succ, i64_w, i32_w]
              rfl
            refine pure_ (i := 17) (N := some 27) (v := undef) (a' := ?_) #[true, true, true, true, true, true, true, true, true, true, true, true, true, true, true, true, true, true, false, false, false, false, false, false, false] rfl rfl (any_of HT_.out (by kernel_rfl)) (fun _ _ _ h => h) (Or.inr ⟨by rfl, rfl⟩) ?_ ?_
            rotate_left
            · simp only [Act.put, List.setIfInBounds_toArray, List.set_cons_zero, List.set_cons_succ, i64_w, i32_w]
              rfl
            refine pure_ (i := 18) (N := some 28) (v := undef) (a' := ?_) #[true, true, true, true, true, true, true, true, true, true, true, true, true, true, true, true, true, true, true, false, false, false, false, false, false] rfl rfl (any_of HT_.out (by kernel_rfl)) (fun _ _ _ h => h) (Or.inr ⟨by rfl, rfl⟩) ?_ ?_
            rotate_left
            · simp only [Act.put, List.setIfInBounds_toArray, List.set_cons_zero, List.set_cons_succ, i64_w, i32_w]
              rfl
            refine pure_ (i := 19) (N := some 29) (v := undef) (a' := ?_) #[true, true, true, true, true, true, true, true, true, true, true, true, true, true, true, true, true, true, true, true, false, false, false, false, false] rfl rfl (any_of HT_.out (by kernel_rfl)) (fun _ _ _ h => h) (Or.inr ⟨by rfl, rfl⟩) ?_ ?_
            rotate_left
            · simp only [Act.put, List.setIfInBounds_toArray, List.set_cons_zero, List.set_cons_succ, i64_w, i32_w]
              rfl
            refine pure_ (i := 20) (N := some 30) (v := undef) (a' := ?_) #[true, true, true, true, true, true, true, true, true, true, true, true, true, true, true, true, true, true, true, true, true, false, false, false, false] rfl rfl (any_of HT_.out (by kernel_rfl)) (fun _ _ _ h => h) (Or.inr ⟨by rfl, rfl⟩) ?_ ?_
            rotate_left
            · simp only [Act.put, List.setIfInBounds_toArray, List.set_cons_zero, List.set_cons_succ, i64_w, i32_w]
              rfl
            refine pure_ (i := 21) (N := some 31) (v := undef) (a' := ?_) #[true, true, true, true, true, true, true, true, true, true, true, true, true, true, true, true, true, true, true, true, true, true, false, false, false] rfl rfl (any_of HT_.out (by kernel_rfl)) (fun _ _ _ h => h) (Or.inr ⟨by rfl, rfl⟩) ?_ ?_
            rotate_left
            · simp only [Act.put, List.setIfInBounds_toArray, List.set_cons_zero, List.set_cons_succ, i64_w, i32_w]
              rfl
            refine pure_ (i := 22) (N := some 32) (v := undef) (a' := ?_) #[true, true, true, true, true, true, true, true, true, true, true, true, true, true, true, true, true, true, true, true, true, true, true, false, false] rfl rfl (any_of HT_.out (by kernel_rfl)) (fun _ _ _ h => h) (Or.inr ⟨by rfl, rfl⟩) ?_ ?_
            rotate_left
            · simp only [Act.put, List.setIfInBounds_toArray, List.set_cons_zero, List.set_cons_succ, i64_w, i32_w]
              rfl
            refine pure_ (i := 23) (N := some 33) (v := undef) (a' := ?_) #[true, true, true, true, true, true, true, true, true, true, true, true, true, true, true, true, true, true, true, true, true, true, true, true, false] rfl rfl (any_of HT_.out (by kernel_rfl)) (fun _ _ _ h => h) (Or.inr ⟨by rfl, rfl⟩) ?_ ?_
            rotate_left
            · simp only [Act.put, List.setIfInBounds_toArray, List.set_cons_zero, List.set_cons_succ, i64_w, i32_w]
              rfl
            refine pure_ (i := 24) (N := some 34) (v := ?_) (a' := ?_) #[true, true, true, true, true, true, true, true, true, true, true, true, true, true, true, true, true, true, true, true, true, true, true, true, true] rfl rfl (any_of HT_.out (by kernel_rfl)) (fun _ _ _ h => h) (Or.inl ⟨by rfl, ?_⟩) ?_ ?_
            rotate_left
            · intro w'
              go_simp
              with_reducible rfl
            rotate_left
            · simp only [Act.put, List.setIfInBounds_toArray, List.set_cons_zero, List.set_cons_succ, i64_w, i32_w]
              rfl
            refine done_ (done_of HT_.out (by kernel_rfl)) ?_
            try go_wp2
            go_ret
            exact ⟨by first | rfl | (simp [errW_none, errW_some] <;> rfl) | (simp [*, errW_none, errW_some] <;> rfl), by repeat (first | (with_reducible first | exact HB.out | apply below_alloc | apply pw_below_drewN | apply below_drew1) | exact HB.out)⟩
        · rw [if_neg c3] at H
          exact absurd H (by simp)
      · rw [if_neg c2] at H
        have c2b0 : decide (x3_1 < (l0.length : Int)) = false := decide_eq_false c2
        clear c2
        obtain rfl := Option.some.inj H
        go_wp2
        go_ret
        exact ⟨by first | rfl | (simp [errW_none, errW_some] <;> rfl) | (simp [*, errW_none, errW_some] <;> rfl), by repeat (first | (with_reducible first | exact HB.out | apply below_alloc | apply pw_below_drewN | apply below_drew1) | exact HB.out)⟩

end Go.Proofs.Ytjlehbncpjccmaa.Q
namespace Go.Proofs.Ytjlehbncpjccmaa.Q
open Go.RowKit Go.Proofs.YtjlehbncpjccmaaW.PrintWords Go.Proofs.YtjlehbncpjccmaaW.PrintLast Go.Proofs.YtjlehbncpjccmaaW.PrintMore
attribute [local go_sem] max2_int min2_int max_two min_two max_three min_three max_four min_four   -- for this text's walks alone
set_option linter.unusedVariables false
set_option linter.unusedSimpArgs false

/-! ### skolemref35_number: function 69 -/
def skolemref35_number.l0 : Nat → List Int → List Int → Int → Int → Option (Int)
  | 0, _, _, _, _ => none
  | k + 1, x0, x1, x5, x6 => if x6 < (x0.length : Int) then (if 0 ≤ x6 then ((skolemref05_In.f k x1 (rd x0 x6)).bind fun t340 => (if t340 = true then (skolemref35_number.l0 k x0 x1 (wrap64 (x5 + (shl .i64 1 x6))) (wrap64 (x6 + 1))) else (skolemref35_number.l0 k x0 x1 x5 (wrap64 (x6 + 1))))) else (none)) else (some x5)
def skolemref35_number.f (k : Nat) (l0 : List Int) (l1 : List Int) : Option (Int) := skolemref35_number.l0 k l0 l1 0 0
theorem skolemref35_number.mono_l : ∀ k, (∀ y0 y1 y2 y3, LeO (skolemref35_number.l0 k y0 y1 y2 y3) (skolemref35_number.l0 (k + 1) y0 y1 y2 y3))
  | 0 => fun _ _ _ _ r h => by simp [skolemref35_number.l0] at h
  | k + 1 => by
    have ih0 := skolemref35_number.mono_l k
    · intro y0 y1 y2 y3
      unfold skolemref35_number.l0
      repeat' first
      | (with_reducible exact ih0 _ _ _ _)
      | (with_reducible exact skolemref05_In.mono _ _ _)
      | (with_reducible exact LeO.refl _)
      | (with_reducible exact LeO.none _)
      | (with_reducible refine LeO.ite ?_ ?_)
      | (with_reducible refine LeO.bind ?_ (fun _ => ?_))
      | exact ih0 _ _ _ _
      | exact skolemref05_In.mono _ _ _
      | exact LeO.none _
      | refine LeO.ite ?_ ?_
      | refine LeO.bind ?_ (fun _ => ?_)
theorem skolemref35_number.mono : ∀ a0 a1 k, LeO (skolemref35_number.f k a0 a1) (skolemref35_number.f (k + 1) a0 a1) := by
  intro a0 a1 k
  have ih0 := skolemref35_number.mono_l k
  unfold skolemref35_number.f
  repeat' first
      | (with_reducible exact ih0 _ _ _ _)
      | (with_reducible exact skolemref05_In.mono _ _ _)
      | (with_reducible exact LeO.refl _)
      | (with_reducible exact LeO.none _)
      | (with_reducible refine LeO.ite ?_ ?_)
      | (with_reducible refine LeO.bind ?_ (fun _ => ?_))
      | exact ih0 _ _ _ _
      | exact skolemref05_In.mono _ _ _
      | exact LeO.none _
      | refine LeO.ite ?_ ?_
      | refine LeO.bind ?_ (fun _ => ?_)
set_option maxHeartbeats 8000000 in
set_option maxRecDepth 100000 in
theorem skolemref35_number.calls (k : Nat) (A0 : Option Addr) (c0 : Nat) (l0 : List Int) (A1 : Option Addr) (c1 : Nat) (l1 : List Int) (r : Int) (w : World) (hr0 : Kd.C (Kd.int .i64) w A0 l0.length l0) (hc0 : l0.length ≤ c0) (hr1 : Kd.C (Kd.int .i64) w A1 l1.length l1) (hc1 : l1.length ≤ c1) (h : skolemref35_number.f k l0 l1 = some r) :
    Calls Try.prog 69 #[.slice A0 l0.length c0, .slice A1 l1.length c1] w fun e w' => e = .returned (.int .i64 r) ∧ Drawn0 w w' := by
  have HR0 := Aside0.mk hr0
  have HC0 := Aside0.mk hc0
  clear hr0 hc0
  have HR1 := Aside0.mk hr1
  have HC1 := Aside0.mk hc1
  clear hr1 hc1
  have H : (skolemref35_number.l0 k l0 l1 0 0) = some r := h
  clear h
  have H' := Aside0.mk H
  clear H
  go_enter Try.func69, Try.ntmps69
  go_wp2
  go_loopg [5, 6] k (fun kq v5 v6 w' => ∃ (x5_1 : Int) (x6_1 : Int), v5 = .int .i64 x5_1 ∧ v6 = .int .i64 x6_1 ∧ Aside0 (skolemref35_number.l0 kq l0 l1 x5_1 x6_1 = some r) ∧ Aside0 (kq ≤ k) ∧ Drawn0 w w')
  case atStart => exact ⟨(0), (0), (by first | rfl | (simp; done) | (simp [*]; done)), (by first | rfl | (simp; done) | (simp [*]; done)), H', ⟨Nat.le_refl _⟩, by repeat (first | exact Drawn0.refl _ | apply Drawn0.step)⟩
  case round =>
    clear H'
    try clear c1
    try clear p2
    obtain ⟨x5_1, x6_1, rfl, rfl, HA, HK1, ⟨m1, rfl⟩⟩ := hrel
    cases gk with
    | zero => exact absurd HA.out (by simp [skolemref35_number.l0])
    | succ k1 =>
      have H := HA.out
      clear HA
      simp only [skolemref35_number.l0] at H
      by_cases c3 : x6_1 < (l0.length : Int)
      · rw [if_pos c3] at H
        have c3b0 : decide (x6_1 < (l0.length : Int)) = true := decide_eq_true c3
        clear c3
        by_cases c4 : 0 ≤ x6_1
        · rw [if_pos c4] at H
          have c4b0 : decide (0 ≤ x6_1) = true := decide_eq_true c4
          clear c4
          replace H := Option.bind_eq_some_iff.mp H
          obtain ⟨t340, A50, H⟩ := H
          replace H : (if t340 = true then (skolemref35_number.l0 k1 l0 l1 (wrap64 (x5_1 + (shl .i64 1 x6_1))) (wrap64 (x6_1 + 1))) else (skolemref35_number.l0 k1 l0 l1 x5_1 (wrap64 (x6_1 + 1)))) = some r := H
          have A5 := Aside0.mk A50
          clear A50
          by_cases c6 : t340 = true
          · subst c6
            have H1 : (skolemref35_number.l0 k1 l0 l1 (wrap64 (x5_1 + (shl .i64 1 x6_1))) (wrap64 (x6_1 + 1))) = some r := by rw [if_pos rfl] at H; exact H
            clear H
            have H := H1
            clear H1
            have c7b0 := eq_true (of_decide_eq_true (by first | (with_reducible assumption) | assumption) : 0 ≤ x6_1)
            obtain ⟨ji8, hji8⟩ : ∃ j_ : Int, (shl .i64 1 x6_1) = j_ := ⟨_, rfl⟩
            replace H : (skolemref35_number.l0 k1 l0 l1 (wrap64 (x5_1 + (ji8))) (wrap64 (x6_1 + 1))) = some r := by first | (rw [hji8] at H; exact H) | (simp only [hji8] at H ⊢; exact H)
            (try rw [hji8] at A5)
            have hji8_ : (IntKind.i64.wrap (1 * 2 ^ min x6_1.toNat 64)) = ji8 := hji8
            have hji8z : x6_1 ≤ 64 → (IntKind.i64.wrap (1 * 2 ^ x6_1.toNat)) = ji8 := shl_small hji8
            have hji8u : (IntKind.i64.wrap (2 ^ min x6_1.toNat 64)) = ji8 := by have h_ := hji8_; rw [Int.one_mul] at h_; exact h_
            have hji8v : x6_1 ≤ 64 → (IntKind.i64.wrap (2 ^ x6_1.toNat)) = ji8 := fun hle_ => by have h_ := hji8z hle_; rw [Int.one_mul] at h_; exact h_
            have hji8y : (wrap64 (1 * 2 ^ min x6_1.toNat 64)) = ji8 := (i64_w _).symm.trans hji8_
            have hji8x : x6_1 ≤ 64 → (wrap64 (1 * 2 ^ x6_1.toNat)) = ji8 := fun h_ => (i64_w _).symm.trans (hji8z h_)
            have H' := Aside0.mk H
            clear H
            have p339 : 0 ≤ (x6_1 : Int) := of_decide_eq_true (by first | (with_reducible assumption) | assumption)
            have q339 : x6_1 < (l0.length : Int) := of_decide_eq_true (by first | (with_reducible assumption) | assumption)
            obtain ⟨ad339, e339, hx339_0⟩ := Kd.at_int HR0.out x6_1 p339 q339
            cases e339
            replace p339 := eq_true p339
            replace q339 := eq_true q339
            go_wp2_with (first | ((with_reducible refine gate_callee (f := 41) rfl ?_); refine goesL_ (some 18) rfl rfl Try.func41 (by kernel_rfl) rfl #[.slice A1 l1.length c1, .int .i64 (rd l0 x6_1)] rfl (by (try simp only [List.map_toArray, List.map_cons, List.map_nil]); first | done | rfl | (simp only [List.length_drop, List.length_take]; rfl)) ?_; (with_reducible refine (skolemref05_In.calls k1 _ _ l1 (rd l0 x6_1) true _ ?side1 ?side2 A5.out).mono ?_); (case side1 => repeat (first | exact HR1.out | (with_reducible refine Kd.C_alloc ?_ _) | (with_reducible refine Kd.C_drewN ?_ _) | (with_reducible refine Kd.C_drew ?_))); (case side2 => exact HC1.out); rintro e w' ⟨rfl, ⟨nd, rfl⟩⟩; refine ⟨_, rfl, ?_⟩))
            go_roundg k1
            case measure => have := HK1.out; omega
            case rel => exact ⟨(wrap64 (x5_1 + (ji8))), (wrap64 (x6_1 + 1)), (by first | rfl | (simp; done) | (simp only [← hji8] <;> (first | rfl | simp)) | (simp [*]; done)), (by first | rfl | (simp; done) | (simp [*]; done)), H', ⟨by have := HK1.out; omega⟩, by repeat (first | exact Drawn0.refl _ | apply Drawn0.step)⟩
          · replace c6 := Bool.eq_false_iff.mpr c6
            subst c6
            have H1 : (skolemref35_number.l0 k1 l0 l1 x5_1 (wrap64 (x6_1 + 1))) = some r := by rw [if_neg (show ¬ (false = true) by decide)] at H; exact H
            clear H
            have H := H1
            clear H1
            have H' := Aside0.mk H
            clear H
            have p339 : 0 ≤ (x6_1 : Int) := of_decide_eq_true (by first | (with_reducible assumption) | assumption)
            have q339 : x6_1 < (l0.length : Int) := of_decide_eq_true (by first | (with_reducible assumption) | assumption)
            obtain ⟨ad339, e339, hx339_0⟩ := Kd.at_int HR0.out x6_1 p339 q339
            cases e339
            replace p339 := eq_true p339
            replace q339 := eq_true q339
            go_wp2_with (first | ((with_reducible refine gate_callee (f := 41) rfl ?_); refine goesL_ (some 18) rfl rfl Try.func41 (by kernel_rfl) rfl #[.slice A1 l1.length c1, .int .i64 (rd l0 x6_1)] rfl (by (try simp only [List.map_toArray, List.map_cons, List.map_nil]); first | done | rfl | (simp only [List.length_drop, List.length_take]; rfl)) ?_; (with_reducible refine (skolemref05_In.calls k1 _ _ l1 (rd l0 x6_1) false _ ?side1 ?side2 A5.out).mono ?_); (case side1 => repeat (first | exact HR1.out | (with_reducible refine Kd.C_alloc ?_ _) | (with_reducible refine Kd.C_drewN ?_ _) | (with_reducible refine Kd.C_drew ?_))); (case side2 => exact HC1.out); rintro e w' ⟨rfl, ⟨nd, rfl⟩⟩; refine ⟨_, rfl, ?_⟩))
            go_roundg k1
            case measure => have := HK1.out; omega
            case rel => exact ⟨(x5_1), (wrap64 (x6_1 + 1)), (by first | rfl | (simp; done) | (simp [*]; done)), (by first | rfl | (simp; done) | (simp [*]; done)), H', ⟨by have := HK1.out; omega⟩, by repeat (first | exact Drawn0.refl _ | apply Drawn0.step)⟩
        · rw [if_neg c4] at H
          exact absurd H (by simp)
      · rw [if_neg c3] at H
        have c3b0 : decide (x6_1 < (l0.length : Int)) = false := decide_eq_false c3
        clear c3
        obtain rfl := Option.some.inj H
        go_wp2
        go_ret
        exact ⟨by first | rfl | (simp; done) | (simp [*]; done), by repeat (first | exact Drawn0.refl _ | apply Drawn0.step)⟩

end Go.Proofs.Ytjlehbncpjccmaa.Q
namespace Go.Proofs.Ytjlehbncpjccmaa.Q
open Go.RowKit Go.Proofs.YtjlehbncpjccmaaW.PrintWords Go.Proofs.YtjlehbncpjccmaaW.PrintLast Go.Proofs.YtjlehbncpjccmaaW.PrintMore
attribute [local go_sem] max2_int min2_int max_two min_two max_three min_three max_four min_four   -- for this text's walks alone
set_option linter.unusedVariables false
set_option linter.unusedSimpArgs false

/-! ### skolemref35_played: function 49 -/
def skolemref35_played.l0 : Nat → List Int → Int → List Int → Int → List (S55) → Int → List Int → Int → Option (List Int)
  | 0, _, _, _, _, _, _, _, _ => none
  | k + 1, x1, x5, x6, x7, x342000, x342001, x342002, x342003 => if x7 ≤ x342003 then (if 0 ≤ x5 then (if x5 < (x342000.length : Int) then (if (((rd_T55 x342000 x5).f1).length : Int) > 0 then ((skolemref35_choice.f k x342000 x342001 x342002 x342003 x7 ((rd_T55 x342000 x5).f0)).bind fun t347 => ((skolemref35_number.f k t347 x1).bind fun t350 => (if (((rd_T55 x342000 x5).f1).length : Int) = 0 then (none) else (if 0 ≤ (Int.tmod t350 (((rd_T55 x342000 x5).f1).length : Int)) then (if (Int.tmod t350 (((rd_T55 x342000 x5).f1).length : Int)) < (((rd_T55 x342000 x5).f1).length : Int) then (if x6.length < 17592186044416 then (skolemref35_played.l0 k x1 (rd ((rd_T55 x342000 x5).f1) (Int.tmod t350 (((rd_T55 x342000 x5).f1).length : Int))) (x6 ++ [rd ((rd_T55 x342000 x5).f1) (Int.tmod t350 (((rd_T55 x342000 x5).f1).length : Int))]) (wrap64 (x7 + 1)) x342000 x342001 x342002 x342003) else (none)) else (none)) else (none))))) else (if x6.length < 17592186044416 then (skolemref35_played.l0 k x1 x5 (x6 ++ [x5]) (wrap64 (x7 + 1)) x342000 x342001 x342002 x342003) else (none))) else (none)) else (none)) else (some x6)
def skolemref35_played.f (k : Nat) (l0_0 : List (S55)) (a0_1 : Int) (l0_2 : List Int) (a0_3 : Int) (l1 : List Int) : Option (List Int) := skolemref35_played.l0 k l1 a0_1 (([a0_1] : List Int)) 1 l0_0 a0_1 l0_2 a0_3
theorem skolemref35_played.mono_l : ∀ k, (∀ y0 y1 y2 y3 y4 y5 y6 y7, LeO (skolemref35_played.l0 k y0 y1 y2 y3 y4 y5 y6 y7) (skolemref35_played.l0 (k + 1) y0 y1 y2 y3 y4 y5 y6 y7))
  | 0 => fun _ _ _ _ _ _ _ _ r h => by simp [skolemref35_played.l0] at h
  | k + 1 => by
    have ih0 := skolemref35_played.mono_l k
    · intro y0 y1 y2 y3 y4 y5 y6 y7
      unfold skolemref35_played.l0
      repeat' first
      | (with_reducible exact ih0 _ _ _ _ _ _ _ _)
      | (with_reducible exact skolemref35_choice.mono _ _ _ _ _ _ _)
      | (with_reducible exact skolemref35_number.mono _ _ _)
      | (with_reducible exact LeO.refl _)
      | (with_reducible exact LeO.none _)
      | (with_reducible refine LeO.ite ?_ ?_)
      | (with_reducible refine LeO.bind ?_ (fun _ => ?_))
      | exact ih0 _ _ _ _ _ _ _ _
      | exact skolemref35_choice.mono _ _ _ _ _ _ _
      | exact skolemref35_number.mono _ _ _
      | exact LeO.none _
      | refine LeO.ite ?_ ?_
      | refine LeO.bind ?_ (fun _ => ?_)
theorem skolemref35_played.mono : ∀ a0 a1 a2 a3 a4 k, LeO (skolemref35_played.f k a0 a1 a2 a3 a4) (skolemref35_played.f (k + 1) a0 a1 a2 a3 a4) := by
  intro a0 a1 a2 a3 a4 k
  have ih0 := skolemref35_played.mono_l k
  unfold skolemref35_played.f
  repeat' first
      | (with_reducible exact ih0 _ _ _ _ _ _ _ _)
      | (with_reducible exact skolemref35_choice.mono _ _ _ _ _ _ _)
      | (with_reducible exact skolemref35_number.mono _ _ _)
      | (with_reducible exact LeO.refl _)
      | (with_reducible exact LeO.none _)
      | (with_reducible refine LeO.ite ?_ ?_)
      | (with_reducible refine LeO.bind ?_ (fun _ => ?_))
      | exact ih0 _ _ _ _ _ _ _ _
      | exact skolemref35_choice.mono _ _ _ _ _ _ _
      | exact skolemref35_number.mono _ _ _
      | exact LeO.none _
      | refine LeO.ite ?_ ?_
      | refine LeO.bind ?_ (fun _ => ?_)
def skolemref35_played.T8 : Bool × List (List Nat × List Nat) := (true, [([], []), ([], []), ([], []), ([], []), ([3], [3]), ([], []), ([4, 5], [4, 5]), ([6], [6]), ([7], [7]), ([1, 2, 8], [1, 2, 8]), ([], []), ([9, 10, 9], [9, 10]), ([], []), ([12], [12]), ([11, 13], [11, 13]), ([0, 14], [0, 14]), ([15], [15]), ([16, 11, 0, 1, 2, 3, 4, 5, 6, 7, 8, 9, 10, 11, 12, 13, 14, 15, 16], [5, 16])])
def skolemref35_played.B8 : List Nat := [0, 0, 0, 0, 8, 0, 56, 120, 248, 510, 0, 2046, 0, 4096, 16382, 32767, 65535, 131071]
theorem skolemref35_played.tab8 : rtab .any (opsOf Try.f49 8) = skolemref35_played.T8 := by kernel_rfl
theorem skolemref35_played.bits8 : waitsOk skolemref35_played.T8.2 skolemref35_played.B8 = true := by kernel_rfl
set_option maxHeartbeats 8000000 in
set_option maxRecDepth 100000 in
theorem skolemref35_played.calls (k : Nat) (A0_0 : Option Addr) (c0_0 : Nat) (l0_0 : List (S55)) (a0_1 : Int) (A0_2 : Option Addr) (c0_2 : Nat) (l0_2 : List Int) (a0_3 : Int) (A1 : Option Addr) (c1 : Nat) (l1 : List Int) (r : List Int) (w : World) (hr0_0 : Kd.C k55 w A0_0 l0_0.length l0_0) (hc0_0 : l0_0.length ≤ c0_0) (hr0_2 : Kd.C (Kd.int .i64) w A0_2 l0_2.length l0_2) (hc0_2 : l0_2.length ≤ c0_2) (hr1 : Kd.C (Kd.int .i64) w A1 l1.length l1) (hc1 : l1.length ≤ c1) (h : skolemref35_played.f k l0_0 a0_1 l0_2 a0_3 l1 = some r) :
    Calls Try.prog 49 #[.agg #[.slice A0_0 l0_0.length c0_0, .int .i64 a0_1, .slice A0_2 l0_2.length c0_2, .int .i64 a0_3], .slice A1 l1.length c1] w fun e w' => ∃ v0_ : Value, e = .returned (v0_) ∧ Kd.R (Kd.int .i64) 3 w' w.heap.size (fun _ => True) v0_ r ∧ Below w.heap.size w w' := by
  have hu25 := Try.underlying25
  have HR0_0 := Aside0.mk hr0_0
  have HC0_0 := Aside0.mk hc0_0
  clear hr0_0 hc0_0
  have HR0_2 := Aside0.mk hr0_2
  have HC0_2 := Aside0.mk hc0_2
  clear hr0_2 hc0_2
  have HR1 := Aside0.mk hr1
  have HC1 := Aside0.mk hc1
  clear hr1 hc1
  have HB := Aside0.mk (Below.refl w.heap.size w)
  have H : (skolemref35_played.l0 k l1 a0_1 (([a0_1] : List Int)) 1 l0_0 a0_1 l0_2 a0_3) = some r := h
  clear h
  obtain ⟨y342, hy342⟩ : ∃ y_ : List Int, y_ = (([a0_1] : List Int)) := ⟨_, rfl⟩
  replace H : (skolemref35_played.l0 k l1 a0_1 y342 1 l0_0 a0_1 l0_2 a0_3) = some r := by first | (rw [hy342]; with_reducible exact H) | (have H2_ := (Option.bind_some _ _).symm.trans H; rw [hy342]; with_reducible exact H2_) | (have H2_ := (Option.bind_some _ _).symm.trans H; with_reducible exact H2_) | with_reducible exact H | (rw [hy342]; exact H) | exact H
  have Ny342 := Aside0.mk hy342
  clear hy342
  have H' := Aside0.mk H
  clear H
  go_enter Try.func49, Try.ntmps49
  go_wp2_with (first | ((with_reducible refine gate_dst (N := 2) rfl ?_); refine box_event ?hg (N := 2) ?hd (cs := #[.slice A0_0 l0_0.length c0_0, .int .i64 a0_1, .slice A0_2 l0_2.length c0_2, .int .i64 a0_3]) (t := 25) ?hr ?_; (case hd => rfl); (case hg => rfl); (case hr => first | (go_simp; done) | (go_simp; rfl)); intro gb341 hg w3 hbox hb; have n0_ := Aside0.mk (below_step (by repeat (first | (with_reducible first | exact HB.out | apply below_alloc | apply pw_below_drewN | apply below_drew1) | exact HB.out)) hb); have n1_ := Aside0.mk (hbox); have n2_ := Aside0.mk ((by rw [hg]; exact (below_size (by repeat (first | (with_reducible first | exact HB.out | apply below_alloc | apply pw_below_drewN | apply below_drew1) | exact HB.out))) : w.heap.size ≤ gb341)); have n3_ := Aside0.mk ((by rw [hg]; exact (below_size (by repeat (first | (with_reducible first | exact HB.out | apply below_alloc | apply pw_below_drewN | apply below_drew1) | exact HB.out))) : w.heap.size ≤ gb341)); clear HB; have HB := n0_; have BK341 := n1_; have GW341 := n2_; have GE341 := n3_; clear n0_ n1_ n2_ n3_; clear hb hbox hg; have hcz4_0 : w3.cell? ⟨gb341, 0, none⟩ = some (.slice A0_0 l0_0.length c0_0) := (blk_cell BK341.out 0).trans rfl; have hcz4_1 : w3.cell? ⟨gb341, 1, none⟩ = some (.int .i64 a0_1) := (blk_cell BK341.out 1).trans rfl; have hcz4_2 : w3.cell? ⟨gb341, 2, none⟩ = some (.slice A0_2 l0_2.length c0_2) := (blk_cell BK341.out 2).trans rfl; have hcz4_3 : w3.cell? ⟨gb341, 3, none⟩ = some (.int .i64 a0_3) := (blk_cell BK341.out 3).trans rfl; have hfz4_0 := blk_frozen BK341.out 0; have hfz4_1 := blk_frozen BK341.out 1; have hfz4_2 := blk_frozen BK341.out 2; have hfz4_3 := blk_frozen BK341.out 3) | ((with_reducible refine gate_dst (N := 12) rfl ?_); refine Kd.R_lit (Kd.int .i64) _ 3 ?hg (N := 12) ?hd (xs := ([a0_1] : List Int)) (inner := [.int .i64 a0_1]) (ok := fun _ => True) (okp := fun _ => True) ?hr ?hp (fun _ hk => hk) trivial (Below.refl _ _) (Nat.le_refl _) (by simp) ?_; (case hd => rfl); (case hg => rfl); (case hr => first | (go_simp; done) | (go_simp; rfl)); (case hp => exact (Reps.one (show Kd.M (Kd.int .i64) _ _ _ a0_1 [.int .i64 a0_1] from rfl) (Reps.none _ _))); intro v343 w5 ho6 hb hg_ hnew_; clear hg_ hnew_; (first | rw [← Ny342.out] at ho6 | (simp only [Int.reduceToNat] at ho6; rw [← Ny342.out] at ho6)); have n0_ := Aside0.mk (Kd.R_lower ho6 (below_size (by repeat (first | (with_reducible first | exact HB.out | apply below_alloc | apply pw_below_drewN | apply below_drew1 | refine below_set ?_ GE341.out) | exact HB.out)))); have n1_ := Aside0.mk (blk_below (g := gb341) (o := .cells #[.slice A0_0 l0_0.length c0_0, .int .i64 a0_1, .slice A0_2 l0_2.length c0_2, .int .i64 a0_3] 25 (0, 0)) (by (with_reducible repeat (first | refine blk_drewN ?_ _ | refine blk_drew ?_ | refine blk_alloc ?_ _)); exact BK341.out) hb); have n2_ := Aside0.mk (below_step (by repeat (first | (with_reducible first | exact HB.out | apply below_alloc | apply pw_below_drewN | apply below_drew1 | refine below_set ?_ GE341.out) | exact HB.out)) hb); clear BK341; clear HB; have HO344 := n0_; have BK341 := n1_; have HB := n2_; clear n0_ n1_ n2_; clear hb ho6))
  go_loopg [5, 6, 7] k (fun kq v5 v6 v7 w' => ∃ (x5_1 : Int) (x6_1 : List Int) (x7_1 : Int), v5 = .int .i64 x5_1 ∧ v7 = .int .i64 x7_1 ∧ Aside0 (skolemref35_played.l0 kq l1 x5_1 x6_1 x7_1 l0_0 a0_1 l0_2 a0_3 = some r) ∧ Aside0 (kq ≤ k) ∧ Aside0 (Kd.R (Kd.int .i64) 3 w' w.heap.size (fun _ => True) v6 x6_1) ∧ Aside0 (w'.heap[gb341]? = some (.cells #[(.slice A0_0 l0_0.length c0_0), .int .i64 a0_1, (.slice A0_2 l0_2.length c0_2), .int .i64 a0_3] 25 (0, 0))) ∧ Aside0 (Below w.heap.size w w'))
  case atStart => exact ⟨(a0_1), (y342), (1), (by first | rfl | (simp; done) | (simp [*]; done)), (by first | rfl | (simp; done) | (simp [*]; done)), H', ⟨Nat.le_refl _⟩, ⟨by (with_reducible repeat (first | apply Kd.R_alloc | apply Kd.R_drewN | apply Kd.R_drew)); exact HO344.out⟩, ⟨by (with_reducible repeat (first | refine blk_drewN ?_ _ | refine blk_drew ?_ | refine blk_alloc ?_ _)); exact BK341.out⟩, ⟨by repeat (first | (with_reducible first | exact HB.out | apply below_alloc | apply pw_below_drewN | apply below_drew1 | refine below_set ?_ GE341.out) | exact HB.out)⟩⟩
  case round =>
    clear H'
    try clear c1
    try clear p2
    try clear c4
    try clear hcz4_0
    try clear hcz4_1
    try clear hcz4_2
    try clear hcz4_3
    try clear hfz4_0
    try clear hfz4_1
    try clear hfz4_2
    try clear hfz4_3
    obtain ⟨x5_1, x6_1, x7_1, rfl, rfl, HA, HK1, HO_6, BK341, HB⟩ := hrel
    cases gk with
    | zero => exact absurd HA.out (by simp [skolemref35_played.l0])
    | succ k1 =>
      have H := HA.out
      clear HA
      simp only [skolemref35_played.l0] at H
      by_cases c7 : x7_1 ≤ a0_3
      · rw [if_pos c7] at H
        have c7b0 : decide (x7_1 ≤ a0_3) = true := decide_eq_true c7
        clear c7
        by_cases c8 : 0 ≤ x5_1
        · rw [if_pos c8] at H
          have c8b0 : decide (0 ≤ x5_1) = true := decide_eq_true c8
          clear c8
          by_cases c9 : x5_1 < (l0_0.length : Int)
          · rw [if_pos c9] at H
            have c9b0 : decide (x5_1 < (l0_0.length : Int)) = true := decide_eq_true c9
            clear c9
            by_cases c10 : (((rd_T55 l0_0 x5_1).f1).length : Int) > 0
            · rw [if_pos c10] at H
              have c10b0 : decide (0 < (((rd_T55 l0_0 x5_1).f1).length : Int)) = true := decide_eq_true c10
              have c10b1 : decide (0 < ((rd_T55 l0_0 x5_1).f1).length) = true := decide_eq_true (by omega)
              clear c10
              replace H := Option.bind_eq_some_iff.mp H
              obtain ⟨t347, A110, H⟩ := H
              replace H : ((skolemref35_number.f k1 t347 l1).bind fun t350 => (if (((rd_T55 l0_0 x5_1).f1).length : Int) = 0 then (none) else (if 0 ≤ (Int.tmod t350 (((rd_T55 l0_0 x5_1).f1).length : Int)) then (if (Int.tmod t350 (((rd_T55 l0_0 x5_1).f1).length : Int)) < (((rd_T55 l0_0 x5_1).f1).length : Int) then (if x6_1.length < 17592186044416 then (skolemref35_played.l0 k1 l1 (rd ((rd_T55 l0_0 x5_1).f1) (Int.tmod t350 (((rd_T55 l0_0 x5_1).f1).length : Int))) (x6_1 ++ [rd ((rd_T55 l0_0 x5_1).f1) (Int.tmod t350 (((rd_T55 l0_0 x5_1).f1).length : Int))]) (wrap64 (x7_1 + 1)) l0_0 a0_1 l0_2 a0_3) else (none)) else (none)) else (none)))) = some r := H
              have A11 := Aside0.mk A110
              clear A110
              replace H := Option.bind_eq_some_iff.mp H
              obtain ⟨t350, A120, H⟩ := H
              replace H : (if (((rd_T55 l0_0 x5_1).f1).length : Int) = 0 then (none) else (if 0 ≤ (Int.tmod t350 (((rd_T55 l0_0 x5_1).f1).length : Int)) then (if (Int.tmod t350 (((rd_T55 l0_0 x5_1).f1).length : Int)) < (((rd_T55 l0_0 x5_1).f1).length : Int) then (if x6_1.length < 17592186044416 then (skolemref35_played.l0 k1 l1 (rd ((rd_T55 l0_0 x5_1).f1) (Int.tmod t350 (((rd_T55 l0_0 x5_1).f1).length : Int))) (x6_1 ++ [rd ((rd_T55 l0_0 x5_1).f1) (Int.tmod t350 (((rd_T55 l0_0 x5_1).f1).length : Int))]) (wrap64 (x7_1 + 1)) l0_0 a0_1 l0_2 a0_3) else (none)) else (none)) else (none))) = some r := H
              have A12 := Aside0.mk A120
              clear A120
              by_cases c13 : (((rd_T55 l0_0 x5_1).f1).length : Int) = 0
              · rw [if_pos c13] at H
                exact absurd H (by simp)
              · rw [if_neg c13] at H
                have c13b0 : ((((rd_T55 l0_0 x5_1).f1).length : Int) == 0) = false := beq_eq_false_iff_ne.mpr c13
                have c13b1 : ((((rd_T55 l0_0 x5_1).f1).length : Int) != 0) = true := bne_iff_ne.mpr c13
                have c13b2 : ¬ (((rd_T55 l0_0 x5_1).f1) = []) := fun h_ => c13 (by rw [h_]; rfl)
                obtain ⟨ji14, hji14⟩ : ∃ j_ : Int, (Int.tmod t350 (((rd_T55 l0_0 x5_1).f1).length : Int)) = j_ := ⟨_, rfl⟩
                replace H : (if 0 ≤ (ji14) then (if (ji14) < (((rd_T55 l0_0 x5_1).f1).length : Int) then (if x6_1.length < 17592186044416 then (skolemref35_played.l0 k1 l1 (rd ((rd_T55 l0_0 x5_1).f1) (ji14)) (x6_1 ++ [rd ((rd_T55 l0_0 x5_1).f1) (ji14)]) (wrap64 (x7_1 + 1)) l0_0 a0_1 l0_2 a0_3) else (none)) else (none)) else (none)) = some r := by first | (rw [hji14] at H; exact H) | (simp only [hji14] at H ⊢; exact H)
                (try rw [hji14] at A11)
                (try rw [hji14] at A12)
                by_cases c15 : 0 ≤ (ji14)
                · rw [if_pos c15] at H
                  have c15b0 : decide (0 ≤ (ji14)) = true := decide_eq_true c15
                  clear c15
                  by_cases c16 : (ji14) < (((rd_T55 l0_0 x5_1).f1).length : Int)
                  · rw [if_pos c16] at H
                    have c16b0 : decide ((ji14) < (((rd_T55 l0_0 x5_1).f1).length : Int)) = true := decide_eq_true c16
                    clear c16
                    by_cases c17 : x6_1.length < 17592186044416
                    · rw [if_pos c17] at H
                      have LMc17 := Aside0.mk c17
                      clear c17
                      obtain ⟨y352, hy352⟩ : ∃ y_ : List Int, y_ = (x6_1 ++ [rd ((rd_T55 l0_0 x5_1).f1) (ji14)]) := ⟨_, rfl⟩
                      replace H : (skolemref35_played.l0 k1 l1 (rd ((rd_T55 l0_0 x5_1).f1) (ji14)) y352 (wrap64 (x7_1 + 1)) l0_0 a0_1 l0_2 a0_3) = some r := by first | (rw [hy352]; with_reducible exact H) | (have H2_ := (Option.bind_some _ _).symm.trans H; rw [hy352]; with_reducible exact H2_) | (have H2_ := (Option.bind_some _ _).symm.trans H; with_reducible exact H2_) | with_reducible exact H | (rw [hy352]; exact H) | exact H
                      have Ny352 := Aside0.mk hy352
                      clear hy352
                      have H' := Aside0.mk H
                      clear H
                      have hcz18_0 : wr.cell? ⟨gb341, 0, none⟩ = some (.slice A0_0 l0_0.length c0_0) := (blk_cell BK341.out 0).trans rfl
                      have hcz18_1 : wr.cell? ⟨gb341, 1, none⟩ = some (.int .i64 a0_1) := (blk_cell BK341.out 1).trans rfl
                      have hcz18_2 : wr.cell? ⟨gb341, 2, none⟩ = some (.slice A0_2 l0_2.length c0_2) := (blk_cell BK341.out 2).trans rfl
                      have hcz18_3 : wr.cell? ⟨gb341, 3, none⟩ = some (.int .i64 a0_3) := (blk_cell BK341.out 3).trans rfl
                      have hfz18_0 := blk_frozen BK341.out 0
                      have hfz18_1 := blk_frozen BK341.out 1
                      have hfz18_2 := blk_frozen BK341.out 2
                      have hfz18_3 := blk_frozen BK341.out 3
                      have p345 : 0 ≤ (x5_1 : Int) := of_decide_eq_true (by first | (with_reducible assumption) | assumption)
                      have q345 : x5_1 < (l0_0.length : Int) := of_decide_eq_true (by first | (with_reducible assumption) | assumption)
                      obtain ⟨ad345, A345_1, c345_1, e345, hx345_0, hx345_1, hl345_1, hi345_1⟩ := at_T55 HR0_0.out x5_1 p345 q345
                      cases e345
                      replace hx345_0 := (HB.out.cell (World.block_lt_of_cell? w _ hx345_0)).trans hx345_0
                      replace hx345_1 := (HB.out.cell (World.block_lt_of_cell? w _ hx345_1)).trans hx345_1
                      have HR345_1 := Aside0.mk hi345_1
                      have HC345_1 := Aside0.mk hl345_1
                      clear hi345_1 hl345_1
                      replace p345 := eq_true p345
                      replace q345 := eq_true q345
                      try go_wp2
                      have n0_ := Aside0.mk (Kd.R_drew HO_6.out)
                      have n1_ := Aside0.mk (blk_drew BK341.out)
                      have n2_ := Aside0.mk (below_drew1 HB.out)
                      clear HO_6
                      clear BK341
                      clear HB
                      have HO_6 := n0_
                      have BK341 := n1_
                      have HB := n2_
                      clear n0_ n1_ n2_
                      have p346 : 0 ≤ (x5_1 : Int) := of_decide_eq_true (by first | (with_reducible assumption) | assumption)
                      have q346 : x5_1 < (l0_0.length : Int) := of_decide_eq_true (by first | (with_reducible assumption) | assumption)
                      obtain ⟨ad346, A346_1, c346_1, e346, hx346_0, hx346_1, hl346_1, hi346_1⟩ := at_T55 HR0_0.out x5_1 p346 q346
                      have hw346_1 := hx346_1
                      have hw346_0 := hx346_0
                      obtain rfl : ad345 = ad346 := (by injection e346)
                      replace hx346_0 := (HB.out.cell (World.block_lt_of_cell? w _ hx346_0)).trans hx346_0
                      replace hx346_1 := (HB.out.cell (World.block_lt_of_cell? w _ hx346_1)).trans hx346_1
                      have HR346_1 := Aside0.mk hi346_1
                      have HC346_1 := Aside0.mk hl346_1
                      clear hi346_1 hl346_1
                      replace p346 := eq_true p346
                      replace q346 := eq_true q346
                      have p351 : 0 ≤ ((ji14) : Int) := of_decide_eq_true (by first | (with_reducible assumption) | assumption)
                      have q351 : (ji14) < (((rd_T55 l0_0 x5_1).f1).length : Int) := of_decide_eq_true (by first | (with_reducible assumption) | assumption)
                      obtain ⟨ad351, e351, hx351_0⟩ := Kd.at_int HR345_1.out (ji14) p351 q351
                      have hw351_0 := hx351_0
                      cases e351
                      replace hx351_0 := (HB.out.cell (World.block_lt_of_cell? w _ hx351_0)).trans hx351_0
                      replace p351 := eq_true p351
                      replace q351 := eq_true q351
                      refine start_ (n := 18) (S := fun w' => w'.cell? ⟨gb341, 0, none⟩ = some (.slice (some ad345) l0_0.length c0_0) ∧ w'.cell? ⟨gb341, 1, none⟩ = some (.int .i64 a0_1) ∧ w'.cell? ⟨gb341, 2, none⟩ = some (.slice A0_2 l0_2.length c0_2) ∧ w'.cell? ⟨gb341, 3, none⟩ = some (.int .i64 a0_3) ∧ w'.cell? (ad345.add ((x5_1).toNat * 2)) = some (.bool ((rd_T55 l0_0 x5_1).f0)) ∧ w'.cell? ⟨(ad345.add ((x5_1).toNat * 2)).block, (ad345.add ((x5_1).toNat * 2)).off + 1, none⟩ = some (.slice A346_1 ((rd_T55 l0_0 x5_1).f1).length c346_1) ∧ w'.cell? (ad351.add ((ji14)).toNat) = some (.int .i64 (rd ((rd_T55 l0_0 x5_1).f1) (ji14)))) (ds := []) #[false, false, false, false, false, false, false, false, false, false, false, false, false, false, false, false, false, false] (by kernel_rfl) rfl rfl ⟨(blk_cell BK341.out 0).trans rfl, (blk_cell BK341.out 1).trans rfl, (blk_cell BK341.out 2).trans rfl, (blk_cell BK341.out 3).trans rfl, ((HB.out.cell (World.block_lt_of_cell? w _ hw346_0)).trans hw346_0), ((HB.out.cell (World.block_lt_of_cell? w _ hw346_1)).trans hw346_1), ((HB.out.cell (World.block_lt_of_cell? w _ hw351_0)).trans hw351_0)⟩ (fun hHeld => ?_); refine with_tabW skolemref35_played.tab8 skolemref35_played.bits8 (fun HT_ HW_ => ?_)
                      generalize wr.drew = w19 at HO_6 BK341 HB HR346_1 hx346_0 hx346_1 hx351_0 hHeld ⊢
                      refine pure_ (i := 0) (N := some 28) (v := ?_) (a' := ?_) #[true, false, false, false, false, false, false, false, false, false, false, false, false, false, false, false, false, false] rfl rfl (any_of HT_.out (by kernel_rfl)) (fun _ _ _ h => h) (Or.inl ⟨by rfl, ?_⟩) ?_ ?_
                      rotate_left
                      · intro w'
                        go_simp
                        with_reducible rfl
                      rotate_left
                      · simp only [Act.put, List.setIfInBounds_toArray, List.set_cons_zero, List.set_cons_succ, i64_w, i32_w]
                        rfl
                      refine pure_ (i := 2) (N := some 30) (v := ?_) (a' := ?_) #[true, false, true, false, false, false, false, false, false, false, false, false, false, false, false, false, false, false] rfl rfl (any_of HT_.out (by kernel_rfl)) (fun _ _ _ h => h) (Or.inl ⟨by rfl, ?_⟩) ?_ ?_
                      rotate_left
                      · intro w'
                        go_simp
                        with_reducible rfl
                      rotate_left
                      · simp only [Act.put, List.setIfInBounds_toArray, List.set_cons_zero, List.set_cons_succ, i64_w, i32_w]
                        rfl
                      refine pure_ (i := 3) (N := some 31) (v := ?_) (a' := ?_) #[true, false, true, true, false, false, false, false, false, false, false, false, false, false, false, false, false, false] rfl rfl (any_of HT_.out (by kernel_rfl)) (fun _ _ _ h => h) (Or.inl ⟨by rfl, ?_⟩) ?_ ?_
                      rotate_left
                      · intro w'
                        go_simp
                        with_reducible rfl
                      rotate_left
                      · simp only [Act.put, List.setIfInBounds_toArray, List.set_cons_zero, List.set_cons_succ, i64_w, i32_w]
                        rfl
                      refine pure_ (i := 5) (N := some 33) (v := ?_) (a' := ?_) #[true, false, true, true, false, true, false, false, false, false, false, false, false, false, false, false, false, false] rfl rfl (any_of HT_.out (by kernel_rfl)) (fun _ _ _ h => h) (Or.inl ⟨by rfl, ?_⟩) ?_ ?_
                      rotate_left
                      · intro w'
                        go_simp
                        with_reducible rfl
                      rotate_left
                      · simp only [Act.put, List.setIfInBounds_toArray, List.set_cons_zero, List.set_cons_succ, i64_w, i32_w]
                        rfl
                      refine pure_ (i := 10) (N := some 38) (v := ?_) (a' := ?_) #[true, false, true, true, false, true, false, false, false, false, true, false, false, false, false, false, false, false] rfl rfl (any_of HT_.out (by kernel_rfl)) (fun _ _ _ h => h) (Or.inl ⟨by rfl, ?_⟩) ?_ ?_
                      rotate_left
                      · intro w'
                        go_simp
                        with_reducible rfl
                      rotate_left
                      · simp only [Act.put, List.setIfInBounds_toArray, List.set_cons_zero, List.set_cons_succ, i64_w, i32_w]
                        rfl
                      refine pure_ (i := 12) (N := some 40) (v := ?_) (a' := ?_) #[true, false, true, true, false, true, false, false, false, false, true, false, true, false, false, false, false, false] rfl rfl (any_of HT_.out (by kernel_rfl)) (fun _ _ _ h => h) (Or.inl ⟨by rfl, ?_⟩) ?_ ?_
                      rotate_left
                      · intro w'
                        go_simp
                        with_reducible rfl
                      rotate_left
                      · simp only [Act.put, List.setIfInBounds_toArray, List.set_cons_zero, List.set_cons_succ, i64_w, i32_w]
                        rfl
                      refine pure_ (i := 13) (N := some 41) (v := ?_) (a' := ?_) #[true, false, true, true, false, true, false, false, false, false, true, false, true, true, false, false, false, false] rfl rfl (any_of HT_.out (by kernel_rfl)) (fun _ _ _ h => h) (Or.inl ⟨by rfl, ?_⟩) ?_ ?_
                      rotate_left
                      · intro w'
                        go_simp
                        with_reducible rfl
                      rotate_left
                      · simp only [Act.put, List.setIfInBounds_toArray, List.set_cons_zero, List.set_cons_succ, i64_w, i32_w]
                        rfl
                      refine take_ (i := 1) (N := some 29) (v := ?_) (a' := ?_) #[true, true, true, true, false, true, false, false, false, false, true, false, true, true, false, false, false, false] rfl rfl (take_ofW HT_.out HW_.out (by kernel_rfl)) (fun _ _ _ h => h) (Or.inl ⟨by rfl, ?_⟩) hHeld ?_ ?_
                      rotate_left
                      · rintro w' ⟨s0, s1, s2, s3, s4, s5, s6⟩
                        go_simp
                        with_reducible rfl
                      rotate_left
                      · simp only [Act.put, List.setIfInBounds_toArray, List.set_cons_zero, List.set_cons_succ, i64_w, i32_w]
                        rfl
                      refine take_ (i := 4) (N := some 32) (v := ?_) (a' := ?_) #[true, true, true, true, true, true, false, false, false, false, true, false, true, true, false, false, false, false] rfl rfl (take_ofW HT_.out HW_.out (by kernel_rfl)) (fun _ _ _ h => h) (Or.inl ⟨by rfl, ?_⟩) hHeld ?_ ?_
                      rotate_left
                      · rintro w' ⟨s0, s1, s2, s3, s4, s5, s6⟩
                        go_simp
                        with_reducible rfl
                      rotate_left
                      · simp only [Act.put, List.setIfInBounds_toArray, List.set_cons_zero, List.set_cons_succ, i64_w, i32_w]
                        rfl
                      refine pure_ (i := 6) (N := some 34) (v := ?_) (a' := ?_) #[true, true, true, true, true, true, true, false, false, false, true, false, true, true, false, false, false, false] rfl rfl (any_of HT_.out (by kernel_rfl)) (fun _ _ _ h => h) (Or.inl ⟨by rfl, ?_⟩) ?_ ?_
                      rotate_left
                      · intro w'
                        go_simp
                        with_reducible rfl
                      rotate_left
                      · simp only [Act.put, List.setIfInBounds_toArray, List.set_cons_zero, List.set_cons_succ, i64_w, i32_w]
                        rfl
                      refine pure_ (i := 7) (N := some 35) (v := ?_) (a' := ?_) #[true, true, true, true, true, true, true, true, false, false, true, false, true, true, false, false, false, false] rfl rfl (any_of HT_.out (by kernel_rfl)) (fun _ _ _ h => h) (Or.inl ⟨by rfl, ?_⟩) ?_ ?_
                      rotate_left
                      · intro w'
                        go_simp
                        with_reducible rfl
                      rotate_left
                      · simp only [Act.put, List.setIfInBounds_toArray, List.set_cons_zero, List.set_cons_succ, i64_w, i32_w]
                        rfl
                      refine take_ (i := 8) (N := some 36) (v := ?_) (a' := ?_) #[true, true, true, true, true, true, true, true, true, false, true, false, true, true, false, false, false, false] rfl rfl (take_ofW HT_.out HW_.out (by kernel_rfl)) (fun _ _ _ h => h) (Or.inl ⟨by rfl, ?_⟩) hHeld ?_ ?_
                      rotate_left
                      · rintro w' ⟨s0, s1, s2, s3, s4, s5, s6⟩
                        go_simp
                        with_reducible rfl
                      rotate_left
                      · simp only [Act.put, List.setIfInBounds_toArray, List.set_cons_zero, List.set_cons_succ, i64_w, i32_w]
                        rfl
                      refine one_ (i := 9) (N := some 37) #[true, true, true, true, true, true, true, true, true, true, true, false, true, true, false, false, false, false] rfl rfl (one_of HT_.out (by kernel_rfl)) (by decide) (fun K hK => ?_)
                      refine goes_ Try.func35 (by kernel_rfl) rfl #[.agg #[.slice (some ad345) l0_0.length c0_0, .int .i64 a0_1, .slice A0_2 l0_2.length c0_2, .int .i64 a0_3], .int .i64 x7_1, .bool ((rd_T55 l0_0 x5_1).f0)] (by rfl) rfl rfl (by (try simp only [List.map_toArray, List.map_cons, List.map_nil]); first | done | rfl | (simp only [List.length_drop, List.length_take]; rfl)) ?_
                      with_reducible refine (skolemref35_choice.calls k1 _ _ l0_0 a0_1 _ _ l0_2 a0_3 x7_1 ((rd_T55 l0_0 x5_1).f0) t347 _ ?side1 ?side2 ?side3 ?side4 A11.out).mono ?_
                      (case side1 => repeat (first | exact (Kd.C_below HR0_0.out HB.out) | (with_reducible refine Kd.C_alloc ?_ _) | (with_reducible refine Kd.C_drewN ?_ _) | (with_reducible refine Kd.C_drew ?_)))
                      (case side2 => exact HC0_0.out)
                      (case side3 => repeat (first | exact (Kd.C_below HR0_2.out HB.out) | (with_reducible refine Kd.C_alloc ?_ _) | (with_reducible refine Kd.C_drewN ?_ _) | (with_reducible refine Kd.C_drew ?_)))
                      (case side4 => exact HC0_2.out)
                      rintro e w20 ⟨v348, rfl, ho0, hb⟩
                      refine ⟨_, rfl, ?_⟩
                      have n0_ := Aside0.mk (Kd.R_elder' (by (with_reducible repeat (first | apply Kd.R_alloc | apply Kd.R_drewN | apply Kd.R_drew)); exact HO_6.out) (Kd.R_base ho0) hb)
                      have n1_ := Aside0.mk (Kd.R_lower (Kd.R_new' ho0 (Kd.R_lt (by (with_reducible repeat (first | apply Kd.R_alloc | apply Kd.R_drewN | apply Kd.R_drew)); exact HO_6.out))) (below_size (by repeat (first | (with_reducible first | exact HB.out | apply below_alloc | apply pw_below_drewN | apply below_drew1 | refine below_set ?_ GE341.out) | exact HB.out))))
                      have n2_ := Aside0.mk (blk_below (g := gb341) (o := .cells #[.slice (some ad345) l0_0.length c0_0, .int .i64 a0_1, .slice A0_2 l0_2.length c0_2, .int .i64 a0_3] 25 (0, 0)) (by (with_reducible repeat (first | refine blk_drewN ?_ _ | refine blk_drew ?_ | refine blk_alloc ?_ _)); exact BK341.out) hb)
                      have n3_ := Aside0.mk (below_step (by repeat (first | (with_reducible first | exact HB.out | apply below_alloc | apply pw_below_drewN | apply below_drew1 | refine below_set ?_ GE341.out) | exact HB.out)) hb)
                      clear HO_6
                      clear BK341
                      clear HB
                      have HO_6 := n0_
                      have HO349 := n1_
                      have BK341 := n2_
                      have HB := n3_
                      clear n0_ n1_ n2_ n3_
                      (try clear hb)
                      (try clear hb2)
                      (try clear hk)
                      (try clear hi)
                      (try clear ho0)
                      obtain ⟨Ao21, co21, eo21⟩ := Kd.R_slice HO349.out
                      (first | subst eo21 | (injection eo21 with f1_ f2_ f3_; have f4_ := f1_.symm; have f5_ := f3_.symm; clear f1_ f2_ f3_; subst f4_; subst f5_))
                      refine hK.out _ _ ⟨(blk_cell BK341.out 0).trans rfl, (blk_cell BK341.out 1).trans rfl, (blk_cell BK341.out 2).trans rfl, (blk_cell BK341.out 3).trans rfl, ((HB.out.cell (World.block_lt_of_cell? w _ hw346_0)).trans hw346_0), ((HB.out.cell (World.block_lt_of_cell? w _ hw346_1)).trans hw346_1), ((HB.out.cell (World.block_lt_of_cell? w _ hw351_0)).trans hw351_0)⟩ (fun hHeld => ?_)
                      clear hK K
                      refine norm_ (a' := ?_) ?_ ?_
                      rotate_left
                      · show Act.put _ (some 37) _ = _
                        simp only [Act.put, List.setIfInBounds_toArray, List.set_cons_zero, List.set_cons_succ, i64_w, i32_w]
                        rfl
                      refine one_ (i := 11) (N := some 39) #[true, true, true, true, true, true, true, true, true, true, true, true, true, true, false, false, false, false] rfl rfl (one_of HT_.out (by kernel_rfl)) (by decide) (fun K hK => ?_)
                      refine goes_ Try.func69 (by kernel_rfl) rfl #[.slice Ao21 t347.length co21, .slice A1 l1.length c1] (by rfl) rfl rfl (by (try simp only [List.map_toArray, List.map_cons, List.map_nil]); first | done | rfl | (simp only [List.length_drop, List.length_take]; rfl)) ?_
                      with_reducible refine (skolemref35_number.calls k1 _ _ t347 _ _ l1 t350 _ ?side1 ?side2 ?side3 ?side4 A12.out).mono ?_
                      (case side1 => repeat (first | exact (Kd.R_reads' HO349.out).2.2 | (with_reducible refine Kd.C_alloc ?_ _) | (with_reducible refine Kd.C_drewN ?_ _) | (with_reducible refine Kd.C_drew ?_)))
                      (case side2 => exact (Kd.R_reads' HO349.out).2.1)
                      (case side3 => repeat (first | exact (Kd.C_below HR1.out HB.out) | (with_reducible refine Kd.C_alloc ?_ _) | (with_reducible refine Kd.C_drewN ?_ _) | (with_reducible refine Kd.C_drew ?_)))
                      (case side4 => exact HC1.out)
                      rintro e w' ⟨rfl, ⟨nd, rfl⟩⟩
                      refine ⟨_, rfl, ?_⟩
                      refine hK.out _ _ ⟨(blk_cell BK341.out 0).trans rfl, (blk_cell BK341.out 1).trans rfl, (blk_cell BK341.out 2).trans rfl, (blk_cell BK341.out 3).trans rfl, ((HB.out.cell (World.block_lt_of_cell? w _ hw346_0)).trans hw346_0), ((HB.out.cell (World.block_lt_of_cell? w _ hw346_1)).trans hw346_1), ((HB.out.cell (World.block_lt_of_cell? w _ hw351_0)).trans hw351_0)⟩ (fun hHeld => ?_)
                      clear hK K
                      refine norm_ (a' := ?_) ?_ ?_
                      rotate_left
                      · show Act.put _ (some 39) _ = _
                        simp only [Act.put, List.setIfInBounds_toArray, List.set_cons_zero, List.set_cons_succ, i64_w, i32_w]
                        rfl
                      refine pure_ (i := 14) (N := some 42) (v := ?_) (a' := ?_) #[true, true, true, true, true, true, true, true, true, true, true, true, true, true, true, false, false, false] rfl rfl (any_of HT_.out (by kernel_rfl)) (fun _ _ _ h => h) (Or.inl ⟨by rfl, ?_⟩) ?_ ?_
                      rotate_left
                      · intro w'
                        go_simp
                        with_reducible rfl
                      rotate_left
                      · simp only [Act.put, List.setIfInBounds_toArray, List.set_cons_zero, List.set_cons_succ, i64_w, i32_w]
                        rfl
                      refine pure_ (i := 15) (N := some 43) (v := ?_) (a' := ?_) #[true, true, true, true, true, true, true, true, true, true, true, true, true, true, true, true, false, false] rfl rfl (any_of HT_.out (by kernel_rfl)) (fun _ _ _ h => h) (Or.inl ⟨by rfl, ?_⟩) ?_ ?_
                      rotate_left
                      · intro w'
                        go_simp
                        with_reducible rfl
                      rotate_left
                      · simp only [Act.put, List.setIfInBounds_toArray, List.set_cons_zero, List.set_cons_succ, i64_w, i32_w]
                        rfl
                      refine take_ (i := 16) (N := some 44) (v := ?_) (a' := ?_) #[true, true, true, true, true, true, true, true, true, true, true, true, true, true, true, true, true, false] rfl rfl (take_ofW HT_.out HW_.out (by kernel_rfl)) (fun _ _ _ h => h) (Or.inl ⟨by rfl, ?_⟩) hHeld ?_ ?_
                      rotate_left
                      · rintro w' ⟨s0, s1, s2, s3, s4, s5, s6⟩
                        go_simp
                        with_reducible rfl
                      rotate_left
                      · simp only [Act.put, List.setIfInBounds_toArray, List.set_cons_zero, List.set_cons_succ, i64_w, i32_w]
                        rfl
                      refine pure_ (i := 17) (N := some 5) (v := ?_) (a' := ?_) #[true, true, true, true, true, true, true, true, true, true, true, true, true, true, true, true, true, true] rfl rfl (any_of HT_.out (by kernel_rfl)) (fun _ _ _ h => h) (Or.inl ⟨by rfl, ?_⟩) ?_ ?_
                      rotate_left
                      · intro w'
                        go_simp
                        with_reducible rfl
                      rotate_left
                      · simp only [Act.put, List.setIfInBounds_toArray, List.set_cons_zero, List.set_cons_succ, i64_w, i32_w]
                        rfl
                      refine done_ (done_of HT_.out (by kernel_rfl)) ?_
                      try go_wp2_with (first | ((with_reducible refine gate_builtin (b := .append) (xs := #[.tmp 45, .tmp 47]) rfl ?_); at_builtin; refine Kd.R_append (Kd.int .i64) (w0 := w) w.heap.size rfl (.tmp 45) (.tmp 47) 23 3 (.int .i64 0) 8 rfl Try.underlying23 info3 rfl (by decide) (by omega) u6 x6_1 (rd ((rd_T55 l0_0 x5_1).f1) (ji14)) [.int .i64 (rd ((rd_T55 l0_0 x5_1).f1) (ji14))] (fun k_ => some k_ ≠ (.slice Ao21 t347.length co21 : Value).ownBlock) (fun _ => False) rfl rfl ?aP (fun _ hk => hk.elim) ?aF ?aO ?aB ?aS ?aL ?_; (case aP => exact rfl); (case aB => exact (by repeat (first | (with_reducible first | exact HB.out | apply below_alloc | apply pw_below_drewN | apply below_drew1 | refine below_set ?_ GE341.out) | exact HB.out))); (case aF => exact (fun k_ hk => Kd.fresh' (Kd.R_lt (by (with_reducible repeat (first | apply Kd.R_alloc | apply Kd.R_drewN | apply Kd.R_drew)); exact HO349.out)) k_ hk)); (case aO => exact (by (with_reducible repeat (first | apply Kd.R_alloc | apply Kd.R_drewN | apply Kd.R_drew)); exact Kd.R_mono HO_6.out (fun _ hk => hk.2))); (case aS => exact (below_size (by repeat (first | (with_reducible first | exact HB.out | apply below_alloc | apply pw_below_drewN | apply below_drew1 | refine below_set ?_ GE341.out) | exact HB.out)))); (case aL => have := LMc17.out; omega); intro v353 w22 ho hb hg hat; rw [← Ny352.out] at ho; have n0_ := Aside0.mk (blk_grown (g := gb341) (o := .cells #[.slice (some ad345) l0_0.length c0_0, .int .i64 a0_1, .slice A0_2 l0_2.length c0_2, .int .i64 a0_3] 25 (0, 0)) (by (with_reducible repeat (first | refine blk_drewN ?_ _ | refine blk_drew ?_ | refine blk_alloc ?_ _)); exact BK341.out) hg (Kd.R_ne HO_6.out BK341.out (by decide))); have n1_ := Aside0.mk (Kd.R_after (ok := (fun _ => True)) (by (with_reducible repeat (first | apply Kd.R_alloc | apply Kd.R_drewN | apply Kd.R_drew)); exact HO349.out) hg hat); have n2_ := Aside0.mk (hb); have n3_ := Aside0.mk (ho); clear BK341; clear HO349; clear HB; clear HO_6; have BK341 := n0_; have HO349 := n1_; have HB := n2_; have HO354 := n3_; clear n0_ n1_ n2_ n3_; clear ho hb hg hat))
                      go_roundg k1
                      case measure => have := HK1.out; omega
                      case rel => exact ⟨(rd ((rd_T55 l0_0 x5_1).f1) (ji14)), (y352), (wrap64 (x7_1 + 1)), (by first | rfl | (simp; done) | (simp only [← hji14] <;> (first | rfl | simp)) | (simp [*]; done)), (by first | rfl | (simp; done) | (simp [*]; done)), H', ⟨by have := HK1.out; omega⟩, ⟨by (with_reducible repeat (first | apply Kd.R_alloc | apply Kd.R_drewN | apply Kd.R_drew)); exact Kd.R_mono HO354.out (fun _ hk => trivial)⟩, ⟨by (with_reducible repeat (first | refine blk_drewN ?_ _ | refine blk_drew ?_ | refine blk_alloc ?_ _)); exact BK341.out⟩, ⟨by repeat (first | (with_reducible first | exact HB.out | apply below_alloc | apply pw_below_drewN | apply below_drew1 | refine below_set ?_ GE341.out) | exact HB.out)⟩⟩
                    · rw [if_neg c17] at H
                      exact absurd H (by simp)
                  · rw [if_neg c16] at H
                    exact absurd H (by simp)
                · rw [if_neg c15] at H
                  exact absurd H (by simp)
            · rw [if_neg c10] at H
              have c10b0 : decide (0 < (((rd_T55 l0_0 x5_1).f1).length : Int)) = false := decide_eq_false c10
              have c10b1 : decide (0 < ((rd_T55 l0_0 x5_1).f1).length) = false := decide_eq_false (by omega)
              clear c10
              by_cases c23 : x6_1.length < 17592186044416
              · rw [if_pos c23] at H
                have LMc23 := Aside0.mk c23
                clear c23
                obtain ⟨y355, hy355⟩ : ∃ y_ : List Int, y_ = (x6_1 ++ [x5_1]) := ⟨_, rfl⟩
                replace H : (skolemref35_played.l0 k1 l1 x5_1 y355 (wrap64 (x7_1 + 1)) l0_0 a0_1 l0_2 a0_3) = some r := by first | (rw [hy355]; with_reducible exact H) | (have H2_ := (Option.bind_some _ _).symm.trans H; rw [hy355]; with_reducible exact H2_) | (have H2_ := (Option.bind_some _ _).symm.trans H; with_reducible exact H2_) | with_reducible exact H | (rw [hy355]; exact H) | exact H
                have Ny355 := Aside0.mk hy355
                clear hy355
                have H' := Aside0.mk H
                clear H
                have hcz24_0 : wr.cell? ⟨gb341, 0, none⟩ = some (.slice A0_0 l0_0.length c0_0) := (blk_cell BK341.out 0).trans rfl
                have hcz24_1 : wr.cell? ⟨gb341, 1, none⟩ = some (.int .i64 a0_1) := (blk_cell BK341.out 1).trans rfl
                have hcz24_2 : wr.cell? ⟨gb341, 2, none⟩ = some (.slice A0_2 l0_2.length c0_2) := (blk_cell BK341.out 2).trans rfl
                have hcz24_3 : wr.cell? ⟨gb341, 3, none⟩ = some (.int .i64 a0_3) := (blk_cell BK341.out 3).trans rfl
                have hfz24_0 := blk_frozen BK341.out 0
                have hfz24_1 := blk_frozen BK341.out 1
                have hfz24_2 := blk_frozen BK341.out 2
                have hfz24_3 := blk_frozen BK341.out 3
                have p345 : 0 ≤ (x5_1 : Int) := of_decide_eq_true (by first | (with_reducible assumption) | assumption)
                have q345 : x5_1 < (l0_0.length : Int) := of_decide_eq_true (by first | (with_reducible assumption) | assumption)
                obtain ⟨ad345, A345_1, c345_1, e345, hx345_0, hx345_1, hl345_1, hi345_1⟩ := at_T55 HR0_0.out x5_1 p345 q345
                cases e345
                replace hx345_0 := (HB.out.cell (World.block_lt_of_cell? w _ hx345_0)).trans hx345_0
                replace hx345_1 := (HB.out.cell (World.block_lt_of_cell? w _ hx345_1)).trans hx345_1
                have HR345_1 := Aside0.mk hi345_1
                have HC345_1 := Aside0.mk hl345_1
                clear hi345_1 hl345_1
                replace p345 := eq_true p345
                replace q345 := eq_true q345
                go_wp2_with (first | ((with_reducible refine gate_builtin (b := .append) (xs := #[.tmp 45, .tmp 47]) rfl ?_); at_builtin; refine Kd.R_append (Kd.int .i64) (w0 := w) w.heap.size rfl (.tmp 45) (.tmp 47) 23 3 (.int .i64 0) 8 rfl Try.underlying23 info3 rfl (by decide) (by omega) u6 x6_1 x5_1 [.int .i64 x5_1] (fun _ => True) (fun _ => False) rfl rfl ?aP (fun _ hk => hk.elim) ?aF ?aO ?aB ?aS ?aL ?_; (case aP => exact rfl); (case aB => exact (by repeat (first | (with_reducible first | exact HB.out | apply below_alloc | apply pw_below_drewN | apply below_drew1 | refine below_set ?_ GE341.out) | exact HB.out))); (case aF => exact (fun _ _ => trivial)); (case aO => exact (by (with_reducible repeat (first | apply Kd.R_alloc | apply Kd.R_drewN | apply Kd.R_drew)); exact HO_6.out)); (case aS => exact (below_size (by repeat (first | (with_reducible first | exact HB.out | apply below_alloc | apply pw_below_drewN | apply below_drew1 | refine below_set ?_ GE341.out) | exact HB.out)))); (case aL => have := LMc23.out; omega); intro v356 w25 ho hb hg hat; rw [← Ny355.out] at ho; have n0_ := Aside0.mk (blk_grown (g := gb341) (o := .cells #[.slice (some ad345) l0_0.length c0_0, .int .i64 a0_1, .slice A0_2 l0_2.length c0_2, .int .i64 a0_3] 25 (0, 0)) (by (with_reducible repeat (first | refine blk_drewN ?_ _ | refine blk_drew ?_ | refine blk_alloc ?_ _)); exact BK341.out) hg (Kd.R_ne HO_6.out BK341.out (by decide))); have n1_ := Aside0.mk (hb); have n2_ := Aside0.mk (ho); clear BK341; clear HB; clear HO_6; have BK341 := n0_; have HB := n1_; have HO357 := n2_; clear n0_ n1_ n2_; clear ho hb hg hat))
                go_roundg k1
                case measure => have := HK1.out; omega
                case rel => exact ⟨(x5_1), (y355), (wrap64 (x7_1 + 1)), (by first | rfl | (simp; done) | (simp [*]; done)), (by first | rfl | (simp; done) | (simp [*]; done)), H', ⟨by have := HK1.out; omega⟩, ⟨by (with_reducible repeat (first | apply Kd.R_alloc | apply Kd.R_drewN | apply Kd.R_drew)); exact HO357.out⟩, ⟨by (with_reducible repeat (first | refine blk_drewN ?_ _ | refine blk_drew ?_ | refine blk_alloc ?_ _)); exact BK341.out⟩, ⟨by repeat (first | (with_reducible first | exact HB.out | apply below_alloc | apply pw_below_drewN | apply below_drew1 | refine below_set ?_ GE341.out) | exact HB.out)⟩⟩
              · rw [if_neg c23] at H
                exact absurd H (by simp)
          · rw [if_neg c9] at H
            exact absurd H (by simp)
        · rw [if_neg c8] at H
          exact absurd H (by simp)
      · rw [if_neg c7] at H
        have c7b0 : decide (x7_1 ≤ a0_3) = false := decide_eq_false c7
        clear c7
        obtain rfl := Option.some.inj H
        have hcz26_0 : wr.cell? ⟨gb341, 0, none⟩ = some (.slice A0_0 l0_0.length c0_0) := (blk_cell BK341.out 0).trans rfl
        have hcz26_1 : wr.cell? ⟨gb341, 1, none⟩ = some (.int .i64 a0_1) := (blk_cell BK341.out 1).trans rfl
        have hcz26_2 : wr.cell? ⟨gb341, 2, none⟩ = some (.slice A0_2 l0_2.length c0_2) := (blk_cell BK341.out 2).trans rfl
        have hcz26_3 : wr.cell? ⟨gb341, 3, none⟩ = some (.int .i64 a0_3) := (blk_cell BK341.out 3).trans rfl
        have hfz26_0 := blk_frozen BK341.out 0
        have hfz26_1 := blk_frozen BK341.out 1
        have hfz26_2 := blk_frozen BK341.out 2
        have hfz26_3 := blk_frozen BK341.out 3
        go_wp2
        go_ret
        exact ⟨_, by first | rfl | (simp [errW_none, errW_some] <;> rfl) | (simp [*, errW_none, errW_some] <;> rfl), by (with_reducible repeat (first | apply Kd.R_alloc | apply Kd.R_drewN | apply Kd.R_drew)); exact HO_6.out, by repeat (first | (with_reducible first | exact HB.out | apply below_alloc | apply pw_below_drewN | apply below_drew1 | refine below_set ?_ GE341.out) | exact HB.out)⟩

end Go.Proofs.Ytjlehbncpjccmaa.Q
namespace Go.Proofs.Ytjlehbncpjccmaa.Q
open Go.RowKit Go.Proofs.YtjlehbncpjccmaaW.PrintWords Go.Proofs.YtjlehbncpjccmaaW.PrintLast Go.Proofs.YtjlehbncpjccmaaW.PrintMore
attribute [local go_sem] max2_int min2_int max_two min_two max_three min_three max_four min_four   -- for this text's walks alone
set_option linter.unusedVariables false
set_option linter.unusedSimpArgs false

/-! ### skolemref35_Play: function 23 -/
def skolemref35_Play.f (k : Nat) (l0_0 : List (S55)) (a0_1 : Int) (l0_2 : List Int) (a0_3 : Int) (l1 : List Int) : Option (List Int × Int) := (skolemref35_May.f k l0_0 a0_1 l0_2 a0_3).bind fun t359 => (if t359 = true then ((skolemref05_Normal.f k l1).bind fun t360 => (if t360 = true then ((skolemref35_played.f k l0_0 a0_1 l0_2 a0_3 l1).bind fun t361 => (some (t361, 0))) else (some (([] : List Int), 2)))) else (some (([] : List Int), 2)))
theorem skolemref35_Play.mono : ∀ a0 a1 a2 a3 a4 k, LeO (skolemref35_Play.f k a0 a1 a2 a3 a4) (skolemref35_Play.f (k + 1) a0 a1 a2 a3 a4) := by
  intro a0 a1 a2 a3 a4 k
  unfold skolemref35_Play.f
  repeat' first
      | (with_reducible exact skolemref05_Normal.mono _ _)
      | (with_reducible exact skolemref35_May.mono _ _ _ _ _)
      | (with_reducible exact skolemref35_played.mono _ _ _ _ _ _)
      | (with_reducible exact LeO.refl _)
      | (with_reducible exact LeO.none _)
      | (with_reducible refine LeO.ite ?_ ?_)
      | (with_reducible refine LeO.bind ?_ (fun _ => ?_))
      | exact skolemref05_Normal.mono _ _
      | exact skolemref35_May.mono _ _ _ _ _
      | exact skolemref35_played.mono _ _ _ _ _ _
      | exact LeO.none _
      | refine LeO.ite ?_ ?_
      | refine LeO.bind ?_ (fun _ => ?_)
set_option maxHeartbeats 8000000 in
set_option maxRecDepth 100000 in
theorem skolemref35_Play.calls (k : Nat) (A0_0 : Option Addr) (c0_0 : Nat) (l0_0 : List (S55)) (a0_1 : Int) (A0_2 : Option Addr) (c0_2 : Nat) (l0_2 : List Int) (a0_3 : Int) (A1 : Option Addr) (c1 : Nat) (l1 : List Int) (r1 : List Int) (r2 : Int) (w : World) (hr0_0 : Kd.C k55 w A0_0 l0_0.length l0_0) (hc0_0 : l0_0.length ≤ c0_0) (hr0_2 : Kd.C (Kd.int .i64) w A0_2 l0_2.length l0_2) (hc0_2 : l0_2.length ≤ c0_2) (hr1 : Kd.C (Kd.int .i64) w A1 l1.length l1) (hc1 : l1.length ≤ c1) (h : skolemref35_Play.f k l0_0 a0_1 l0_2 a0_3 l1 = some (r1, r2)) :
    Calls Try.prog 23 #[.agg #[.slice A0_0 l0_0.length c0_0, .int .i64 a0_1, .slice A0_2 l0_2.length c0_2, .int .i64 a0_3], .slice A1 l1.length c1] w fun e w' => ∃ v0_ : Value, e = .returned (.tuple #[v0_, .int .i64 r2]) ∧ Kd.R (Kd.int .i64) 3 w' w.heap.size (fun _ => True) v0_ r1 ∧ Below w.heap.size w w' := by
  have hu25 := Try.underlying25
  have HR0_0 := Aside0.mk hr0_0
  have HC0_0 := Aside0.mk hc0_0
  clear hr0_0 hc0_0
  have HR0_2 := Aside0.mk hr0_2
  have HC0_2 := Aside0.mk hc0_2
  clear hr0_2 hc0_2
  have HR1 := Aside0.mk hr1
  have HC1 := Aside0.mk hc1
  clear hr1 hc1
  have HB := Aside0.mk (Below.refl w.heap.size w)
  have H : ((skolemref35_May.f k l0_0 a0_1 l0_2 a0_3).bind fun t359 => (if t359 = true then ((skolemref05_Normal.f k l1).bind fun t360 => (if t360 = true then ((skolemref35_played.f k l0_0 a0_1 l0_2 a0_3 l1).bind fun t361 => (some (t361, 0))) else (some (([] : List Int), 2)))) else (some (([] : List Int), 2)))) = some (r1, r2) := h
  clear h
  replace H := Option.bind_eq_some_iff.mp H
  obtain ⟨t359, A30, H⟩ := H
  replace H : (if t359 = true then ((skolemref05_Normal.f k l1).bind fun t360 => (if t360 = true then ((skolemref35_played.f k l0_0 a0_1 l0_2 a0_3 l1).bind fun t361 => (some (t361, 0))) else (some (([] : List Int), 2)))) else (some (([] : List Int), 2))) = some (r1, r2) := H
  have A3 := Aside0.mk A30
  clear A30
  by_cases c4 : t359 = true
  · subst c4
    have H1 : ((skolemref05_Normal.f k l1).bind fun t360 => (if t360 = true then ((skolemref35_played.f k l0_0 a0_1 l0_2 a0_3 l1).bind fun t361 => (some (t361, 0))) else (some (([] : List Int), 2)))) = some (r1, r2) := by rw [if_pos rfl] at H; exact H
    clear H
    have H := H1
    clear H1
    replace H := Option.bind_eq_some_iff.mp H
    obtain ⟨t360, A50, H⟩ := H
    replace H : (if t360 = true then ((skolemref35_played.f k l0_0 a0_1 l0_2 a0_3 l1).bind fun t361 => (some (t361, 0))) else (some (([] : List Int), 2))) = some (r1, r2) := H
    have A5 := Aside0.mk A50
    clear A50
    by_cases c6 : t360 = true
    · subst c6
      have H1 : ((skolemref35_played.f k l0_0 a0_1 l0_2 a0_3 l1).bind fun t361 => (some (t361, 0))) = some (r1, r2) := by rw [if_pos rfl] at H; exact H
      clear H
      have H := H1
      clear H1
      replace H := Option.bind_eq_some_iff.mp H
      obtain ⟨t361, A70, H⟩ := H
      replace H : (some (t361, 0)) = some (r1, r2) := H
      have A7 := Aside0.mk A70
      clear A70
      simp only [Option.some.injEq, Prod.mk.injEq] at H
      obtain ⟨rfl, rfl⟩ := H
      go_enter Try.func23, Try.ntmps23
      go_wp2_with (first | ((with_reducible refine gate_dst (N := 2) rfl ?_); refine box_event ?hg (N := 2) ?hd (cs := #[.slice A0_0 l0_0.length c0_0, .int .i64 a0_1, .slice A0_2 l0_2.length c0_2, .int .i64 a0_3]) (t := 25) ?hr ?_; (case hd => rfl); (case hg => rfl); (case hr => first | (go_simp; done) | (go_simp; rfl)); intro gb358 hg w8 hbox hb; have n0_ := Aside0.mk (below_step (by repeat (first | (with_reducible first | exact HB.out | apply below_alloc | apply pw_below_drewN | apply below_drew1) | exact HB.out)) hb); have n1_ := Aside0.mk (hbox); have n2_ := Aside0.mk ((by rw [hg]; exact (below_size (by repeat (first | (with_reducible first | exact HB.out | apply below_alloc | apply pw_below_drewN | apply below_drew1) | exact HB.out))) : w.heap.size ≤ gb358)); have n3_ := Aside0.mk ((by rw [hg]; exact (below_size (by repeat (first | (with_reducible first | exact HB.out | apply below_alloc | apply pw_below_drewN | apply below_drew1) | exact HB.out))) : w.heap.size ≤ gb358)); clear HB; have HB := n0_; have BK358 := n1_; have GW358 := n2_; have GE358 := n3_; clear n0_ n1_ n2_ n3_; clear hb hbox hg; have hcz9_0 : w8.cell? ⟨gb358, 0, none⟩ = some (.slice A0_0 l0_0.length c0_0) := (blk_cell BK358.out 0).trans rfl; have hcz9_1 : w8.cell? ⟨gb358, 1, none⟩ = some (.int .i64 a0_1) := (blk_cell BK358.out 1).trans rfl; have hcz9_2 : w8.cell? ⟨gb358, 2, none⟩ = some (.slice A0_2 l0_2.length c0_2) := (blk_cell BK358.out 2).trans rfl; have hcz9_3 : w8.cell? ⟨gb358, 3, none⟩ = some (.int .i64 a0_3) := (blk_cell BK358.out 3).trans rfl; have hfz9_0 := blk_frozen BK358.out 0; have hfz9_1 := blk_frozen BK358.out 1; have hfz9_2 := blk_frozen BK358.out 2; have hfz9_3 := blk_frozen BK358.out 3) | ((with_reducible refine gate_callee (f := 19) rfl ?_); refine goesL_ (some 7) rfl rfl Try.func19 (by kernel_rfl) rfl #[.agg #[.slice A0_0 l0_0.length c0_0, .int .i64 a0_1, .slice A0_2 l0_2.length c0_2, .int .i64 a0_3]] rfl (by (try simp only [List.map_toArray, List.map_cons, List.map_nil]); first | done | rfl | (simp only [List.length_drop, List.length_take]; rfl)) ?_; (with_reducible refine (skolemref35_May.calls k _ _ l0_0 a0_1 _ _ l0_2 a0_3 true _ ?side1 ?side2 ?side3 ?side4 A3.out).mono ?_); (case side1 => repeat (first | exact (Kd.C_below HR0_0.out HB.out) | (with_reducible refine Kd.C_alloc ?_ _) | (with_reducible refine Kd.C_drewN ?_ _) | (with_reducible refine Kd.C_drew ?_))); (case side2 => exact HC0_0.out); (case side3 => repeat (first | exact (Kd.C_below HR0_2.out HB.out) | (with_reducible refine Kd.C_alloc ?_ _) | (with_reducible refine Kd.C_drewN ?_ _) | (with_reducible refine Kd.C_drew ?_))); (case side4 => exact HC0_2.out); rintro e w10 ⟨rfl, hb⟩; refine ⟨_, rfl, ?_⟩; have n0_ := Aside0.mk (blk_below (g := gb358) (o := .cells #[.slice A0_0 l0_0.length c0_0, .int .i64 a0_1, .slice A0_2 l0_2.length c0_2, .int .i64 a0_3] 25 (0, 0)) (by (with_reducible repeat (first | refine blk_drewN ?_ _ | refine blk_drew ?_ | refine blk_alloc ?_ _)); exact BK358.out) hb); have n1_ := Aside0.mk (below_step (by repeat (first | (with_reducible first | exact HB.out | apply below_alloc | apply pw_below_drewN | apply below_drew1 | refine below_set ?_ GE358.out) | exact HB.out)) hb); clear BK358; clear HB; have BK358 := n0_; have HB := n1_; clear n0_ n1_; (try clear hb); (try clear hb2); (try clear hk); (try clear hi)) | (go_at_call 25; (with_reducible refine (skolemref05_Normal.calls k _ _ l1 true _ ?side1 ?side2 A5.out).mono ?_); (case side1 => repeat (first | exact (Kd.C_below HR1.out HB.out) | (with_reducible refine Kd.C_alloc ?_ _) | (with_reducible refine Kd.C_drewN ?_ _) | (with_reducible refine Kd.C_drew ?_))); (case side2 => exact HC1.out); rintro e w11 ⟨rfl, hb⟩; have n0_ := Aside0.mk (blk_below (g := gb358) (o := .cells #[.slice A0_0 l0_0.length c0_0, .int .i64 a0_1, .slice A0_2 l0_2.length c0_2, .int .i64 a0_3] 25 (0, 0)) (by (with_reducible repeat (first | refine blk_drewN ?_ _ | refine blk_drew ?_ | refine blk_alloc ?_ _)); exact BK358.out) hb); have n1_ := Aside0.mk (below_step (by repeat (first | (with_reducible first | exact HB.out | apply below_alloc | apply pw_below_drewN | apply below_drew1 | refine below_set ?_ GE358.out) | exact HB.out)) hb); clear BK358; clear HB; have BK358 := n0_; have HB := n1_; clear n0_ n1_; (try clear hb); (try clear hb2); (try clear hk); (try clear hi); have hcz12_0 : w11.cell? ⟨gb358, 0, none⟩ = some (.slice A0_0 l0_0.length c0_0) := (blk_cell BK358.out 0).trans rfl; have hcz12_1 : w11.cell? ⟨gb358, 1, none⟩ = some (.int .i64 a0_1) := (blk_cell BK358.out 1).trans rfl; have hcz12_2 : w11.cell? ⟨gb358, 2, none⟩ = some (.slice A0_2 l0_2.length c0_2) := (blk_cell BK358.out 2).trans rfl; have hcz12_3 : w11.cell? ⟨gb358, 3, none⟩ = some (.int .i64 a0_3) := (blk_cell BK358.out 3).trans rfl; have hfz12_0 := blk_frozen BK358.out 0; have hfz12_1 := blk_frozen BK358.out 1; have hfz12_2 := blk_frozen BK358.out 2; have hfz12_3 := blk_frozen BK358.out 3) | ((with_reducible refine gate_callee (f := 49) rfl ?_); refine goesL_ (some 16) rfl rfl Try.func49 (by kernel_rfl) rfl #[.agg #[.slice A0_0 l0_0.length c0_0, .int .i64 a0_1, .slice A0_2 l0_2.length c0_2, .int .i64 a0_3], .slice A1 l1.length c1] rfl (by (try simp only [List.map_toArray, List.map_cons, List.map_nil]); first | done | rfl | (simp only [List.length_drop, List.length_take]; rfl)) ?_; (with_reducible refine (skolemref35_played.calls k _ _ l0_0 a0_1 _ _ l0_2 a0_3 _ _ l1 t361 _ ?side1 ?side2 ?side3 ?side4 ?side5 ?side6 A7.out).mono ?_); (case side1 => repeat (first | exact (Kd.C_below HR0_0.out HB.out) | (with_reducible refine Kd.C_alloc ?_ _) | (with_reducible refine Kd.C_drewN ?_ _) | (with_reducible refine Kd.C_drew ?_))); (case side2 => exact HC0_0.out); (case side3 => repeat (first | exact (Kd.C_below HR0_2.out HB.out) | (with_reducible refine Kd.C_alloc ?_ _) | (with_reducible refine Kd.C_drewN ?_ _) | (with_reducible refine Kd.C_drew ?_))); (case side4 => exact HC0_2.out); (case side5 => repeat (first | exact (Kd.C_below HR1.out HB.out) | (with_reducible refine Kd.C_alloc ?_ _) | (with_reducible refine Kd.C_drewN ?_ _) | (with_reducible refine Kd.C_drew ?_))); (case side6 => exact HC1.out); rintro e w13 ⟨v362, rfl, ho0, hb⟩; refine ⟨_, rfl, ?_⟩; have n0_ := Aside0.mk (Kd.R_lower ho0 (below_size (by repeat (first | (with_reducible first | exact HB.out | apply below_alloc | apply pw_below_drewN | apply below_drew1 | refine below_set ?_ GE358.out) | exact HB.out)))); have n1_ := Aside0.mk (blk_below (g := gb358) (o := .cells #[.slice A0_0 l0_0.length c0_0, .int .i64 a0_1, .slice A0_2 l0_2.length c0_2, .int .i64 a0_3] 25 (0, 0)) (by (with_reducible repeat (first | refine blk_drewN ?_ _ | refine blk_drew ?_ | refine blk_alloc ?_ _)); exact BK358.out) hb); have n2_ := Aside0.mk (below_step (by repeat (first | (with_reducible first | exact HB.out | apply below_alloc | apply pw_below_drewN | apply below_drew1 | refine below_set ?_ GE358.out) | exact HB.out)) hb); clear BK358; clear HB; have HO363 := n0_; have BK358 := n1_; have HB := n2_; clear n0_ n1_ n2_; (try clear hb); (try clear hb2); (try clear hk); (try clear hi); (try clear ho0)))
      go_ret2
      exact ⟨_, by first | rfl | (simp [errW_none, errW_some] <;> rfl) | (simp [*, errW_none, errW_some] <;> rfl), by (with_reducible repeat (first | apply Kd.R_alloc | apply Kd.R_drewN | apply Kd.R_drew)); exact HO363.out, by repeat (first | (with_reducible first | exact HB.out | apply below_alloc | apply pw_below_drewN | apply below_drew1 | refine below_set ?_ GE358.out) | exact HB.out)⟩
    · replace c6 := Bool.eq_false_iff.mpr c6
      subst c6
      have H1 : (some (([] : List Int), 2)) = some (r1, r2) := by rw [if_neg (show ¬ (false = true) by decide)] at H; exact H
      clear H
      have H := H1
      clear H1
      simp only [Option.some.injEq, Prod.mk.injEq] at H
      obtain ⟨rfl, rfl⟩ := H
      go_enter Try.func23, Try.ntmps23
      go_wp2_with (first | ((with_reducible refine gate_dst (N := 2) rfl ?_); refine box_event ?hg (N := 2) ?hd (cs := #[.slice A0_0 l0_0.length c0_0, .int .i64 a0_1, .slice A0_2 l0_2.length c0_2, .int .i64 a0_3]) (t := 25) ?hr ?_; (case hd => rfl); (case hg => rfl); (case hr => first | (go_simp; done) | (go_simp; rfl)); intro gb358 hg w14 hbox hb; have n0_ := Aside0.mk (below_step (by repeat (first | (with_reducible first | exact HB.out | apply below_alloc | apply pw_below_drewN | apply below_drew1) | exact HB.out)) hb); have n1_ := Aside0.mk (hbox); have n2_ := Aside0.mk ((by rw [hg]; exact (below_size (by repeat (first | (with_reducible first | exact HB.out | apply below_alloc | apply pw_below_drewN | apply below_drew1) | exact HB.out))) : w.heap.size ≤ gb358)); have n3_ := Aside0.mk ((by rw [hg]; exact (below_size (by repeat (first | (with_reducible first | exact HB.out | apply below_alloc | apply pw_below_drewN | apply below_drew1) | exact HB.out))) : w.heap.size ≤ gb358)); clear HB; have HB := n0_; have BK358 := n1_; have GW358 := n2_; have GE358 := n3_; clear n0_ n1_ n2_ n3_; clear hb hbox hg; have hcz15_0 : w14.cell? ⟨gb358, 0, none⟩ = some (.slice A0_0 l0_0.length c0_0) := (blk_cell BK358.out 0).trans rfl; have hcz15_1 : w14.cell? ⟨gb358, 1, none⟩ = some (.int .i64 a0_1) := (blk_cell BK358.out 1).trans rfl; have hcz15_2 : w14.cell? ⟨gb358, 2, none⟩ = some (.slice A0_2 l0_2.length c0_2) := (blk_cell BK358.out 2).trans rfl; have hcz15_3 : w14.cell? ⟨gb358, 3, none⟩ = some (.int .i64 a0_3) := (blk_cell BK358.out 3).trans rfl; have hfz15_0 := blk_frozen BK358.out 0; have hfz15_1 := blk_frozen BK358.out 1; have hfz15_2 := blk_frozen BK358.out 2; have hfz15_3 := blk_frozen BK358.out 3) | ((with_reducible refine gate_callee (f := 19) rfl ?_); refine goesL_ (some 7) rfl rfl Try.func19 (by kernel_rfl) rfl #[.agg #[.slice A0_0 l0_0.length c0_0, .int .i64 a0_1, .slice A0_2 l0_2.length c0_2, .int .i64 a0_3]] rfl (by (try simp only [List.map_toArray, List.map_cons, List.map_nil]); first | done | rfl | (simp only [List.length_drop, List.length_take]; rfl)) ?_; (with_reducible refine (skolemref35_May.calls k _ _ l0_0 a0_1 _ _ l0_2 a0_3 true _ ?side1 ?side2 ?side3 ?side4 A3.out).mono ?_); (case side1 => repeat (first | exact (Kd.C_below HR0_0.out HB.out) | (with_reducible refine Kd.C_alloc ?_ _) | (with_reducible refine Kd.C_drewN ?_ _) | (with_reducible refine Kd.C_drew ?_))); (case side2 => exact HC0_0.out); (case side3 => repeat (first | exact (Kd.C_below HR0_2.out HB.out) | (with_reducible refine Kd.C_alloc ?_ _) | (with_reducible refine Kd.C_drewN ?_ _) | (with_reducible refine Kd.C_drew ?_))); (case side4 => exact HC0_2.out); rintro e w16 ⟨rfl, hb⟩; refine ⟨_, rfl, ?_⟩; have n0_ := Aside0.mk (blk_below (g := gb358) (o := .cells #[.slice A0_0 l0_0.length c0_0, .int .i64 a0_1, .slice A0_2 l0_2.length c0_2, .int .i64 a0_3] 25 (0, 0)) (by (with_reducible repeat (first | refine blk_drewN ?_ _ | refine blk_drew ?_ | refine blk_alloc ?_ _)); exact BK358.out) hb); have n1_ := Aside0.mk (below_step (by repeat (first | (with_reducible first | exact HB.out | apply below_alloc | apply pw_below_drewN | apply below_drew1 | refine below_set ?_ GE358.out) | exact HB.out)) hb); clear BK358; clear HB; have BK358 := n0_; have HB := n1_; clear n0_ n1_; (try clear hb); (try clear hb2); (try clear hk); (try clear hi)) | (go_at_call 25; (with_reducible refine (skolemref05_Normal.calls k _ _ l1 false _ ?side1 ?side2 A5.out).mono ?_); (case side1 => repeat (first | exact (Kd.C_below HR1.out HB.out) | (with_reducible refine Kd.C_alloc ?_ _) | (with_reducible refine Kd.C_drewN ?_ _) | (with_reducible refine Kd.C_drew ?_))); (case side2 => exact HC1.out); rintro e w17 ⟨rfl, hb⟩; have n0_ := Aside0.mk (blk_below (g := gb358) (o := .cells #[.slice A0_0 l0_0.length c0_0, .int .i64 a0_1, .slice A0_2 l0_2.length c0_2, .int .i64 a0_3] 25 (0, 0)) (by (with_reducible repeat (first | refine blk_drewN ?_ _ | refine blk_drew ?_ | refine blk_alloc ?_ _)); exact BK358.out) hb); have n1_ := Aside0.mk (below_step (by repeat (first | (with_reducible first | exact HB.out | apply below_alloc | apply pw_below_drewN | apply below_drew1 | refine below_set ?_ GE358.out) | exact HB.out)) hb); clear BK358; clear HB; have BK358 := n0_; have HB := n1_; clear n0_ n1_; (try clear hb); (try clear hb2); (try clear hk); (try clear hi)))
      go_ret2
      exact ⟨_, by first | rfl | (simp [errW_none, errW_some] <;> rfl) | (simp [*, errW_none, errW_some] <;> rfl), by first | exact Kd.R_nil _ _ _ _ _ | exact Kd.N_nil _ _ _ _ _ | exact Kd.V_nil _ _ _ _ _ | exact Kd.Q_nil _ _ _ _ _ | exact Kd.S_nil _ _ _ _ _, by repeat (first | (with_reducible first | exact HB.out | apply below_alloc | apply pw_below_drewN | apply below_drew1 | refine below_set ?_ GE358.out) | exact HB.out)⟩
  · replace c4 := Bool.eq_false_iff.mpr c4
    subst c4
    have H1 : (some (([] : List Int), 2)) = some (r1, r2) := by rw [if_neg (show ¬ (false = true) by decide)] at H; exact H
    clear H
    have H := H1
    clear H1
    simp only [Option.some.injEq, Prod.mk.injEq] at H
    obtain ⟨rfl, rfl⟩ := H
    go_enter Try.func23, Try.ntmps23
    go_wp2_with (first | ((with_reducible refine gate_dst (N := 2) rfl ?_); refine box_event ?hg (N := 2) ?hd (cs := #[.slice A0_0 l0_0.length c0_0, .int .i64 a0_1, .slice A0_2 l0_2.length c0_2, .int .i64 a0_3]) (t := 25) ?hr ?_; (case hd => rfl); (case hg => rfl); (case hr => first | (go_simp; done) | (go_simp; rfl)); intro gb358 hg w18 hbox hb; have n0_ := Aside0.mk (below_step (by repeat (first | (with_reducible first | exact HB.out | apply below_alloc | apply pw_below_drewN | apply below_drew1) | exact HB.out)) hb); have n1_ := Aside0.mk (hbox); have n2_ := Aside0.mk ((by rw [hg]; exact (below_size (by repeat (first | (with_reducible first | exact HB.out | apply below_alloc | apply pw_below_drewN | apply below_drew1) | exact HB.out))) : w.heap.size ≤ gb358)); have n3_ := Aside0.mk ((by rw [hg]; exact (below_size (by repeat (first | (with_reducible first | exact HB.out | apply below_alloc | apply pw_below_drewN | apply below_drew1) | exact HB.out))) : w.heap.size ≤ gb358)); clear HB; have HB := n0_; have BK358 := n1_; have GW358 := n2_; have GE358 := n3_; clear n0_ n1_ n2_ n3_; clear hb hbox hg; have hcz19_0 : w18.cell? ⟨gb358, 0, none⟩ = some (.slice A0_0 l0_0.length c0_0) := (blk_cell BK358.out 0).trans rfl; have hcz19_1 : w18.cell? ⟨gb358, 1, none⟩ = some (.int .i64 a0_1) := (blk_cell BK358.out 1).trans rfl; have hcz19_2 : w18.cell? ⟨gb358, 2, none⟩ = some (.slice A0_2 l0_2.length c0_2) := (blk_cell BK358.out 2).trans rfl; have hcz19_3 : w18.cell? ⟨gb358, 3, none⟩ = some (.int .i64 a0_3) := (blk_cell BK358.out 3).trans rfl; have hfz19_0 := blk_frozen BK358.out 0; have hfz19_1 := blk_frozen BK358.out 1; have hfz19_2 := blk_frozen BK358.out 2; have hfz19_3 := blk_frozen BK358.out 3) | ((with_reducible refine gate_callee (f := 19) rfl ?_); refine goesL_ (some 7) rfl rfl Try.func19 (by kernel_rfl) rfl #[.agg #[.slice A0_0 l0_0.length c0_0, .int .i64 a0_1, .slice A0_2 l0_2.length c0_2, .int .i64 a0_3]] rfl (by (try simp only [List.map_toArray, List.map_cons, List.map_nil]); first | done | rfl | (simp only [List.length_drop, List.length_take]; rfl)) ?_; (with_reducible refine (skolemref35_May.calls k _ _ l0_0 a0_1 _ _ l0_2 a0_3 false _ ?side1 ?side2 ?side3 ?side4 A3.out).mono ?_); (case side1 => repeat (first | exact (Kd.C_below HR0_0.out HB.out) | (with_reducible refine Kd.C_alloc ?_ _) | (with_reducible refine Kd.C_drewN ?_ _) | (with_reducible refine Kd.C_drew ?_))); (case side2 => exact HC0_0.out); (case side3 => repeat (first | exact (Kd.C_below HR0_2.out HB.out) | (with_reducible refine Kd.C_alloc ?_ _) | (with_reducible refine Kd.C_drewN ?_ _) | (with_reducible refine Kd.C_drew ?_))); (case side4 => exact HC0_2.out); rintro e w20 ⟨rfl, hb⟩; refine ⟨_, rfl, ?_⟩; have n0_ := Aside0.mk (blk_below (g := gb358) (o := .cells #[.slice A0_0 l0_0.length c0_0, .int .i64 a0_1, .slice A0_2 l0_2.length c0_2, .int .i64 a0_3] 25 (0, 0)) (by (with_reducible repeat (first | refine blk_drewN ?_ _ | refine blk_drew ?_ | refine blk_alloc ?_ _)); exact BK358.out) hb); have n1_ := Aside0.mk (below_step (by repeat (first | (with_reducible first | exact HB.out | apply below_alloc | apply pw_below_drewN | apply below_drew1 | refine below_set ?_ GE358.out) | exact HB.out)) hb); clear BK358; clear HB; have BK358 := n0_; have HB := n1_; clear n0_ n1_; (try clear hb); (try clear hb2); (try clear hk); (try clear hi)))
    go_ret2
    exact ⟨_, by first | rfl | (simp [errW_none, errW_some] <;> rfl) | (simp [*, errW_none, errW_some] <;> rfl), by first | exact Kd.R_nil _ _ _ _ _ | exact Kd.N_nil _ _ _ _ _ | exact Kd.V_nil _ _ _ _ _ | exact Kd.Q_nil _ _ _ _ _ | exact Kd.S_nil _ _ _ _ _, by repeat (first | (with_reducible first | exact HB.out | apply below_alloc | apply pw_below_drewN | apply below_drew1 | refine below_set ?_ GE358.out) | exact HB.out)⟩

end Go.Proofs.Ytjlehbncpjccmaa.Q
namespace Go.Proofs.Ytjlehbncpjccmaa.Q
open Go.RowKit Go.Proofs.YtjlehbncpjccmaaW.PrintWords Go.Proofs.YtjlehbncpjccmaaW.PrintLast Go.Proofs.YtjlehbncpjccmaaW.PrintMore
set_option linter.unusedVariables false
set_option linter.unusedSimpArgs false

def absR (x : Int) : Int := if x < 0 then mx 0 (wrap64 (-x)) else x
theorem abs_f (x : Int) : skolemref05_Abs.f x = some (absR x) := by
  unfold skolemref05_Abs.f absR
  split <;> rfl
theorem wrap_rng (x : Int) : -9223372036854775808 ≤ wrap64 x ∧ wrap64 x < 9223372036854775808 := by unfold wrap64; omega
theorem abs_rel (x : Int) : (decide (1 ≤ absA x ∧ absA x ≤ 65536) = decide (1 ≤ absR x ∧ absR x ≤ 65536)) ∧ (1 ≤ absR x ∧ absR x ≤ 65536 → absA x = absR x) := by
  unfold absA absR mx
  have hw := wrap_rng (-x)
  by_cases h : x < 0
  · rw [if_pos h]
    by_cases h2 : wrap64 (-x) < 0
    · rw [if_neg (show ¬ (0 : Int) < wrap64 (-x) by omega)]
      refine ⟨?_, fun h3 => absurd h3 (by omega)⟩
      rw [decide_eq_false (show ¬ ((1 : Int) ≤ 0 ∧ (0 : Int) ≤ 65536) by omega), decide_eq_false_iff_not]
      split <;> omega
    · rw [if_pos (show x < wrap64 (-x) by omega)]
      by_cases h3 : (0 : Int) < wrap64 (-x)
      · rw [if_pos h3]; exact ⟨rfl, fun _ => rfl⟩
      · rw [if_neg h3]
        have h4 : wrap64 (-x) = 0 := by omega
        rw [h4]; exact ⟨rfl, fun _ => rfl⟩
  · rw [if_neg h]
    have h2 : ¬ (x < wrap64 (-x)) := by
      by_cases h3 : x < 9223372036854775808
      · rw [w_id (by omega)]; omega
      · omega
    rw [if_neg h2]
    exact ⟨rfl, fun _ => rfl⟩
theorem norm_l (l : List Int) (hl : l.length ≤ 1000) : ∀ (n i : Nat) (last : Int), i + n = l.length → (i = 0 ∧ last = 0 ∨ 0 < i ∧ absR (rd l ((i : Int) - 1)) = last ∧ 1 ≤ last) →
    Ev (fun k => skolemref05_Normal.l0 k l (i : Int)) (normB last (l.drop i))
  | 0, i, last, h, hq => by
    refine Ev.succ ?_
    simp only [skolemref05_Normal.l0]
    simp only [if_neg (show ¬ ((i : Int) < (l.length : Int)) by omega)]
    rw [List.drop_of_length_le (by omega)]
    exact Ev.const _
  | n + 1, i, last, h, hq => by
    refine Ev.succ ?_
    simp only [skolemref05_Normal.l0]
    simp only [if_pos (show (i : Int) < (l.length : Int) by omega), if_pos (show (0 : Int) ≤ (i : Int) by omega), abs_f, Option.bind_some, skolemref05_variable.f, w_nat i (by omega)]
    rw [drop_rd l i (by omega), normB]
    have hrel := abs_rel (rd l (i : Int))
    rw [hrel.1]
    by_cases h1 : absR (rd l (i : Int)) ≥ 1
    · simp only [if_pos h1, Option.bind_some]
      by_cases h2 : absR (rd l (i : Int)) ≤ 65536
      · simp only [h2, decide_true, if_true]
        have he := hrel.2 ⟨h1, h2⟩
        have hih := norm_l l hl n (i + 1) (absR (rd l (i : Int))) (by omega) (.inr ⟨by omega, by rw [show ((i + 1 : Nat) : Int) - 1 = (i : Int) by omega], h1⟩)
        rw [he]
        rw [decide_eq_true (show 1 ≤ absR (rd l (i : Int)) ∧ True from ⟨h1, trivial⟩), Bool.true_and]
        rcases hq with ⟨rfl, rfl⟩ | ⟨hi, hp, hlast⟩
        · simp only [if_neg (show ¬ (((0 : Nat) : Int) > 0) by omega)]
          rw [decide_eq_true (show (0 : Int) < absR (rd l ((0 : Nat) : Int)) by omega), Bool.true_and]
          exact hih
        · simp only [if_pos (show (i : Int) > 0 by omega), w_id (show -9223372036854775808 ≤ (i : Int) - 1 ∧ (i : Int) - 1 < 9223372036854775808 by omega), if_pos (show (0 : Int) ≤ (i : Int) - 1 by omega), if_pos (show (i : Int) - 1 < (l.length : Int) by omega), hp]
          by_cases h3 : absR (rd l (i : Int)) ≤ last
          · simp only [if_pos h3]
            rw [decide_eq_false (show ¬ (last < absR (rd l (i : Int))) by omega), Bool.false_and]
            exact Ev.const _
          · simp only [if_neg h3]
            rw [decide_eq_true (show last < absR (rd l (i : Int)) by omega), Bool.true_and]
            exact hih
      · simp only [h2, decide_false, Bool.false_eq_true, if_false]
        exact (Ev.const _).cong (by simp)
    · simp only [if_neg h1, Option.bind_some, Bool.false_eq_true, if_false]
      exact (Ev.const _).cong (by simp [h1])
theorem norm_ev (l : List Int) (hl : l.length ≤ 1000) : Ev (fun k => skolemref05_Normal.f k l) (normB 0 l) := norm_l l hl l.length 0 0 (by omega) (.inl ⟨rfl, rfl⟩)
theorem num_l (vars a : List Int) (hv : vars.length ≤ 2) (ha : a.length ≤ 1000) : ∀ (n i : Nat) (c : Int), i + n = vars.length → 0 ≤ c ∧ c ≤ 100 * (i : Int) →
    Ev (fun k => skolemref35_number.l0 k vars a c (i : Int)) (c + numB (fun v => decide (v ∈ a)) (vars.drop i) i)
  | 0, i, c, h, hc => by
    refine Ev.succ ?_
    simp only [skolemref35_number.l0]
    simp only [if_neg (show ¬ ((i : Int) < (vars.length : Int)) by omega)]
    rw [List.drop_of_length_le (by omega)]
    exact (Ev.const _).cong (by simp [numB])
  | n + 1, i, c, h, hc => by
    refine Ev.succ ?_
    simp only [skolemref35_number.l0]
    simp only [if_pos (show (i : Int) < (vars.length : Int) by omega), if_pos (show (0 : Int) ≤ (i : Int) by omega), w_nat i (by omega)]
    rw [numB_drop _ vars i (by omega)]
    refine Ev.bind (in_ev a _ (by omega)) ?_
    by_cases hx : rd vars (i : Int) ∈ a
    · simp only [hx, decide_true, if_true]
      have hsh : wrap64 (c + shl .i64 1 (i : Int)) = c + 2 ^ i := by
        have hs : shl .i64 1 (i : Int) = 2 ^ i := by
          obtain rfl | rfl : i = 0 ∨ i = 1 := by omega
          · rfl
          · rfl
        rw [hs]
        have h4 : (2 : Int) ^ i ≤ 2 ∧ 0 ≤ (2 : Int) ^ i := by
          obtain rfl | rfl : i = 0 ∨ i = 1 := by omega
          · decide
          · decide
        exact w_id (by omega)
      rw [hsh]
      have h4 : (2 : Int) ^ i ≤ 2 ∧ 0 ≤ (2 : Int) ^ i := by
        obtain rfl | rfl : i = 0 ∨ i = 1 := by omega
        · decide
        · decide
      exact (num_l vars a hv ha n (i + 1) (c + 2 ^ i) (by omega) (by omega)).cong (by omega)
    · simp only [hx, decide_false, Bool.false_eq_true, if_false]
      exact (num_l vars a hv ha n (i + 1) c (by omega) (by omega)).cong (by omega)
theorem num_ev (vars a : List Int) (hv : vars.length ≤ 2) (ha : a.length ≤ 1000) : Ev (fun k => skolemref35_number.f k vars a) (numB (fun v => decide (v ∈ a)) vars 0) :=
  (num_l vars a hv ha vars.length 0 0 (by omega) (by omega)).cong (by simp)
theorem stepP_rng {ps : List S55} {is : Int → Bool} (hto : ∀ x ∈ ps, ∀ v ∈ x.f1, 0 ≤ v ∧ v < (ps.length : Int)) (t v : Int) (hv : 0 ≤ v ∧ v < (ps.length : Int)) : 0 ≤ stepP ps is t v ∧ stepP ps is t v < (ps.length : Int) := by
  unfold stepP
  dsimp only
  split
  · rename_i hl
    have hj := tmod_rng (numB_nonneg is (choiceF (widthP ps) t (ps.getD v.toNat z55).f0) 0) hl
    exact hto _ (getD_mem ps z55 _ (by omega)) _ (getD_mem _ 0 _ (by omega))
  · exact hv
theorem played_l (ps : List S55) (st : Int) (gs : List Int) (mv : Int) (hs : Small ps gs) (hm : mayB ps st gs mv = true) (a : List Int) (ha : a.length ≤ 1000) : ∀ (n : Nat) (t v : Int) (acc : List Int), t + n = mv + 1 → 1 ≤ t → 0 ≤ v ∧ v < (ps.length : Int) → acc.length ≤ 20 - n →
    Ev (fun k => skolemref35_played.l0 k a v acc t ps st gs mv) (playL ps (fun v => decide (v ∈ a)) n t v acc)
  | 0, t, v, acc, h, ht, hv, hacc => by
    refine Ev.succ ?_
    simp only [skolemref35_played.l0]
    simp only [if_neg (show ¬ (t ≤ mv) by omega)]
    exact Ev.const _
  | n + 1, t, v, acc, h, ht, hv, hacc => by
    refine Ev.succ ?_
    have hmv := mayB_mv hm
    simp only [skolemref35_played.l0]
    have hst : stepP ps (fun v => decide (v ∈ a)) t v = if ((rd_T55 ps v).f1.length : Int) > 0 then rd (rd_T55 ps v).f1 (Int.tmod (numB (fun v => decide (v ∈ a)) (choiceF (widthP ps) t (rd_T55 ps v).f0) 0) (rd_T55 ps v).f1.length) else v := rfl
    have hrng := stepP_rng (is := fun v => decide (v ∈ a)) (mayB_to2 hm) t v hv
    rw [playL]
    have hih := fun v' hv' => played_l ps st gs mv hs hm a ha n (t + 1) v' (acc ++ [v']) (by omega) (by omega) hv' (by simp; omega)
    rw [hst] at hrng ⊢
    simp only [if_pos (show t ≤ mv by omega), if_pos hv.1, if_pos hv.2, if_pos (show acc.length < 17592186044416 by omega), w_id (show -9223372036854775808 ≤ t + 1 ∧ t + 1 < 9223372036854775808 by omega)]
    by_cases hl : ((rd_T55 ps v).f1.length : Int) > 0
    · simp only [if_pos hl] at hrng ⊢
      refine Ev.bind (choice_ev ps st gs mv hs t ht (by omega) _) ?_
      refine Ev.bind (num_ev _ a (by rw [choiceF_length]; exact widthP_le _) ha) ?_
      have hj := tmod_rng (numB_nonneg (fun v => decide (v ∈ a)) (choiceF (widthP ps) t (rd_T55 ps v).f0) 0) hl
      simp only [if_neg (show ¬ (((rd_T55 ps v).f1.length : Int) = 0) by omega), if_pos hj.1, if_pos hj.2]
      exact hih _ hrng
    · simp only [if_neg hl] at hrng ⊢
      exact hih _ hrng
theorem Play_ev (ps : List S55) (st : Int) (gs : List Int) (mv : Int) (hs : Small ps gs) (a : List Int) (ha : a.length ≤ 1000) : Ev (fun k => skolemref35_Play.f k ps st gs mv a) (if mayB ps st gs mv && normB 0 a then (playF ps st mv (fun v => decide (v ∈ a)), 0) else ([], 2)) := by
  simp only [skolemref35_Play.f]
  refine Ev.bind (may_ev ps st gs mv hs) ?_
  cases hm : mayB ps st gs mv with
  | false =>
    simp only [Bool.false_eq_true, if_false, Bool.false_and]
    exact Ev.const _
  | true =>
    simp only [if_true, Bool.true_and]
    have hmv := mayB_mv hm
    refine Ev.bind (norm_ev a ha) ?_
    cases hn : normB 0 a with
    | false =>
      simp only [Bool.false_eq_true, if_false]
      exact Ev.const _
    | true =>
      simp only [if_true]
      refine Ev.bind ?_ (Ev.const _)
      exact played_l ps st gs mv hs hm a ha mv.toNat 1 st [st] (by omega) (by omega) (mayB_facts hm).2.1 (by simp; omega)
end Go.Proofs.Ytjlehbncpjccmaa.Q
namespace Go.Proofs.Ytjlehbncpjccmaa.Q
open Go.RowKit Go.Proofs.YtjlehbncpjccmaaW.PrintWords Go.Proofs.YtjlehbncpjccmaaW.PrintLast Go.Proofs.YtjlehbncpjccmaaW.PrintMore
attribute [local go_sem] max2_int min2_int max_two min_two max_three min_three max_four min_four   -- for this text's walks alone
set_option linter.unusedVariables false
set_option linter.unusedSimpArgs false

/-! ### skolemlaw35_PuzzlePlays: function 4 -/
def skolemlaw35_PuzzlePlays.j0 : Nat → List Int → Bool → List (S55) → Int → List Int → Int → Option (Bool)
  | 0, _, _, _, _, _, _ => none
  | k + 1, x1, x15, x365000, x365001, x365002, x365003 => if x15 = true then ((skolemlaw35_head.f k).bind fun t366 => (some t366)) else ((puzzle_Play.f x365000 x365001 x365002 x365003 x1).bind fun bt367 => ((skolemref35_Play.f k x365000 x365001 x365002 x365003 x1).bind fun bt371 => ((skolemref03_Ints.f k bt367.1 bt371.1).bind fun t375 => (if t375 = true then (if bt367.2 = bt371.2 then ((skolemlaw35_head.f k).bind fun t376 => (some t376)) else (some false)) else (some false)))))
def skolemlaw35_PuzzlePlays.f (k : Nat) (l0_0 : List (S55)) (a0_1 : Int) (l0_2 : List Int) (a0_3 : Int) (l1 : List Int) : Option (Bool) := (skolemlaw35_large.f k l0_0 a0_1 l0_2 a0_3).bind fun t365 => (if t365 = true then (skolemlaw35_PuzzlePlays.j0 k l1 true l0_0 a0_1 l0_2 a0_3) else (skolemlaw35_PuzzlePlays.j0 k l1 (decide ((l1.length : Int) > 100)) l0_0 a0_1 l0_2 a0_3))
theorem skolemlaw35_PuzzlePlays.mono_l : ∀ k, (∀ y0 y1 y2 y3 y4 y5, LeO (skolemlaw35_PuzzlePlays.j0 k y0 y1 y2 y3 y4 y5) (skolemlaw35_PuzzlePlays.j0 (k + 1) y0 y1 y2 y3 y4 y5))
  | 0 => fun _ _ _ _ _ _ r h => by simp [skolemlaw35_PuzzlePlays.j0] at h
  | k + 1 => by
    have ih0 := skolemlaw35_PuzzlePlays.mono_l k
    · intro y0 y1 y2 y3 y4 y5
      unfold skolemlaw35_PuzzlePlays.j0
      repeat' first
      | (with_reducible exact ih0 _ _ _ _ _ _)
      | (with_reducible exact skolemlaw35_head.mono _)
      | (with_reducible exact skolemlaw35_large.mono _ _ _ _ _)
      | (with_reducible exact skolemref03_Ints.mono _ _ _)
      | (with_reducible exact skolemref35_Play.mono _ _ _ _ _ _)
      | (with_reducible exact LeO.refl _)
      | (with_reducible exact LeO.none _)
      | (with_reducible refine LeO.ite ?_ ?_)
      | (with_reducible refine LeO.bind ?_ (fun _ => ?_))
      | exact ih0 _ _ _ _ _ _
      | exact skolemlaw35_head.mono _
      | exact skolemlaw35_large.mono _ _ _ _ _
      | exact skolemref03_Ints.mono _ _ _
      | exact skolemref35_Play.mono _ _ _ _ _ _
      | exact LeO.none _
      | refine LeO.ite ?_ ?_
      | refine LeO.bind ?_ (fun _ => ?_)
theorem skolemlaw35_PuzzlePlays.mono : ∀ a0 a1 a2 a3 a4 k, LeO (skolemlaw35_PuzzlePlays.f k a0 a1 a2 a3 a4) (skolemlaw35_PuzzlePlays.f (k + 1) a0 a1 a2 a3 a4) := by
  intro a0 a1 a2 a3 a4 k
  have ih0 := skolemlaw35_PuzzlePlays.mono_l k
  unfold skolemlaw35_PuzzlePlays.f
  repeat' first
      | (with_reducible exact ih0 _ _ _ _ _ _)
      | (with_reducible exact skolemlaw35_head.mono _)
      | (with_reducible exact skolemlaw35_large.mono _ _ _ _ _)
      | (with_reducible exact skolemref03_Ints.mono _ _ _)
      | (with_reducible exact skolemref35_Play.mono _ _ _ _ _ _)
      | (with_reducible exact LeO.refl _)
      | (with_reducible exact LeO.none _)
      | (with_reducible refine LeO.ite ?_ ?_)
      | (with_reducible refine LeO.bind ?_ (fun _ => ?_))
      | exact ih0 _ _ _ _ _ _
      | exact skolemlaw35_head.mono _
      | exact skolemlaw35_large.mono _ _ _ _ _
      | exact skolemref03_Ints.mono _ _ _
      | exact skolemref35_Play.mono _ _ _ _ _ _
      | exact LeO.none _
      | refine LeO.ite ?_ ?_
      | refine LeO.bind ?_ (fun _ => ?_)
set_option maxHeartbeats 8000000 in
set_option maxRecDepth 100000 in
theorem skolemlaw35_PuzzlePlays.callsT (k : Nat) (A0_0 : Option Addr) (c0_0 : Nat) (l0_0 : List (S55)) (a0_1 : Int) (A0_2 : Option Addr) (c0_2 : Nat) (l0_2 : List Int) (a0_3 : Int) (A1 : Option Addr) (c1 : Nat) (l1 : List Int) (r : Bool) (hr_ : r = true) (w : World) (hr0_0 : Kd.C k55 w A0_0 l0_0.length l0_0) (hc0_0 : l0_0.length ≤ c0_0) (hr0_2 : Kd.C (Kd.int .i64) w A0_2 l0_2.length l0_2) (hc0_2 : l0_2.length ≤ c0_2) (hr1 : Kd.C (Kd.int .i64) w A1 l1.length l1) (hc1 : l1.length ≤ c1) (h : skolemlaw35_PuzzlePlays.f k l0_0 a0_1 l0_2 a0_3 l1 = some r) :
    Calls Try.prog 4 #[.agg #[.slice A0_0 l0_0.length c0_0, .int .i64 a0_1, .slice A0_2 l0_2.length c0_2, .int .i64 a0_3], .slice A1 l1.length c1] w fun e w' => e = .returned (.bool r) ∧ Below w.heap.size w w' := by
  have hu25 := Try.underlying25
  have HR0_0 := Aside0.mk hr0_0
  have HC0_0 := Aside0.mk hc0_0
  clear hr0_0 hc0_0
  have HR0_2 := Aside0.mk hr0_2
  have HC0_2 := Aside0.mk hc0_2
  clear hr0_2 hc0_2
  have HR1 := Aside0.mk hr1
  have HC1 := Aside0.mk hc1
  clear hr1 hc1
  have HT_ := Aside0.mk hr_
  clear hr_
  have HB := Aside0.mk (Below.refl w.heap.size w)
  have H : ((skolemlaw35_large.f k l0_0 a0_1 l0_2 a0_3).bind fun t365 => (if t365 = true then (skolemlaw35_PuzzlePlays.j0 k l1 true l0_0 a0_1 l0_2 a0_3) else (skolemlaw35_PuzzlePlays.j0 k l1 (decide ((l1.length : Int) > 100)) l0_0 a0_1 l0_2 a0_3))) = some r := h
  clear h
  have HC3 := Aside0.mk H
  clear H
  go_enter Try.func4, Try.ntmps4
  go_upto_region 1 with (first | ((with_reducible refine gate_dst (N := 2) rfl ?_); (try (refine gate_guard (by rfl) ?_; dsimp only)); refine box_event ?hg (N := 2) ?hd (cs := #[.slice A0_0 l0_0.length c0_0, .int .i64 a0_1, .slice A0_2 l0_2.length c0_2, .int .i64 a0_3]) (t := 25) ?hr ?_; (case hd => rfl); (case hg => rfl); (case hr => first | (go_simp; done) | (go_simp; rfl)); intro gb364 hg w4 hbox hb; have n0_ := Aside0.mk (below_step (by repeat (first | (with_reducible first | exact HB.out | apply below_alloc | apply pw_below_drewN | apply below_drew1) | exact HB.out)) hb); have n1_ := Aside0.mk (hbox); have n2_ := Aside0.mk ((by rw [hg]; exact (below_size (by repeat (first | (with_reducible first | exact HB.out | apply below_alloc | apply pw_below_drewN | apply below_drew1) | exact HB.out))) : w.heap.size ≤ gb364)); have n3_ := Aside0.mk ((by rw [hg]; exact (below_size (by repeat (first | (with_reducible first | exact HB.out | apply below_alloc | apply pw_below_drewN | apply below_drew1) | exact HB.out))) : w.heap.size ≤ gb364)); clear HB; have HB := n0_; have BK364 := n1_; have GW364 := n2_; have GE364 := n3_; clear n0_ n1_ n2_ n3_; clear hb hbox hg))
  (try simp only [Act.put, List.setIfInBounds_toArray, List.set_cons_zero, List.set_cons_succ])
  go_cut [15] (fun v15 wc => ∃ (kq : Nat) (x15_2 : Bool), v15 = .bool x15_2 ∧ Aside0 (skolemlaw35_PuzzlePlays.j0 kq l1 x15_2 l0_0 a0_1 l0_2 a0_3 = some r) ∧ Aside0 (kq ≤ k) ∧ Aside0 (wc.heap[gb364]? = some (.cells #[(.slice A0_0 l0_0.length c0_0), .int .i64 a0_1, (.slice A0_2 l0_2.length c0_2), .int .i64 a0_3] 25 (0, 0))) ∧ Aside0 (Below w.heap.size w wc))
  case first =>
    have H := HC3.out
    clear HC3
    replace H := Option.bind_eq_some_iff.mp H
    obtain ⟨t365, A50, H⟩ := H
    replace H : (if t365 = true then (skolemlaw35_PuzzlePlays.j0 k l1 true l0_0 a0_1 l0_2 a0_3) else (skolemlaw35_PuzzlePlays.j0 k l1 (decide ((l1.length : Int) > 100)) l0_0 a0_1 l0_2 a0_3)) = some r := H
    have A5 := Aside0.mk A50
    clear A50
    by_cases c6 : t365 = true
    · subst c6
      have H1 : (skolemlaw35_PuzzlePlays.j0 k l1 true l0_0 a0_1 l0_2 a0_3) = some r := by rw [if_pos rfl] at H; exact H
      clear H
      have H := H1
      clear H1
      have H' := Aside0.mk H
      clear H
      have hcz7_0 : w4.cell? ⟨gb364, 0, none⟩ = some (.slice A0_0 l0_0.length c0_0) := (blk_cell BK364.out 0).trans rfl
      have hcz7_1 : w4.cell? ⟨gb364, 1, none⟩ = some (.int .i64 a0_1) := (blk_cell BK364.out 1).trans rfl
      have hcz7_2 : w4.cell? ⟨gb364, 2, none⟩ = some (.slice A0_2 l0_2.length c0_2) := (blk_cell BK364.out 2).trans rfl
      have hcz7_3 : w4.cell? ⟨gb364, 3, none⟩ = some (.int .i64 a0_3) := (blk_cell BK364.out 3).trans rfl
      have hfz7_0 := blk_frozen BK364.out 0
      have hfz7_1 := blk_frozen BK364.out 1
      have hfz7_2 := blk_frozen BK364.out 2
      have hfz7_3 := blk_frozen BK364.out 3
      go_wp2_with (first | ((with_reducible refine gate_callee (f := 8) rfl ?_); refine goesL_ (some 10) rfl rfl Try.func8 (by kernel_rfl) rfl #[.agg #[.slice A0_0 l0_0.length c0_0, .int .i64 a0_1, .slice A0_2 l0_2.length c0_2, .int .i64 a0_3]] rfl (by (try simp only [List.map_toArray, List.map_cons, List.map_nil]); first | done | rfl | (simp only [List.length_drop, List.length_take]; rfl)) ?_; (with_reducible refine (skolemlaw35_large.calls k _ _ l0_0 a0_1 _ _ l0_2 a0_3 true _ ?side1 ?side2 ?side3 ?side4 A5.out).mono ?_); (case side1 => repeat (first | exact (Kd.C_below HR0_0.out HB.out) | (with_reducible refine Kd.C_alloc ?_ _) | (with_reducible refine Kd.C_drewN ?_ _) | (with_reducible refine Kd.C_drew ?_))); (case side2 => exact HC0_0.out); (case side3 => repeat (first | exact (Kd.C_below HR0_2.out HB.out) | (with_reducible refine Kd.C_alloc ?_ _) | (with_reducible refine Kd.C_drewN ?_ _) | (with_reducible refine Kd.C_drew ?_))); (case side4 => exact HC0_2.out); rintro e w8 ⟨rfl, hb⟩; refine ⟨_, rfl, ?_⟩; have n0_ := Aside0.mk (blk_below (g := gb364) (o := .cells #[.slice A0_0 l0_0.length c0_0, .int .i64 a0_1, .slice A0_2 l0_2.length c0_2, .int .i64 a0_3] 25 (0, 0)) (by (with_reducible repeat (first | refine blk_drewN ?_ _ | refine blk_drew ?_ | refine blk_alloc ?_ _)); exact BK364.out) hb); have n1_ := Aside0.mk (below_step (by repeat (first | (with_reducible first | exact HB.out | apply below_alloc | apply pw_below_drewN | apply below_drew1 | refine below_set ?_ GE364.out) | exact HB.out)) hb); clear BK364; clear HB; have BK364 := n0_; have HB := n1_; clear n0_ n1_; (try clear hb); (try clear hb2); (try clear hk); (try clear hi)))
      go_meet
      case rel => exact ⟨_, (true), (by first | rfl | (simp; done) | (simp [*]; done)), H', ⟨by first | omega | exact Nat.le_refl _⟩, ⟨by (with_reducible repeat (first | refine blk_drewN ?_ _ | refine blk_drew ?_ | refine blk_alloc ?_ _)); exact BK364.out⟩, ⟨by repeat (first | (with_reducible first | exact HB.out | apply below_alloc | apply pw_below_drewN | apply below_drew1 | refine below_set ?_ GE364.out) | exact HB.out)⟩⟩
    · replace c6 := Bool.eq_false_iff.mpr c6
      subst c6
      have H1 : (skolemlaw35_PuzzlePlays.j0 k l1 (decide ((l1.length : Int) > 100)) l0_0 a0_1 l0_2 a0_3) = some r := by rw [if_neg (show ¬ (false = true) by decide)] at H; exact H
      clear H
      have H := H1
      clear H1
      have H' := Aside0.mk H
      clear H
      have hcz9_0 : w4.cell? ⟨gb364, 0, none⟩ = some (.slice A0_0 l0_0.length c0_0) := (blk_cell BK364.out 0).trans rfl
      have hcz9_1 : w4.cell? ⟨gb364, 1, none⟩ = some (.int .i64 a0_1) := (blk_cell BK364.out 1).trans rfl
      have hcz9_2 : w4.cell? ⟨gb364, 2, none⟩ = some (.slice A0_2 l0_2.length c0_2) := (blk_cell BK364.out 2).trans rfl
      have hcz9_3 : w4.cell? ⟨gb364, 3, none⟩ = some (.int .i64 a0_3) := (blk_cell BK364.out 3).trans rfl
      have hfz9_0 := blk_frozen BK364.out 0
      have hfz9_1 := blk_frozen BK364.out 1
      have hfz9_2 := blk_frozen BK364.out 2
      have hfz9_3 := blk_frozen BK364.out 3
      go_wp2_with (first | ((with_reducible refine gate_callee (f := 8) rfl ?_); refine goesL_ (some 10) rfl rfl Try.func8 (by kernel_rfl) rfl #[.agg #[.slice A0_0 l0_0.length c0_0, .int .i64 a0_1, .slice A0_2 l0_2.length c0_2, .int .i64 a0_3]] rfl (by (try simp only [List.map_toArray, List.map_cons, List.map_nil]); first | done | rfl | (simp only [List.length_drop, List.length_take]; rfl)) ?_; (with_reducible refine (skolemlaw35_large.calls k _ _ l0_0 a0_1 _ _ l0_2 a0_3 false _ ?side1 ?side2 ?side3 ?side4 A5.out).mono ?_); (case side1 => repeat (first | exact (Kd.C_below HR0_0.out HB.out) | (with_reducible refine Kd.C_alloc ?_ _) | (with_reducible refine Kd.C_drewN ?_ _) | (with_reducible refine Kd.C_drew ?_))); (case side2 => exact HC0_0.out); (case side3 => repeat (first | exact (Kd.C_below HR0_2.out HB.out) | (with_reducible refine Kd.C_alloc ?_ _) | (with_reducible refine Kd.C_drewN ?_ _) | (with_reducible refine Kd.C_drew ?_))); (case side4 => exact HC0_2.out); rintro e w10 ⟨rfl, hb⟩; refine ⟨_, rfl, ?_⟩; have n0_ := Aside0.mk (blk_below (g := gb364) (o := .cells #[.slice A0_0 l0_0.length c0_0, .int .i64 a0_1, .slice A0_2 l0_2.length c0_2, .int .i64 a0_3] 25 (0, 0)) (by (with_reducible repeat (first | refine blk_drewN ?_ _ | refine blk_drew ?_ | refine blk_alloc ?_ _)); exact BK364.out) hb); have n1_ := Aside0.mk (below_step (by repeat (first | (with_reducible first | exact HB.out | apply below_alloc | apply pw_below_drewN | apply below_drew1 | refine below_set ?_ GE364.out) | exact HB.out)) hb); clear BK364; clear HB; have BK364 := n0_; have HB := n1_; clear n0_ n1_; (try clear hb); (try clear hb2); (try clear hk); (try clear hi)))
      go_meet
      case rel => exact ⟨_, (decide ((l1.length : Int) > 100)), (by first | rfl | (simp; done) | (simp [*]; done)), H', ⟨by first | omega | exact Nat.le_refl _⟩, ⟨by (with_reducible repeat (first | refine blk_drewN ?_ _ | refine blk_drew ?_ | refine blk_alloc ?_ _)); exact BK364.out⟩, ⟨by repeat (first | (with_reducible first | exact HB.out | apply below_alloc | apply pw_below_drewN | apply below_drew1 | refine below_set ?_ GE364.out) | exact HB.out)⟩⟩
  case rest =>
    clear HC3
    try clear c1
    try clear p2
    try clear c4
    try clear c6
    try clear c8
    try clear hcz7_0
    try clear hcz7_1
    try clear hcz7_2
    try clear hcz7_3
    try clear hcz9_0
    try clear hcz9_1
    try clear hcz9_2
    try clear hcz9_3
    try clear hfz7_0
    try clear hfz7_1
    try clear hfz7_2
    try clear hfz7_3
    try clear hfz9_0
    try clear hfz9_1
    try clear hfz9_2
    try clear hfz9_3
    obtain ⟨kq, x15_2, rfl, HA, HJ2, BK364, HB⟩ := hcut
    cases kq with
    | zero => exact absurd HA.out (by simp [skolemlaw35_PuzzlePlays.j0])
    | succ kj2 =>
      have H := HA.out
      clear HA
      simp only [skolemlaw35_PuzzlePlays.j0] at H
      by_cases c11 : x15_2 = true
      · subst c11
        have H1 : ((skolemlaw35_head.f kj2).bind fun t366 => (some t366)) = some r := by rw [if_pos rfl] at H; exact H
        clear H
        have H := H1
        clear H1
        replace H := Option.bind_eq_some_iff.mp H
        obtain ⟨t366, A120, H⟩ := H
        replace H : (some t366) = some r := H
        have A12 := Aside0.mk A120
        clear A120
        obtain rfl := Option.some.inj H
        go_wp2_with (first | ((with_reducible refine gate_callee (f := 9) rfl ?_); refine goesL_ (some 16) rfl rfl Try.func9 (by kernel_rfl) rfl #[] rfl (by (try simp only [List.map_toArray, List.map_cons, List.map_nil]); first | done | rfl | (simp only [List.length_drop, List.length_take]; rfl)) ?_; (with_reducible refine (skolemlaw35_head.calls kj2  t366 _ A12.out).mono ?_); rintro e w13 ⟨rfl, hb⟩; refine ⟨_, rfl, ?_⟩; have n0_ := Aside0.mk (blk_below (g := gb364) (o := .cells #[.slice A0_0 l0_0.length c0_0, .int .i64 a0_1, .slice A0_2 l0_2.length c0_2, .int .i64 a0_3] 25 (0, 0)) (by (with_reducible repeat (first | refine blk_drewN ?_ _ | refine blk_drew ?_ | refine blk_alloc ?_ _)); exact BK364.out) hb); have n1_ := Aside0.mk (below_step (by repeat (first | (with_reducible first | exact HB.out | apply below_alloc | apply pw_below_drewN | apply below_drew1 | refine below_set ?_ GE364.out) | exact HB.out)) hb); clear BK364; clear HB; have BK364 := n0_; have HB := n1_; clear n0_ n1_; (try clear hb); (try clear hb2); (try clear hk); (try clear hi)))
        go_ret
        exact ⟨by first | rfl | (simp [errW_none, errW_some] <;> rfl) | (simp [*, errW_none, errW_some] <;> rfl), by repeat (first | (with_reducible first | exact HB.out | apply below_alloc | apply pw_below_drewN | apply below_drew1 | refine below_set ?_ GE364.out) | exact HB.out)⟩
      · replace c11 := Bool.eq_false_iff.mpr c11
        subst c11
        have H1 : ((puzzle_Play.f l0_0 a0_1 l0_2 a0_3 l1).bind fun bt367 => ((skolemref35_Play.f kj2 l0_0 a0_1 l0_2 a0_3 l1).bind fun bt371 => ((skolemref03_Ints.f kj2 bt367.1 bt371.1).bind fun t375 => (if t375 = true then (if bt367.2 = bt371.2 then ((skolemlaw35_head.f kj2).bind fun t376 => (some t376)) else (some false)) else (some false))))) = some r := by rw [if_neg (show ¬ (false = true) by decide)] at H; exact H
        clear H
        have H := H1
        clear H1
        replace H := Option.bind_eq_some_iff.mp H
        obtain ⟨⟨t367, t370⟩, A140, H⟩ := H
        replace H : ((skolemref35_Play.f kj2 l0_0 a0_1 l0_2 a0_3 l1).bind fun bt371 => ((skolemref03_Ints.f kj2 t367 bt371.1).bind fun t375 => (if t375 = true then (if t370 = bt371.2 then ((skolemlaw35_head.f kj2).bind fun t376 => (some t376)) else (some false)) else (some false)))) = some r := H
        have A14 := Aside0.mk A140
        clear A140
        replace H := Option.bind_eq_some_iff.mp H
        obtain ⟨⟨t371, t374⟩, A150, H⟩ := H
        replace H : ((skolemref03_Ints.f kj2 t367 t371).bind fun t375 => (if t375 = true then (if t370 = t374 then ((skolemlaw35_head.f kj2).bind fun t376 => (some t376)) else (some false)) else (some false))) = some r := H
        have A15 := Aside0.mk A150
        clear A150
        replace H := Option.bind_eq_some_iff.mp H
        obtain ⟨t375, A160, H⟩ := H
        replace H : (if t375 = true then (if t370 = t374 then ((skolemlaw35_head.f kj2).bind fun t376 => (some t376)) else (some false)) else (some false)) = some r := H
        have A16 := Aside0.mk A160
        clear A160
        by_cases c17 : t375 = true
        · subst c17
          have H1 : (if t370 = t374 then ((skolemlaw35_head.f kj2).bind fun t376 => (some t376)) else (some false)) = some r := by rw [if_pos rfl] at H; exact H
          clear H
          have H := H1
          clear H1
          by_cases c18 : t370 = t374
          · rw [if_pos c18] at H
            have c18b0 : (t370 == t374) = true := beq_iff_eq.mpr c18
            have c18b1 : (t370 != t374) = false := bne_eq_false_iff_eq.mpr c18
            clear c18
            replace H := Option.bind_eq_some_iff.mp H
            obtain ⟨t376, A190, H⟩ := H
            replace H : (some t376) = some r := H
            have A19 := Aside0.mk A190
            clear A190
            obtain rfl := Option.some.inj H
            have hcz20_0 : wc.cell? ⟨gb364, 0, none⟩ = some (.slice A0_0 l0_0.length c0_0) := (blk_cell BK364.out 0).trans rfl
            have hcz20_1 : wc.cell? ⟨gb364, 1, none⟩ = some (.int .i64 a0_1) := (blk_cell BK364.out 1).trans rfl
            have hcz20_2 : wc.cell? ⟨gb364, 2, none⟩ = some (.slice A0_2 l0_2.length c0_2) := (blk_cell BK364.out 2).trans rfl
            have hcz20_3 : wc.cell? ⟨gb364, 3, none⟩ = some (.int .i64 a0_3) := (blk_cell BK364.out 3).trans rfl
            have hfz20_0 := blk_frozen BK364.out 0
            have hfz20_1 := blk_frozen BK364.out 1
            have hfz20_2 := blk_frozen BK364.out 2
            have hfz20_3 := blk_frozen BK364.out 3
            go_wp2_with (first | ((with_reducible refine gate_callee (f := 22) rfl ?_); refine goesL_ (some 20) rfl rfl Try.func22 (by kernel_rfl) rfl #[.agg #[.slice A0_0 l0_0.length c0_0, .int .i64 a0_1, .slice A0_2 l0_2.length c0_2, .int .i64 a0_3], .slice A1 l1.length c1] rfl (by (try simp only [List.map_toArray, List.map_cons, List.map_nil]); first | done | rfl | (simp only [List.length_drop, List.length_take]; rfl)) ?_; (with_reducible refine (puzzle_Play.calls _ _ l0_0 a0_1 _ _ l0_2 a0_3 _ _ l1 t367 t370 _ ?side1 ?side2 ?side3 ?side4 ?side5 ?side6 A14.out).mono ?_); (case side1 => repeat (first | exact (Kd.C_below HR0_0.out HB.out) | (with_reducible refine Kd.C_alloc ?_ _) | (with_reducible refine Kd.C_drewN ?_ _) | (with_reducible refine Kd.C_drew ?_))); (case side2 => exact HC0_0.out); (case side3 => repeat (first | exact (Kd.C_below HR0_2.out HB.out) | (with_reducible refine Kd.C_alloc ?_ _) | (with_reducible refine Kd.C_drewN ?_ _) | (with_reducible refine Kd.C_drew ?_))); (case side4 => exact HC0_2.out); (case side5 => repeat (first | exact (Kd.C_below HR1.out HB.out) | (with_reducible refine Kd.C_alloc ?_ _) | (with_reducible refine Kd.C_drewN ?_ _) | (with_reducible refine Kd.C_drew ?_))); (case side6 => exact HC1.out); rintro e w21 ⟨v368, rfl, ho0, hb⟩; refine ⟨_, rfl, ?_⟩; have n0_ := Aside0.mk (Kd.R_lower ho0 (below_size (by repeat (first | (with_reducible first | exact HB.out | apply below_alloc | apply pw_below_drewN | apply below_drew1 | refine below_set ?_ GE364.out) | exact HB.out)))); have n1_ := Aside0.mk (blk_below (g := gb364) (o := .cells #[.slice A0_0 l0_0.length c0_0, .int .i64 a0_1, .slice A0_2 l0_2.length c0_2, .int .i64 a0_3] 25 (0, 0)) (by (with_reducible repeat (first | refine blk_drewN ?_ _ | refine blk_drew ?_ | refine blk_alloc ?_ _)); exact BK364.out) hb); have n2_ := Aside0.mk (below_step (by repeat (first | (with_reducible first | exact HB.out | apply below_alloc | apply pw_below_drewN | apply below_drew1 | refine below_set ?_ GE364.out) | exact HB.out)) hb); clear BK364; clear HB; have HO369 := n0_; have BK364 := n1_; have HB := n2_; clear n0_ n1_ n2_; (try clear hb); (try clear hb2); (try clear hk); (try clear hi); (try clear ho0); have hcz22_0 : w21.cell? ⟨gb364, 0, none⟩ = some (.slice A0_0 l0_0.length c0_0) := (blk_cell BK364.out 0).trans rfl; have hcz22_1 : w21.cell? ⟨gb364, 1, none⟩ = some (.int .i64 a0_1) := (blk_cell BK364.out 1).trans rfl; have hcz22_2 : w21.cell? ⟨gb364, 2, none⟩ = some (.slice A0_2 l0_2.length c0_2) := (blk_cell BK364.out 2).trans rfl; have hcz22_3 : w21.cell? ⟨gb364, 3, none⟩ = some (.int .i64 a0_3) := (blk_cell BK364.out 3).trans rfl; have hfz22_0 := blk_frozen BK364.out 0; have hfz22_1 := blk_frozen BK364.out 1; have hfz22_2 := blk_frozen BK364.out 2; have hfz22_3 := blk_frozen BK364.out 3) | ((with_reducible refine gate_callee (f := 23) rfl ?_); refine goesL_ (some 26) rfl rfl Try.func23 (by kernel_rfl) rfl #[.agg #[.slice A0_0 l0_0.length c0_0, .int .i64 a0_1, .slice A0_2 l0_2.length c0_2, .int .i64 a0_3], .slice A1 l1.length c1] rfl (by (try simp only [List.map_toArray, List.map_cons, List.map_nil]); first | done | rfl | (simp only [List.length_drop, List.length_take]; rfl)) ?_; (with_reducible refine (skolemref35_Play.calls kj2 _ _ l0_0 a0_1 _ _ l0_2 a0_3 _ _ l1 t371 t374 _ ?side1 ?side2 ?side3 ?side4 ?side5 ?side6 A15.out).mono ?_); (case side1 => repeat (first | exact (Kd.C_below HR0_0.out HB.out) | (with_reducible refine Kd.C_alloc ?_ _) | (with_reducible refine Kd.C_drewN ?_ _) | (with_reducible refine Kd.C_drew ?_))); (case side2 => exact HC0_0.out); (case side3 => repeat (first | exact (Kd.C_below HR0_2.out HB.out) | (with_reducible refine Kd.C_alloc ?_ _) | (with_reducible refine Kd.C_drewN ?_ _) | (with_reducible refine Kd.C_drew ?_))); (case side4 => exact HC0_2.out); (case side5 => repeat (first | exact (Kd.C_below HR1.out HB.out) | (with_reducible refine Kd.C_alloc ?_ _) | (with_reducible refine Kd.C_drewN ?_ _) | (with_reducible refine Kd.C_drew ?_))); (case side6 => exact HC1.out); rintro e w23 ⟨v372, rfl, ho0, hb⟩; refine ⟨_, rfl, ?_⟩; have n0_ := Aside0.mk (Kd.R_elder' (by (with_reducible repeat (first | apply Kd.R_alloc | apply Kd.R_drewN | apply Kd.R_drew)); exact HO369.out) (Kd.R_base ho0) hb); have n1_ := Aside0.mk (Kd.R_lower (Kd.R_new' ho0 (Kd.R_lt (by (with_reducible repeat (first | apply Kd.R_alloc | apply Kd.R_drewN | apply Kd.R_drew)); exact HO369.out))) (below_size (by repeat (first | (with_reducible first | exact HB.out | apply below_alloc | apply pw_below_drewN | apply below_drew1 | refine below_set ?_ GE364.out) | exact HB.out)))); have n2_ := Aside0.mk (blk_below (g := gb364) (o := .cells #[.slice A0_0 l0_0.length c0_0, .int .i64 a0_1, .slice A0_2 l0_2.length c0_2, .int .i64 a0_3] 25 (0, 0)) (by (with_reducible repeat (first | refine blk_drewN ?_ _ | refine blk_drew ?_ | refine blk_alloc ?_ _)); exact BK364.out) hb); have n3_ := Aside0.mk (below_step (by repeat (first | (with_reducible first | exact HB.out | apply below_alloc | apply pw_below_drewN | apply below_drew1 | refine below_set ?_ GE364.out) | exact HB.out)) hb); clear HO369; clear BK364; clear HB; have HO369 := n0_; have HO373 := n1_; have BK364 := n2_; have HB := n3_; clear n0_ n1_ n2_ n3_; (try clear hb); (try clear hb2); (try clear hk); (try clear hi); (try clear ho0); obtain ⟨Ao24, co24, eo24⟩ := Kd.R_slice HO369.out; subst eo24; obtain ⟨Ao25, co25, eo25⟩ := Kd.R_slice HO373.out; subst eo25) | ((with_reducible refine gate_callee (f := 20) rfl ?_); refine goesL_ (some 31) rfl rfl Try.func20 (by kernel_rfl) rfl #[.slice Ao24 t367.length co24, .slice Ao25 t371.length co25] rfl (by (try simp only [List.map_toArray, List.map_cons, List.map_nil]); first | done | rfl | (simp only [List.length_drop, List.length_take]; rfl)) ?_; (with_reducible refine (skolemref03_Ints.calls kj2 _ _ t367 _ _ t371 true _ ?side1 ?side2 ?side3 ?side4 A16.out).mono ?_); (case side1 => repeat (first | exact (Kd.R_reads' HO369.out).2.2 | (with_reducible refine Kd.C_alloc ?_ _) | (with_reducible refine Kd.C_drewN ?_ _) | (with_reducible refine Kd.C_drew ?_))); (case side2 => exact (Kd.R_reads' HO369.out).2.1); (case side3 => repeat (first | exact (Kd.R_reads' HO373.out).2.2 | (with_reducible refine Kd.C_alloc ?_ _) | (with_reducible refine Kd.C_drewN ?_ _) | (with_reducible refine Kd.C_drew ?_))); (case side4 => exact (Kd.R_reads' HO373.out).2.1); rintro e w' ⟨rfl, ⟨nd, rfl⟩⟩; refine ⟨_, rfl, ?_⟩) | (go_at_call 9; (with_reducible refine (skolemlaw35_head.calls kj2  t376 _ A19.out).mono ?_); rintro e w26 ⟨rfl, hb⟩; have n0_ := Aside0.mk (Kd.R_below (by (with_reducible repeat (first | apply Kd.R_alloc | apply Kd.R_drewN | apply Kd.R_drew)); exact HO369.out) hb); have n1_ := Aside0.mk (Kd.R_below (by (with_reducible repeat (first | apply Kd.R_alloc | apply Kd.R_drewN | apply Kd.R_drew)); exact HO373.out) hb); have n2_ := Aside0.mk (blk_below (g := gb364) (o := .cells #[.slice A0_0 l0_0.length c0_0, .int .i64 a0_1, .slice A0_2 l0_2.length c0_2, .int .i64 a0_3] 25 (0, 0)) (by (with_reducible repeat (first | refine blk_drewN ?_ _ | refine blk_drew ?_ | refine blk_alloc ?_ _)); exact BK364.out) hb); have n3_ := Aside0.mk (below_step (by repeat (first | (with_reducible first | exact HB.out | apply below_alloc | apply pw_below_drewN | apply below_drew1 | refine below_set ?_ GE364.out) | exact HB.out)) hb); clear HO369; clear HO373; clear BK364; clear HB; have HO369 := n0_; have HO373 := n1_; have BK364 := n2_; have HB := n3_; clear n0_ n1_ n2_ n3_; (try clear hb); (try clear hb2); (try clear hk); (try clear hi)))
            go_ret
            exact ⟨by first | rfl | (simp [errW_none, errW_some] <;> rfl) | (simp [*, errW_none, errW_some] <;> rfl), by repeat (first | (with_reducible first | exact HB.out | apply below_alloc | apply pw_below_drewN | apply below_drew1 | refine below_set ?_ GE364.out) | exact HB.out)⟩
          · rw [if_neg c18] at H
            have c18b0 : (t370 == t374) = false := beq_eq_false_iff_ne.mpr c18
            have c18b1 : (t370 != t374) = true := bne_iff_ne.mpr c18
            exact absurd ((Option.some.inj H).trans HT_.out) (by decide)
        · replace c17 := Bool.eq_false_iff.mpr c17
          subst c17
          have H1 : (some false) = some r := by rw [if_neg (show ¬ (false = true) by decide)] at H; exact H
          clear H
          have H := H1
          clear H1
          exact absurd ((Option.some.inj H).trans HT_.out) (by decide)

end Go.Proofs.Ytjlehbncpjccmaa.Q
