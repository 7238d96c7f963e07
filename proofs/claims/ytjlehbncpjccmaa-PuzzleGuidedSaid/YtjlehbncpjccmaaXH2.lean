/-
  Proved: the law PuzzleGuided returns true for every input (puzzle, choices), and the input reads as it did.
  Part 2 of 3. Conditions: none. Written for this claim by programs of this work (extprint.py, gen_*.py, assemble.py) and by hand.
-/
import Derived.Test.YtjlehbncpjccmaaXH1
import Derived.Outline
import Derived.MapKept
import Derived.Carry
namespace Go.Proofs.Ytjlehbncpjccmaa.Q
open Go.RowKit Go.Proofs.YtjlehbncpjccmaaW.PrintWords Go.Proofs.YtjlehbncpjccmaaW.PrintLast Go.Proofs.YtjlehbncpjccmaaW.PrintMore
attribute [local go_sem] max2_int min2_int max_two min_two max_three min_three max_four min_four
set_option linter.unusedVariables false
set_option linter.unusedSimpArgs false

def needW (n : Nat) : Nat := if n ≤ 1 then 0 else if n ≤ 2 then 1 else 2
def widthP (ps : List S55) : Nat := ps.foldl (fun w x => max w (needW x.f1.length)) 0
theorem widthP_snoc (ps : List S55) (x : S55) : widthP (ps ++ [x]) = max (widthP ps) (needW x.f1.length) := by simp [widthP]
theorem needW_le (n : Nat) : needW n ≤ 2 := by unfold needW; split; omega; split <;> omega
theorem widthP_le (ps : List S55) : widthP ps ≤ 2 := by
  have h : ∀ (l : List S55) (w : Nat), w ≤ 2 → l.foldl (fun w x => max w (needW x.f1.length)) w ≤ 2 := by
    intro l
    induction l with
    | nil => intro w h; exact h
    | cons x r ih => intro w h; exact ih _ (Nat.max_le.2 ⟨h, needW_le _⟩)
  exact h ps 0 (by omega)
theorem mayB_to {ps : List S55} {st : Int} {gs : List Int} {mv : Int} (h : mayB ps st gs mv = true) : ∀ x ∈ ps, x.f1.length ≤ 4 := by
  simp only [mayB, Bool.and_eq_true, Bool.not_eq_true', List.any_eq_false, badP, Bool.or_eq_true, not_or, decide_eq_true_eq] at h
  intro x hx
  have := (h.2 x hx).1
  omega
theorem info69n : (Try.prog.info? 69).map (·.size) = some 5 := by kernel_rfl
theorem info55n : (Try.prog.info? 55).map (·.size) = some 2 := by kernel_rfl
theorem info25n : (Try.prog.info? 25).map (·.size) = some 4 := by kernel_rfl
def openV (A0 : Option Addr) (c0 : Nat) (ps : List S55) (st : Int) (A2 : Option Addr) (c2 : Nat) (gs : List Int) (mv : Int) : Value :=
  if mayB ps st gs mv then .tuple #[.agg #[.slice A0 ps.length c0, .int .i64 st, .slice A2 gs.length c2, .int .i64 mv, .int .i64 (widthP ps)], .int .i64 0]
  else .tuple #[.agg #[.slice none 0 0, .int .i64 0, .slice none 0 0, .int .i64 0, .int .i64 0], .int .i64 2]
set_option maxHeartbeats 3200000 in
theorem open.calls (A0 : Option Addr) (c0 : Nat) (ps : List S55) (st : Int) (A2 : Option Addr) (c2 : Nat) (gs : List Int) (mv : Int) (w : World)
    (hr0 : Kd.C k55 w A0 ps.length ps) (hc0 : ps.length ≤ c0) (hr2 : Kd.C (Kd.int .i64) w A2 gs.length gs) (hc2 : gs.length ≤ c2) :
    Calls Try.prog 32 #[.agg #[.slice A0 ps.length c0, .int .i64 st, .slice A2 gs.length c2, .int .i64 mv]] w fun e w' => e = .returned (openV A0 c0 ps st A2 c2 gs mv) ∧ Below w.heap.size w w' := by
  have HR0 := Aside0.mk hr0
  have HR2 := Aside0.mk hr2
  have HB := Aside0.mk (Below.refl w.heap.size w)
  have hlen := hr0.2.1
  clear hr0 hr2
  unfold openV
  cases hmay : mayB ps st gs mv with
  | false =>
    have HM := Aside0.mk hmay
    clear hmay
    rw [if_neg Bool.false_ne_true]
    go_enter Try.func32, Try.ntmps32
    go_wp2_with (first | ((with_reducible refine gate_dst (N := 1) rfl ?_); (try (refine gate_guard (by rfl) ?_; dsimp only)); refine box_event ?hg (N := 1) ?hd (cs := #[.slice A0 ps.length c0, .int .i64 st, .slice A2 gs.length c2, .int .i64 mv]) (t := 25) ?hr ?_; (case hd => rfl); (case hg => rfl); (case hr => exact qz23); intro b1 hb1_ w_b1 hbox hb_; have n0_ := Aside0.mk (below_then HB.out HB.out.size hb_); have Bb1 := Aside0.mk hbox; clear hbox; have G1 := Aside0.mk (by rw [hb1_]; exact HB.out.size : w.heap.size ≤ b1); clear hb_; clear hb1_; (try clear HB); have HB := n0_; clear n0_) | ((with_reducible refine gate_dst (N := 2) rfl ?_); (try (refine gate_guard (by rfl) ?_; dsimp only)); refine box_event ?hg (N := 2) ?hd (cs := #[.slice none 0 0, .int .i64 0, .slice none 0 0, .int .i64 0, .int .i64 0]) (t := 69) ?hr ?_; (case hd => rfl); (case hg => rfl); (case hr => exact qz23); intro b2 hb2_ w_b2 hbox hb_; have n0_ := Aside0.mk (below_then HB.out HB.out.size hb_); have Bb2 := Aside0.mk hbox; clear hbox; have G2 := Aside0.mk (by rw [hb2_]; exact HB.out.size : w.heap.size ≤ b2); have Cb1 := Aside0.mk ((hb_.block _ (blk_lt Bb1.out)).trans Bb1.out); clear Bb1; clear hb_; clear hb2_; (try clear HB); have HB := n0_; clear n0_) | ((with_reducible refine gate_dst (N := 7) rfl ?_); (try (refine gate_guard (by rfl) ?_; dsimp only)); refine wpList_load_row rfl 25 (.tmp 1) rfl b1 rfl 25 (#[.slice A0 ps.length c0, .int .i64 st, .slice A2 gs.length c2, .int .i64 mv]) (0, 0) _ Cb1.out Try.underlying25 rfl info25n ?_) | ((with_reducible refine gate_callee (f := 18) rfl ?_); (try (refine gate_guard (by rfl) ?_; dsimp only)); refine goesL_ (some 8) rfl rfl Try.func18 (by kernel_rfl) rfl #[.agg #[.slice A0 ps.length c0, .int .i64 st, .slice A2 gs.length c2, .int .i64 mv]] rfl qz20 ?_; refine (puzzle_May.calls A0 c0 ps st A2 c2 gs mv false _ (Kd.C_below HR0.out HB.out) hc0 (Kd.C_below HR2.out HB.out) hc2 (by rw [puzzle_May.f, HM.out])).mono ?_; rintro e_ w_ ⟨rfl, hb_⟩; have Db1 := Aside0.mk ((hb_.block _ (blk_lt Cb1.out)).trans Cb1.out); have Db2 := Aside0.mk ((hb_.block _ (blk_lt Bb2.out)).trans Bb2.out); have HB1 := Aside0.mk (below_then HB.out HB.out.size hb_); clear Cb1 Bb2 HB hb_; have HB := HB1; clear HB1; refine ⟨_, rfl, ?_⟩) | ((with_reducible refine gate_store (t := 69) (p := 2) rfl ?_); refine wpList_store_rowTo rfl 69 (.tmp 2) (.tmp 10) rfl rfl b2 (#[.slice none 0 0, .int .i64 0, .slice none 0 0, .int .i64 0, .int .i64 0]) rfl rfl 69 (#[.slice none 0 0, .int .i64 0, .slice none 0 0, .int .i64 0, .int .i64 0]) Db2.out info69n rfl (by simp [Value.oneCell']) ?_; refine named_world _ ?_; intro w2 hw_; have E2 : Aside0 (w2.heap[b2]? = some (.cells #[.slice none 0 0, .int .i64 0, .slice none 0 0, .int .i64 0, .int .i64 0] 69 (0, 0))) := ⟨by rw [hw_]; exact setRow_heap _ _ _ _ _ _ Db2.out⟩; have HB1 : Aside0 (Below w.heap.size w w2) := ⟨by rw [hw_]; exact below_setRow HB.out G2.out _⟩; clear hw_))
    refine bodyPost_ret (results_ct rfl _ _ b2 69 #[.slice none 0 0, .int .i64 0, .slice none 0 0, .int .i64 0, .int .i64 0] (0, 0) _ rfl E2.out Try.underlying69 rfl (by kernel_rfl)) rfl ?_
    exact ⟨rfl, HB1.out⟩
  | true =>
    have HM := Aside0.mk hmay
    clear hmay
    rw [if_pos rfl]
    go_enter Try.func32, Try.ntmps32
    go_wp2_with (first | ((with_reducible refine gate_dst (N := 1) rfl ?_); (try (refine gate_guard (by rfl) ?_; dsimp only)); refine box_event ?hg (N := 1) ?hd (cs := #[.slice A0 ps.length c0, .int .i64 st, .slice A2 gs.length c2, .int .i64 mv]) (t := 25) ?hr ?_; (case hd => rfl); (case hg => rfl); (case hr => exact qz23); intro b1 hb1_ w_b1 hbox hb_; have n0_ := Aside0.mk (below_then HB.out HB.out.size hb_); have Bb1 := Aside0.mk hbox; clear hbox; have G1 := Aside0.mk (by rw [hb1_]; exact HB.out.size : w.heap.size ≤ b1); clear hb_; clear hb1_; (try clear HB); have HB := n0_; clear n0_) | ((with_reducible refine gate_dst (N := 2) rfl ?_); (try (refine gate_guard (by rfl) ?_; dsimp only)); refine box_event ?hg (N := 2) ?hd (cs := #[.slice none 0 0, .int .i64 0, .slice none 0 0, .int .i64 0, .int .i64 0]) (t := 69) ?hr ?_; (case hd => rfl); (case hg => rfl); (case hr => exact qz23); intro b2 hb2_ w_b2 hbox hb_; have n0_ := Aside0.mk (below_then HB.out HB.out.size hb_); have Bb2 := Aside0.mk hbox; clear hbox; have G2 := Aside0.mk (by rw [hb2_]; exact HB.out.size : w.heap.size ≤ b2); have Cb1 := Aside0.mk ((hb_.block _ (blk_lt Bb1.out)).trans Bb1.out); clear Bb1; clear hb_; clear hb2_; (try clear HB); have HB := n0_; clear n0_) | ((with_reducible refine gate_dst (N := 7) rfl ?_); (try (refine gate_guard (by rfl) ?_; dsimp only)); refine wpList_load_row rfl 25 (.tmp 1) rfl b1 rfl 25 (#[.slice A0 ps.length c0, .int .i64 st, .slice A2 gs.length c2, .int .i64 mv]) (0, 0) _ Cb1.out Try.underlying25 rfl info25n ?_) | ((with_reducible refine gate_callee (f := 18) rfl ?_); (try (refine gate_guard (by rfl) ?_; dsimp only)); refine goesL_ (some 8) rfl rfl Try.func18 (by kernel_rfl) rfl #[.agg #[.slice A0 ps.length c0, .int .i64 st, .slice A2 gs.length c2, .int .i64 mv]] rfl qz20 ?_; refine (puzzle_May.calls A0 c0 ps st A2 c2 gs mv true _ (Kd.C_below HR0.out HB.out) hc0 (Kd.C_below HR2.out HB.out) hc2 (by rw [puzzle_May.f, HM.out])).mono ?_; rintro e_ w_ ⟨rfl, hb_⟩; have Db1 := Aside0.mk ((hb_.block _ (blk_lt Cb1.out)).trans Cb1.out); have Db2 := Aside0.mk ((hb_.block _ (blk_lt Bb2.out)).trans Bb2.out); have HB1 := Aside0.mk (below_then HB.out HB.out.size hb_); clear Cb1 Bb2 HB hb_; have HB := HB1; clear HB1; refine ⟨_, rfl, ?_⟩) | ((with_reducible refine gate_dst (N := 11) rfl ?_); (try (refine gate_guard (by rfl) ?_; dsimp only)); refine wpList_load_row rfl 25 (.tmp 1) rfl b1 rfl 25 (#[.slice A0 ps.length c0, .int .i64 st, .slice A2 gs.length c2, .int .i64 mv]) (0, 0) _ Db1.out Try.underlying25 rfl info25n ?_) | ((with_reducible refine gate_dst (N := 4) rfl ?_); (try (refine gate_guard (by rfl) ?_; dsimp only)); refine box_event ?hg (N := 4) ?hd (cs := #[.slice none 0 0, .int .i64 0, .slice none 0 0, .int .i64 0, .int .i64 0]) (t := 69) ?hr ?_; (case hd => rfl); (case hg => rfl); (case hr => exact qz23); intro b4 hb4_ w_b4 hbox hb_; have n0_ := Aside0.mk (below_then HB.out HB.out.size hb_); have Bb4 := Aside0.mk hbox; clear hbox; have G4 := Aside0.mk (by rw [hb4_]; exact HB.out.size : w.heap.size ≤ b4); have Eb1 := Aside0.mk ((hb_.block _ (blk_lt Db1.out)).trans Db1.out); have Eb2 := Aside0.mk ((hb_.block _ (blk_lt Db2.out)).trans Db2.out); have N1 := Aside0.mk (by have := blk_lt Db1.out; omega : b1 ≠ b4); have N2 := Aside0.mk (by have := blk_lt Db2.out; omega : b2 ≠ b4); clear Db1 Db2; clear hb_; clear hb4_; (try clear HB); have HB := n0_; clear n0_) | ((with_reducible refine gate_store (t := 69) (p := 4) rfl ?_); refine wpList_store_rowTo rfl 69 (.tmp 4) (.tmp 12) rfl rfl b4 (#[.slice A0 ps.length c0, .int .i64 st, .slice A2 gs.length c2, .int .i64 mv, .int .i64 (0 : Int)]) rfl rfl 69 (#[.slice none 0 0, .int .i64 0, .slice none 0 0, .int .i64 0, .int .i64 0]) Bb4.out info69n rfl (by simp [Value.oneCell']) ?_; refine named_world _ ?_; intro w4 hw_; have F4 : Aside0 (w4.heap[b4]? = some (.cells #[.slice A0 ps.length c0, .int .i64 st, .slice A2 gs.length c2, .int .i64 mv, .int .i64 (0 : Int)] 69 (0, 0))) := ⟨by rw [hw_]; exact setRow_heap _ _ _ _ _ _ Bb4.out⟩; have F1 : Aside0 (w4.heap[b1]? = some (.cells #[.slice A0 ps.length c0, .int .i64 st, .slice A2 gs.length c2, .int .i64 mv] 25 (0, 0))) := ⟨by rw [hw_, setRow_other _ _ _ _ N1.out]; exact Eb1.out⟩; have F2 : Aside0 (w4.heap[b2]? = some (.cells #[.slice none 0 0, .int .i64 0, .slice none 0 0, .int .i64 0, .int .i64 0] 69 (0, 0))) := ⟨by rw [hw_, setRow_other _ _ _ _ N2.out]; exact Eb2.out⟩; have HB1 : Aside0 (Below w.heap.size w w4) := ⟨by rw [hw_]; exact below_setRow HB.out G4.out _⟩; clear Bb4 Eb1 Eb2 HB; have HB := HB1; clear HB1; have f1 : w4.cell? ⟨b1, 0, none⟩ = some (.slice A0 ps.length c0) := (blk_cell F1.out 0).trans rfl; clear hw_))
    clear f1
    go_loopg [16] ps.length (fun kq v16 wr => ∃ (x : Int) (wd : Int), v16 = .int .i64 x ∧ Aside0 (∃ i : Nat, x = i ∧ kq + i = ps.length ∧ wd = widthP (ps.take i)) ∧ Aside0 (wr.heap[b4]? = some (.cells #[.slice A0 ps.length c0, .int .i64 st, .slice A2 gs.length c2, .int .i64 mv, .int .i64 wd] 69 (0, 0))) ∧ Aside0 (wr.heap[b2]? = some (.cells #[.slice none 0 0, .int .i64 0, .slice none 0 0, .int .i64 0, .int .i64 0] 69 (0, 0))) ∧ Aside0 (Below w.heap.size w wr))
    case atStart => exact ⟨0, 0, rfl, ⟨0, rfl, by omega, rfl⟩, F4, F2, HB⟩
    case round =>
      clear HB F1 F2 F4
      obtain ⟨x, wd, rfl, HI, B4, B2, HB⟩ := hrel
      by_cases hlt : x < (ps.length : Int)
      · obtain ⟨ko, rfl⟩ : ∃ ko, gk = ko + 1 := ⟨gk - 1, by obtain ⟨i, rfl, h1, _⟩ := HI.out; omega⟩
        obtain ⟨wo, rfl⟩ : ∃ wo : World, wo = wr := ⟨_, rfl⟩
        have h0 : 0 ≤ x := by obtain ⟨i, rfl, _⟩ := HI.out; omega
        obtain ⟨ad, A1, c1, rfl, hx, hx1, hl1, hr1⟩ := at_T55 HR0.out x h0 hlt
        replace hx := (HB.out.cell (World.block_lt_of_cell? w _ hx)).trans hx
        replace hx1 := (HB.out.cell (World.block_lt_of_cell? w _ hx1)).trans hx1
        have hmem : rd_T55 ps x ∈ ps := getD_mem ps z55 _ (by omega)
        have hle := mayB_to HM.out _ hmem
        have hstep : ((widthP (ps.take (x.toNat + 1)) : Nat) : Int) = max wd (needW (rd_T55 ps x).f1.length) := by
          obtain ⟨i, rfl, _, rfl⟩ := HI.out
          rw [Int.toNat_natCast, List.take_succ_eq_append_getElem (by omega), widthP_snoc]
          have e : rd_T55 ps i = ps[i]'(by omega) := by simp [rd_T55, List.getD_eq_getElem?_getD, List.getElem?_eq_getElem (show i < ps.length by omega)]
          rw [e]; omega
        have hwd : 0 ≤ wd ∧ wd ≤ 2 := by
          obtain ⟨i, _, _, rfl⟩ := HI.out
          have := widthP_le (ps.take i)
          omega
        obtain ⟨r, hr⟩ : ∃ r, rd_T55 ps x = r := ⟨_, rfl⟩
        rw [hr] at hx hx1 hl1 hr1 hstep hle
        have HST := Aside0.mk hstep
        have HWD := Aside0.mk hwd
        have HLE := Aside0.mk hle
        have NB4 := Aside0.mk (blk_lt B4.out)
        have NB2 := Aside0.mk (blk_lt B2.out)
        have p1 := eq_true h0
        have p2 := eq_true hlt
        have hlt' := decide_eq_true hlt
        have HP := Aside0.mk (And.intro h0 hlt)
        clear hr hmem hstep hr1 h0 hlt hwd hle
        go_wp2_with (first | ((with_reducible refine gate_dst (N := 6) rfl ?_); (try (refine gate_guard (by rfl) ?_; dsimp only)); refine box_event ?hg (N := 6) ?hd (cs := #[.bool false, .slice none 0 0]) (t := 55) ?hr ?_; (case hd => rfl); (case hg => rfl); (case hr => exact qz23); intro b6 hb6_ w_b6 hbox hb_; have n0_ := Aside0.mk (below_then HB.out HB.out.size hb_); have Bb6 := Aside0.mk hbox; clear hbox; have G6 := Aside0.mk (by rw [hb6_]; exact HB.out.size : w.heap.size ≤ b6); have C4 := Aside0.mk ((hb_.block _ (blk_lt B4.out)).trans B4.out); have C2 := Aside0.mk ((hb_.block _ (blk_lt B2.out)).trans B2.out); have M4 := Aside0.mk (by have := NB4.out; omega : b4 ≠ b6); have M2 := Aside0.mk (by have := NB2.out; omega : b2 ≠ b6); clear hb_; clear hb6_; (try clear HB); have HB := n0_; clear n0_) | ((with_reducible refine gate_store (t := 55) (p := 6) rfl ?_); refine wpList_store_rowTo rfl 55 (.tmp 6) (.tmp 19) rfl rfl b6 (#[.bool r.f0, .slice A1 r.f1.length c1]) rfl rfl 55 (#[.bool false, .slice none 0 0]) Bb6.out info55n rfl (by simp [Value.oneCell']) ?_; refine named_world _ ?_; intro w6 hw_; have E6 : Aside0 (w6.heap[b6]? = some (.cells #[.bool r.f0, .slice A1 r.f1.length c1] 55 (0, 0))) := ⟨by rw [hw_]; exact setRow_heap _ _ _ _ _ _ Bb6.out⟩; have E4 : Aside0 (w6.heap[b4]? = some (.cells #[.slice (some ad) ps.length c0, .int .i64 st, .slice A2 gs.length c2, .int .i64 mv, .int .i64 wd] 69 (0, 0))) := ⟨by rw [hw_, setRow_other _ _ _ _ M4.out]; exact C4.out⟩; have E2 : Aside0 (w6.heap[b2]? = some (.cells #[.slice none 0 0, .int .i64 0, .slice none 0 0, .int .i64 0, .int .i64 0] 69 (0, 0))) := ⟨by rw [hw_, setRow_other _ _ _ _ M2.out]; exact C2.out⟩; have HB1 : Aside0 (Below w.heap.size w w6) := ⟨by rw [hw_]; exact below_setRow HB.out G6.out _⟩; clear C4 C2 Bb6; clear hw_))
        simp only [Act.put, List.setIfInBounds_toArray, List.set_cons_succ, List.set_cons_zero]
        go_loopg [] (3 : Nat) (fun kq wr => ∃ v : Int, Aside0 (wd ≤ v ∧ v ≤ max wd (needW r.f1.length) ∧ 3 ≤ v + kq) ∧ Aside0 (wr.heap[b4]? = some (.cells #[.slice (some ad) ps.length c0, .int .i64 st, .slice A2 gs.length c2, .int .i64 mv, .int .i64 v] 69 (0, 0))) ∧ Aside0 (wr.heap[b2]? = some (.cells #[.slice none 0 0, .int .i64 0, .slice none 0 0, .int .i64 0, .int .i64 0] 69 (0, 0))) ∧ Aside0 (wr.heap[b6]? = some (.cells #[.bool r.f0, .slice A1 r.f1.length c1] 55 (0, 0))) ∧ Aside0 (Below w.heap.size w wr))
        case atStart => exact ⟨wd, ⟨by have := HWD.out; omega⟩, E4, E2, E6, HB1⟩
        case round =>
          clear HB1 E4 E2 E6 HB B4 B2
          obtain ⟨v, HV, B4, B2, B6, HB⟩ := hrel
          have f0 : wr.cell? ⟨b6, 1, none⟩ = some (.slice A1 r.f1.length c1) := (blk_cell B6.out 1).trans rfl
          have f1 : wr.cell? ⟨b4, 4, none⟩ = some (.int .i64 v) := (blk_cell B4.out 4).trans rfl
          have f2 : wr.frozen? ⟨b4, 4, none⟩ = false := blk_frozen B4.out 4
          have hv : v = 0 ∨ v = 1 ∨ v = 2 := by
            have h1 := HV.out; have h2 := HWD.out; have h3 := needW_le r.f1.length; omega
          rcases hv with rfl | rfl | rfl
          · by_cases hg : 1 < r.f1.length
            · have q1 : decide (1 < r.f1.length) = true := decide_eq_true hg
              have q2 : decide (1 < (r.f1.length : Int)) = true := decide_eq_true (by omega)
              go_wp2
              repeat (go_quiet (fail); try go_wp2)
              go_roundg (gk - 1)
              case measure => have := HV.out; omega
              case rel => exact ⟨1, ⟨by have := HV.out; unfold needW at this ⊢; (repeat' split at this) <;> (repeat' split) <;> omega⟩, ⟨(blk_set (w := wr.drewN _) B4.out 4 _).trans rfl⟩, ⟨(Below.heap_setCell _ _ _ _ N2.out).trans B2.out⟩, ⟨(Below.heap_setCell _ _ _ _ (Ne.symm M4.out)).trans B6.out⟩, ⟨below_set (pw_below_drewN HB.out _) G4.out⟩⟩
            · have q1 : decide (1 < r.f1.length) = false := decide_eq_false hg
              have q2 : decide (1 < (r.f1.length : Int)) = false := decide_eq_false (by omega)
              go_wp2
              repeat (go_quiet (fail); try go_wp2)
              go_roundg ko
              case measure => omega
              case rel =>
                have hP := HP.out
                refine ⟨x + 1, 0, by rw [show wrap64 (x + 1) = x + 1 by unfold wrap64; omega], ⟨?_⟩, B4, B2, ⟨pw_below_drewN HB.out _⟩⟩
                obtain ⟨i, rfl, h1, h2⟩ := HI.out
                refine ⟨i + 1, by omega, by omega, ?_⟩
                have hs := HST.out
                rw [Int.toNat_natCast] at hs
                rw [hs]
                have h3 := HV.out
                have h4 := HLE.out
                unfold needW at h3 ⊢
                (repeat' split at h3) <;> (repeat' split) <;> omega
          · by_cases hg : 2 < r.f1.length
            · have q1 : decide (2 < r.f1.length) = true := decide_eq_true hg
              have q2 : decide (2 < (r.f1.length : Int)) = true := decide_eq_true (by omega)
              go_wp2
              repeat (go_quiet (fail); try go_wp2)
              go_roundg (gk - 1)
              case measure => have := HV.out; omega
              case rel => exact ⟨2, ⟨by have := HV.out; unfold needW at this ⊢; (repeat' split at this) <;> (repeat' split) <;> omega⟩, ⟨(blk_set (w := wr.drewN _) B4.out 4 _).trans rfl⟩, ⟨(Below.heap_setCell _ _ _ _ N2.out).trans B2.out⟩, ⟨(Below.heap_setCell _ _ _ _ (Ne.symm M4.out)).trans B6.out⟩, ⟨below_set (pw_below_drewN HB.out _) G4.out⟩⟩
            · have q1 : decide (2 < r.f1.length) = false := decide_eq_false hg
              have q2 : decide (2 < (r.f1.length : Int)) = false := decide_eq_false (by omega)
              go_wp2
              repeat (go_quiet (fail); try go_wp2)
              go_roundg ko
              case measure => omega
              case rel =>
                have hP := HP.out
                refine ⟨x + 1, 1, by rw [show wrap64 (x + 1) = x + 1 by unfold wrap64; omega], ⟨?_⟩, B4, B2, ⟨pw_below_drewN HB.out _⟩⟩
                obtain ⟨i, rfl, h1, h2⟩ := HI.out
                refine ⟨i + 1, by omega, by omega, ?_⟩
                have hs := HST.out
                rw [Int.toNat_natCast] at hs
                rw [hs]
                have h3 := HV.out
                have h4 := HLE.out
                unfold needW at h3 ⊢
                (repeat' split at h3) <;> (repeat' split) <;> omega
          · have hg := HLE.out
            have q1 : decide (4 < r.f1.length) = false := decide_eq_false (by omega)
            have q2 : decide (4 < (r.f1.length : Int)) = false := decide_eq_false (by omega)
            clear hg
            go_wp2
            repeat (go_quiet (fail); try go_wp2)
            go_roundg ko
            case measure => omega
            case rel =>
              have hP := HP.out
              refine ⟨x + 1, 2, by rw [show wrap64 (x + 1) = x + 1 by unfold wrap64; omega], ⟨?_⟩, B4, B2, ⟨pw_below_drewN HB.out _⟩⟩
              obtain ⟨i, rfl, h1, h2⟩ := HI.out
              refine ⟨i + 1, by omega, by omega, ?_⟩
              have hs := HST.out
              rw [Int.toNat_natCast] at hs
              rw [hs]
              have h3 := HV.out
              have h4 := HLE.out
              unfold needW at h3 ⊢
              (repeat' split at h3) <;> (repeat' split) <;> omega
      · have hlt' := decide_eq_false hlt
        have hwd : wd = widthP ps := by
          obtain ⟨i, rfl, h1, h2⟩ := HI.out
          rw [h2, List.take_of_length_le (by omega)]
        subst hwd
        have N24 := N2
        clear hlt
        go_wp2_with (first | ((with_reducible refine gate_dst (N := 32) rfl ?_); (try (refine gate_guard (by rfl) ?_; dsimp only)); refine wpList_load_row rfl 69 (.tmp 4) rfl b4 rfl 69 (#[.slice A0 ps.length c0, .int .i64 st, .slice A2 gs.length c2, .int .i64 mv, .int .i64 (widthP ps)]) (0, 0) _ B4.out Try.underlying69 rfl info69n ?_) | ((with_reducible refine gate_store (t := 69) (p := 2) rfl ?_); refine wpList_store_rowTo rfl 69 (.tmp 2) (.tmp 32) rfl rfl b2 (#[.slice A0 ps.length c0, .int .i64 st, .slice A2 gs.length c2, .int .i64 mv, .int .i64 (widthP ps)]) rfl rfl 69 (#[.slice none 0 0, .int .i64 0, .slice none 0 0, .int .i64 0, .int .i64 0]) B2.out info69n rfl (by simp [Value.oneCell']) ?_; refine named_world _ ?_; intro w9 hw_; have E2 : Aside0 (w9.heap[b2]? = some (.cells #[.slice A0 ps.length c0, .int .i64 st, .slice A2 gs.length c2, .int .i64 mv, .int .i64 (widthP ps)] 69 (0, 0))) := ⟨by rw [hw_]; exact setRow_heap _ _ _ _ _ _ B2.out⟩; have HB1 : Aside0 (Below w.heap.size w w9) := ⟨by rw [hw_]; exact below_setRow HB.out G2.out _⟩; clear hw_))
        refine bodyPost_ret (results_ct rfl _ _ b2 69 #[.slice A0 ps.length c0, .int .i64 st, .slice A2 gs.length c2, .int .i64 mv, .int .i64 (widthP ps)] (0, 0) _ rfl E2.out Try.underlying69 rfl (by kernel_rfl)) rfl ?_
        exact ⟨rfl, HB1.out⟩
end Go.Proofs.Ytjlehbncpjccmaa.Q
namespace Go.Proofs.Ytjlehbncpjccmaa.Q
open Go.RowKit Go.Proofs.YtjlehbncpjccmaaW.PrintWords Go.Proofs.YtjlehbncpjccmaaW.PrintLast Go.Proofs.YtjlehbncpjccmaaW.PrintMore
attribute [local go_sem] max2_int min2_int max_two min_two max_three min_three max_four min_four   -- for this text's walks alone
set_option linter.unusedVariables false
set_option linter.unusedSimpArgs false

/-! ### puzzle_board_choice: function 34 -/
def puzzle_board_choice.l0 : Nat → Int → Bool → List Int → Int → Int → List (S55) → Int → List Int → Int → Int → Option (List Int)
  | 0, _, _, _, _, _, _, _, _, _, _ => none
  | k + 1, x1, x2, x7, x10, x11, x110000, x110001, x110002, x110003, x110004 => if x11 < x10 then (if x7.length < 17592186044416 then ((some (x7 ++ [wrap64 ((wrap64 ((wrap64 ((wrap64 (2 * x110004)) * (wrap64 (x1 - 1)))) + 1)) + x11)] : List Int)).bind fun y110 => (if x2 = true then (puzzle_board_choice.l0 k x1 x2 y110 x10 (wrap64 (x11 + 1)) x110000 x110001 x110002 x110003 x110004) else (if 0 ≤ x11 then (if x11 < (y110.length : Int) then (puzzle_board_choice.l0 k x1 x2 (y110.set (x11 : Int).toNat (wrap64 ((rd y110 x11) + x110004))) x10 (wrap64 (x11 + 1)) x110000 x110001 x110002 x110003 x110004) else (none)) else (none)))) else (none)) else (some x7)
def puzzle_board_choice.f (k : Nat) (l0_0 : List (S55)) (a0_1 : Int) (l0_2 : List Int) (a0_3 : Int) (a0_4 : Int) (a1 : Int) (a2 : Bool) : Option (List Int) := puzzle_board_choice.l0 k a1 a2 ([] : List Int) a0_4 0 l0_0 a0_1 l0_2 a0_3 a0_4
theorem puzzle_board_choice.mono_l : ∀ k, (∀ y0 y1 y2 y3 y4 y5 y6 y7 y8 y9, LeO (puzzle_board_choice.l0 k y0 y1 y2 y3 y4 y5 y6 y7 y8 y9) (puzzle_board_choice.l0 (k + 1) y0 y1 y2 y3 y4 y5 y6 y7 y8 y9))
  | 0 => fun _ _ _ _ _ _ _ _ _ _ r h => by simp [puzzle_board_choice.l0] at h
  | k + 1 => by
    have ih0 := puzzle_board_choice.mono_l k
    · intro y0 y1 y2 y3 y4 y5 y6 y7 y8 y9
      unfold puzzle_board_choice.l0
      repeat' first
      | (with_reducible exact ih0 _ _ _ _ _ _ _ _ _ _)
      | (with_reducible exact LeO.refl _)
      | (with_reducible exact LeO.none _)
      | (with_reducible refine LeO.ite ?_ ?_)
      | (with_reducible refine LeO.bind ?_ (fun _ => ?_))
      | exact ih0 _ _ _ _ _ _ _ _ _ _
      | exact LeO.none _
      | refine LeO.ite ?_ ?_
      | refine LeO.bind ?_ (fun _ => ?_)
theorem puzzle_board_choice.mono : ∀ a0 a1 a2 a3 a4 a5 a6 k, LeO (puzzle_board_choice.f k a0 a1 a2 a3 a4 a5 a6) (puzzle_board_choice.f (k + 1) a0 a1 a2 a3 a4 a5 a6) := by
  intro a0 a1 a2 a3 a4 a5 a6 k
  have ih0 := puzzle_board_choice.mono_l k
  unfold puzzle_board_choice.f
  repeat' first
      | (with_reducible exact ih0 _ _ _ _ _ _ _ _ _ _)
      | (with_reducible exact LeO.refl _)
      | (with_reducible exact LeO.none _)
      | (with_reducible refine LeO.ite ?_ ?_)
      | (with_reducible refine LeO.bind ?_ (fun _ => ?_))
      | exact ih0 _ _ _ _ _ _ _ _ _ _
      | exact LeO.none _
      | refine LeO.ite ?_ ?_
      | refine LeO.bind ?_ (fun _ => ?_)
def puzzle_board_choice.T7 : Bool × List (List Nat × List Nat) := (true, [([], []), ([], []), ([0, 1], [0, 1]), ([2], [2]), ([], []), ([4], [4]), ([3, 5], [3, 5]), ([0, 1, 0, 1, 2, 3, 4, 5, 6], [0, 1]), ([7, 6, 0, 1, 2, 3, 4, 5, 6], [6, 7])])
def puzzle_board_choice.B7 : List Nat := [0, 0, 3, 7, 0, 16, 63, 127, 255]
theorem puzzle_board_choice.tab7 : rtab .any (opsOf Try.f34 7) = puzzle_board_choice.T7 := by kernel_rfl
theorem puzzle_board_choice.bits7 : waitsOk puzzle_board_choice.T7.2 puzzle_board_choice.B7 = true := by kernel_rfl
set_option maxHeartbeats 8000000 in
set_option maxRecDepth 100000 in
theorem puzzle_board_choice.calls (k : Nat) (A0_0 : Option Addr) (c0_0 : Nat) (l0_0 : List (S55)) (a0_1 : Int) (A0_2 : Option Addr) (c0_2 : Nat) (l0_2 : List Int) (a0_3 : Int) (a0_4 : Int) (a1 : Int) (a2 : Bool) (r : List Int) (w : World) (hr0_0 : Kd.C k55 w A0_0 l0_0.length l0_0) (hc0_0 : l0_0.length ≤ c0_0) (hr0_2 : Kd.C (Kd.int .i64) w A0_2 l0_2.length l0_2) (hc0_2 : l0_2.length ≤ c0_2) (h : puzzle_board_choice.f k l0_0 a0_1 l0_2 a0_3 a0_4 a1 a2 = some r) :
    Calls Try.prog 34 #[.agg #[.slice A0_0 l0_0.length c0_0, .int .i64 a0_1, .slice A0_2 l0_2.length c0_2, .int .i64 a0_3, .int .i64 a0_4], .int .i64 a1, .bool a2] w fun e w' => ∃ v0_ : Value, e = .returned (v0_) ∧ Kd.R (Kd.int .i64) 3 w' w.heap.size (fun _ => True) v0_ r ∧ Below w.heap.size w w' := by
  have hu69 := Try.underlying69
  have HR0_0 := Aside0.mk hr0_0
  have HC0_0 := Aside0.mk hc0_0
  clear hr0_0 hc0_0
  have HR0_2 := Aside0.mk hr0_2
  have HC0_2 := Aside0.mk hc0_2
  clear hr0_2 hc0_2
  have HB := Aside0.mk (Below.refl w.heap.size w)
  have H : (puzzle_board_choice.l0 k a1 a2 ([] : List Int) a0_4 0 l0_0 a0_1 l0_2 a0_3 a0_4) = some r := h
  clear h
  have H' := Aside0.mk H
  clear H
  go_enter Try.func34, Try.ntmps34
  go_wp2_with (first | ((with_reducible refine gate_dst (N := 3) rfl ?_); refine box_event ?hg (N := 3) ?hd (cs := #[.slice A0_0 l0_0.length c0_0, .int .i64 a0_1, .slice A0_2 l0_2.length c0_2, .int .i64 a0_3, .int .i64 a0_4]) (t := 69) ?hr ?_; (case hd => rfl); (case hg => rfl); (case hr => exact qz23); intro gb109 hg w4 hbox hb; have n0_ := Aside0.mk (below_step qz13 hb); have n1_ := Aside0.mk (hbox); have n2_ := Aside0.mk ((by rw [hg]; exact (below_size qz13) : w.heap.size ≤ gb109)); have n3_ := Aside0.mk ((by rw [hg]; exact (below_size qz13) : w.heap.size ≤ gb109)); clear HB; have HB := n0_; have BK109 := n1_; have GW109 := n2_; have GE109 := n3_; clear n0_ n1_ n2_ n3_; clear hb hbox hg; have hcz5_0 : w4.cell? ⟨gb109, 0, none⟩ = some (.slice A0_0 l0_0.length c0_0) := (blk_cell BK109.out 0).trans rfl; have hcz5_1 : w4.cell? ⟨gb109, 1, none⟩ = some (.int .i64 a0_1) := (blk_cell BK109.out 1).trans rfl; have hcz5_2 : w4.cell? ⟨gb109, 2, none⟩ = some (.slice A0_2 l0_2.length c0_2) := (blk_cell BK109.out 2).trans rfl; have hcz5_3 : w4.cell? ⟨gb109, 3, none⟩ = some (.int .i64 a0_3) := (blk_cell BK109.out 3).trans rfl; have hcz5_4 : w4.cell? ⟨gb109, 4, none⟩ = some (.int .i64 a0_4) := (blk_cell BK109.out 4).trans rfl; have hfz5_0 := blk_frozen BK109.out 0; have hfz5_1 := blk_frozen BK109.out 1; have hfz5_2 := blk_frozen BK109.out 2; have hfz5_3 := blk_frozen BK109.out 3; have hfz5_4 := blk_frozen BK109.out 4))
  go_loopg [7, 11] k (fun kq v7 v11 w' => ∃ (x7_1 : List Int) (x11_1 : Int), v11 = .int .i64 x11_1 ∧ Aside0 (puzzle_board_choice.l0 kq a1 a2 x7_1 a0_4 x11_1 l0_0 a0_1 l0_2 a0_3 a0_4 = some r) ∧ Aside0 (kq ≤ k) ∧ Aside0 (Kd.R (Kd.int .i64) 3 w' w.heap.size (fun _ => True) v7 x7_1) ∧ Aside0 (w'.heap[gb109]? = some (.cells #[(.slice A0_0 l0_0.length c0_0), .int .i64 a0_1, (.slice A0_2 l0_2.length c0_2), .int .i64 a0_3, .int .i64 a0_4] 69 (0, 0))) ∧ Aside0 (Below w.heap.size w w'))
  case atStart => exact ⟨(([] : List Int)), (0), qz22, H', ⟨Nat.le_refl _⟩, ⟨by first | exact Kd.R_nil _ _ _ _ _ | exact Kd.N_nil _ _ _ _ _ | exact Kd.V_nil _ _ _ _ _ | exact Kd.Q_nil _ _ _ _ _ | exact Kd.S_nil _ _ _ _ _⟩, ⟨by (with_reducible repeat (first | refine blk_drewN ?_ _ | refine blk_drew ?_ | refine blk_alloc ?_ _)); exact BK109.out⟩, ⟨by repeat (first | (with_reducible first | exact HB.out | apply below_alloc | apply pw_below_drewN | apply below_drew1 | refine below_set ?_ GE109.out) | exact HB.out)⟩⟩
  case round =>
    clear H'
    try clear p2
    try clear c3
    try clear hcz5_0
    try clear hcz5_1
    try clear hcz5_2
    try clear hcz5_3
    try clear hcz5_4
    try clear hfz5_0
    try clear hfz5_1
    try clear hfz5_2
    try clear hfz5_3
    try clear hfz5_4
    obtain ⟨x7_1, x11_1, rfl, HA, HK1, HO_7, BK109, HB⟩ := hrel
    cases gk with
    | zero => exact absurd HA.out (by simp [puzzle_board_choice.l0])
    | succ k1 =>
      have H := HA.out
      clear HA
      simp only [puzzle_board_choice.l0] at H
      by_cases c6 : x11_1 < a0_4
      · rw [if_pos c6] at H
        have c6b0 : decide (x11_1 < a0_4) = true := decide_eq_true c6
        clear c6
        by_cases c7 : x7_1.length < 17592186044416
        case neg => rw [if_neg c7] at H; exact absurd H (by simp)
        rw [if_pos c7] at H
        have LMc7 := Aside0.mk c7
        clear c7
        obtain ⟨y110, hy110⟩ : ∃ y_ : List Int, y_ = (x7_1 ++ [wrap64 ((wrap64 ((wrap64 ((wrap64 (2 * a0_4)) * (wrap64 (a1 - 1)))) + 1)) + x11_1)]) := ⟨_, rfl⟩
        replace H : (if a2 = true then (puzzle_board_choice.l0 k1 a1 a2 y110 a0_4 (wrap64 (x11_1 + 1)) l0_0 a0_1 l0_2 a0_3 a0_4) else (if 0 ≤ x11_1 then (if x11_1 < (y110.length : Int) then (puzzle_board_choice.l0 k1 a1 a2 (y110.set (x11_1 : Int).toNat (wrap64 ((rd y110 x11_1) + a0_4))) a0_4 (wrap64 (x11_1 + 1)) l0_0 a0_1 l0_2 a0_3 a0_4) else (none)) else (none))) = some r := by first | (rw [hy110]; with_reducible exact H) | (have H2_ := (Option.bind_some _ _).symm.trans H; rw [hy110]; with_reducible exact H2_) | (have H2_ := (Option.bind_some _ _).symm.trans H; with_reducible exact H2_) | with_reducible exact H | (rw [hy110]; exact H) | exact H
        have Ny110 := Aside0.mk hy110
        clear hy110
        by_cases c8 : a2 = true
        · subst c8
          have H1 : (puzzle_board_choice.l0 k1 a1 true y110 a0_4 (wrap64 (x11_1 + 1)) l0_0 a0_1 l0_2 a0_3 a0_4) = some r := by rw [if_pos rfl] at H; exact H
          clear H
          have H := H1
          clear H1
          have H' := Aside0.mk H
          clear H
          have hcz9_0 : wr.cell? ⟨gb109, 0, none⟩ = some (.slice A0_0 l0_0.length c0_0) := (blk_cell BK109.out 0).trans rfl
          have hcz9_1 : wr.cell? ⟨gb109, 1, none⟩ = some (.int .i64 a0_1) := (blk_cell BK109.out 1).trans rfl
          have hcz9_2 : wr.cell? ⟨gb109, 2, none⟩ = some (.slice A0_2 l0_2.length c0_2) := (blk_cell BK109.out 2).trans rfl
          have hcz9_3 : wr.cell? ⟨gb109, 3, none⟩ = some (.int .i64 a0_3) := (blk_cell BK109.out 3).trans rfl
          have hcz9_4 : wr.cell? ⟨gb109, 4, none⟩ = some (.int .i64 a0_4) := (blk_cell BK109.out 4).trans rfl
          have hfz9_0 := blk_frozen BK109.out 0
          have hfz9_1 := blk_frozen BK109.out 1
          have hfz9_2 := blk_frozen BK109.out 2
          have hfz9_3 := blk_frozen BK109.out 3
          have hfz9_4 := blk_frozen BK109.out 4
          go_wp2_with (first | ((with_reducible refine gate_builtin (b := .append) (xs := #[.tmp 14, .tmp 24]) rfl ?_); at_builtin; refine Kd.R_append (Kd.int .i64) (w0 := w) w.heap.size rfl (.tmp 14) (.tmp 24) 23 3 (.int .i64 0) 8 rfl Try.underlying23 info3 rfl (by decide) (by omega) u7 x7_1 (wrap64 ((wrap64 ((wrap64 ((wrap64 (2 * a0_4)) * (wrap64 (a1 - 1)))) + 1)) + x11_1)) [.int .i64 (wrap64 ((wrap64 ((wrap64 ((wrap64 (2 * a0_4)) * (wrap64 (a1 - 1)))) + 1)) + x11_1))] (fun _ => True) (fun _ => False) rfl rfl ?aP (fun _ hk => hk.elim) ?aF ?aO ?aB ?aS ?aL ?_; (case aP => exact rfl); (case aB => exact qz6); (case aF => exact (fun _ _ => trivial)); (case aO => exact (by (with_reducible repeat (first | apply Kd.R_alloc | apply Kd.R_drewN | apply Kd.R_drew)); exact HO_7.out)); (case aS => exact (below_size qz6)); (case aL => have := LMc7.out; omega); intro v111 w10 ho hb hg hat; rw [← Ny110.out] at ho; have n0_ := Aside0.mk (blk_grown (g := gb109) (o := .cells #[.slice A0_0 l0_0.length c0_0, .int .i64 a0_1, .slice A0_2 l0_2.length c0_2, .int .i64 a0_3, .int .i64 a0_4] 69 (0, 0)) (by (with_reducible repeat (first | refine blk_drewN ?_ _ | refine blk_drew ?_ | refine blk_alloc ?_ _)); exact BK109.out) hg (Kd.R_ne HO_7.out BK109.out (by decide))); have n1_ := Aside0.mk (hb); have n2_ := Aside0.mk (ho); clear BK109; clear HB; clear HO_7; have BK109 := n0_; have HB := n1_; have HO112 := n2_; clear n0_ n1_ n2_; clear ho hb hg hat))
          go_roundg k1
          case measure => have := HK1.out; omega
          case rel => exact ⟨(y110), (wrap64 (x11_1 + 1)), qz22, H', ⟨by have := HK1.out; omega⟩, ⟨by (with_reducible repeat (first | apply Kd.R_alloc | apply Kd.R_drewN | apply Kd.R_drew)); exact HO112.out⟩, ⟨by (with_reducible repeat (first | refine blk_drewN ?_ _ | refine blk_drew ?_ | refine blk_alloc ?_ _)); exact BK109.out⟩, ⟨by repeat (first | (with_reducible first | exact HB.out | apply below_alloc | apply pw_below_drewN | apply below_drew1 | refine below_set ?_ GE109.out) | exact HB.out)⟩⟩
        · replace c8 := Bool.eq_false_iff.mpr c8
          subst c8
          have H1 : (if 0 ≤ x11_1 then (if x11_1 < (y110.length : Int) then (puzzle_board_choice.l0 k1 a1 false (y110.set (x11_1 : Int).toNat (wrap64 ((rd y110 x11_1) + a0_4))) a0_4 (wrap64 (x11_1 + 1)) l0_0 a0_1 l0_2 a0_3 a0_4) else (none)) else (none)) = some r := by rw [if_neg (show ¬ (false = true) by decide)] at H; exact H
          clear H
          have H := H1
          clear H1
          by_cases c11 : 0 ≤ x11_1
          case neg => rw [if_neg c11] at H; exact absurd H (by simp)
          rw [if_pos c11] at H
          have c11b0 : decide (0 ≤ x11_1) = true := decide_eq_true c11
          clear c11
          by_cases c12 : x11_1 < (y110.length : Int)
          case neg => rw [if_neg c12] at H; exact absurd H (by simp)
          rw [if_pos c12] at H
          have c12b0 : decide (x11_1 < (y110.length : Int)) = true := decide_eq_true c12
          clear c12
          obtain ⟨y114, hy114⟩ : ∃ y_ : List Int, y_ = (y110.set (x11_1 : Int).toNat (wrap64 ((rd y110 x11_1) + a0_4))) := ⟨_, rfl⟩
          replace H : (puzzle_board_choice.l0 k1 a1 false y114 a0_4 (wrap64 (x11_1 + 1)) l0_0 a0_1 l0_2 a0_3 a0_4) = some r := by first | (rw [hy114]; with_reducible exact H) | (have H2_ := (Option.bind_some _ _).symm.trans H; rw [hy114]; with_reducible exact H2_) | (have H2_ := (Option.bind_some _ _).symm.trans H; with_reducible exact H2_) | with_reducible exact H | (rw [hy114]; exact H) | exact H
          have Ny114 := Aside0.mk hy114
          clear hy114
          have H' := Aside0.mk H
          clear H
          have hcz14_0 : wr.cell? ⟨gb109, 0, none⟩ = some (.slice A0_0 l0_0.length c0_0) := (blk_cell BK109.out 0).trans rfl
          have hcz14_1 : wr.cell? ⟨gb109, 1, none⟩ = some (.int .i64 a0_1) := (blk_cell BK109.out 1).trans rfl
          have hcz14_2 : wr.cell? ⟨gb109, 2, none⟩ = some (.slice A0_2 l0_2.length c0_2) := (blk_cell BK109.out 2).trans rfl
          have hcz14_3 : wr.cell? ⟨gb109, 3, none⟩ = some (.int .i64 a0_3) := (blk_cell BK109.out 3).trans rfl
          have hcz14_4 : wr.cell? ⟨gb109, 4, none⟩ = some (.int .i64 a0_4) := (blk_cell BK109.out 4).trans rfl
          have hfz14_0 := blk_frozen BK109.out 0
          have hfz14_1 := blk_frozen BK109.out 1
          have hfz14_2 := blk_frozen BK109.out 2
          have hfz14_3 := blk_frozen BK109.out 3
          have hfz14_4 := blk_frozen BK109.out 4
          try go_wp2_with (first | ((with_reducible refine gate_builtin (b := .append) (xs := #[.tmp 14, .tmp 24]) rfl ?_); at_builtin; refine Kd.R_append (Kd.int .i64) (w0 := w) w.heap.size rfl (.tmp 14) (.tmp 24) 23 3 (.int .i64 0) 8 rfl Try.underlying23 info3 rfl (by decide) (by omega) u7 x7_1 (wrap64 ((wrap64 ((wrap64 ((wrap64 (2 * a0_4)) * (wrap64 (a1 - 1)))) + 1)) + x11_1)) [.int .i64 (wrap64 ((wrap64 ((wrap64 ((wrap64 (2 * a0_4)) * (wrap64 (a1 - 1)))) + 1)) + x11_1))] (fun _ => True) (fun _ => False) rfl rfl ?aP (fun _ hk => hk.elim) ?aF ?aO ?aB ?aS ?aL ?_; (case aP => exact rfl); (case aB => exact qz6); (case aF => exact (fun _ _ => trivial)); (case aO => exact (by (with_reducible repeat (first | apply Kd.R_alloc | apply Kd.R_drewN | apply Kd.R_drew)); exact HO_7.out)); (case aS => exact (below_size qz6)); (case aL => have := LMc7.out; omega); intro v111 w15 ho hb hg hat; rw [← Ny110.out] at ho; have n0_ := Aside0.mk (blk_grown (g := gb109) (o := .cells #[.slice A0_0 l0_0.length c0_0, .int .i64 a0_1, .slice A0_2 l0_2.length c0_2, .int .i64 a0_3, .int .i64 a0_4] 69 (0, 0)) (by (with_reducible repeat (first | refine blk_drewN ?_ _ | refine blk_drew ?_ | refine blk_alloc ?_ _)); exact BK109.out) hg (Kd.R_ne HO_7.out BK109.out (by decide))); have n1_ := Aside0.mk (hb); have n2_ := Aside0.mk (ho); clear BK109; clear HB; clear HO_7; have BK109 := n0_; have HB := n1_; have HO112 := n2_; clear n0_ n1_ n2_; clear ho hb hg hat))
          have n0_ := Aside0.mk (Kd.R_drew HO112.out)
          have n1_ := Aside0.mk (blk_drew BK109.out)
          have n2_ := Aside0.mk (below_drew1 HB.out)
          clear HO112
          clear BK109
          clear HB
          have HO112 := n0_
          have BK109 := n1_
          have HB := n2_
          clear n0_ n1_ n2_
          obtain ⟨Ao17, co17, eo17⟩ := Kd.R_slice HO112.out
          (first | subst eo17 | (injection eo17 with f1_ f2_ f3_; have f4_ := f1_.symm; have f5_ := f3_.symm; clear f1_ f2_ f3_; subst f4_; subst f5_))
          have p113 : 0 ≤ (x11_1 : Int) := of_decide_eq_true qz21
          have q113 : x11_1 < (y110.length : Int) := of_decide_eq_true qz21
          obtain ⟨ad113, e113, hx113_0⟩ := Kd.at_int (Kd.R_reads' HO112.out).2.2 x11_1 p113 q113
          cases e113
          replace p113 := eq_true p113
          replace q113 := eq_true q113
          have p13 : 0 ≤ (x11_1 : Int) := of_decide_eq_true qz21
          have q13 : (x11_1 : Int) < ((y110.length : Int) : Int) := of_decide_eq_true qz21
          obtain ⟨go13, co13, eo13, gb13, gl13, cl13, HG13⟩ := Kd.R_form HO112.out (by omega)
          (first | cases eo13 | (injection eo13 with ea_ en_ ec_; (first | subst ea_ | (injection ea_ with ea_; subst ea_)); subst ec_; clear en_))
          have GB13 := Aside0.mk gb13
          have GG13 := Aside0.mk HG13
          clear gb13 gl13 HG13
          (first | simp only [add_plain] at hx113_0 | skip)
          obtain ⟨hx13_0, hf13_0⟩ := Kd.R_celln 0 HO112.out (x11_1 : Int) p13 q13
          replace p13 := eq_true p13
          replace q13 := eq_true q13
          have HP18 := Kd.R_putn HO112.out (x11_1 : Int) (wrap64 ((rd y110 x11_1) + a0_4))
          rw [← Ny114.out] at HP18
          have HQ18 := Aside0.mk HP18
          clear HP18
          refine start_ (n := 9) (S := fun w' => w'.cell? ⟨gb109, 0, none⟩ = some (.slice A0_0 l0_0.length c0_0) ∧ w'.cell? ⟨gb109, 1, none⟩ = some (.int .i64 a0_1) ∧ w'.cell? ⟨gb109, 2, none⟩ = some (.slice A0_2 l0_2.length c0_2) ∧ w'.cell? ⟨gb109, 3, none⟩ = some (.int .i64 a0_3) ∧ w'.cell? ⟨gb109, 4, none⟩ = some (.int .i64 a0_4) ∧ w'.cell? ⟨go13, (x11_1).toNat, none⟩ = some (.int .i64 (rd y110 x11_1))) (ds := [8]) #[false, false, false, false, false, false, false, false, false] (by kernel_rfl) rfl rfl ⟨(blk_cell BK109.out 0).trans rfl, (blk_cell BK109.out 1).trans rfl, (blk_cell BK109.out 2).trans rfl, (blk_cell BK109.out 3).trans rfl, (blk_cell BK109.out 4).trans rfl, hx113_0⟩ (fun hHeld => ?_); refine with_tabW puzzle_board_choice.tab7 puzzle_board_choice.bits7 (fun HT_ HW_ => ?_)
          generalize w15.drew = w16 at HO112 BK109 HB GG13 HQ18 hf13_0 hx113_0 hx13_0 hHeld ⊢
          refine pure_ (i := 0) (N := some 28) (v := ?_) (a' := ?_) #[true, false, false, false, false, false, false, false, false] rfl rfl (any_of HT_.out (by kernel_rfl)) (fun _ _ _ h => h) (Or.inl ⟨by rfl, ?_⟩) ?_ ?_
          rotate_left
          · intro w'
            go_simp
            with_reducible rfl
          rotate_left
          · simp only [Act.put, List.setIfInBounds_toArray, List.set_cons_zero, List.set_cons_succ, i64_w, i32_w]
            rfl
          refine pure_ (i := 1) (N := some 29) (v := ?_) (a' := ?_) #[true, true, false, false, false, false, false, false, false] rfl rfl (any_of HT_.out (by kernel_rfl)) (fun _ _ _ h => h) (Or.inl ⟨by rfl, ?_⟩) ?_ ?_
          rotate_left
          · intro w'
            go_simp
            with_reducible rfl
          rotate_left
          · simp only [Act.put, List.setIfInBounds_toArray, List.set_cons_zero, List.set_cons_succ, i64_w, i32_w]
            rfl
          refine pure_ (i := 2) (N := some 30) (v := ?_) (a' := ?_) #[true, true, true, false, false, false, false, false, false] rfl rfl (any_of HT_.out (by kernel_rfl)) (fun _ _ _ h => h) (Or.inl ⟨by rfl, ?_⟩) ?_ ?_
          rotate_left
          · intro w'
            go_simp
            with_reducible rfl
          rotate_left
          · simp only [Act.put, List.setIfInBounds_toArray, List.set_cons_zero, List.set_cons_succ, i64_w, i32_w]
            rfl
          refine pure_ (i := 4) (N := some 32) (v := ?_) (a' := ?_) #[true, true, true, false, true, false, false, false, false] rfl rfl (any_of HT_.out (by kernel_rfl)) (fun _ _ _ h => h) (Or.inl ⟨by rfl, ?_⟩) ?_ ?_
          rotate_left
          · intro w'
            go_simp
            with_reducible rfl
          rotate_left
          · simp only [Act.put, List.setIfInBounds_toArray, List.set_cons_zero, List.set_cons_succ, i64_w, i32_w]
            rfl
          refine take_ (i := 3) (N := some 31) (v := ?_) (a' := ?_) #[true, true, true, true, true, false, false, false, false] rfl rfl (take_ofW HT_.out HW_.out (by kernel_rfl)) (fun _ _ _ h => h) (Or.inl ⟨by rfl, ?_⟩) hHeld ?_ ?_
          rotate_left
          · rintro w' ⟨s0, s1, s2, s3, s4, s5⟩
            go_simp
            with_reducible rfl
          rotate_left
          · simp only [Act.put, List.setIfInBounds_toArray, List.set_cons_zero, List.set_cons_succ, i64_w, i32_w]
            rfl
          refine take_ (i := 5) (N := some 33) (v := ?_) (a' := ?_) #[true, true, true, true, true, true, false, false, false] rfl rfl (take_ofW HT_.out HW_.out (by kernel_rfl)) (fun _ _ _ h => h) (Or.inl ⟨by rfl, ?_⟩) hHeld ?_ ?_
          rotate_left
          · rintro w' ⟨s0, s1, s2, s3, s4, s5⟩
            go_simp
            with_reducible rfl
          rotate_left
          · simp only [Act.put, List.setIfInBounds_toArray, List.set_cons_zero, List.set_cons_succ, i64_w, i32_w]
            rfl
          refine pure_ (i := 6) (N := some 34) (v := ?_) (a' := ?_) #[true, true, true, true, true, true, true, false, false] rfl rfl (any_of HT_.out (by kernel_rfl)) (fun _ _ _ h => h) (Or.inl ⟨by rfl, ?_⟩) ?_ ?_
          rotate_left
          · intro w'
            go_simp
            with_reducible rfl
          rotate_left
          · simp only [Act.put, List.setIfInBounds_toArray, List.set_cons_zero, List.set_cons_succ, i64_w, i32_w]
            rfl
          refine pure_ (i := 7) (N := some 35) (v := ?_) (a' := ?_) #[true, true, true, true, true, true, true, true, false] rfl rfl (any_of HT_.out (by kernel_rfl)) (fun _ _ _ h => h) (Or.inl ⟨by rfl, ?_⟩) ?_ ?_
          rotate_left
          · intro w'
            go_simp
            with_reducible rfl
          rotate_left
          · simp only [Act.put, List.setIfInBounds_toArray, List.set_cons_zero, List.set_cons_succ, i64_w, i32_w]
            rfl
          refine last_ (i := 8) (N := none) #[true, true, true, true, true, true, true, true, true] rfl rfl (one_of HT_.out (by kernel_rfl)) (by decide) (fun K hK => ?_)
          refine skip_ (w1 := ?_) (by rfl) rfl ?_ ?_
          rotate_left
          · go_simp
            rfl
          refine hK.out _ _ ?_
          clear hK K
          refine done_ (done_of HT_.out (by kernel_rfl)) ?_
          try go_wp2
          go_roundg k1
          case measure => have := HK1.out; omega
          case rel => exact ⟨(y114), (wrap64 (x11_1 + 1)), qz22, H', ⟨by have := HK1.out; omega⟩, ⟨by (with_reducible repeat (first | apply Kd.R_alloc | apply Kd.R_drewN | apply Kd.R_drew)); exact HQ18.out⟩, ⟨by (with_reducible repeat (first | refine blk_drewN ?_ _ | refine blk_drew ?_ | refine blk_alloc ?_ _)); refine blk_far ?_ (by have h_ := Kd.R_ne HO112.out BK109.out (by decide); intro e_; exact h_ (by rw [e_]; rfl)) _; (with_reducible repeat (first | refine blk_drewN ?_ _ | refine blk_drew ?_ | refine blk_alloc ?_ _)); exact BK109.out⟩, ⟨by repeat (first | (with_reducible first | exact HB.out | apply below_alloc | apply pw_below_drewN | apply below_drew1 | refine below_set ?_ GB13.out | refine below_set ?_ GE109.out) | exact HB.out)⟩⟩
      · rw [if_neg c6] at H
        have c6b0 : decide (x11_1 < a0_4) = false := decide_eq_false c6
        clear c6
        obtain rfl := Option.some.inj H
        go_wp2
        go_ret
        exact ⟨_, by first | rfl | (simp [errW_none, errW_some] <;> rfl) | (simp [*, errW_none, errW_some] <;> rfl), by (with_reducible repeat (first | apply Kd.R_alloc | apply Kd.R_drewN | apply Kd.R_drew)); exact HO_7.out, by repeat (first | (with_reducible first | exact HB.out | apply below_alloc | apply pw_below_drewN | apply below_drew1 | refine below_set ?_ GE109.out) | exact HB.out)⟩

end Go.Proofs.Ytjlehbncpjccmaa.Q
namespace Go.Proofs.Ytjlehbncpjccmaa.Q
open Go.RowKit Go.Proofs.YtjlehbncpjccmaaW.PrintWords Go.Proofs.YtjlehbncpjccmaaW.PrintLast Go.Proofs.YtjlehbncpjccmaaW.PrintMore
attribute [local go_sem] max2_int min2_int max_two min_two max_three min_three max_four min_four
set_option linter.unusedVariables false
set_option linter.unusedSimpArgs false

theorem w_id {x : Int} (h : -9223372036854775808 ≤ x ∧ x < 9223372036854775808) : wrap64 x = x := by unfold wrap64; omega
def choiceF (b : Nat) (move : Int) (mine : Bool) : List Int := (List.range b).map fun (i : Nat) => 2 * (b : Int) * (move - 1) + 1 + (i : Int) + (if mine then 0 else (b : Int))
theorem choice_f (l0_0 : List S55) (a0_1 : Int) (l0_2 : List Int) (a0_3 : Int) (b : Nat) (hb : b ≤ 2) (move : Int) (h1 : 1 ≤ move) (h2 : move ≤ 8) (mine : Bool) :
    puzzle_board_choice.f 4 l0_0 a0_1 l0_2 a0_3 (b : Int) move mine = some (choiceF b move mine) := by
  unfold puzzle_board_choice.f
  obtain ⟨m, hm⟩ : ∃ m, move - 1 = m := ⟨_, rfl⟩
  have h3 : 0 ≤ m := by omega
  have h4 : m ≤ 7 := by omega
  have hr : List.range 2 = [0, 1] := rfl
  obtain rfl | rfl | rfl : b = 0 ∨ b = 1 ∨ b = 2 := by omega
  · simp [puzzle_board_choice.l0, choiceF]
  · cases mine <;> simp (disch := omega) [puzzle_board_choice.l0, choiceF, w_id, rd, hm]
    show wrap64 (2 * m + 1 + 1) = _
    exact w_id (by omega)
  · cases mine <;> simp (disch := omega) [puzzle_board_choice.l0, choiceF, w_id, rd, hm, hr]
    exact ⟨(show wrap64 (4 * m + 1 + 2) = _ from w_id (by omega)), (show wrap64 (4 * m + 1 + 1 + 2) = _ from w_id (by omega))⟩
def puzzle_Choice.f (l0_0 : List S55) (a0_1 : Int) (l0_2 : List Int) (a0_3 : Int) (a1 : Int) (a2 : Bool) : Option (List Int × Int) :=
  some (if mayB l0_0 a0_1 l0_2 a0_3 then (if 1 ≤ a1 ∧ a1 ≤ a0_3 then (choiceF (widthP l0_0) a1 a2, 0) else ([], 4)) else ([], 2))
theorem mayB_mv {ps : List S55} {st : Int} {gs : List Int} {mv : Int} (h : mayB ps st gs mv = true) : 0 ≤ mv ∧ mv ≤ 8 := by
  simp only [mayB, Bool.and_eq_true, Bool.not_eq_true', decide_eq_false_iff_not] at h
  omega
set_option maxHeartbeats 1600000 in
theorem puzzle_Choice.calls (A0_0 : Option Addr) (c0_0 : Nat) (l0_0 : List (S55)) (a0_1 : Int) (A0_2 : Option Addr) (c0_2 : Nat) (l0_2 : List Int) (a0_3 : Int) (a1 : Int) (a2 : Bool) (r1 : List Int) (r2 : Int) (w : World) (hr0_0 : Kd.C k55 w A0_0 l0_0.length l0_0) (hc0_0 : l0_0.length ≤ c0_0) (hr0_2 : Kd.C (Kd.int .i64) w A0_2 l0_2.length l0_2) (hc0_2 : l0_2.length ≤ c0_2) (h : puzzle_Choice.f l0_0 a0_1 l0_2 a0_3 a1 a2 = some (r1, r2)) :
    Calls Try.prog 12 #[.agg #[.slice A0_0 l0_0.length c0_0, .int .i64 a0_1, .slice A0_2 l0_2.length c0_2, .int .i64 a0_3], .int .i64 a1, .bool a2] w fun e w' => ∃ v0_ : Value, e = .returned (.tuple #[v0_, .int .i64 r2]) ∧ Kd.R (Kd.int .i64) 3 w' w.heap.size (fun _ => True) v0_ r1 ∧ Below w.heap.size w w' := by
  have HCH := Aside0.mk (fun (W : World) (hb : Below w.heap.size w W) (b m : Int) (l : List Int) => puzzle_board_choice.calls 4 A0_0 c0_0 l0_0 a0_1 A0_2 c0_2 l0_2 a0_3 b m a2 l W (Kd.C_below hr0_0 hb) hc0_0 (Kd.C_below hr0_2 hb) hc0_2)
  have HR0 := Aside0.mk hr0_0
  have HR2 := Aside0.mk hr0_2
  have HB := Aside0.mk (Below.refl w.heap.size w)
  have HO := Aside0.mk (fun (W : World) (hb : Below w.heap.size w W) => open.calls A0_0 c0_0 l0_0 a0_1 A0_2 c0_2 l0_2 a0_3 W (Kd.C_below hr0_0 hb) hc0_0 (Kd.C_below hr0_2 hb) hc0_2)
  clear hr0_0 hr0_2
  unfold openV at HO
  unfold puzzle_Choice.f at h
  cases hm : mayB l0_0 a0_1 l0_2 a0_3 with
  | false =>
    simp only [hm, Bool.false_eq_true, if_false] at HO h
    obtain ⟨rfl, rfl⟩ := Prod.mk.inj (Option.some.inj h)
    clear h hm
    go_enter Try.func12, Try.ntmps12
    go_wp2_with (first | ((with_reducible refine gate_dst (N := 3) rfl ?_); (try (refine gate_guard (by rfl) ?_; dsimp only)); refine box_event ?hg (N := 3) ?hd (cs := #[.slice A0_0 l0_0.length c0_0, .int .i64 a0_1, .slice A0_2 l0_2.length c0_2, .int .i64 a0_3]) (t := 25) ?hr ?_; (case hd => rfl); (case hg => rfl); (case hr => exact qz23); intro b1 hb1_ w_b1 hbox hb_; have n0_ := Aside0.mk (below_then HB.out HB.out.size hb_); have Bb1 := Aside0.mk hbox; clear hbox; have G1 := Aside0.mk (by rw [hb1_]; exact HB.out.size : w.heap.size ≤ b1); clear hb_; clear hb1_; (try clear HB); have HB := n0_; clear n0_) | ((with_reducible refine gate_dst (N := 11) rfl ?_); (try (refine gate_guard (by rfl) ?_; dsimp only)); refine wpList_load_row rfl 25 (.tmp 3) rfl b1 rfl 25 (#[.slice A0_0 l0_0.length c0_0, .int .i64 a0_1, .slice A0_2 l0_2.length c0_2, .int .i64 a0_3]) (0, 0) _ Bb1.out Try.underlying25 rfl info25n ?_) | ((with_reducible refine gate_callee (f := 32) rfl ?_); (try (refine gate_guard (by rfl) ?_; dsimp only)); refine goesL_ (some 12) rfl rfl Try.func32 (by kernel_rfl) rfl #[.agg #[.slice A0_0 l0_0.length c0_0, .int .i64 a0_1, .slice A0_2 l0_2.length c0_2, .int .i64 a0_3]] rfl qz20 ?_; refine (HO.out _ HB.out).mono ?_; rintro e_ w_ ⟨rfl, hb_⟩; have Cb1 := Aside0.mk ((hb_.block _ (blk_lt Bb1.out)).trans Bb1.out); have HB1 := Aside0.mk (below_then HB.out HB.out.size hb_); clear Bb1 HB hb_; have HB := HB1; clear HB1; refine ⟨_, rfl, ?_⟩) | ((with_reducible refine gate_dst (N := 8) rfl ?_); (try (refine gate_guard (by rfl) ?_; dsimp only)); refine box_event ?hg (N := 8) ?hd (cs := #[.slice none 0 0, .int .i64 0, .slice none 0 0, .int .i64 0, .int .i64 0]) (t := 69) ?hr ?_; (case hd => rfl); (case hg => rfl); (case hr => exact qz23); intro b4 hb4_ w_b4 hbox hb_; have n0_ := Aside0.mk (below_then HB.out HB.out.size hb_); have Bb4 := Aside0.mk hbox; clear hbox; have G4 := Aside0.mk (by rw [hb4_]; exact HB.out.size : w.heap.size ≤ b4); have Db1 := Aside0.mk ((hb_.block _ (blk_lt Cb1.out)).trans Cb1.out); have N14 := Aside0.mk (by have := blk_lt Cb1.out; omega : b1 ≠ b4); clear Cb1; clear hb_; clear hb4_; (try clear HB); have HB := n0_; clear n0_) | ((with_reducible refine gate_store (t := 69) (p := 8) rfl ?_); refine wpList_store_rowTo rfl 69 (.tmp 8) (.tmp 13) rfl rfl b4 (#[.slice none 0 0, .int .i64 0, .slice none 0 0, .int .i64 0, .int .i64 0]) rfl rfl 69 (#[.slice none 0 0, .int .i64 0, .slice none 0 0, .int .i64 0, .int .i64 0]) Bb4.out info69n rfl (by simp [Value.oneCell']) ?_; refine named_world _ ?_; intro w4 hw_; have B4 : Aside0 (w4.heap[b4]? = some (.cells #[.slice none 0 0, .int .i64 0, .slice none 0 0, .int .i64 0, .int .i64 0] 69 (0, 0))) := ⟨by rw [hw_]; exact setRow_heap _ _ _ _ _ _ Bb4.out⟩; have B1 : Aside0 (w4.heap[b1]? = some (.cells #[.slice A0_0 l0_0.length c0_0, .int .i64 a0_1, .slice A0_2 l0_2.length c0_2, .int .i64 a0_3] 25 (0, 0))) := ⟨by rw [hw_, setRow_other _ _ _ _ N14.out]; exact Db1.out⟩; have HB1 : Aside0 (Below w.heap.size w w4) := ⟨by rw [hw_]; exact below_setRow HB.out G4.out _⟩; clear Bb4 Db1 HB; have HB := HB1; clear HB1; have f0 : w4.cell? ⟨b4, 4, none⟩ = some (.int .i64 0) := (blk_cell B4.out 4).trans rfl; have f1 : w4.cell? ⟨b1, 3, none⟩ = some (.int .i64 a0_3) := (blk_cell B1.out 3).trans rfl; have f2 : w4.cell? ⟨b1, 1, none⟩ = some (.int .i64 a0_1) := (blk_cell B1.out 1).trans rfl; have f3 : w4.cell? ⟨b1, 0, none⟩ = some (.slice A0_0 l0_0.length c0_0) := (blk_cell B1.out 0).trans rfl; clear hw_))
    go_ret2
    exact ⟨_, rfl, Kd.R_nil _ _ _ _ _, HB.out⟩
  | true =>
    have hmv := mayB_mv hm
    simp only [hm, if_true] at HO h
    by_cases hr : 1 ≤ a1 ∧ a1 ≤ a0_3
    · rw [if_pos hr] at h
      obtain ⟨rfl, rfl⟩ := Prod.mk.inj (Option.some.inj h)
      have hch := fun W hb => HCH.out W hb (widthP l0_0) a1 _ (choice_f l0_0 a0_1 l0_2 a0_3 (widthP l0_0) (widthP_le _) a1 hr.1 (by omega) a2)
      have HC2 := Aside0.mk hch
      have q1 : decide (a1 < 1) = false := decide_eq_false (by omega)
      have q2 : decide (a0_3 < a1) = false := decide_eq_false (by omega)
      clear h hm hch hr hmv HCH
      go_enter Try.func12, Try.ntmps12
      go_wp2_with (first | ((with_reducible refine gate_dst (N := 3) rfl ?_); (try (refine gate_guard (by rfl) ?_; dsimp only)); refine box_event ?hg (N := 3) ?hd (cs := #[.slice A0_0 l0_0.length c0_0, .int .i64 a0_1, .slice A0_2 l0_2.length c0_2, .int .i64 a0_3]) (t := 25) ?hr ?_; (case hd => rfl); (case hg => rfl); (case hr => exact qz23); intro b1 hb1_ w_b1 hbox hb_; have n0_ := Aside0.mk (below_then HB.out HB.out.size hb_); have Bb1 := Aside0.mk hbox; clear hbox; have G1 := Aside0.mk (by rw [hb1_]; exact HB.out.size : w.heap.size ≤ b1); clear hb_; clear hb1_; (try clear HB); have HB := n0_; clear n0_) | ((with_reducible refine gate_dst (N := 11) rfl ?_); (try (refine gate_guard (by rfl) ?_; dsimp only)); refine wpList_load_row rfl 25 (.tmp 3) rfl b1 rfl 25 (#[.slice A0_0 l0_0.length c0_0, .int .i64 a0_1, .slice A0_2 l0_2.length c0_2, .int .i64 a0_3]) (0, 0) _ Bb1.out Try.underlying25 rfl info25n ?_) | ((with_reducible refine gate_callee (f := 32) rfl ?_); (try (refine gate_guard (by rfl) ?_; dsimp only)); refine goesL_ (some 12) rfl rfl Try.func32 (by kernel_rfl) rfl #[.agg #[.slice A0_0 l0_0.length c0_0, .int .i64 a0_1, .slice A0_2 l0_2.length c0_2, .int .i64 a0_3]] rfl qz20 ?_; refine (HO.out _ HB.out).mono ?_; rintro e_ w_ ⟨rfl, hb_⟩; have Cb1 := Aside0.mk ((hb_.block _ (blk_lt Bb1.out)).trans Bb1.out); have HB1 := Aside0.mk (below_then HB.out HB.out.size hb_); clear Bb1 HB hb_; have HB := HB1; clear HB1; refine ⟨_, rfl, ?_⟩) | ((with_reducible refine gate_dst (N := 8) rfl ?_); (try (refine gate_guard (by rfl) ?_; dsimp only)); refine box_event ?hg (N := 8) ?hd (cs := #[.slice none 0 0, .int .i64 0, .slice none 0 0, .int .i64 0, .int .i64 0]) (t := 69) ?hr ?_; (case hd => rfl); (case hg => rfl); (case hr => exact qz23); intro b4 hb4_ w_b4 hbox hb_; have n0_ := Aside0.mk (below_then HB.out HB.out.size hb_); have Bb4 := Aside0.mk hbox; clear hbox; have G4 := Aside0.mk (by rw [hb4_]; exact HB.out.size : w.heap.size ≤ b4); have Db1 := Aside0.mk ((hb_.block _ (blk_lt Cb1.out)).trans Cb1.out); have N14 := Aside0.mk (by have := blk_lt Cb1.out; omega : b1 ≠ b4); clear Cb1; clear hb_; clear hb4_; (try clear HB); have HB := n0_; clear n0_) | ((with_reducible refine gate_store (t := 69) (p := 8) rfl ?_); refine wpList_store_rowTo rfl 69 (.tmp 8) (.tmp 13) rfl rfl b4 (#[.slice A0_0 l0_0.length c0_0, .int .i64 a0_1, .slice A0_2 l0_2.length c0_2, .int .i64 a0_3, .int .i64 (widthP l0_0)]) rfl rfl 69 (#[.slice none 0 0, .int .i64 0, .slice none 0 0, .int .i64 0, .int .i64 0]) Bb4.out info69n rfl (by simp [Value.oneCell']) ?_; refine named_world _ ?_; intro w4 hw_; have B4 : Aside0 (w4.heap[b4]? = some (.cells #[.slice A0_0 l0_0.length c0_0, .int .i64 a0_1, .slice A0_2 l0_2.length c0_2, .int .i64 a0_3, .int .i64 (widthP l0_0)] 69 (0, 0))) := ⟨by rw [hw_]; exact setRow_heap _ _ _ _ _ _ Bb4.out⟩; have B1 : Aside0 (w4.heap[b1]? = some (.cells #[.slice A0_0 l0_0.length c0_0, .int .i64 a0_1, .slice A0_2 l0_2.length c0_2, .int .i64 a0_3] 25 (0, 0))) := ⟨by rw [hw_, setRow_other _ _ _ _ N14.out]; exact Db1.out⟩; have HB1 : Aside0 (Below w.heap.size w w4) := ⟨by rw [hw_]; exact below_setRow HB.out G4.out _⟩; clear Bb4 Db1 HB; have HB := HB1; clear HB1; have f0 : w4.cell? ⟨b4, 4, none⟩ = some (.int .i64 (widthP l0_0)) := (blk_cell B4.out 4).trans rfl; have f1 : w4.cell? ⟨b1, 3, none⟩ = some (.int .i64 a0_3) := (blk_cell B1.out 3).trans rfl; have f2 : w4.cell? ⟨b1, 1, none⟩ = some (.int .i64 a0_1) := (blk_cell B1.out 1).trans rfl; have f3 : w4.cell? ⟨b1, 0, none⟩ = some (.slice A0_0 l0_0.length c0_0) := (blk_cell B1.out 0).trans rfl; clear hw_) | ((with_reducible refine gate_dst (N := 28) rfl ?_); (try (refine gate_guard (by rfl) ?_; dsimp only)); refine wpList_load_row rfl 69 (.tmp 8) rfl b4 rfl 69 (#[.slice A0_0 l0_0.length c0_0, .int .i64 a0_1, .slice A0_2 l0_2.length c0_2, .int .i64 a0_3, .int .i64 (widthP l0_0)]) (0, 0) _ B4.out Try.underlying69 rfl info69n ?_) | ((with_reducible refine gate_callee (f := 34) rfl ?_); (try (refine gate_guard (by rfl) ?_; dsimp only)); refine goesL_ (some 31) rfl rfl Try.func34 (by kernel_rfl) rfl #[.agg #[.slice A0_0 l0_0.length c0_0, .int .i64 a0_1, .slice A0_2 l0_2.length c0_2, .int .i64 a0_3, .int .i64 (widthP l0_0)], .int .i64 a1, .bool a2] rfl qz20 ?_; refine (HC2.out _ HB.out).mono ?_; rintro e_ w_ ⟨v0_, rfl, hR_, hb_⟩; have HX := Aside0.mk (Kd.R_lower hR_ HB.out.size); have HB1 := Aside0.mk (below_then HB.out HB.out.size hb_); clear HB hb_ hR_; have HB := HB1; clear HB1; refine ⟨_, rfl, ?_⟩))
      go_ret2
      exact ⟨_, rfl, HX.out, HB.out⟩
    · rw [if_neg hr] at h
      obtain ⟨rfl, rfl⟩ := Prod.mk.inj (Option.some.inj h)
      clear h hm HCH
      by_cases hr2 : a1 < 1
      · have q1 : decide (a1 < 1) = true := decide_eq_true hr2
        clear hr hr2
        go_enter Try.func12, Try.ntmps12
        go_wp2_with (first | ((with_reducible refine gate_dst (N := 3) rfl ?_); (try (refine gate_guard (by rfl) ?_; dsimp only)); refine box_event ?hg (N := 3) ?hd (cs := #[.slice A0_0 l0_0.length c0_0, .int .i64 a0_1, .slice A0_2 l0_2.length c0_2, .int .i64 a0_3]) (t := 25) ?hr ?_; (case hd => rfl); (case hg => rfl); (case hr => exact qz23); intro b1 hb1_ w_b1 hbox hb_; have n0_ := Aside0.mk (below_then HB.out HB.out.size hb_); have Bb1 := Aside0.mk hbox; clear hbox; have G1 := Aside0.mk (by rw [hb1_]; exact HB.out.size : w.heap.size ≤ b1); clear hb_; clear hb1_; (try clear HB); have HB := n0_; clear n0_) | ((with_reducible refine gate_dst (N := 11) rfl ?_); (try (refine gate_guard (by rfl) ?_; dsimp only)); refine wpList_load_row rfl 25 (.tmp 3) rfl b1 rfl 25 (#[.slice A0_0 l0_0.length c0_0, .int .i64 a0_1, .slice A0_2 l0_2.length c0_2, .int .i64 a0_3]) (0, 0) _ Bb1.out Try.underlying25 rfl info25n ?_) | ((with_reducible refine gate_callee (f := 32) rfl ?_); (try (refine gate_guard (by rfl) ?_; dsimp only)); refine goesL_ (some 12) rfl rfl Try.func32 (by kernel_rfl) rfl #[.agg #[.slice A0_0 l0_0.length c0_0, .int .i64 a0_1, .slice A0_2 l0_2.length c0_2, .int .i64 a0_3]] rfl qz20 ?_; refine (HO.out _ HB.out).mono ?_; rintro e_ w_ ⟨rfl, hb_⟩; have Cb1 := Aside0.mk ((hb_.block _ (blk_lt Bb1.out)).trans Bb1.out); have HB1 := Aside0.mk (below_then HB.out HB.out.size hb_); clear Bb1 HB hb_; have HB := HB1; clear HB1; refine ⟨_, rfl, ?_⟩) | ((with_reducible refine gate_dst (N := 8) rfl ?_); (try (refine gate_guard (by rfl) ?_; dsimp only)); refine box_event ?hg (N := 8) ?hd (cs := #[.slice none 0 0, .int .i64 0, .slice none 0 0, .int .i64 0, .int .i64 0]) (t := 69) ?hr ?_; (case hd => rfl); (case hg => rfl); (case hr => exact qz23); intro b4 hb4_ w_b4 hbox hb_; have n0_ := Aside0.mk (below_then HB.out HB.out.size hb_); have Bb4 := Aside0.mk hbox; clear hbox; have G4 := Aside0.mk (by rw [hb4_]; exact HB.out.size : w.heap.size ≤ b4); have Db1 := Aside0.mk ((hb_.block _ (blk_lt Cb1.out)).trans Cb1.out); have N14 := Aside0.mk (by have := blk_lt Cb1.out; omega : b1 ≠ b4); clear Cb1; clear hb_; clear hb4_; (try clear HB); have HB := n0_; clear n0_) | ((with_reducible refine gate_store (t := 69) (p := 8) rfl ?_); refine wpList_store_rowTo rfl 69 (.tmp 8) (.tmp 13) rfl rfl b4 (#[.slice A0_0 l0_0.length c0_0, .int .i64 a0_1, .slice A0_2 l0_2.length c0_2, .int .i64 a0_3, .int .i64 (widthP l0_0)]) rfl rfl 69 (#[.slice none 0 0, .int .i64 0, .slice none 0 0, .int .i64 0, .int .i64 0]) Bb4.out info69n rfl (by simp [Value.oneCell']) ?_; refine named_world _ ?_; intro w4 hw_; have B4 : Aside0 (w4.heap[b4]? = some (.cells #[.slice A0_0 l0_0.length c0_0, .int .i64 a0_1, .slice A0_2 l0_2.length c0_2, .int .i64 a0_3, .int .i64 (widthP l0_0)] 69 (0, 0))) := ⟨by rw [hw_]; exact setRow_heap _ _ _ _ _ _ Bb4.out⟩; have B1 : Aside0 (w4.heap[b1]? = some (.cells #[.slice A0_0 l0_0.length c0_0, .int .i64 a0_1, .slice A0_2 l0_2.length c0_2, .int .i64 a0_3] 25 (0, 0))) := ⟨by rw [hw_, setRow_other _ _ _ _ N14.out]; exact Db1.out⟩; have HB1 : Aside0 (Below w.heap.size w w4) := ⟨by rw [hw_]; exact below_setRow HB.out G4.out _⟩; clear Bb4 Db1 HB; have HB := HB1; clear HB1; have f0 : w4.cell? ⟨b4, 4, none⟩ = some (.int .i64 (widthP l0_0)) := (blk_cell B4.out 4).trans rfl; have f1 : w4.cell? ⟨b1, 3, none⟩ = some (.int .i64 a0_3) := (blk_cell B1.out 3).trans rfl; have f2 : w4.cell? ⟨b1, 1, none⟩ = some (.int .i64 a0_1) := (blk_cell B1.out 1).trans rfl; have f3 : w4.cell? ⟨b1, 0, none⟩ = some (.slice A0_0 l0_0.length c0_0) := (blk_cell B1.out 0).trans rfl; clear hw_))
        go_ret2
        exact ⟨_, rfl, Kd.R_nil _ _ _ _ _, HB.out⟩
      · have q1 : decide (a1 < 1) = false := decide_eq_false hr2
        have q2 : decide (a0_3 < a1) = true := decide_eq_true (by omega)
        clear hr hr2
        go_enter Try.func12, Try.ntmps12
        go_wp2_with (first | ((with_reducible refine gate_dst (N := 3) rfl ?_); (try (refine gate_guard (by rfl) ?_; dsimp only)); refine box_event ?hg (N := 3) ?hd (cs := #[.slice A0_0 l0_0.length c0_0, .int .i64 a0_1, .slice A0_2 l0_2.length c0_2, .int .i64 a0_3]) (t := 25) ?hr ?_; (case hd => rfl); (case hg => rfl); (case hr => exact qz23); intro b1 hb1_ w_b1 hbox hb_; have n0_ := Aside0.mk (below_then HB.out HB.out.size hb_); have Bb1 := Aside0.mk hbox; clear hbox; have G1 := Aside0.mk (by rw [hb1_]; exact HB.out.size : w.heap.size ≤ b1); clear hb_; clear hb1_; (try clear HB); have HB := n0_; clear n0_) | ((with_reducible refine gate_dst (N := 11) rfl ?_); (try (refine gate_guard (by rfl) ?_; dsimp only)); refine wpList_load_row rfl 25 (.tmp 3) rfl b1 rfl 25 (#[.slice A0_0 l0_0.length c0_0, .int .i64 a0_1, .slice A0_2 l0_2.length c0_2, .int .i64 a0_3]) (0, 0) _ Bb1.out Try.underlying25 rfl info25n ?_) | ((with_reducible refine gate_callee (f := 32) rfl ?_); (try (refine gate_guard (by rfl) ?_; dsimp only)); refine goesL_ (some 12) rfl rfl Try.func32 (by kernel_rfl) rfl #[.agg #[.slice A0_0 l0_0.length c0_0, .int .i64 a0_1, .slice A0_2 l0_2.length c0_2, .int .i64 a0_3]] rfl qz20 ?_; refine (HO.out _ HB.out).mono ?_; rintro e_ w_ ⟨rfl, hb_⟩; have Cb1 := Aside0.mk ((hb_.block _ (blk_lt Bb1.out)).trans Bb1.out); have HB1 := Aside0.mk (below_then HB.out HB.out.size hb_); clear Bb1 HB hb_; have HB := HB1; clear HB1; refine ⟨_, rfl, ?_⟩) | ((with_reducible refine gate_dst (N := 8) rfl ?_); (try (refine gate_guard (by rfl) ?_; dsimp only)); refine box_event ?hg (N := 8) ?hd (cs := #[.slice none 0 0, .int .i64 0, .slice none 0 0, .int .i64 0, .int .i64 0]) (t := 69) ?hr ?_; (case hd => rfl); (case hg => rfl); (case hr => exact qz23); intro b4 hb4_ w_b4 hbox hb_; have n0_ := Aside0.mk (below_then HB.out HB.out.size hb_); have Bb4 := Aside0.mk hbox; clear hbox; have G4 := Aside0.mk (by rw [hb4_]; exact HB.out.size : w.heap.size ≤ b4); have Db1 := Aside0.mk ((hb_.block _ (blk_lt Cb1.out)).trans Cb1.out); have N14 := Aside0.mk (by have := blk_lt Cb1.out; omega : b1 ≠ b4); clear Cb1; clear hb_; clear hb4_; (try clear HB); have HB := n0_; clear n0_) | ((with_reducible refine gate_store (t := 69) (p := 8) rfl ?_); refine wpList_store_rowTo rfl 69 (.tmp 8) (.tmp 13) rfl rfl b4 (#[.slice A0_0 l0_0.length c0_0, .int .i64 a0_1, .slice A0_2 l0_2.length c0_2, .int .i64 a0_3, .int .i64 (widthP l0_0)]) rfl rfl 69 (#[.slice none 0 0, .int .i64 0, .slice none 0 0, .int .i64 0, .int .i64 0]) Bb4.out info69n rfl (by simp [Value.oneCell']) ?_; refine named_world _ ?_; intro w4 hw_; have B4 : Aside0 (w4.heap[b4]? = some (.cells #[.slice A0_0 l0_0.length c0_0, .int .i64 a0_1, .slice A0_2 l0_2.length c0_2, .int .i64 a0_3, .int .i64 (widthP l0_0)] 69 (0, 0))) := ⟨by rw [hw_]; exact setRow_heap _ _ _ _ _ _ Bb4.out⟩; have B1 : Aside0 (w4.heap[b1]? = some (.cells #[.slice A0_0 l0_0.length c0_0, .int .i64 a0_1, .slice A0_2 l0_2.length c0_2, .int .i64 a0_3] 25 (0, 0))) := ⟨by rw [hw_, setRow_other _ _ _ _ N14.out]; exact Db1.out⟩; have HB1 : Aside0 (Below w.heap.size w w4) := ⟨by rw [hw_]; exact below_setRow HB.out G4.out _⟩; clear Bb4 Db1 HB; have HB := HB1; clear HB1; have f0 : w4.cell? ⟨b4, 4, none⟩ = some (.int .i64 (widthP l0_0)) := (blk_cell B4.out 4).trans rfl; have f1 : w4.cell? ⟨b1, 3, none⟩ = some (.int .i64 a0_3) := (blk_cell B1.out 3).trans rfl; have f2 : w4.cell? ⟨b1, 1, none⟩ = some (.int .i64 a0_1) := (blk_cell B1.out 1).trans rfl; have f3 : w4.cell? ⟨b1, 0, none⟩ = some (.slice A0_0 l0_0.length c0_0) := (blk_cell B1.out 0).trans rfl; clear hw_))
        go_ret2
        exact ⟨_, rfl, Kd.R_nil _ _ _ _ _, HB.out⟩
end Go.Proofs.Ytjlehbncpjccmaa.Q
namespace Go.Proofs.Ytjlehbncpjccmaa.Q
open Go.RowKit Go.Proofs.YtjlehbncpjccmaaW.PrintWords Go.Proofs.YtjlehbncpjccmaaW.PrintLast Go.Proofs.YtjlehbncpjccmaaW.PrintMore
set_option linter.unusedVariables false
set_option linter.unusedSimpArgs false

/-- From some number of rounds on the answer is v. -/
def Ev {α : Type} (f : Nat → Option α) (v : α) : Prop := ∃ k, ∀ m, k ≤ m → f m = some v
section
variable {α β : Type} {f : Nat → Option α} {v : α}
theorem Ev.const (v : α) : Ev (fun _ => some v) v := ⟨0, fun _ _ => rfl⟩
theorem Ev.of (h : ∀ k, LeO (f k) (f (k + 1))) {k : Nat} (hk : f k = some v) : Ev f v := ⟨k, fun _ hm => leO_up h hk hm⟩
theorem Ev.succ (h : Ev (fun k => f (k + 1)) v) : Ev f v := by
  obtain ⟨k, hk⟩ := h
  refine ⟨k + 1, fun m hm => ?_⟩
  obtain ⟨n, rfl⟩ : ∃ n, m = n + 1 := ⟨m - 1, by omega⟩
  exact hk n (by omega)
theorem Ev.bind {u : β} {g : Nat → Option β} {h : Nat → β → Option α} (hg : Ev g u) (hh : Ev (fun k => h k u) v) : Ev (fun k => (g k).bind (h k)) v := by
  obtain ⟨k1, h1⟩ := hg
  obtain ⟨k2, h2⟩ := hh
  refine ⟨max k1 k2, fun m hm => ?_⟩
  show (g m).bind (h m) = some v
  rw [h1 m (by omega)]
  exact h2 m (by omega)
theorem Ev.some' (h : Ev f v) : ∃ k, f k = some v := by
  obtain ⟨k, hk⟩ := h
  exact ⟨k, hk k (Nat.le_refl _)⟩
theorem Ev.cong {v' : α} (h : Ev f v) (e : v = v') : Ev f v' := e ▸ h
end
theorem w_nat (i : Nat) (h : (i : Int) + 1 ≤ 9223372036854775807) : wrap64 ((i : Int) + 1) = ((i + 1 : Nat) : Int) := by rw [w_id (by omega)]; omega
theorem drop_rd (l : List Int) (i : Nat) (h : i < l.length) : l.drop i = rd l (i : Int) :: l.drop (i + 1) := by
  rw [List.drop_eq_getElem_cons h]
  simp [rd, List.getD_eq_getElem?_getD, List.getElem?_eq_getElem h]
theorem drop_55 (l : List S55) (i : Nat) (h : i < l.length) : l.drop i = rd_T55 l (i : Int) :: l.drop (i + 1) := by
  rw [List.drop_eq_getElem_cons h]
  simp [rd_T55, List.getD_eq_getElem?_getD, List.getElem?_eq_getElem h]
theorem drop_L2 (l : List (List Int)) (i : Nat) (h : i < l.length) : l.drop i = rd_L2 l (i : Int) :: l.drop (i + 1) := by
  rw [List.drop_eq_getElem_cons h]
  simp [rd_L2, List.getD_eq_getElem?_getD, List.getElem?_eq_getElem h]

theorem in_l (l : List Int) (x : Int) (hl : (l.length : Int) ≤ 9223372036854775807) : ∀ (n i : Nat), i + n = l.length → Ev (fun k => skolemref05_In.l0 k l x (i : Int)) (decide (x ∈ l.drop i))
  | 0, i, h => by
    refine Ev.succ ?_
    simp only [skolemref05_In.l0]
    simp only [if_neg (show ¬ ((i : Int) < (l.length : Int)) by omega)]
    exact (Ev.const _).cong (by rw [List.drop_of_length_le (by omega)]; simp)
  | n + 1, i, h => by
    refine Ev.succ ?_
    simp only [skolemref05_In.l0]
    simp only [if_pos (show (i : Int) < (l.length : Int) by omega), if_pos (show (0 : Int) ≤ i by omega), w_nat i (by omega)]
    rw [drop_rd l i (by omega)]
    by_cases hx : rd l (i : Int) = x
    · simp only [if_pos hx]
      exact (Ev.const _).cong (by simp [hx])
    · simp only [if_neg hx]
      exact (in_l l x hl n (i + 1) (by omega)).cong (by simp [Ne.symm hx])
theorem in_ev (l : List Int) (x : Int) (hl : (l.length : Int) ≤ 9223372036854775807) : Ev (fun k => skolemref05_In.f k l x) (decide (x ∈ l)) := in_l l x hl l.length 0 (by omega)

theorem ints_l (a b : List Int) (hl : (a.length : Int) ≤ 9223372036854775807) (hab : a.length = b.length) : ∀ (n i : Nat), i + n = a.length → Ev (fun k => skolemref03_Ints.l0 k a b (i : Int)) (decide (a.drop i = b.drop i))
  | 0, i, h => by
    refine Ev.succ ?_
    simp only [skolemref03_Ints.l0]
    simp only [if_neg (show ¬ ((i : Int) < (a.length : Int)) by omega)]
    exact (Ev.const _).cong (by rw [List.drop_of_length_le (by omega), List.drop_of_length_le (by omega)]; simp)
  | n + 1, i, h => by
    refine Ev.succ ?_
    simp only [skolemref03_Ints.l0]
    simp only [if_pos (show (i : Int) < (a.length : Int) by omega), if_pos (show (i : Int) < (b.length : Int) by omega), if_pos (show (0 : Int) ≤ i by omega), w_nat i (by omega)]
    rw [drop_rd a i (by omega), drop_rd b i (by omega)]
    by_cases hx : rd a (i : Int) = rd b (i : Int)
    · simp only [if_pos hx]
      exact (ints_l a b hl hab n (i + 1) (by omega)).cong (by simp [hx])
    · simp only [if_neg hx]
      exact (Ev.const _).cong (by simp [hx])
theorem ints_ev (a b : List Int) (hl : (a.length : Int) ≤ 9223372036854775807) : Ev (fun k => skolemref03_Ints.f k a b) (decide (a = b)) := by
  simp only [skolemref03_Ints.f]
  by_cases h : (a.length : Int) = (b.length : Int)
  · simp only [if_pos h]
    exact ints_l a b hl (by omega) a.length 0 (by omega)
  · simp only [if_neg h]
    exact (Ev.const _).cong (by
      symm
      rw [decide_eq_false_iff_not]
      rintro rfl
      exact h rfl)
theorem lists_l (a b : List (List Int)) (hl : (a.length : Int) ≤ 9223372036854775807) (hm : ∀ x ∈ a, (x.length : Int) ≤ 9223372036854775807) (hab : a.length = b.length) : ∀ (n i : Nat), i + n = a.length → Ev (fun k => skolemref03_Lists.l0 k a b (i : Int)) (decide (a.drop i = b.drop i))
  | 0, i, h => by
    refine Ev.succ ?_
    simp only [skolemref03_Lists.l0]
    simp only [if_neg (show ¬ ((i : Int) < (a.length : Int)) by omega)]
    exact (Ev.const _).cong (by rw [List.drop_of_length_le (by omega), List.drop_of_length_le (by omega)]; simp)
  | n + 1, i, h => by
    refine Ev.succ ?_
    simp only [skolemref03_Lists.l0]
    simp only [if_pos (show (i : Int) < (a.length : Int) by omega), if_pos (show (i : Int) < (b.length : Int) by omega), if_pos (show (0 : Int) ≤ i by omega), w_nat i (by omega)]
    have hmem : rd_L2 a (i : Int) ∈ a := by
      have := drop_L2 a i (by omega)
      exact List.mem_of_mem_drop (this ▸ List.mem_cons_self)
    refine Ev.bind (ints_ev _ _ (hm _ hmem)) ?_
    rw [drop_L2 a i (by omega), drop_L2 b i (by omega)]
    by_cases hx : rd_L2 a (i : Int) = rd_L2 b (i : Int)
    · simp only [hx, decide_true, if_true]
      exact (lists_l a b hl hm hab n (i + 1) (by omega)).cong (by simp)
    · simp only [hx, decide_false, Bool.false_eq_true, if_false]
      exact (Ev.const _).cong (by simp [hx])
theorem lists_ev (a b : List (List Int)) (hl : (a.length : Int) ≤ 9223372036854775807) (hm : ∀ x ∈ a, (x.length : Int) ≤ 9223372036854775807) : Ev (fun k => skolemref03_Lists.f k a b) (decide (a = b)) := by
  simp only [skolemref03_Lists.f]
  by_cases h : (a.length : Int) = (b.length : Int)
  · simp only [if_pos h]
    exact lists_l a b hl hm (by omega) a.length 0 (by omega)
  · simp only [if_neg h]
    exact (Ev.const _).cong (by
      symm
      rw [decide_eq_false_iff_not]
      rintro rfl
      exact h rfl)

/-- What large lets through. -/
structure Small (ps : List S55) (gs : List Int) : Prop where
  np : ps.length ≤ 20
  ng : gs.length ≤ 20
  nt : ∀ x ∈ ps, x.f1.length ≤ 20
def largeB (ps : List S55) (gs : List Int) : Bool := (ps.take 20).any (fun x => decide ((x.f1.length : Int) > 20)) || (decide ((ps.length : Int) > 20) || decide ((gs.length : Int) > 20))
theorem large_l (ps : List S55) (st : Int) (gs : List Int) (mv : Int) : ∀ (n i : Nat), i + n = (ps.take 20).length → Ev (fun k => skolemlaw35_large.l0 k (i : Int) ps st gs mv) (((ps.take 20).drop i).any (fun x => decide ((x.f1.length : Int) > 20)) || (decide ((ps.length : Int) > 20) || decide ((gs.length : Int) > 20)))
  | 0, i, h => by
    rw [List.length_take] at h
    rw [List.drop_of_length_le (by rw [List.length_take]; omega)]
    simp only [List.any_nil, Bool.false_or]
    refine Ev.succ ?_
    have hlast : Ev (fun k => skolemlaw35_large.j1 k (i : Int) false ps st gs mv) (decide ((ps.length : Int) > 20) || decide ((gs.length : Int) > 20)) := by
      refine Ev.succ ?_
      simp only [skolemlaw35_large.j1, Bool.false_eq_true, if_false]
      by_cases hp : (ps.length : Int) > 20
      · simp only [if_pos hp]
        exact (Ev.const _).cong (by simp [hp])
      · simp only [if_neg hp]
        exact (Ev.const _).cong (by simp [hp])
    simp only [skolemlaw35_large.l0]
    by_cases hi : (i : Int) < (ps.length : Int)
    · simp only [if_pos hi, decide_eq_false (show ¬ ((i : Int) < 20) by omega)]
      exact hlast
    · simp only [if_neg hi]
      exact hlast
  | n + 1, i, h => by
    rw [List.length_take] at h
    refine Ev.succ ?_
    simp only [skolemlaw35_large.l0]
    simp only [if_pos (show (i : Int) < (ps.length : Int) by omega), decide_eq_true (show (i : Int) < 20 by omega)]
    refine Ev.succ ?_
    simp only [skolemlaw35_large.j1]
    simp only [if_true, if_pos (show (i : Int) < (ps.length : Int) by omega), if_pos (show (0 : Int) ≤ i by omega), w_nat i (by omega)]
    have hd : (ps.take 20).drop i = rd_T55 ps (i : Int) :: (ps.take 20).drop (i + 1) := by
      rw [drop_55 (ps.take 20) i (by rw [List.length_take]; omega)]
      congr 1
      simp only [rd_T55, List.getD_eq_getElem?_getD, Int.toNat_natCast]
      rw [List.getElem?_take_of_lt (by omega)]
    rw [hd, List.any_cons]
    by_cases hx : ((rd_T55 ps (i : Int)).f1.length : Int) > 20
    · simp only [if_pos hx]
      exact (Ev.const _).cong (by simp [hx])
    · simp only [if_neg hx]
      exact (large_l ps st gs mv n (i + 1) (by rw [List.length_take]; omega)).cong (by simp [hx])
theorem large_ev (ps : List S55) (st : Int) (gs : List Int) (mv : Int) : Ev (fun k => skolemlaw35_large.f k ps st gs mv) (largeB ps gs) := large_l ps st gs mv (ps.take 20).length 0 (by omega)
theorem small_of {ps : List S55} {gs : List Int} (h : largeB ps gs = false) : Small ps gs := by
  simp only [largeB, Bool.or_eq_false_iff, decide_eq_false_iff_not, List.any_eq_false, decide_eq_true_eq] at h
  obtain ⟨h1, h2, h3⟩ := h
  refine ⟨by omega, by omega, fun x hx => ?_⟩
  rw [List.take_of_length_le (by omega)] at h1
  have := h1 x hx
  omega
end Go.Proofs.Ytjlehbncpjccmaa.Q
namespace Go.Proofs.Ytjlehbncpjccmaa.Q
open Go.RowKit Go.Proofs.YtjlehbncpjccmaaW.PrintWords Go.Proofs.YtjlehbncpjccmaaW.PrintLast Go.Proofs.YtjlehbncpjccmaaW.PrintMore
attribute [local go_sem] max2_int min2_int max_two min_two max_three min_three max_four min_four   -- for this text's walks alone
set_option linter.unusedVariables false
set_option linter.unusedSimpArgs false

/-! ### skolemlaw35_example: function 31 -/
def skolemlaw35_example.f (a0 : Int) : Option ((List (S55)) × Int × List Int × Int) := some ((([(⟨true, (([1, 2] : List Int))⟩ : S55), (⟨false, (([0, 3] : List Int))⟩ : S55), (⟨false, (([3, 3] : List Int))⟩ : S55), (⟨true, ([] : List Int)⟩ : S55)] : List (S55))), 0, (([3] : List Int)), a0)
set_option maxHeartbeats 8000000 in
set_option maxRecDepth 100000 in
theorem skolemlaw35_example.calls (a0 : Int) (r1 : List (S55)) (r2 : Int) (r3 : List Int) (r4 : Int) (w : World) (h : skolemlaw35_example.f a0 = some (r1, r2, r3, r4)) :
    Calls Try.prog 31 #[.int .i64 a0] w fun e w' => ∃ v0_ v2_ : Value, e = .returned (.agg #[v0_, .int .i64 r2, v2_, .int .i64 r4]) ∧ Kd.N k55 55 w' w.heap.size (fun k_ => (w.heap.size ≤ k_) ∧ some k_ ≠ (v2_ : Value).ownBlock) v0_ r1 ∧ Kd.R (Kd.int .i64) 3 w' w.heap.size (fun k_ => (w.heap.size ≤ k_)) v2_ r3 ∧ Below w.heap.size w w' := by
  have hu25 := Try.underlying25
  have hu55 := Try.underlying55
  have HB := Aside0.mk (Below.refl w.heap.size w)
  have H : (some ((([(⟨true, (([1, 2] : List Int))⟩ : S55), (⟨false, (([0, 3] : List Int))⟩ : S55), (⟨false, (([3, 3] : List Int))⟩ : S55), (⟨true, ([] : List Int)⟩ : S55)] : List (S55))), 0, (([3] : List Int)), a0)) = some (r1, r2, r3, r4) := h
  clear h
  obtain ⟨y126, hy126⟩ : ∃ y_ : List Int, y_ = (([1, 2] : List Int)) := ⟨_, rfl⟩
  replace H : (some ((([(⟨true, y126⟩ : S55), (⟨false, (([0, 3] : List Int))⟩ : S55), (⟨false, (([3, 3] : List Int))⟩ : S55), (⟨true, ([] : List Int)⟩ : S55)] : List (S55))), 0, (([3] : List Int)), a0)) = some (r1, r2, r3, r4) := by first | (rw [hy126]; with_reducible exact H) | (have H2_ := (Option.bind_some _ _).symm.trans H; rw [hy126]; with_reducible exact H2_) | (have H2_ := (Option.bind_some _ _).symm.trans H; with_reducible exact H2_) | with_reducible exact H | (rw [hy126]; exact H) | exact H
  have Ny126 := Aside0.mk hy126
  clear hy126
  obtain ⟨y129, hy129⟩ : ∃ y_ : List Int, y_ = (([0, 3] : List Int)) := ⟨_, rfl⟩
  replace H : (some ((([(⟨true, y126⟩ : S55), (⟨false, y129⟩ : S55), (⟨false, (([3, 3] : List Int))⟩ : S55), (⟨true, ([] : List Int)⟩ : S55)] : List (S55))), 0, (([3] : List Int)), a0)) = some (r1, r2, r3, r4) := by first | (rw [hy129]; with_reducible exact H) | (have H2_ := (Option.bind_some _ _).symm.trans H; rw [hy129]; with_reducible exact H2_) | (have H2_ := (Option.bind_some _ _).symm.trans H; with_reducible exact H2_) | with_reducible exact H | (rw [hy129]; exact H) | exact H
  have Ny129 := Aside0.mk hy129
  clear hy129
  obtain ⟨y132, hy132⟩ : ∃ y_ : List Int, y_ = (([3, 3] : List Int)) := ⟨_, rfl⟩
  replace H : (some ((([(⟨true, y126⟩ : S55), (⟨false, y129⟩ : S55), (⟨false, y132⟩ : S55), (⟨true, ([] : List Int)⟩ : S55)] : List (S55))), 0, (([3] : List Int)), a0)) = some (r1, r2, r3, r4) := by first | (rw [hy132]; with_reducible exact H) | (have H2_ := (Option.bind_some _ _).symm.trans H; rw [hy132]; with_reducible exact H2_) | (have H2_ := (Option.bind_some _ _).symm.trans H; with_reducible exact H2_) | with_reducible exact H | (rw [hy132]; exact H) | exact H
  have Ny132 := Aside0.mk hy132
  clear hy132
  obtain ⟨y135, hy135⟩ : ∃ y_ : List (S55), y_ = (([(⟨true, y126⟩ : S55), (⟨false, y129⟩ : S55), (⟨false, y132⟩ : S55), (⟨true, ([] : List Int)⟩ : S55)] : List (S55))) := ⟨_, rfl⟩
  replace H : (some (y135, 0, (([3] : List Int)), a0)) = some (r1, r2, r3, r4) := by first | (rw [hy135]; with_reducible exact H) | (have H2_ := (Option.bind_some _ _).symm.trans H; rw [hy135]; with_reducible exact H2_) | (have H2_ := (Option.bind_some _ _).symm.trans H; with_reducible exact H2_) | with_reducible exact H | (rw [hy135]; exact H) | exact H
  have Ny135 := Aside0.mk hy135
  clear hy135
  obtain ⟨y138, hy138⟩ : ∃ y_ : List Int, y_ = (([3] : List Int)) := ⟨_, rfl⟩
  replace H : (some (y135, 0, y138, a0)) = some (r1, r2, r3, r4) := by first | (rw [hy138]; with_reducible exact H) | (have H2_ := (Option.bind_some _ _).symm.trans H; rw [hy138]; with_reducible exact H2_) | (have H2_ := (Option.bind_some _ _).symm.trans H; with_reducible exact H2_) | with_reducible exact H | (rw [hy138]; exact H) | exact H
  have Ny138 := Aside0.mk hy138
  clear hy138
  simp only [Option.some.injEq, Prod.mk.injEq] at H
  obtain ⟨rfl, rfl, rfl, rfl⟩ := H
  go_enter Try.func31, Try.ntmps31
  go_wp2_with (first | ((with_reducible refine gate_dst (N := 2) rfl ?_); refine box_event ?hg (N := 2) ?hd (cs := #[.slice none 0 0, .int .i64 0, .slice none 0 0, .int .i64 0]) (t := 25) ?hr ?_; (case hd => rfl); (case hg => rfl); (case hr => exact qz23); intro gb125 hg w2 hbox hb; have n0_ := Aside0.mk (below_step qz13 hb); have n1_ := Aside0.mk (hbox); have n2_ := Aside0.mk ((by rw [hg]; exact (below_size qz13) : w.heap.size ≤ gb125)); have n3_ := Aside0.mk ((by rw [hg]; exact (below_size qz13) : w.heap.size ≤ gb125)); clear HB; have HB := n0_; have BK125 := n1_; have GW125 := n2_; have GE125 := n3_; clear n0_ n1_ n2_ n3_; clear hb hbox hg) | ((with_reducible refine gate_dst (N := 3) rfl ?_); refine Kd.R_lit (Kd.int .i64) _ 3 ?hg (N := 3) ?hd (xs := ([1, 2] : List Int)) (inner := [.int .i64 1, .int .i64 2]) (ok := fun _ => True) (okp := fun _ => True) ?hr ?hp (fun _ hk => hk) trivial (Below.refl _ _) (Nat.le_refl _) (by simp) ?_; (case hd => rfl); (case hg => rfl); (case hr => exact qz23); (case hp => exact (Reps.one (show Kd.M (Kd.int .i64) _ _ _ 1 [.int .i64 1] from rfl) (Reps.one (show Kd.M (Kd.int .i64) _ _ _ 2 [.int .i64 2] from rfl) (Reps.none _ _)))); intro v127 w3 ho4 hb hg_ hnew_; clear hg_ hnew_; (first | rw [← Ny126.out] at ho4 | (simp only [Int.reduceToNat] at ho4; rw [← Ny126.out] at ho4)); have n0_ := Aside0.mk (Kd.R_lower (Kd.R_newM (M := fun k_ => (w.heap.size ≤ k_)) ho4 (below_size qz7) (fun k_ h_ => h_)) (below_size qz7)); have n1_ := Aside0.mk (blk_below (g := gb125) (o := .cells #[.slice none 0 0, .int .i64 0, .slice none 0 0, .int .i64 0] 25 (0, 0)) qz16 hb); have n2_ := Aside0.mk (below_step qz7 hb); clear BK125; clear HB; have HO128 := n0_; have BK125 := n1_; have HB := n2_; clear n0_ n1_ n2_; clear hb ho4; obtain ⟨Ao5, co5, eo5⟩ := Kd.R_slice HO128.out; subst eo5) | ((with_reducible refine gate_dst (N := 5) rfl ?_); refine Kd.R_lit (Kd.int .i64) _ 3 ?hg (N := 5) ?hd (xs := ([0, 3] : List Int)) (inner := [.int .i64 0, .int .i64 3]) (ok := fun _ => True) (okp := fun _ => True) ?hr ?hp (fun _ hk => hk) trivial (Below.refl _ _) (Nat.le_refl _) (by simp) ?_; (case hd => rfl); (case hg => rfl); (case hr => exact qz23); (case hp => exact (Reps.one (show Kd.M (Kd.int .i64) _ _ _ 0 [.int .i64 0] from rfl) (Reps.one (show Kd.M (Kd.int .i64) _ _ _ 3 [.int .i64 3] from rfl) (Reps.none _ _)))); intro v130 w6 ho7 hb hg_ hnew_; clear hg_ hnew_; (first | rw [← Ny129.out] at ho7 | (simp only [Int.reduceToNat] at ho7; rw [← Ny129.out] at ho7)); have n0_ := Aside0.mk (Kd.R_elder' qz18 (Kd.R_base ho7) hb); have n1_ := Aside0.mk (Kd.R_lower (Kd.R_new' (Kd.R_newM (M := fun k_ => (w.heap.size ≤ k_)) ho7 (below_size qz7) (fun k_ h_ => h_)) (Kd.R_lt qz18)) (below_size qz7)); have n2_ := Aside0.mk (blk_below (g := gb125) (o := .cells #[.slice none 0 0, .int .i64 0, .slice none 0 0, .int .i64 0] 25 (0, 0)) qz16 hb); have n3_ := Aside0.mk (below_step qz7 hb); clear HO128; clear BK125; clear HB; have HO128 := n0_; have HO131 := n1_; have BK125 := n2_; have HB := n3_; clear n0_ n1_ n2_ n3_; clear hb ho7; obtain ⟨Ao8, co8, eo8⟩ := Kd.R_slice HO131.out; subst eo8) | ((with_reducible refine gate_dst (N := 7) rfl ?_); refine Kd.R_lit (Kd.int .i64) _ 3 ?hg (N := 7) ?hd (xs := ([3, 3] : List Int)) (inner := [.int .i64 3, .int .i64 3]) (ok := fun _ => True) (okp := fun _ => True) ?hr ?hp (fun _ hk => hk) trivial (Below.refl _ _) (Nat.le_refl _) (by simp) ?_; (case hd => rfl); (case hg => rfl); (case hr => exact qz23); (case hp => exact (Reps.one (show Kd.M (Kd.int .i64) _ _ _ 3 [.int .i64 3] from rfl) (Reps.one (show Kd.M (Kd.int .i64) _ _ _ 3 [.int .i64 3] from rfl) (Reps.none _ _)))); intro v133 w9 ho10 hb hg_ hnew_; clear hg_ hnew_; (first | rw [← Ny132.out] at ho10 | (simp only [Int.reduceToNat] at ho10; rw [← Ny132.out] at ho10)); have n0_ := Aside0.mk (Kd.R_elder' qz18 (Kd.R_base ho10) hb); have n1_ := Aside0.mk (Kd.R_elder' (by (with_reducible repeat (first | apply Kd.R_alloc | apply Kd.R_drewN | apply Kd.R_drew)); exact HO131.out) (Kd.R_base ho10) hb); have n2_ := Aside0.mk (Kd.R_lower (Kd.R_new' (Kd.R_new' (Kd.R_newM (M := fun k_ => (w.heap.size ≤ k_)) ho10 (below_size qz7) (fun k_ h_ => h_)) (Kd.R_lt qz18)) (Kd.R_lt (by (with_reducible repeat (first | apply Kd.R_alloc | apply Kd.R_drewN | apply Kd.R_drew)); exact HO131.out))) (below_size qz7)); have n3_ := Aside0.mk (blk_below (g := gb125) (o := .cells #[.slice none 0 0, .int .i64 0, .slice none 0 0, .int .i64 0] 25 (0, 0)) qz16 hb); have n4_ := Aside0.mk (below_step qz7 hb); clear HO128; clear HO131; clear BK125; clear HB; have HO128 := n0_; have HO131 := n1_; have HO134 := n2_; have BK125 := n3_; have HB := n4_; clear n0_ n1_ n2_ n3_ n4_; clear hb ho10; obtain ⟨Ao11, co11, eo11⟩ := Kd.R_slice HO134.out; subst eo11) | ((with_reducible refine gate_dst (N := 10) rfl ?_); refine Kd.N_lit k55 _ 55 ?hg (N' := 10) ?hd (xs := ([(⟨true, y126⟩ : S55), (⟨false, y129⟩ : S55), (⟨false, y132⟩ : S55), (⟨true, ([] : List Int)⟩ : S55)] : List (S55))) (inner := [.bool true, .slice Ao5 y126.length co5, .bool false, .slice Ao8 y129.length co8, .bool false, .slice Ao11 y132.length co11, .bool true, .slice none 0 0]) (ok := (fun k_ => (w.heap.size ≤ k_) ∧ k_ ≠ gb125)) (okp := (fun k_ => (w.heap.size ≤ k_) ∧ k_ ≠ gb125)) ?hr ?hp (fun _ hk => hk) ((show ∀ k_, w9.heap.size ≤ k_ → (fun k_ => (w.heap.size ≤ k_) ∧ k_ ≠ gb125) k_ from fun k_ hk => ⟨(Nat.le_trans (below_size qz7) hk), Kd.freshB (g := gb125) (o := .cells #[.slice none 0 0, .int .i64 0, .slice none 0 0, .int .i64 0] 25 (0, 0)) qz16 k_ hk⟩) _ (Nat.le_refl _)) (Below.refl _ _) (Nat.le_refl _) (by simp) ?_; (case hd => rfl); (case hg => rfl); (case hr => exact qz23); (case hp => exact (Reps.c2 (show Kd.FK k55 _ _ (⟨true, y126⟩ : S55) [.bool true, .slice Ao5 y126.length co5] from (k55_mkF _ _ (⟨true, y126⟩ : S55) (Kd.R_reads' (Kd.R_mono (ok' := (fun k_ => (w.heap.size ≤ k_) ∧ k_ ≠ gb125)) (Kd.R_types (HO128.out) BK125.out (by decide)) (fun k_ hk => ⟨hk.1.1.1.1, hk.2⟩))).2.1 (Kd.R_F (Kd.R_mono (ok' := (fun k_ => (w.heap.size ≤ k_) ∧ k_ ≠ gb125)) (Kd.R_types (HO128.out) BK125.out (by decide)) (fun k_ hk => ⟨hk.1.1.1.1, hk.2⟩))))) (Reps.c2 (show Kd.FK k55 _ _ (⟨false, y129⟩ : S55) [.bool false, .slice Ao8 y129.length co8] from (k55_mkF _ _ (⟨false, y129⟩ : S55) (Kd.R_reads' (Kd.R_mono (ok' := (fun k_ => (w.heap.size ≤ k_) ∧ k_ ≠ gb125)) (Kd.R_types (HO131.out) BK125.out (by decide)) (fun k_ hk => ⟨hk.1.1.1.1, hk.2⟩))).2.1 (Kd.R_F (Kd.R_mono (ok' := (fun k_ => (w.heap.size ≤ k_) ∧ k_ ≠ gb125)) (Kd.R_types (HO131.out) BK125.out (by decide)) (fun k_ hk => ⟨hk.1.1.1.1, hk.2⟩))))) (Reps.c2 (show Kd.FK k55 _ _ (⟨false, y132⟩ : S55) [.bool false, .slice Ao11 y132.length co11] from (k55_mkF _ _ (⟨false, y132⟩ : S55) (Kd.R_reads' (Kd.R_mono (ok' := (fun k_ => (w.heap.size ≤ k_) ∧ k_ ≠ gb125)) (Kd.R_types (HO134.out) BK125.out (by decide)) (fun k_ hk => ⟨hk.1.1.1.1, hk.2⟩))).2.1 (Kd.R_F (Kd.R_mono (ok' := (fun k_ => (w.heap.size ≤ k_) ∧ k_ ≠ gb125)) (Kd.R_types (HO134.out) BK125.out (by decide)) (fun k_ hk => ⟨hk.1.1.1.1, hk.2⟩))))) (Reps.c2 (show Kd.FK k55 _ _ (⟨true, ([] : List Int)⟩ : S55) [.bool true, .slice none 0 0] from (k55_mkF _ _ (⟨true, ([] : List Int)⟩ : S55) (Nat.le_refl _) (Kd.F_nil _ _ _))) (Reps.none _ _)))))); intro v136 w12 ho13 hb hg_ hnew_; clear hg_ hnew_; (first | rw [← Ny135.out] at ho13 | (simp only [Int.reduceToNat] at ho13; rw [← Ny135.out] at ho13)); have n0_ := Aside0.mk (Kd.N_lower ho13 (below_size qz7)); have n1_ := Aside0.mk (blk_below (g := gb125) (o := .cells #[.slice none 0 0, .int .i64 0, .slice none 0 0, .int .i64 0] 25 (0, 0)) qz16 hb); have n2_ := Aside0.mk (below_step qz7 hb); clear BK125; clear HB; clear HO128; clear HO131; clear HO134; have HO137 := n0_; have BK125 := n1_; have HB := n2_; clear n0_ n1_ n2_; clear hb ho13) | ((with_reducible refine gate_dst (N := 11) rfl ?_); refine Kd.R_lit (Kd.int .i64) _ 3 ?hg (N := 11) ?hd (xs := ([3] : List Int)) (inner := [.int .i64 3]) (ok := fun _ => True) (okp := fun _ => True) ?hr ?hp (fun _ hk => hk) trivial (Below.refl _ _) (Nat.le_refl _) (by simp) ?_; (case hd => rfl); (case hg => rfl); (case hr => exact qz23); (case hp => exact (Reps.one (show Kd.M (Kd.int .i64) _ _ _ 3 [.int .i64 3] from rfl) (Reps.none _ _))); intro v139 w14 ho15 hb hg_ hnew_; clear hg_ hnew_; (first | rw [← Ny138.out] at ho15 | (simp only [Int.reduceToNat] at ho15; rw [← Ny138.out] at ho15)); have n0_ := Aside0.mk (Kd.N_elder' (by (with_reducible repeat (first | apply Kd.N_alloc | apply Kd.N_drewN | apply Kd.N_drew)); exact HO137.out) (Kd.R_base ho15) hb); have n1_ := Aside0.mk (Kd.R_lower (Kd.R_newM (M := fun k_ => (w.heap.size ≤ k_)) ho15 (below_size qz7) (fun k_ h_ => h_)) (below_size qz7)); have n2_ := Aside0.mk (blk_below (g := gb125) (o := .cells #[.slice none 0 0, .int .i64 0, .slice none 0 0, .int .i64 0] 25 (0, 0)) qz16 hb); have n3_ := Aside0.mk (below_step qz7 hb); clear HO137; clear BK125; clear HB; have HO137 := n0_; have HO140 := n1_; have BK125 := n2_; have HB := n3_; clear n0_ n1_ n2_ n3_; clear hb ho15; obtain ⟨Ao16, co16, eo16⟩ := Kd.R_slice HO140.out; subst eo16; obtain ⟨Ao17, co17, eo17⟩ := Kd.N_slice HO137.out; subst eo17; have hcz18_0 : w14.cell? ⟨gb125, 0, none⟩ = some (.slice none 0 0) := (blk_cell BK125.out 0).trans rfl; have hcz18_1 : w14.cell? ⟨gb125, 1, none⟩ = some (.int .i64 0) := (blk_cell BK125.out 1).trans rfl; have hcz18_2 : w14.cell? ⟨gb125, 2, none⟩ = some (.slice none 0 0) := (blk_cell BK125.out 2).trans rfl; have hcz18_3 : w14.cell? ⟨gb125, 3, none⟩ = some (.int .i64 0) := (blk_cell BK125.out 3).trans rfl; have hfz18_0 := blk_frozen BK125.out 0; have hfz18_1 := blk_frozen BK125.out 1; have hfz18_2 := blk_frozen BK125.out 2; have hfz18_3 := blk_frozen BK125.out 3))
  refine bodyPost_ret (results_cell_row rfl _ _ gb125 25 #[.slice Ao17 y135.length co17, .int .i64 0, .slice Ao16 y138.length co16, .int .i64 a0] (0, 0) _ rfl (by (with_reducible repeat (first | refine blk_drewN ?_ _ | refine blk_drew ?_ | refine blk_alloc ?_ _)); refine blk_put (cs := #[.slice Ao17 y135.length co17, .int .i64 0, .slice Ao16 y138.length co16, .int .i64 0]) ?_ 3 _ rfl; (with_reducible repeat (first | refine blk_drewN ?_ _ | refine blk_drew ?_ | refine blk_alloc ?_ _)); refine blk_put (cs := #[.slice Ao17 y135.length co17, .int .i64 0, .slice none 0 0, .int .i64 0]) ?_ 2 _ rfl; (with_reducible repeat (first | refine blk_drewN ?_ _ | refine blk_drew ?_ | refine blk_alloc ?_ _)); refine blk_put (cs := #[.slice Ao17 y135.length co17, .int .i64 0, .slice none 0 0, .int .i64 0]) ?_ 1 _ rfl; (with_reducible repeat (first | refine blk_drewN ?_ _ | refine blk_drew ?_ | refine blk_alloc ?_ _)); refine blk_put (cs := #[.slice none 0 0, .int .i64 0, .slice none 0 0, .int .i64 0]) ?_ 0 _ rfl; (with_reducible repeat (first | refine blk_drewN ?_ _ | refine blk_drew ?_ | refine blk_alloc ?_ _)); exact BK125.out) Try.underlying25 rfl (by kernel_rfl)) rfl ?_
  exact ⟨_, _, by first | rfl | (simp [errW_none, errW_some] <;> rfl) | (simp [*, errW_none, errW_some] <;> rfl), by (with_reducible repeat (first | apply Kd.N_alloc | apply Kd.N_drewN | apply Kd.N_drew)); exact Kd.N_mono (Kd.N_far (p := ⟨gb125, 3, none⟩) (Kd.N_far (p := ⟨gb125, 2, none⟩) (Kd.N_far (p := ⟨gb125, 1, none⟩) (Kd.N_far (p := ⟨gb125, 0, none⟩) (Kd.N_mono HO137.out (fun k_ hk => (⟨hk, hk.1.2⟩ : _ ∧ k_ ≠ gb125))) (fun _ hk => hk.2) (.slice Ao17 y135.length co17)) (fun _ hk => hk.2) (.int .i64 0)) (fun _ hk => hk.2) (.slice Ao16 y138.length co16)) (fun _ hk => hk.2) (.int .i64 a0)) (fun _ hk => ⟨hk.1.1.1, hk.1.2⟩), by (with_reducible repeat (first | apply Kd.R_alloc | apply Kd.R_drewN | apply Kd.R_drew)); exact Kd.R_mono (Kd.R_far (p := ⟨gb125, 3, none⟩) (Kd.R_far (p := ⟨gb125, 2, none⟩) (Kd.R_far (p := ⟨gb125, 1, none⟩) (Kd.R_far (p := ⟨gb125, 0, none⟩) (Kd.R_types HO140.out BK125.out (by decide)) (fun _ hk => hk.2) (.slice Ao17 y135.length co17)) (fun _ hk => hk.2) (.int .i64 0)) (fun _ hk => hk.2) (.slice Ao16 y138.length co16)) (fun _ hk => hk.2) (.int .i64 a0)) (fun _ hk => hk.1.1), by repeat (first | (with_reducible first | exact HB.out | apply below_alloc | apply pw_below_drewN | apply below_drew1 | refine below_set ?_ GE125.out) | exact HB.out)⟩

end Go.Proofs.Ytjlehbncpjccmaa.Q
namespace Go.Proofs.Ytjlehbncpjccmaa.Q
open Go.RowKit Go.Proofs.YtjlehbncpjccmaaW.PrintWords Go.Proofs.YtjlehbncpjccmaaW.PrintLast Go.Proofs.YtjlehbncpjccmaaW.PrintMore
attribute [local go_sem] max2_int min2_int max_two min_two max_three min_three max_four min_four
set_option linter.unusedVariables false
set_option linter.unusedSimpArgs false

def puzzle_Width.f (l0_0 : List S55) (a0_1 : Int) (l0_2 : List Int) (a0_3 : Int) : Option (Int × Int) := some (if mayB l0_0 a0_1 l0_2 a0_3 then ((widthP l0_0 : Int), 0) else (0, 2))
set_option maxHeartbeats 1600000 in
theorem puzzle_Width.calls (A0_0 : Option Addr) (c0_0 : Nat) (l0_0 : List (S55)) (a0_1 : Int) (A0_2 : Option Addr) (c0_2 : Nat) (l0_2 : List Int) (a0_3 : Int) (r1 : Int) (r2 : Int) (w : World) (hr0_0 : Kd.C k55 w A0_0 l0_0.length l0_0) (hc0_0 : l0_0.length ≤ c0_0) (hr0_2 : Kd.C (Kd.int .i64) w A0_2 l0_2.length l0_2) (hc0_2 : l0_2.length ≤ c0_2) (h : puzzle_Width.f l0_0 a0_1 l0_2 a0_3 = some (r1, r2)) :
    Calls Try.prog 10 #[.agg #[.slice A0_0 l0_0.length c0_0, .int .i64 a0_1, .slice A0_2 l0_2.length c0_2, .int .i64 a0_3]] w fun e w' => e = .returned (.tuple #[.int .i64 r1, .int .i64 r2]) ∧ Below w.heap.size w w' := by
  have HR0 := Aside0.mk hr0_0
  have HR2 := Aside0.mk hr0_2
  have HB := Aside0.mk (Below.refl w.heap.size w)
  have HO := Aside0.mk (fun (W : World) (hb : Below w.heap.size w W) => open.calls A0_0 c0_0 l0_0 a0_1 A0_2 c0_2 l0_2 a0_3 W (Kd.C_below hr0_0 hb) hc0_0 (Kd.C_below hr0_2 hb) hc0_2)
  clear hr0_0 hr0_2
  unfold openV at HO
  unfold puzzle_Width.f at h
  cases hm : mayB l0_0 a0_1 l0_2 a0_3 with
  | true =>
    rw [hm, if_pos rfl] at h
    obtain ⟨rfl, rfl⟩ := Prod.mk.inj (Option.some.inj h)
    simp only [hm, if_true] at HO
    clear h hm
    go_enter Try.func10, Try.ntmps10
    go_wp2_with (first | ((with_reducible refine gate_dst (N := 1) rfl ?_); (try (refine gate_guard (by rfl) ?_; dsimp only)); refine box_event ?hg (N := 1) ?hd (cs := #[.slice A0_0 l0_0.length c0_0, .int .i64 a0_1, .slice A0_2 l0_2.length c0_2, .int .i64 a0_3]) (t := 25) ?hr ?_; (case hd => rfl); (case hg => rfl); (case hr => exact qz23); intro b1 hb1_ w_b1 hbox hb_; have n0_ := Aside0.mk (below_then HB.out HB.out.size hb_); have Bb1 := Aside0.mk hbox; clear hbox; have G1 := Aside0.mk (by rw [hb1_]; exact HB.out.size : w.heap.size ≤ b1); clear hb_; clear hb1_; (try clear HB); have HB := n0_; clear n0_) | ((with_reducible refine gate_dst (N := 7) rfl ?_); (try (refine gate_guard (by rfl) ?_; dsimp only)); refine wpList_load_row rfl 25 (.tmp 1) rfl b1 rfl 25 (#[.slice A0_0 l0_0.length c0_0, .int .i64 a0_1, .slice A0_2 l0_2.length c0_2, .int .i64 a0_3]) (0, 0) _ Bb1.out Try.underlying25 rfl info25n ?_) | ((with_reducible refine gate_callee (f := 32) rfl ?_); (try (refine gate_guard (by rfl) ?_; dsimp only)); refine goesL_ (some 8) rfl rfl Try.func32 (by kernel_rfl) rfl #[.agg #[.slice A0_0 l0_0.length c0_0, .int .i64 a0_1, .slice A0_2 l0_2.length c0_2, .int .i64 a0_3]] rfl qz20 ?_; refine (HO.out _ HB.out).mono ?_; rintro e_ w_ ⟨rfl, hb_⟩; have Cb1 := Aside0.mk ((hb_.block _ (blk_lt Bb1.out)).trans Bb1.out); have HB1 := Aside0.mk (below_then HB.out HB.out.size hb_); clear Bb1 HB hb_; have HB := HB1; clear HB1; refine ⟨_, rfl, ?_⟩) | ((with_reducible refine gate_dst (N := 4) rfl ?_); (try (refine gate_guard (by rfl) ?_; dsimp only)); refine box_event ?hg (N := 4) ?hd (cs := #[.slice none 0 0, .int .i64 0, .slice none 0 0, .int .i64 0, .int .i64 0]) (t := 69) ?hr ?_; (case hd => rfl); (case hg => rfl); (case hr => exact qz23); intro b4 hb4_ w_b4 hbox hb_; have n0_ := Aside0.mk (below_then HB.out HB.out.size hb_); have Bb4 := Aside0.mk hbox; clear hbox; have G4 := Aside0.mk (by rw [hb4_]; exact HB.out.size : w.heap.size ≤ b4); have Db1 := Aside0.mk ((hb_.block _ (blk_lt Cb1.out)).trans Cb1.out); have N14 := Aside0.mk (by have := blk_lt Cb1.out; omega : b1 ≠ b4); clear Cb1; clear hb_; clear hb4_; (try clear HB); have HB := n0_; clear n0_) | ((with_reducible refine gate_store (t := 69) (p := 4) rfl ?_); refine wpList_store_rowTo rfl 69 (.tmp 4) (.tmp 9) rfl rfl b4 (#[.slice A0_0 l0_0.length c0_0, .int .i64 a0_1, .slice A0_2 l0_2.length c0_2, .int .i64 a0_3, .int .i64 (widthP l0_0)]) rfl rfl 69 (#[.slice none 0 0, .int .i64 0, .slice none 0 0, .int .i64 0, .int .i64 0]) Bb4.out info69n rfl (by simp [Value.oneCell']) ?_; refine named_world _ ?_; intro w4 hw_; have B4 : Aside0 (w4.heap[b4]? = some (.cells #[.slice A0_0 l0_0.length c0_0, .int .i64 a0_1, .slice A0_2 l0_2.length c0_2, .int .i64 a0_3, .int .i64 (widthP l0_0)] 69 (0, 0))) := ⟨by rw [hw_]; exact setRow_heap _ _ _ _ _ _ Bb4.out⟩; have B1 : Aside0 (w4.heap[b1]? = some (.cells #[.slice A0_0 l0_0.length c0_0, .int .i64 a0_1, .slice A0_2 l0_2.length c0_2, .int .i64 a0_3] 25 (0, 0))) := ⟨by rw [hw_, setRow_other _ _ _ _ N14.out]; exact Db1.out⟩; have HB1 : Aside0 (Below w.heap.size w w4) := ⟨by rw [hw_]; exact below_setRow HB.out G4.out _⟩; clear Bb4 Db1 HB; have HB := HB1; clear HB1; have f0 : w4.cell? ⟨b4, 4, none⟩ = some (.int .i64 (widthP l0_0)) := (blk_cell B4.out 4).trans rfl; have f1 : w4.cell? ⟨b1, 3, none⟩ = some (.int .i64 a0_3) := (blk_cell B1.out 3).trans rfl; have f2 : w4.cell? ⟨b1, 1, none⟩ = some (.int .i64 a0_1) := (blk_cell B1.out 1).trans rfl; have f3 : w4.cell? ⟨b1, 0, none⟩ = some (.slice A0_0 l0_0.length c0_0) := (blk_cell B1.out 0).trans rfl; clear hw_))
    go_ret2
    exact ⟨rfl, HB.out⟩
  | false =>
    simp only [hm, Bool.false_eq_true, if_false] at HO h
    obtain ⟨rfl, rfl⟩ := Prod.mk.inj (Option.some.inj h)
    clear h hm
    go_enter Try.func10, Try.ntmps10
    go_wp2_with (first | ((with_reducible refine gate_dst (N := 1) rfl ?_); (try (refine gate_guard (by rfl) ?_; dsimp only)); refine box_event ?hg (N := 1) ?hd (cs := #[.slice A0_0 l0_0.length c0_0, .int .i64 a0_1, .slice A0_2 l0_2.length c0_2, .int .i64 a0_3]) (t := 25) ?hr ?_; (case hd => rfl); (case hg => rfl); (case hr => exact qz23); intro b1 hb1_ w_b1 hbox hb_; have n0_ := Aside0.mk (below_then HB.out HB.out.size hb_); have Bb1 := Aside0.mk hbox; clear hbox; have G1 := Aside0.mk (by rw [hb1_]; exact HB.out.size : w.heap.size ≤ b1); clear hb_; clear hb1_; (try clear HB); have HB := n0_; clear n0_) | ((with_reducible refine gate_dst (N := 7) rfl ?_); (try (refine gate_guard (by rfl) ?_; dsimp only)); refine wpList_load_row rfl 25 (.tmp 1) rfl b1 rfl 25 (#[.slice A0_0 l0_0.length c0_0, .int .i64 a0_1, .slice A0_2 l0_2.length c0_2, .int .i64 a0_3]) (0, 0) _ Bb1.out Try.underlying25 rfl info25n ?_) | ((with_reducible refine gate_callee (f := 32) rfl ?_); (try (refine gate_guard (by rfl) ?_; dsimp only)); refine goesL_ (some 8) rfl rfl Try.func32 (by kernel_rfl) rfl #[.agg #[.slice A0_0 l0_0.length c0_0, .int .i64 a0_1, .slice A0_2 l0_2.length c0_2, .int .i64 a0_3]] rfl qz20 ?_; refine (HO.out _ HB.out).mono ?_; rintro e_ w_ ⟨rfl, hb_⟩; have Cb1 := Aside0.mk ((hb_.block _ (blk_lt Bb1.out)).trans Bb1.out); have HB1 := Aside0.mk (below_then HB.out HB.out.size hb_); clear Bb1 HB hb_; have HB := HB1; clear HB1; refine ⟨_, rfl, ?_⟩) | ((with_reducible refine gate_dst (N := 4) rfl ?_); (try (refine gate_guard (by rfl) ?_; dsimp only)); refine box_event ?hg (N := 4) ?hd (cs := #[.slice none 0 0, .int .i64 0, .slice none 0 0, .int .i64 0, .int .i64 0]) (t := 69) ?hr ?_; (case hd => rfl); (case hg => rfl); (case hr => exact qz23); intro b4 hb4_ w_b4 hbox hb_; have n0_ := Aside0.mk (below_then HB.out HB.out.size hb_); have Bb4 := Aside0.mk hbox; clear hbox; have G4 := Aside0.mk (by rw [hb4_]; exact HB.out.size : w.heap.size ≤ b4); have Db1 := Aside0.mk ((hb_.block _ (blk_lt Cb1.out)).trans Cb1.out); have N14 := Aside0.mk (by have := blk_lt Cb1.out; omega : b1 ≠ b4); clear Cb1; clear hb_; clear hb4_; (try clear HB); have HB := n0_; clear n0_) | ((with_reducible refine gate_store (t := 69) (p := 4) rfl ?_); refine wpList_store_rowTo rfl 69 (.tmp 4) (.tmp 9) rfl rfl b4 (#[.slice none 0 0, .int .i64 0, .slice none 0 0, .int .i64 0, .int .i64 0]) rfl rfl 69 (#[.slice none 0 0, .int .i64 0, .slice none 0 0, .int .i64 0, .int .i64 0]) Bb4.out info69n rfl (by simp [Value.oneCell']) ?_; refine named_world _ ?_; intro w4 hw_; have B4 : Aside0 (w4.heap[b4]? = some (.cells #[.slice none 0 0, .int .i64 0, .slice none 0 0, .int .i64 0, .int .i64 0] 69 (0, 0))) := ⟨by rw [hw_]; exact setRow_heap _ _ _ _ _ _ Bb4.out⟩; have B1 : Aside0 (w4.heap[b1]? = some (.cells #[.slice A0_0 l0_0.length c0_0, .int .i64 a0_1, .slice A0_2 l0_2.length c0_2, .int .i64 a0_3] 25 (0, 0))) := ⟨by rw [hw_, setRow_other _ _ _ _ N14.out]; exact Db1.out⟩; have HB1 : Aside0 (Below w.heap.size w w4) := ⟨by rw [hw_]; exact below_setRow HB.out G4.out _⟩; clear Bb4 Db1 HB; have HB := HB1; clear HB1; have f0 : w4.cell? ⟨b4, 4, none⟩ = some (.int .i64 0) := (blk_cell B4.out 4).trans rfl; have f1 : w4.cell? ⟨b1, 3, none⟩ = some (.int .i64 a0_3) := (blk_cell B1.out 3).trans rfl; have f2 : w4.cell? ⟨b1, 1, none⟩ = some (.int .i64 a0_1) := (blk_cell B1.out 1).trans rfl; have f3 : w4.cell? ⟨b1, 0, none⟩ = some (.slice A0_0 l0_0.length c0_0) := (blk_cell B1.out 0).trans rfl; clear hw_))
    go_ret2
    exact ⟨rfl, HB.out⟩
end Go.Proofs.Ytjlehbncpjccmaa.Q
namespace Go.Proofs.Ytjlehbncpjccmaa.Q
open Go.RowKit Go.Proofs.YtjlehbncpjccmaaW.PrintWords Go.Proofs.YtjlehbncpjccmaaW.PrintLast Go.Proofs.YtjlehbncpjccmaaW.PrintMore
attribute [local go_sem] max2_int min2_int max_two min_two max_three min_three max_four min_four
set_option linter.unusedVariables false
set_option linter.unusedSimpArgs false

theorem before1_pred (s : List Bool) (hs : s.length = 16) (w : World) (b b7 : Nat) (x : S55) (v1 : Value) (hb : w.heap[b]? = some (.cells (bits s) 76 (0, 0))) (hb7 : w.heap[b7]? = some (.cells #[.bool x.f0, v1] 55 (0, 0))) :
    PredQ Try.prog (Kd.int .i64) (fun cs => cs.headD .nilIface) (.func (.func 58) #[] #[.pointer (some ⟨b, 0, none⟩), .pointer (some ⟨b7, 0, none⟩)]) (fun v => 0 ≤ v ∧ v < 16) (fun v => s.getD v.toNat false == x.f0) w 58 #[.pointer (some ⟨b, 0, none⟩), .pointer (some ⟨b7, 0, none⟩)] Try.f58 := by
  refine ⟨rfl, Try.func58, by kernel_rfl, rfl, ?_⟩
  intro W y cs hB hK hy
  obtain rfl : cs = [.int .i64 y] := hK
  have hc : W.cell? ⟨b, y.toNat, none⟩ = some (.bool (s.getD y.toNat false)) := (blk_cell ((hB.block b (blk_lt hb)).trans hb) y.toNat).trans (bits_get _ _ (by omega))
  have hm : W.cell? ⟨b7, 0, none⟩ = some (.bool x.f0) := (blk_cell ((hB.block b7 (blk_lt hb7)).trans hb7) 0).trans rfl
  show Calls Try.prog 58 #[.int .i64 y, .pointer (some ⟨b, 0, none⟩), .pointer (some ⟨b7, 0, none⟩)] W _
  have p1 := eq_true hy.1
  have p2 := eq_true hy.2
  clear hB hy hb hb7 hs
  go_enter Try.func58, Try.ntmps58
  go_wp2
  repeat (go_quiet (fail); try go_wp2)
  go_ret
  exact ⟨rfl, (Drawn0.refl _).step _⟩
theorem guide1_pred (s : List Bool) (hs : s.length = 16) (w : World) (b : Nat) (hb : w.heap[b]? = some (.cells (bits s) 76 (0, 0))) :
    PredQ Try.prog (Kd.int .i64) (fun cs => cs.headD .nilIface) (.func (.func 40) #[] #[.pointer (some ⟨b, 0, none⟩)]) (fun v => 0 ≤ v ∧ v < 16) (fun v => s.getD v.toNat false) w 40 #[.pointer (some ⟨b, 0, none⟩)] Try.f40 := by
  refine ⟨rfl, Try.func40, by kernel_rfl, rfl, ?_⟩
  intro W y cs hB hK hy
  obtain rfl : cs = [.int .i64 y] := hK
  have hc : W.cell? ⟨b, y.toNat, none⟩ = some (.bool (s.getD y.toNat false)) := (blk_cell ((hB.block b (blk_lt hb)).trans hb) y.toNat).trans (bits_get _ _ (by omega))
  show Calls Try.prog 40 #[.int .i64 y, .pointer (some ⟨b, 0, none⟩)] W _
  have p1 := eq_true hy.1
  have p2 := eq_true hy.2
  clear hB hy hb hs
  go_enter Try.func40, Try.ntmps40
  go_wp2
  repeat (go_quiet (fail); try go_wp2)
  go_ret
  exact ⟨rfl, Drawn0.refl _⟩
end Go.Proofs.Ytjlehbncpjccmaa.Q
namespace Go.Proofs.Ytjlehbncpjccmaa.Q
open Go.RowKit Go.Proofs.YtjlehbncpjccmaaW.PrintWords Go.Proofs.YtjlehbncpjccmaaW.PrintLast Go.Proofs.YtjlehbncpjccmaaW.PrintMore
attribute [local go_sem] max2_int min2_int max_two min_two max_three min_three max_four min_four
set_option linter.unusedVariables false
set_option linter.unusedSimpArgs false
set_option maxHeartbeats 1600000 in
theorem goals.calls (A0 : Option Addr) (c0 n : Nat) (st : Int) (A2 : Option Addr) (c2 : Nat) (gs : List Int) (mv wd : Int) (w : World) (hr2 : Kd.C (Kd.int .i64) w A2 gs.length gs) (hc2 : gs.length ≤ c2) (hin : ∀ x ∈ gs, 0 ≤ x ∧ x < 16) :
    Calls Try.prog 36 #[.agg #[.slice A0 n c0, .int .i64 st, .slice A2 gs.length c2, .int .i64 mv, .int .i64 wd]] w fun e w' => e = .returned (.agg (bits (gset gs))) ∧ Below w.heap.size w w' := by
  have HR2 := Aside0.mk hr2
  have HN := Aside0.mk hin
  have hlen := hr2.2.1
  have HB := Aside0.mk (Below.refl w.heap.size w)
  clear hr2 hin
  go_enter Try.func36, Try.ntmps36
  go_wp2_with (first | ((with_reducible refine gate_dst (N := 1) rfl ?_); (try (refine gate_guard (by rfl) ?_; dsimp only)); refine box_event ?hg (N := 1) ?hd (cs := #[.slice A0 n c0, .int .i64 st, .slice A2 gs.length c2, .int .i64 mv, .int .i64 wd]) (t := 69) ?hr ?_; (case hd => rfl); (case hg => rfl); (case hr => exact qz23); intro b1 hb1_ w_b1 hbox hb_; have n0_ := Aside0.mk (below_then HB.out HB.out.size hb_); have Bb1 := Aside0.mk hbox; clear hbox; have G1 := Aside0.mk (by rw [hb1_]; exact HB.out.size : w.heap.size ≤ b1); clear hb_; clear hb1_; (try clear HB); have HB := n0_; clear n0_) | ((with_reducible refine gate_dst (N := 2) rfl ?_); (try (refine gate_guard (by rfl) ?_; dsimp only)); refine box_event ?hg (N := 2) ?hd (cs := bits (gset [])) (t := 76) ?hr ?_; (case hd => rfl); (case hg => rfl); (case hr => exact qz23); intro b2 hb2_ w_b2 hbox hb_; have n0_ := Aside0.mk (below_then HB.out HB.out.size hb_); have Bb2 := Aside0.mk hbox; clear hbox; have G2 := Aside0.mk (by rw [hb2_]; exact HB.out.size : w.heap.size ≤ b2); have B1' := Aside0.mk ((hb_.block _ (blk_lt Bb1.out)).trans Bb1.out); have f1 : w_b2.cell? ⟨b1, 2, none⟩ = some (.slice A2 gs.length c2) := (blk_cell B1'.out 2).trans rfl; clear Bb1; clear hb_; clear hb2_; (try clear HB); have HB := n0_; clear n0_))
  clear f1
  go_loopg [9] gs.length (fun kq v9 wr => ∃ x : Int, v9 = .int .i64 x ∧ Aside0 (∃ i : Nat, x = i ∧ kq + i = gs.length) ∧ Aside0 (wr.heap[b2]? = some (.cells (bits (gset (gs.take x.toNat))) 76 (0, 0))) ∧ Aside0 (Below w.heap.size w wr))
  case atStart => exact ⟨0, rfl, ⟨0, rfl, by omega⟩, Bb2, HB⟩
  case round =>
    clear HB Bb2 B1'
    obtain ⟨x, rfl, HI, B2, HB⟩ := hrel
    by_cases hlt : x < (gs.length : Int)
    · have h0 : 0 ≤ x := by obtain ⟨i, rfl, _⟩ := HI.out; omega
      obtain ⟨ad, rfl, hx⟩ := Kd.at_int HR2.out x h0 hlt
      replace hx := (HB.out.cell (World.block_lt_of_cell? w _ hx)).trans hx
      have hm : rd gs x ∈ gs := by
        have : x.toNat < gs.length := by omega
        simp [rd, List.getD_eq_getElem?_getD, List.getElem?_eq_getElem this]
      obtain ⟨y, hy⟩ : ∃ y : Int, rd gs x = y := ⟨_, rfl⟩
      have hg : gset (gs.take (x + 1).toNat) = (gset (gs.take x.toNat)).set y.toNat true := by
        have hl : x.toNat < gs.length := by omega
        rw [show (x + 1).toNat = x.toNat + 1 by omega, List.take_succ_eq_append_getElem hl, gset_snoc _ _ (HN.out _ (List.getElem_mem hl)).1 (HN.out _ (List.getElem_mem hl)).2, ← hy]
        simp [rd, List.getD_eq_getElem?_getD, List.getElem?_eq_getElem hl]
      rw [hy] at hx hm
      have hn := HN.out y hm
      have HY := Aside0.mk hg
      have hc : wr.cell? ⟨b2, y.toNat, none⟩ = some (.bool ((gset (gs.take x.toNat)).getD y.toNat false)) := (blk_cell B2.out y.toNat).trans (bits_get _ _ (by rw [gset_length]; omega))
      have hfz := blk_frozen B2.out y.toNat
      have p1 := eq_true h0
      have p2 := eq_true hlt
      have p3 := eq_true hn.1
      have p4 := eq_true hn.2
      have hlt' := decide_eq_true hlt
      have HP := Aside0.mk (And.intro h0 (And.intro hlt hlen))
      clear hg hm hy hn h0 hlt
      go_wp2
      go_roundg (gk - 1)
      case measure => obtain ⟨i, rfl, hi⟩ := HI.out; have := HP.out; omega
      case rel =>
        have hP := HP.out
        refine ⟨x + 1, by rw [show wrap64 (x + 1) = x + 1 by unfold wrap64; omega], ⟨?_⟩, ⟨?_⟩, ⟨below_set HB.out G2.out⟩⟩
        · obtain ⟨i, rfl, hi⟩ := HI.out
          exact ⟨i + 1, by omega, by omega⟩
        · rw [blk_set B2.out, bits_set, HY.out]
    · have hlt' := decide_eq_false hlt
      have hx : x = gs.length := by obtain ⟨i, rfl, hi⟩ := HI.out; omega
      have B3 : Aside0 (wr.heap[b2]? = some (.cells (bits (gset gs)) 76 (0, 0))) := by
        refine ⟨?_⟩
        rw [B2.out, hx, Int.toNat_natCast, List.take_length]
      clear hlt hx
      go_wp2_with (first | ((with_reducible refine gate_dst (N := 16) rfl ?_); (try (refine gate_guard (by rfl) ?_; dsimp only)); refine wpList_load_row rfl 76 (.tmp 2) rfl b2 rfl 76 (bits (gset gs)) (0, 0) _ B3.out Try.underlying76 rfl (info76s _ (gset_length _)) ?_) | ((with_reducible refine gate_store (t := 76) (p := 2) rfl ?_); refine wpList_store_rowTo rfl 76 (.tmp 2) (.tmp 16) rfl rfl b2 (bits (gset gs)) rfl rfl 76 (bits (gset gs)) B3.out (info76s _ (gset_length _)) rfl (bits_one _) ?_; refine named_world _ ?_; intro w3 hw_; rw [setRow_self _ _ _ _ _ B3.out] at hw_; subst hw_))
      refine bodyPost_ret (results_cell_row rfl _ _ b2 76 (bits (gset gs)) (0, 0) _ rfl B3.out Try.underlying76 rfl (info76s _ (gset_length _))) rfl ?_
      exact ⟨rfl, HB.out⟩
end Go.Proofs.Ytjlehbncpjccmaa.Q
namespace Go.Proofs.Ytjlehbncpjccmaa.Q
open Go.RowKit Go.Proofs.YtjlehbncpjccmaaW.PrintWords Go.Proofs.YtjlehbncpjccmaaW.PrintLast Go.Proofs.YtjlehbncpjccmaaW.PrintMore
attribute [local go_sem] max2_int min2_int max_two min_two max_three min_three max_four min_four
set_option linter.unusedVariables false
set_option linter.unusedSimpArgs false

def winB (s : List Bool) (x : S55) : Bool := decide ((x.f1.length : Int) > 0) && ((x.f1.any fun v => s.getD v.toNat false == x.f0) == x.f0)
def bstep (s : List Bool) : List S55 → Nat → List Bool → List Bool
  | [], _, acc => acc
  | x :: r, v, acc => bstep s r (v + 1) (if winB s x then acc.set v true else acc)
theorem bstep_drop (s : List Bool) (ps : List S55) (i : Nat) (acc : List Bool) (h : i < ps.length) : bstep s (ps.drop i) i acc = bstep s (ps.drop (i + 1)) (i + 1) (if winB s (rd_T55 ps i) then acc.set i true else acc) := by
  rw [List.drop_eq_getElem_cons h]
  simp [bstep, rd_T55, List.getD_eq_getElem?_getD, List.getElem?_eq_getElem h]
theorem bstep_length (s : List Bool) : ∀ (ps : List S55) (v : Nat) (acc : List Bool), (bstep s ps v acc).length = acc.length
  | [], _, _ => rfl
  | x :: r, v, acc => by
    rw [bstep, bstep_length s r]
    split <;> simp
def befS (ps : List S55) (gs : List Int) (s : List Bool) : List Bool := bstep s ps 0 (gset gs)
theorem befS_length (ps : List S55) (gs : List Int) (s : List Bool) : (befS ps gs s).length = 16 := by rw [befS, bstep_length, gset_length]
set_option maxHeartbeats 3200000 in
theorem before.calls (A0 : Option Addr) (c0 : Nat) (ps : List S55) (st : Int) (A2 : Option Addr) (c2 : Nat) (gs : List Int) (mv wd : Int) (s : List Bool) (w : World)
    (hr0 : Kd.C k55 w A0 ps.length ps) (hc0 : ps.length ≤ c0) (hr2 : Kd.C (Kd.int .i64) w A2 gs.length gs) (hc2 : gs.length ≤ c2) (hin : ∀ x ∈ gs, 0 ≤ x ∧ x < 16) (hs : s.length = 16) (hn : ps.length ≤ 16) (hto : ∀ x ∈ ps, ∀ v ∈ x.f1, 0 ≤ v ∧ v < 16) :
    Calls Try.prog 37 #[.agg #[.slice A0 ps.length c0, .int .i64 st, .slice A2 gs.length c2, .int .i64 mv, .int .i64 wd], .agg (bits s)] w fun e w' => e = .returned (.agg (bits (befS ps gs s))) ∧ Below w.heap.size w w' := by
  have HR0 := Aside0.mk hr0
  have HR2 := Aside0.mk hr2
  have HN := Aside0.mk hin
  have HT := Aside0.mk hto
  have HB := Aside0.mk (Below.refl w.heap.size w)
  have HS := Aside0.mk hs
  have HL := Aside0.mk hn
  clear hr0 hr2 hin hto hs hn
  go_enter Try.func37, Try.ntmps37
  go_wp2_with (first | ((with_reducible refine gate_dst (N := 2) rfl ?_); (try (refine gate_guard (by rfl) ?_; dsimp only)); refine box_event ?hg (N := 2) ?hd (cs := #[.slice A0 ps.length c0, .int .i64 st, .slice A2 gs.length c2, .int .i64 mv, .int .i64 wd]) (t := 69) ?hr ?_; (case hd => rfl); (case hg => rfl); (case hr => exact qz23); intro b2 hb2_ w_b2 hbox hb_; have n0_ := Aside0.mk (below_then HB.out HB.out.size hb_); have Bb2 := Aside0.mk hbox; clear hbox; have G2 := Aside0.mk (by rw [hb2_]; exact HB.out.size : w.heap.size ≤ b2); clear hb_; clear hb2_; (try clear HB); have HB := n0_; clear n0_) | ((with_reducible refine gate_dst (N := 3) rfl ?_); (try (refine gate_guard (by rfl) ?_; dsimp only)); refine box_event ?hg (N := 3) ?hd (cs := bits s) (t := 76) ?hr ?_; (case hd => rfl); (case hg => rfl); (case hr => exact qz23); intro b3 hb3_ w_b3 hbox hb_; have n0_ := Aside0.mk (below_then HB.out HB.out.size hb_); have Bb3 := Aside0.mk hbox; clear hbox; have G3 := Aside0.mk (by rw [hb3_]; exact HB.out.size : w.heap.size ≤ b3); have Bb2' := Aside0.mk ((hb_.block _ (blk_lt Bb2.out)).trans Bb2.out); clear Bb2; clear hb_; clear hb3_; (try clear HB); have HB := n0_; clear n0_) | ((with_reducible refine gate_dst (N := 4) rfl ?_); (try (refine gate_guard (by rfl) ?_; dsimp only)); refine box_event ?hg (N := 4) ?hd (cs := bits (gset [])) (t := 76) ?hr ?_; (case hd => rfl); (case hg => rfl); (case hr => exact qz23); intro b4 hb4_ w_b4 hbox hb_; have n0_ := Aside0.mk (below_then HB.out HB.out.size hb_); have Bb4 := Aside0.mk hbox; clear hbox; have G4 := Aside0.mk (by rw [hb4_]; exact HB.out.size : w.heap.size ≤ b4); have Bb2 := Aside0.mk ((hb_.block _ (blk_lt Bb2'.out)).trans Bb2'.out); clear Bb2'; have Bb3' := Aside0.mk ((hb_.block _ (blk_lt Bb3.out)).trans Bb3.out); clear Bb3; clear hb_; clear hb4_; (try clear HB); have HB := n0_; clear n0_) | ((with_reducible refine gate_dst (N := 9) rfl ?_); (try (refine gate_guard (by rfl) ?_; dsimp only)); refine wpList_load_row rfl 69 (.tmp 2) rfl b2 rfl 69 (#[.slice A0 ps.length c0, .int .i64 st, .slice A2 gs.length c2, .int .i64 mv, .int .i64 wd]) (0, 0) _ Bb2.out Try.underlying69 rfl info69n ?_) | ((with_reducible refine gate_callee (f := 36) rfl ?_); (try (refine gate_guard (by rfl) ?_; dsimp only)); refine goesL_ (some 10) rfl rfl Try.func36 (by kernel_rfl) rfl #[.agg #[.slice A0 ps.length c0, .int .i64 st, .slice A2 gs.length c2, .int .i64 mv, .int .i64 wd]] rfl qz20 ?_; refine (goals.calls A0 c0 ps.length st A2 c2 gs mv wd _ (Kd.C_below HR2.out HB.out) hc2 HN.out).mono ?_; rintro e_ w_ ⟨rfl, hb_⟩; have Cb2 := Aside0.mk ((hb_.block _ (blk_lt Bb2.out)).trans Bb2.out); have Cb3 := Aside0.mk ((hb_.block _ (blk_lt Bb3'.out)).trans Bb3'.out); have Cb4 := Aside0.mk ((hb_.block _ (blk_lt Bb4.out)).trans Bb4.out); have HB1 := Aside0.mk (below_then HB.out HB.out.size hb_); clear Bb2 Bb3' Bb4 HB hb_; have HB := HB1; clear HB1; refine ⟨_, rfl, ?_⟩) | ((with_reducible refine gate_dst (N := 5) rfl ?_); (try (refine gate_guard (by rfl) ?_; dsimp only)); refine box_event ?hg (N := 5) ?hd (cs := bits (gset [])) (t := 76) ?hr ?_; (case hd => rfl); (case hg => rfl); (case hr => exact qz23); intro b5 hb5_ w_b5 hbox hb_; have n0_ := Aside0.mk (below_then HB.out HB.out.size hb_); have Bb5 := Aside0.mk hbox; clear hbox; have G5 := Aside0.mk (by rw [hb5_]; exact HB.out.size : w.heap.size ≤ b5); have Db2 := Aside0.mk ((hb_.block _ (blk_lt Cb2.out)).trans Cb2.out); have Db3 := Aside0.mk ((hb_.block _ (blk_lt Cb3.out)).trans Cb3.out); have Db4 := Aside0.mk ((hb_.block _ (blk_lt Cb4.out)).trans Cb4.out); have N2 := Aside0.mk (by have := blk_lt Cb2.out; omega : b2 ≠ b5); have N3 := Aside0.mk (by have := blk_lt Cb3.out; omega : b3 ≠ b5); have N4 := Aside0.mk (by have := blk_lt Cb4.out; omega : b4 ≠ b5); clear Cb2 Cb3 Cb4; clear hb_; clear hb5_; (try clear HB); have HB := n0_; clear n0_) | ((with_reducible refine gate_store (t := 76) (p := 5) rfl ?_); refine wpList_store_rowTo rfl 76 (.tmp 5) (.tmp 10) rfl rfl b5 (bits (gset gs)) rfl rfl 76 (bits (gset [])) Bb5.out (info76s _ (gset_length _)) (by rw [bits_size, bits_size, gset_length, gset_length]) (bits_one _) ?_; refine named_world _ ?_; intro w5 hw_; have Eb5 : Aside0 (w5.heap[b5]? = some (.cells (bits (gset gs)) 76 (0, 0))) := ⟨by rw [hw_]; exact setRow_heap _ _ _ _ _ _ Bb5.out⟩; have Eb2 : Aside0 (w5.heap[b2]? = some (.cells #[.slice A0 ps.length c0, .int .i64 st, .slice A2 gs.length c2, .int .i64 mv, .int .i64 wd] 69 (0, 0))) := ⟨by rw [hw_, setRow_other _ _ _ _ N2.out]; exact Db2.out⟩; have Eb3 : Aside0 (w5.heap[b3]? = some (.cells (bits s) 76 (0, 0))) := ⟨by rw [hw_, setRow_other _ _ _ _ N3.out]; exact Db3.out⟩; have Eb4 : Aside0 (w5.heap[b4]? = some (.cells (bits (gset [])) 76 (0, 0))) := ⟨by rw [hw_, setRow_other _ _ _ _ N4.out]; exact Db4.out⟩; have HB1 : Aside0 (Below w.heap.size w w5) := ⟨by rw [hw_]; exact below_setRow HB.out G5.out _⟩; clear Db2 Db3 Db4 Bb5 HB; have HB := HB1; clear HB1; have f1 : w5.cell? ⟨b2, 0, none⟩ = some (.slice A0 ps.length c0) := (blk_cell Eb2.out 0).trans rfl; clear hw_))
  clear f1
  go_loopg [15] ps.length (fun kq v15 wr => ∃ (x : Int) (cur : List Bool), v15 = .int .i64 x ∧ Aside0 (∃ i : Nat, x = i ∧ kq + i = ps.length ∧ cur.length = 16 ∧ befS ps gs s = bstep s (ps.drop i) i cur) ∧ Aside0 (wr.heap[b5]? = some (.cells (bits cur) 76 (0, 0))) ∧ Aside0 (wr.heap[b3]? = some (.cells (bits s) 76 (0, 0))) ∧ Aside0 (wr.heap[b4]? = some (.cells (bits (gset [])) 76 (0, 0))) ∧ Aside0 (Below w.heap.size w wr))
  case atStart => exact ⟨0, gset gs, rfl, ⟨0, rfl, by omega, gset_length _, rfl⟩, Eb5, Eb3, Eb4, HB⟩
  case round =>
    clear HB Eb5 Eb3 Eb4 Eb2
    obtain ⟨x, cur, rfl, HI, B5, B3, B4, HB⟩ := hrel
    by_cases hlt : x < (ps.length : Int)
    · have h0 : 0 ≤ x := by obtain ⟨i, rfl, _⟩ := HI.out; omega
      have h16 : x < 16 := by have := HL.out; omega
      obtain ⟨ad, A1, c1, rfl, hx, hx1, hl1, hr1⟩ := at_T55 HR0.out x h0 hlt
      replace hx := (HB.out.cell (World.block_lt_of_cell? w _ hx)).trans hx
      replace hx1 := (HB.out.cell (World.block_lt_of_cell? w _ hx1)).trans hx1
      have hmem : rd_T55 ps x ∈ ps := getD_mem ps z55 _ (by omega)
      have hto := HT.out _ hmem
      have hstep : ∀ i : Nat, x = i → bstep s (ps.drop i) i cur = bstep s (ps.drop (i + 1)) (i + 1) (if winB s (rd_T55 ps x) then cur.set i true else cur) := fun i hi => by
        subst hi; exact bstep_drop s ps i cur (by omega)
      obtain ⟨r, hr⟩ : ∃ r, rd_T55 ps x = r := ⟨_, rfl⟩
      rw [hr] at hx hx1 hto hl1 hr1 hstep
      have HR1 := Aside0.mk (Kd.C_below hr1 HB.out)
      have HTO := Aside0.mk hto
      have HST := Aside0.mk hstep
      have NB5 := Aside0.mk (blk_lt B5.out)
      have NB3 := Aside0.mk (blk_lt B3.out)
      have NB4 := Aside0.mk (blk_lt B4.out)
      have p1 := eq_true h0
      have p2 := eq_true hlt
      have p3 := eq_true h16
      have hlt' := decide_eq_true hlt
      have HP := Aside0.mk (And.intro h0 (And.intro hlt h16))
      have HCL : Aside0 (x.toNat < cur.length) := ⟨by obtain ⟨i, rfl, _, hl, _⟩ := HI.out; omega⟩
      clear hr hmem hto hstep hr1 h0 hlt h16
      by_cases hlen : (r.f1.length : Int) > 0
      · have hlA : decide (0 < r.f1.length) = true := decide_eq_true (by omega)
        have hlB : decide (0 < (r.f1.length : Int)) = true := decide_eq_true hlen
        obtain ⟨m, hm⟩ : ∃ m, (r.f1.any fun v => s.getD v.toNat false == r.f0) = m := ⟨_, rfl⟩
        have HW : Aside0 (winB s r = (m == r.f0)) := ⟨by simp only [winB, hm, decide_eq_true hlen, Bool.true_and]⟩
        have HQ : Aside0 (∀ W : World, wr.heap.size ≤ W.heap.size → (Kd.int .i64).C W A1 r.f1.length r.f1 → ∀ b7, W.heap[b3]? = some (.cells (bits s) 76 (0, 0)) → W.heap[b7]? = some (.cells #[.bool r.f0, .slice A1 r.f1.length c1] 55 (0, 0)) → Calls Try.prog 43 #[.slice A1 r.f1.length c1, .func (.func 58) #[] #[.pointer (some ⟨b3, 0, none⟩), .pointer (some ⟨b7, 0, none⟩)]] W fun e W' => e = .returned (.bool m) ∧ Drawn0 W W') :=
          ⟨fun (W : World) _ hC b7 g3 g7 => by rw [← hm]; exact anyq_int.calls hC hl1 (before1_pred s HS.out W b3 b7 r _ g3 g7) HTO.out⟩
        clear hm
        cases hany : (m == r.f0) with
        | true =>
          rw [hany] at HW
          have hany2 : decide (m = r.f0) = true := by simpa using hany
          have HA := Aside0.mk hany
          go_wp2_with (first | ((with_reducible refine gate_dst (N := 7) rfl ?_); (try (refine gate_guard (by rfl) ?_; dsimp only)); refine box_event ?hg (N := 7) ?hd (cs := #[.bool false, .slice none 0 0]) (t := 55) ?hr ?_; (case hd => rfl); (case hg => rfl); (case hr => exact qz23); intro b7 hb7_ w_b7 hbox hb_; have n0_ := Aside0.mk (below_then HB.out HB.out.size hb_); have Bb7 := Aside0.mk hbox; clear hbox; have G7 := Aside0.mk (by rw [hb7_]; exact HB.out.size : w.heap.size ≤ b7); have C5 := Aside0.mk ((hb_.block _ (blk_lt B5.out)).trans B5.out); have C3 := Aside0.mk ((hb_.block _ (blk_lt B3.out)).trans B3.out); have C4 := Aside0.mk ((hb_.block _ (blk_lt B4.out)).trans B4.out); have M5 := Aside0.mk (by have := NB5.out; omega : b5 ≠ b7); have M3 := Aside0.mk (by have := NB3.out; omega : b3 ≠ b7); have M4 := Aside0.mk (by have := NB4.out; omega : b4 ≠ b7); have HBr := Aside0.mk hb_; have Gr := Aside0.mk (by rw [hb7_]; exact Nat.le_refl _ : wr.heap.size ≤ b7); clear hb_; clear hb7_; (try clear HB); have HB := n0_; clear n0_) | ((with_reducible refine gate_store (t := 55) (p := 7) rfl ?_); refine wpList_store_rowTo rfl 55 (.tmp 7) (.tmp 19) rfl rfl b7 (#[.bool r.f0, .slice A1 r.f1.length c1]) rfl rfl 55 (#[.bool false, .slice none 0 0]) Bb7.out info55n rfl (by simp [Value.oneCell']) ?_; refine named_world _ ?_; intro w7 hw_; have E7 : Aside0 (w7.heap[b7]? = some (.cells #[.bool r.f0, .slice A1 r.f1.length c1] 55 (0, 0))) := ⟨by rw [hw_]; exact setRow_heap _ _ _ _ _ _ Bb7.out⟩; have E5 : Aside0 (w7.heap[b5]? = some (.cells (bits cur) 76 (0, 0))) := ⟨by rw [hw_, setRow_other _ _ _ _ M5.out]; exact C5.out⟩; have E3 : Aside0 (w7.heap[b3]? = some (.cells (bits s) 76 (0, 0))) := ⟨by rw [hw_, setRow_other _ _ _ _ M3.out]; exact C3.out⟩; have E4 : Aside0 (w7.heap[b4]? = some (.cells (bits (gset [])) 76 (0, 0))) := ⟨by rw [hw_, setRow_other _ _ _ _ M4.out]; exact C4.out⟩; have HB1 : Aside0 (Below w.heap.size w w7) := ⟨by rw [hw_]; exact below_setRow HB.out G7.out _⟩; have HBr7 : Aside0 (Below wr.heap.size wr w7) := ⟨by rw [hw_]; exact below_setRow HBr.out Gr.out _⟩; clear C5 C3 C4 Bb7; have f0 : w7.cell? ⟨b7, 0, none⟩ = some (.bool r.f0) := (blk_cell E7.out 0).trans rfl; have f1 : w7.cell? ⟨b7, 1, none⟩ = some (.slice A1 r.f1.length c1) := (blk_cell E7.out 1).trans rfl; have g0 : w7.cell? ⟨b5, x.toNat, none⟩ = some (.bool (cur.getD x.toNat false)) := (blk_cell E5.out _).trans (bits_get _ _ HCL.out); have g1 : w7.frozen? ⟨b5, x.toNat, none⟩ = false := blk_frozen E5.out _; clear hw_))
          have HQ2 := Aside0.mk (fun nd => HQ.out (w7.drewN nd) HBr7.out.size (Kd.C_drewN (Kd.C_below HR1.out HBr7.out) nd) b7 E3.out E7.out)
          repeat (go_quiet (first | (go_at_call 43; refine (HQ2.out _).mono ?_; rintro e w' ⟨rfl, ⟨nd, rfl⟩⟩; (try exact qz11))); try go_wp2)
          go_roundg (gk - 1)
          case measure => obtain ⟨i, rfl, hi, _⟩ := HI.out; have := HP.out; omega
          case rel =>
            have hP := HP.out
            have hne3 : b3 ≠ b5 := N3.out
            refine ⟨x + 1, cur.set x.toNat true, by rw [show wrap64 (x + 1) = x + 1 by unfold wrap64; omega], ⟨?_⟩, ⟨?_⟩, ⟨(Below.heap_setCell _ _ _ _ N3.out).trans E3.out⟩, ⟨(Below.heap_setCell _ _ _ _ N4.out).trans E4.out⟩, ⟨below_set (pw_below_drewN HB1.out _) G5.out⟩⟩
            · obtain ⟨i, rfl, h1, h2, h3⟩ := HI.out
              refine ⟨i + 1, by omega, by omega, by simp [h2], ?_⟩
              rw [h3, HST.out i rfl, HW.out]; simp
            · rw [blk_set (w := w7.drewN _) E5.out, bits_set]
        | false =>
          rw [hany] at HW
          have hany2 : decide (m = r.f0) = false := by simpa using hany
          have HA := Aside0.mk hany
          go_wp2_with (first | ((with_reducible refine gate_dst (N := 7) rfl ?_); (try (refine gate_guard (by rfl) ?_; dsimp only)); refine box_event ?hg (N := 7) ?hd (cs := #[.bool false, .slice none 0 0]) (t := 55) ?hr ?_; (case hd => rfl); (case hg => rfl); (case hr => exact qz23); intro b7 hb7_ w_b7 hbox hb_; have n0_ := Aside0.mk (below_then HB.out HB.out.size hb_); have Bb7 := Aside0.mk hbox; clear hbox; have G7 := Aside0.mk (by rw [hb7_]; exact HB.out.size : w.heap.size ≤ b7); have C5 := Aside0.mk ((hb_.block _ (blk_lt B5.out)).trans B5.out); have C3 := Aside0.mk ((hb_.block _ (blk_lt B3.out)).trans B3.out); have C4 := Aside0.mk ((hb_.block _ (blk_lt B4.out)).trans B4.out); have M5 := Aside0.mk (by have := NB5.out; omega : b5 ≠ b7); have M3 := Aside0.mk (by have := NB3.out; omega : b3 ≠ b7); have M4 := Aside0.mk (by have := NB4.out; omega : b4 ≠ b7); have HBr := Aside0.mk hb_; have Gr := Aside0.mk (by rw [hb7_]; exact Nat.le_refl _ : wr.heap.size ≤ b7); clear hb_; clear hb7_; (try clear HB); have HB := n0_; clear n0_) | ((with_reducible refine gate_store (t := 55) (p := 7) rfl ?_); refine wpList_store_rowTo rfl 55 (.tmp 7) (.tmp 19) rfl rfl b7 (#[.bool r.f0, .slice A1 r.f1.length c1]) rfl rfl 55 (#[.bool false, .slice none 0 0]) Bb7.out info55n rfl (by simp [Value.oneCell']) ?_; refine named_world _ ?_; intro w7 hw_; have E7 : Aside0 (w7.heap[b7]? = some (.cells #[.bool r.f0, .slice A1 r.f1.length c1] 55 (0, 0))) := ⟨by rw [hw_]; exact setRow_heap _ _ _ _ _ _ Bb7.out⟩; have E5 : Aside0 (w7.heap[b5]? = some (.cells (bits cur) 76 (0, 0))) := ⟨by rw [hw_, setRow_other _ _ _ _ M5.out]; exact C5.out⟩; have E3 : Aside0 (w7.heap[b3]? = some (.cells (bits s) 76 (0, 0))) := ⟨by rw [hw_, setRow_other _ _ _ _ M3.out]; exact C3.out⟩; have E4 : Aside0 (w7.heap[b4]? = some (.cells (bits (gset [])) 76 (0, 0))) := ⟨by rw [hw_, setRow_other _ _ _ _ M4.out]; exact C4.out⟩; have HB1 : Aside0 (Below w.heap.size w w7) := ⟨by rw [hw_]; exact below_setRow HB.out G7.out _⟩; have HBr7 : Aside0 (Below wr.heap.size wr w7) := ⟨by rw [hw_]; exact below_setRow HBr.out Gr.out _⟩; clear C5 C3 C4 Bb7; have f0 : w7.cell? ⟨b7, 0, none⟩ = some (.bool r.f0) := (blk_cell E7.out 0).trans rfl; have f1 : w7.cell? ⟨b7, 1, none⟩ = some (.slice A1 r.f1.length c1) := (blk_cell E7.out 1).trans rfl; have g0 : w7.cell? ⟨b5, x.toNat, none⟩ = some (.bool (cur.getD x.toNat false)) := (blk_cell E5.out _).trans (bits_get _ _ HCL.out); have g1 : w7.frozen? ⟨b5, x.toNat, none⟩ = false := blk_frozen E5.out _; clear hw_))
          have HQ2 := Aside0.mk (fun nd => HQ.out (w7.drewN nd) HBr7.out.size (Kd.C_drewN (Kd.C_below HR1.out HBr7.out) nd) b7 E3.out E7.out)
          repeat (go_quiet (first | (go_at_call 43; refine (HQ2.out _).mono ?_; rintro e w' ⟨rfl, ⟨nd, rfl⟩⟩; (try exact qz11))); try go_wp2)
          go_roundg (gk - 1)
          case measure => obtain ⟨i, rfl, hi, _⟩ := HI.out; have := HP.out; omega
          case rel =>
            have hP := HP.out
            refine ⟨x + 1, cur, by rw [show wrap64 (x + 1) = x + 1 by unfold wrap64; omega], ⟨?_⟩, E5, E3, E4, ⟨pw_below_drewN HB1.out _⟩⟩
            obtain ⟨i, rfl, h1, h2, h3⟩ := HI.out
            refine ⟨i + 1, by omega, by omega, h2, ?_⟩
            rw [h3, HST.out i rfl, HW.out]; simp
      · have hlA : decide (0 < r.f1.length) = false := decide_eq_false (by omega)
        have hlB : decide (0 < (r.f1.length : Int)) = false := decide_eq_false hlen
        have HW : Aside0 (winB s r = false) := ⟨by simp only [winB, decide_eq_false hlen, Bool.false_and]⟩
        clear hlen
        go_wp2_with (first | ((with_reducible refine gate_dst (N := 7) rfl ?_); (try (refine gate_guard (by rfl) ?_; dsimp only)); refine box_event ?hg (N := 7) ?hd (cs := #[.bool false, .slice none 0 0]) (t := 55) ?hr ?_; (case hd => rfl); (case hg => rfl); (case hr => exact qz23); intro b7 hb7_ w_b7 hbox hb_; have n0_ := Aside0.mk (below_then HB.out HB.out.size hb_); have Bb7 := Aside0.mk hbox; clear hbox; have G7 := Aside0.mk (by rw [hb7_]; exact HB.out.size : w.heap.size ≤ b7); have C5 := Aside0.mk ((hb_.block _ (blk_lt B5.out)).trans B5.out); have C3 := Aside0.mk ((hb_.block _ (blk_lt B3.out)).trans B3.out); have C4 := Aside0.mk ((hb_.block _ (blk_lt B4.out)).trans B4.out); have M5 := Aside0.mk (by have := NB5.out; omega : b5 ≠ b7); have M3 := Aside0.mk (by have := NB3.out; omega : b3 ≠ b7); have M4 := Aside0.mk (by have := NB4.out; omega : b4 ≠ b7); have HBr := Aside0.mk hb_; have Gr := Aside0.mk (by rw [hb7_]; exact Nat.le_refl _ : wr.heap.size ≤ b7); clear hb_; clear hb7_; (try clear HB); have HB := n0_; clear n0_) | ((with_reducible refine gate_store (t := 55) (p := 7) rfl ?_); refine wpList_store_rowTo rfl 55 (.tmp 7) (.tmp 19) rfl rfl b7 (#[.bool r.f0, .slice A1 r.f1.length c1]) rfl rfl 55 (#[.bool false, .slice none 0 0]) Bb7.out info55n rfl (by simp [Value.oneCell']) ?_; refine named_world _ ?_; intro w7 hw_; have E7 : Aside0 (w7.heap[b7]? = some (.cells #[.bool r.f0, .slice A1 r.f1.length c1] 55 (0, 0))) := ⟨by rw [hw_]; exact setRow_heap _ _ _ _ _ _ Bb7.out⟩; have E5 : Aside0 (w7.heap[b5]? = some (.cells (bits cur) 76 (0, 0))) := ⟨by rw [hw_, setRow_other _ _ _ _ M5.out]; exact C5.out⟩; have E3 : Aside0 (w7.heap[b3]? = some (.cells (bits s) 76 (0, 0))) := ⟨by rw [hw_, setRow_other _ _ _ _ M3.out]; exact C3.out⟩; have E4 : Aside0 (w7.heap[b4]? = some (.cells (bits (gset [])) 76 (0, 0))) := ⟨by rw [hw_, setRow_other _ _ _ _ M4.out]; exact C4.out⟩; have HB1 : Aside0 (Below w.heap.size w w7) := ⟨by rw [hw_]; exact below_setRow HB.out G7.out _⟩; have HBr7 : Aside0 (Below wr.heap.size wr w7) := ⟨by rw [hw_]; exact below_setRow HBr.out Gr.out _⟩; clear C5 C3 C4 Bb7; have f0 : w7.cell? ⟨b7, 0, none⟩ = some (.bool r.f0) := (blk_cell E7.out 0).trans rfl; have f1 : w7.cell? ⟨b7, 1, none⟩ = some (.slice A1 r.f1.length c1) := (blk_cell E7.out 1).trans rfl; have g0 : w7.cell? ⟨b5, x.toNat, none⟩ = some (.bool (cur.getD x.toNat false)) := (blk_cell E5.out _).trans (bits_get _ _ HCL.out); have g1 : w7.frozen? ⟨b5, x.toNat, none⟩ = false := blk_frozen E5.out _; clear hw_))
        repeat (go_quiet (fail); try go_wp2)
        go_roundg (gk - 1)
        case measure => obtain ⟨i, rfl, hi, _⟩ := HI.out; have := HP.out; omega
        case rel =>
          have hP := HP.out
          refine ⟨x + 1, cur, by rw [show wrap64 (x + 1) = x + 1 by unfold wrap64; omega], ⟨?_⟩, E5, E3, E4, ⟨pw_below_drewN HB1.out _⟩⟩
          obtain ⟨i, rfl, h1, h2, h3⟩ := HI.out
          refine ⟨i + 1, by omega, by omega, h2, ?_⟩
          rw [h3, HST.out i rfl, HW.out]; simp
    · have hlt' := decide_eq_false hlt
      have hcur : Aside0 (befS ps gs s = cur ∧ cur.length = 16) := ⟨by
        obtain ⟨i, rfl, h1, h2, h3⟩ := HI.out
        rw [h3, List.drop_of_length_le (by omega)]
        exact ⟨rfl, h2⟩⟩
      have N45 : Aside0 (b5 ≠ b4) := ⟨Ne.symm N4.out⟩
      clear hlt
      go_wp2_with (first | ((with_reducible refine gate_dst (N := 37) rfl ?_); (try (refine gate_guard (by rfl) ?_; dsimp only)); refine wpList_load_row rfl 76 (.tmp 5) rfl b5 rfl 76 (bits cur) (0, 0) _ B5.out Try.underlying76 rfl (info76s _ hcur.out.2) ?_) | ((with_reducible refine gate_store (t := 76) (p := 4) rfl ?_); refine wpList_store_rowTo rfl 76 (.tmp 4) (.tmp 37) rfl rfl b4 (bits cur) rfl rfl 76 (bits (gset [])) B4.out (info76s _ hcur.out.2) (by rw [bits_size, bits_size, gset_length, hcur.out.2]) (bits_one _) ?_; refine named_world _ ?_; intro w8 hw_; have E4 : Aside0 (w8.heap[b4]? = some (.cells (bits cur) 76 (0, 0))) := ⟨by rw [hw_]; exact setRow_heap _ _ _ _ _ _ B4.out⟩; have HB1 : Aside0 (Below w.heap.size w w8) := ⟨by rw [hw_]; exact below_setRow HB.out G4.out _⟩; clear hw_))
      refine bodyPost_ret (results_cell_row rfl _ _ b4 76 (bits cur) (0, 0) _ rfl E4.out Try.underlying76 rfl (info76s _ hcur.out.2)) rfl ?_
      exact ⟨by rw [hcur.out.1], HB1.out⟩
end Go.Proofs.Ytjlehbncpjccmaa.Q
namespace Go.Proofs.Ytjlehbncpjccmaa.Q
open Go.RowKit Go.Proofs.YtjlehbncpjccmaaW.PrintWords Go.Proofs.YtjlehbncpjccmaaW.PrintLast Go.Proofs.YtjlehbncpjccmaaW.PrintMore
attribute [local go_sem] max2_int min2_int max_two min_two max_three min_three max_four min_four
set_option linter.unusedVariables false
set_option linter.unusedSimpArgs false

theorem mayB_facts {ps : List S55} {st : Int} {gs : List Int} {mv : Int} (h : mayB ps st gs mv = true) :
    ps.length ≤ 16 ∧ (0 ≤ st ∧ st < ps.length) ∧ (0 ≤ mv ∧ mv ≤ 8) ∧ (∀ x ∈ gs, 0 ≤ x ∧ x < ps.length) ∧ ascB gs = true ∧ ∀ x ∈ ps, x.f1.length ≤ 4 ∧ ∀ v ∈ x.f1, 0 ≤ v ∧ v < ps.length := by
  simp only [mayB, outB, badP, Bool.and_eq_true, Bool.not_eq_true', decide_eq_false_iff_not, Bool.or_eq_false_iff, List.any_eq_false, Bool.or_eq_true, decide_eq_true_eq, List.any_eq_true, not_or, not_exists, not_and] at h
  obtain ⟨⟨⟨⟨⟨⟨h1, h2⟩, h3⟩, h4⟩, h5⟩, h6⟩, h7⟩ := h
  refine ⟨by omega, by omega, by omega, fun x hx => by have := h5 x hx; omega, h6, fun x hx => ⟨by have := (h7 x hx).1; omega, fun v hv => by have := (h7 x hx).2 v hv; omega⟩⟩
def winSet (ps : List S55) (gs : List Int) : Nat → List Bool
  | 0 => gset gs
  | n + 1 => befS ps gs (winSet ps gs n)
theorem winSet_length (ps : List S55) (gs : List Int) : ∀ n, (winSet ps gs n).length = 16
  | 0 => gset_length _
  | n + 1 => befS_length _ _ _
def puzzle_Wins.f (l0_0 : List S55) (a0_1 : Int) (l0_2 : List Int) (a0_3 : Int) : Option (Bool × Int) := some (if mayB l0_0 a0_1 l0_2 a0_3 then ((winSet l0_0 l0_2 a0_3.toNat).getD a0_1.toNat false, 0) else (false, 2))
set_option maxHeartbeats 3200000 in
theorem puzzle_Wins.calls (A0_0 : Option Addr) (c0_0 : Nat) (l0_0 : List (S55)) (a0_1 : Int) (A0_2 : Option Addr) (c0_2 : Nat) (l0_2 : List Int) (a0_3 : Int) (r1 : Bool) (r2 : Int) (w : World) (hr0_0 : Kd.C k55 w A0_0 l0_0.length l0_0) (hc0_0 : l0_0.length ≤ c0_0) (hr0_2 : Kd.C (Kd.int .i64) w A0_2 l0_2.length l0_2) (hc0_2 : l0_2.length ≤ c0_2) (h : puzzle_Wins.f l0_0 a0_1 l0_2 a0_3 = some (r1, r2)) :
    Calls Try.prog 14 #[.agg #[.slice A0_0 l0_0.length c0_0, .int .i64 a0_1, .slice A0_2 l0_2.length c0_2, .int .i64 a0_3]] w fun e w' => e = .returned (.tuple #[.bool r1, .int .i64 r2]) ∧ Below w.heap.size w w' := by
  have HR0 := Aside0.mk hr0_0
  have HR2 := Aside0.mk hr0_2
  have HB := Aside0.mk (Below.refl w.heap.size w)
  have HO := Aside0.mk (fun (W : World) (hb : Below w.heap.size w W) => open.calls A0_0 c0_0 l0_0 a0_1 A0_2 c0_2 l0_2 a0_3 W (Kd.C_below hr0_0 hb) hc0_0 (Kd.C_below hr0_2 hb) hc0_2)
  clear hr0_0 hr0_2
  unfold openV at HO
  unfold puzzle_Wins.f at h
  cases hm : mayB l0_0 a0_1 l0_2 a0_3 with
  | false =>
    simp only [hm, Bool.false_eq_true, if_false] at HO h
    obtain ⟨rfl, rfl⟩ := Prod.mk.inj (Option.some.inj h)
    clear h hm
    go_enter Try.func14, Try.ntmps14
    go_wp2_with (first | ((with_reducible refine gate_dst (N := 1) rfl ?_); (try (refine gate_guard (by rfl) ?_; dsimp only)); refine box_event ?hg (N := 1) ?hd (cs := #[.slice A0_0 l0_0.length c0_0, .int .i64 a0_1, .slice A0_2 l0_2.length c0_2, .int .i64 a0_3]) (t := 25) ?hr ?_; (case hd => rfl); (case hg => rfl); (case hr => exact qz23); intro b1 hb1_ w_b1 hbox hb_; have n0_ := Aside0.mk (below_then HB.out HB.out.size hb_); have Bb1 := Aside0.mk hbox; clear hbox; have G1 := Aside0.mk (by rw [hb1_]; exact HB.out.size : w.heap.size ≤ b1); clear hb_; clear hb1_; (try clear HB); have HB := n0_; clear n0_) | ((with_reducible refine gate_dst (N := 8) rfl ?_); (try (refine gate_guard (by rfl) ?_; dsimp only)); refine wpList_load_row rfl 25 (.tmp 1) rfl b1 rfl 25 (#[.slice A0_0 l0_0.length c0_0, .int .i64 a0_1, .slice A0_2 l0_2.length c0_2, .int .i64 a0_3]) (0, 0) _ Bb1.out Try.underlying25 rfl info25n ?_) | ((with_reducible refine gate_callee (f := 32) rfl ?_); (try (refine gate_guard (by rfl) ?_; dsimp only)); refine goesL_ (some 9) rfl rfl Try.func32 (by kernel_rfl) rfl #[.agg #[.slice A0_0 l0_0.length c0_0, .int .i64 a0_1, .slice A0_2 l0_2.length c0_2, .int .i64 a0_3]] rfl qz20 ?_; refine (HO.out _ HB.out).mono ?_; rintro e_ w_ ⟨rfl, hb_⟩; have Cb1 := Aside0.mk ((hb_.block _ (blk_lt Bb1.out)).trans Bb1.out); have HB1 := Aside0.mk (below_then HB.out HB.out.size hb_); clear Bb1 HB hb_; have HB := HB1; clear HB1; refine ⟨_, rfl, ?_⟩) | ((with_reducible refine gate_dst (N := 4) rfl ?_); (try (refine gate_guard (by rfl) ?_; dsimp only)); refine box_event ?hg (N := 4) ?hd (cs := #[.slice none 0 0, .int .i64 0, .slice none 0 0, .int .i64 0, .int .i64 0]) (t := 69) ?hr ?_; (case hd => rfl); (case hg => rfl); (case hr => exact qz23); intro b4 hb4_ w_b4 hbox hb_; have n0_ := Aside0.mk (below_then HB.out HB.out.size hb_); have Bb4 := Aside0.mk hbox; clear hbox; have G4 := Aside0.mk (by rw [hb4_]; exact HB.out.size : w.heap.size ≤ b4); have Db1 := Aside0.mk ((hb_.block _ (blk_lt Cb1.out)).trans Cb1.out); have N14 := Aside0.mk (by have := blk_lt Cb1.out; omega : b1 ≠ b4); clear Cb1; clear hb_; clear hb4_; (try clear HB); have HB := n0_; clear n0_) | ((with_reducible refine gate_store (t := 69) (p := 4) rfl ?_); refine wpList_store_rowTo rfl 69 (.tmp 4) (.tmp 10) rfl rfl b4 (#[.slice none 0 0, .int .i64 0, .slice none 0 0, .int .i64 0, .int .i64 0]) rfl rfl 69 (#[.slice none 0 0, .int .i64 0, .slice none 0 0, .int .i64 0, .int .i64 0]) Bb4.out info69n rfl (by simp [Value.oneCell']) ?_; refine named_world _ ?_; intro w4 hw_; have B4 : Aside0 (w4.heap[b4]? = some (.cells #[.slice none 0 0, .int .i64 0, .slice none 0 0, .int .i64 0, .int .i64 0] 69 (0, 0))) := ⟨by rw [hw_]; exact setRow_heap _ _ _ _ _ _ Bb4.out⟩; have B1 : Aside0 (w4.heap[b1]? = some (.cells #[.slice A0_0 l0_0.length c0_0, .int .i64 a0_1, .slice A0_2 l0_2.length c0_2, .int .i64 a0_3] 25 (0, 0))) := ⟨by rw [hw_, setRow_other _ _ _ _ N14.out]; exact Db1.out⟩; have HB1 : Aside0 (Below w.heap.size w w4) := ⟨by rw [hw_]; exact below_setRow HB.out G4.out _⟩; clear Bb4 Db1 HB; have HB := HB1; clear HB1; have f0 : w4.cell? ⟨b4, 4, none⟩ = some (.int .i64 0) := (blk_cell B4.out 4).trans rfl; have f1 : w4.cell? ⟨b1, 3, none⟩ = some (.int .i64 a0_3) := (blk_cell B1.out 3).trans rfl; have f2 : w4.cell? ⟨b1, 1, none⟩ = some (.int .i64 a0_1) := (blk_cell B1.out 1).trans rfl; have f3 : w4.cell? ⟨b1, 0, none⟩ = some (.slice A0_0 l0_0.length c0_0) := (blk_cell B1.out 0).trans rfl; clear hw_))
    go_ret2
    exact ⟨rfl, HB.out⟩
  | true =>
    have hfacts := mayB_facts hm
    simp only [hm, if_true] at HO h
    obtain ⟨rfl, rfl⟩ := Prod.mk.inj (Option.some.inj h)
    have HF := Aside0.mk hfacts
    have HG := Aside0.mk (fun (x : Int) hx => (⟨(hfacts.2.2.2.1 x hx).1, by have := (hfacts.2.2.2.1 x hx).2; have := hfacts.1; omega⟩ : 0 ≤ x ∧ x < 16))
    have HT := Aside0.mk (fun (x : S55) hx (v : Int) hv => (⟨((hfacts.2.2.2.2.2 x hx).2 v hv).1, by have := ((hfacts.2.2.2.2.2 x hx).2 v hv).2; have := hfacts.1; omega⟩ : 0 ≤ v ∧ v < 16))
    clear h hm hfacts
    go_enter Try.func14, Try.ntmps14
    go_wp2_with (first | ((with_reducible refine gate_dst (N := 1) rfl ?_); (try (refine gate_guard (by rfl) ?_; dsimp only)); refine box_event ?hg (N := 1) ?hd (cs := #[.slice A0_0 l0_0.length c0_0, .int .i64 a0_1, .slice A0_2 l0_2.length c0_2, .int .i64 a0_3]) (t := 25) ?hr ?_; (case hd => rfl); (case hg => rfl); (case hr => exact qz23); intro b1 hb1_ w_b1 hbox hb_; have n0_ := Aside0.mk (below_then HB.out HB.out.size hb_); have Bb1 := Aside0.mk hbox; clear hbox; have G1 := Aside0.mk (by rw [hb1_]; exact HB.out.size : w.heap.size ≤ b1); clear hb_; clear hb1_; (try clear HB); have HB := n0_; clear n0_) | ((with_reducible refine gate_dst (N := 8) rfl ?_); (try (refine gate_guard (by rfl) ?_; dsimp only)); refine wpList_load_row rfl 25 (.tmp 1) rfl b1 rfl 25 (#[.slice A0_0 l0_0.length c0_0, .int .i64 a0_1, .slice A0_2 l0_2.length c0_2, .int .i64 a0_3]) (0, 0) _ Bb1.out Try.underlying25 rfl info25n ?_) | ((with_reducible refine gate_callee (f := 32) rfl ?_); (try (refine gate_guard (by rfl) ?_; dsimp only)); refine goesL_ (some 9) rfl rfl Try.func32 (by kernel_rfl) rfl #[.agg #[.slice A0_0 l0_0.length c0_0, .int .i64 a0_1, .slice A0_2 l0_2.length c0_2, .int .i64 a0_3]] rfl qz20 ?_; refine (HO.out _ HB.out).mono ?_; rintro e_ w_ ⟨rfl, hb_⟩; have Cb1 := Aside0.mk ((hb_.block _ (blk_lt Bb1.out)).trans Bb1.out); have HB1 := Aside0.mk (below_then HB.out HB.out.size hb_); clear Bb1 HB hb_; have HB := HB1; clear HB1; refine ⟨_, rfl, ?_⟩) | ((with_reducible refine gate_dst (N := 4) rfl ?_); (try (refine gate_guard (by rfl) ?_; dsimp only)); refine box_event ?hg (N := 4) ?hd (cs := #[.slice none 0 0, .int .i64 0, .slice none 0 0, .int .i64 0, .int .i64 0]) (t := 69) ?hr ?_; (case hd => rfl); (case hg => rfl); (case hr => exact qz23); intro b4 hb4_ w_b4 hbox hb_; have n0_ := Aside0.mk (below_then HB.out HB.out.size hb_); have Bb4 := Aside0.mk hbox; clear hbox; have G4 := Aside0.mk (by rw [hb4_]; exact HB.out.size : w.heap.size ≤ b4); have Db1 := Aside0.mk ((hb_.block _ (blk_lt Cb1.out)).trans Cb1.out); have N14 := Aside0.mk (by have := blk_lt Cb1.out; omega : b1 ≠ b4); clear Cb1; clear hb_; clear hb4_; (try clear HB); have HB := n0_; clear n0_) | ((with_reducible refine gate_store (t := 69) (p := 4) rfl ?_); refine wpList_store_rowTo rfl 69 (.tmp 4) (.tmp 10) rfl rfl b4 (#[.slice A0_0 l0_0.length c0_0, .int .i64 a0_1, .slice A0_2 l0_2.length c0_2, .int .i64 a0_3, .int .i64 (widthP l0_0)]) rfl rfl 69 (#[.slice none 0 0, .int .i64 0, .slice none 0 0, .int .i64 0, .int .i64 0]) Bb4.out info69n rfl (by simp [Value.oneCell']) ?_; refine named_world _ ?_; intro w4 hw_; have B4 : Aside0 (w4.heap[b4]? = some (.cells #[.slice A0_0 l0_0.length c0_0, .int .i64 a0_1, .slice A0_2 l0_2.length c0_2, .int .i64 a0_3, .int .i64 (widthP l0_0)] 69 (0, 0))) := ⟨by rw [hw_]; exact setRow_heap _ _ _ _ _ _ Bb4.out⟩; have B1 : Aside0 (w4.heap[b1]? = some (.cells #[.slice A0_0 l0_0.length c0_0, .int .i64 a0_1, .slice A0_2 l0_2.length c0_2, .int .i64 a0_3] 25 (0, 0))) := ⟨by rw [hw_, setRow_other _ _ _ _ N14.out]; exact Db1.out⟩; have HB1 : Aside0 (Below w.heap.size w w4) := ⟨by rw [hw_]; exact below_setRow HB.out G4.out _⟩; clear Bb4 Db1 HB; have HB := HB1; clear HB1; have f0 : w4.cell? ⟨b4, 4, none⟩ = some (.int .i64 (widthP l0_0)) := (blk_cell B4.out 4).trans rfl; have f1 : w4.cell? ⟨b1, 3, none⟩ = some (.int .i64 a0_3) := (blk_cell B1.out 3).trans rfl; have f2 : w4.cell? ⟨b1, 1, none⟩ = some (.int .i64 a0_1) := (blk_cell B1.out 1).trans rfl; have f3 : w4.cell? ⟨b1, 0, none⟩ = some (.slice A0_0 l0_0.length c0_0) := (blk_cell B1.out 0).trans rfl; clear hw_) | ((with_reducible refine gate_dst (N := 15) rfl ?_); (try (refine gate_guard (by rfl) ?_; dsimp only)); refine wpList_load_row rfl 69 (.tmp 4) rfl b4 rfl 69 (#[.slice A0_0 l0_0.length c0_0, .int .i64 a0_1, .slice A0_2 l0_2.length c0_2, .int .i64 a0_3, .int .i64 (widthP l0_0)]) (0, 0) _ B4.out Try.underlying69 rfl info69n ?_) | ((with_reducible refine gate_callee (f := 36) rfl ?_); (try (refine gate_guard (by rfl) ?_; dsimp only)); refine goesL_ (some 16) rfl rfl Try.func36 (by kernel_rfl) rfl #[.agg #[.slice A0_0 l0_0.length c0_0, .int .i64 a0_1, .slice A0_2 l0_2.length c0_2, .int .i64 a0_3, .int .i64 (widthP l0_0)]] rfl qz20 ?_; refine (goals.calls A0_0 c0_0 l0_0.length a0_1 A0_2 c0_2 l0_2 a0_3 (widthP l0_0) _ (Kd.C_below HR2.out HB.out) hc0_2 HG.out).mono ?_; rintro e_ w_ ⟨rfl, hb_⟩; have C1 := Aside0.mk ((hb_.block _ (blk_lt B1.out)).trans B1.out); have C4 := Aside0.mk ((hb_.block _ (blk_lt B4.out)).trans B4.out); have HB1 := Aside0.mk (below_then HB.out HB.out.size hb_); clear B1 B4 HB hb_ f0 f1 f2 f3; have HB := HB1; clear HB1; refine ⟨_, rfl, ?_⟩) | ((with_reducible refine gate_dst (N := 6) rfl ?_); (try (refine gate_guard (by rfl) ?_; dsimp only)); refine box_event ?hg (N := 6) ?hd (cs := bits (gset [])) (t := 76) ?hr ?_; (case hd => rfl); (case hg => rfl); (case hr => exact qz23); intro b6 hb6_ w_b6 hbox hb_; have n0_ := Aside0.mk (below_then HB.out HB.out.size hb_); have Bb6 := Aside0.mk hbox; clear hbox; have G6 := Aside0.mk (by rw [hb6_]; exact HB.out.size : w.heap.size ≤ b6); have D1 := Aside0.mk ((hb_.block _ (blk_lt C1.out)).trans C1.out); have D4 := Aside0.mk ((hb_.block _ (blk_lt C4.out)).trans C4.out); have N1 := Aside0.mk (by have := blk_lt C1.out; omega : b1 ≠ b6); have N4 := Aside0.mk (by have := blk_lt C4.out; omega : b4 ≠ b6); clear C1 C4; clear hb_; clear hb6_; (try clear HB); have HB := n0_; clear n0_) | ((with_reducible refine gate_store (t := 76) (p := 6) rfl ?_); refine wpList_store_rowTo rfl 76 (.tmp 6) (.tmp 16) rfl rfl b6 (bits (gset l0_2)) rfl rfl 76 (bits (gset [])) Bb6.out (info76s _ (gset_length _)) (by rw [bits_size, bits_size, gset_length, gset_length]) (bits_one _) ?_; refine named_world _ ?_; intro w6 hw_; have E6 : Aside0 (w6.heap[b6]? = some (.cells (bits (gset l0_2)) 76 (0, 0))) := ⟨by rw [hw_]; exact setRow_heap _ _ _ _ _ _ Bb6.out⟩; have E1 : Aside0 (w6.heap[b1]? = some (.cells #[.slice A0_0 l0_0.length c0_0, .int .i64 a0_1, .slice A0_2 l0_2.length c0_2, .int .i64 a0_3] 25 (0, 0))) := ⟨by rw [hw_, setRow_other _ _ _ _ N1.out]; exact D1.out⟩; have E4 : Aside0 (w6.heap[b4]? = some (.cells #[.slice A0_0 l0_0.length c0_0, .int .i64 a0_1, .slice A0_2 l0_2.length c0_2, .int .i64 a0_3, .int .i64 (widthP l0_0)] 69 (0, 0))) := ⟨by rw [hw_, setRow_other _ _ _ _ N4.out]; exact D4.out⟩; have HB1 : Aside0 (Below w.heap.size w w6) := ⟨by rw [hw_]; exact below_setRow HB.out G6.out _⟩; clear HB; have HB := HB1; clear HB1 Bb6 D1 D4; have f1 : w6.cell? ⟨b1, 3, none⟩ = some (.int .i64 a0_3) := (blk_cell E1.out 3).trans rfl; clear hw_))
    clear f1
    go_loopg [19] a0_3.toNat (fun kq v19 wr => ∃ (x : Int) (s : List Bool), v19 = .int .i64 x ∧ Aside0 (∃ i : Nat, x = i ∧ kq + i = a0_3.toNat ∧ s = winSet l0_0 l0_2 i) ∧ Aside0 (wr.heap[b6]? = some (.cells (bits s) 76 (0, 0))) ∧ Aside0 (wr.heap[b1]? = some (.cells #[.slice A0_0 l0_0.length c0_0, .int .i64 a0_1, .slice A0_2 l0_2.length c0_2, .int .i64 a0_3] 25 (0, 0))) ∧ Aside0 (wr.heap[b4]? = some (.cells #[.slice A0_0 l0_0.length c0_0, .int .i64 a0_1, .slice A0_2 l0_2.length c0_2, .int .i64 a0_3, .int .i64 (widthP l0_0)] 69 (0, 0))) ∧ Aside0 (Below w.heap.size w wr))
    case atStart => exact ⟨0, gset l0_2, rfl, ⟨0, rfl, by omega, rfl⟩, E6, E1, E4, HB⟩
    case round =>
      clear HB E6 E1 E4
      obtain ⟨x, s, rfl, HI, B6, B1, B4, HB⟩ := hrel
      have HSL : Aside0 (s.length = 16) := ⟨by obtain ⟨i, _, _, rfl⟩ := HI.out; exact winSet_length _ _ _⟩
      by_cases hlt : x < a0_3
      · have hlt' := decide_eq_true hlt
        have HP := Aside0.mk hlt
        have NB1 := Aside0.mk (blk_lt B1.out)
        have NB4 := Aside0.mk (blk_lt B4.out)
        have NB6 := Aside0.mk (blk_lt B6.out)
        clear hlt
        go_wp2_with (first | ((with_reducible refine gate_dst (N := 21) rfl ?_); (try (refine gate_guard (by rfl) ?_; dsimp only)); refine wpList_load_row rfl 69 (.tmp 4) rfl b4 rfl 69 (#[.slice A0_0 l0_0.length c0_0, .int .i64 a0_1, .slice A0_2 l0_2.length c0_2, .int .i64 a0_3, .int .i64 (widthP l0_0)]) (0, 0) _ B4.out Try.underlying69 rfl info69n ?_) | ((with_reducible refine gate_dst (N := 22) rfl ?_); (try (refine gate_guard (by rfl) ?_; dsimp only)); refine wpList_load_row rfl 76 (.tmp 6) rfl b6 rfl 76 (bits s) (0, 0) _ B6.out Try.underlying76 rfl (info76s _ HSL.out) ?_) | ((with_reducible refine gate_callee (f := 37) rfl ?_); (try (refine gate_guard (by rfl) ?_; dsimp only)); refine goesL_ (some 23) rfl rfl Try.func37 (by kernel_rfl) rfl #[.agg #[.slice A0_0 l0_0.length c0_0, .int .i64 a0_1, .slice A0_2 l0_2.length c0_2, .int .i64 a0_3, .int .i64 (widthP l0_0)], .agg (bits s)] rfl qz20 ?_; refine (before.calls A0_0 c0_0 l0_0 a0_1 A0_2 c0_2 l0_2 a0_3 (widthP l0_0) s _ (Kd.C_below HR0.out HB.out) hc0_0 (Kd.C_below HR2.out HB.out) hc0_2 HG.out HSL.out HF.out.1 HT.out).mono ?_; rintro e_ w_ ⟨rfl, hb_⟩; have D1 := Aside0.mk ((hb_.block _ (blk_lt B1.out)).trans B1.out); have D4 := Aside0.mk ((hb_.block _ (blk_lt B4.out)).trans B4.out); have D6 := Aside0.mk ((hb_.block _ (blk_lt B6.out)).trans B6.out); have HB0 := Aside0.mk (below_then HB.out HB.out.size hb_); clear hb_; refine ⟨_, rfl, ?_⟩) | ((with_reducible refine gate_store (t := 76) (p := 6) rfl ?_); refine wpList_store_rowTo rfl 76 (.tmp 6) (.tmp 23) rfl rfl b6 (bits (befS l0_0 l0_2 s)) rfl rfl 76 (bits s) D6.out (info76s _ (befS_length _ _ _)) (by rw [bits_size, bits_size, befS_length, HSL.out]) (bits_one _) ?_; refine named_world _ ?_; intro w7 hw_; have E6 : Aside0 (w7.heap[b6]? = some (.cells (bits (befS l0_0 l0_2 s)) 76 (0, 0))) := ⟨by rw [hw_]; exact setRow_heap _ _ _ _ _ _ D6.out⟩; have E1 : Aside0 (w7.heap[b1]? = some (.cells #[.slice A0_0 l0_0.length c0_0, .int .i64 a0_1, .slice A0_2 l0_2.length c0_2, .int .i64 a0_3] 25 (0, 0))) := ⟨by rw [hw_, setRow_other _ _ _ _ N1.out]; exact D1.out⟩; have E4 : Aside0 (w7.heap[b4]? = some (.cells #[.slice A0_0 l0_0.length c0_0, .int .i64 a0_1, .slice A0_2 l0_2.length c0_2, .int .i64 a0_3, .int .i64 (widthP l0_0)] 69 (0, 0))) := ⟨by rw [hw_, setRow_other _ _ _ _ N4.out]; exact D4.out⟩; have HB1 : Aside0 (Below w.heap.size w w7) := ⟨by rw [hw_]; exact below_setRow HB0.out G6.out _⟩; skip; clear hw_))
        go_roundg (gk - 1)
        case measure => obtain ⟨i, rfl, h1, h2⟩ := HI.out; have := HP.out; omega
        case rel =>
          have hP := HP.out
          have h8 := HF.out.2.2.1.2
          refine ⟨x + 1, befS l0_0 l0_2 s, by rw [show wrap64 (x + 1) = x + 1 by obtain ⟨i, rfl, _⟩ := HI.out; unfold wrap64; omega], ⟨?_⟩, E6, E1, E4, HB1⟩
          obtain ⟨i, rfl, h1, h2⟩ := HI.out
          exact ⟨i + 1, by omega, by omega, by rw [h2]; rfl⟩
      · have hlt' := decide_eq_false hlt
        have hs : Aside0 (s = winSet l0_0 l0_2 a0_3.toNat) := ⟨by
          obtain ⟨i, rfl, h1, h2⟩ := HI.out
          rw [h2, show i = a0_3.toNat by omega]⟩
        have h0 := HF.out.2.1.1
        have h16 : a0_1 < 16 := by have := HF.out.2.1.2; have := HF.out.1; omega
        have f0 : wr.cell? ⟨b1, 1, none⟩ = some (.int .i64 a0_1) := (blk_cell B1.out 1).trans rfl
        have f1 : wr.cell? ⟨b6, a0_1.toNat, none⟩ = some (.bool (s.getD a0_1.toNat false)) := (blk_cell B6.out _).trans (bits_get _ _ (by have := HSL.out; omega))
        have p1 := eq_true h0
        have p2 := eq_true h16
        clear hlt h0 h16
        go_wp2
        go_ret2
        exact ⟨by rw [hs.out]; rfl, HB.out⟩
end Go.Proofs.Ytjlehbncpjccmaa.Q
namespace Go.Proofs.Ytjlehbncpjccmaa.Q
open Go.RowKit Go.Proofs.YtjlehbncpjccmaaW.PrintWords Go.Proofs.YtjlehbncpjccmaaW.PrintLast Go.Proofs.YtjlehbncpjccmaaW.PrintMore
attribute [local go_sem] max2_int min2_int max_two min_two max_three min_three max_four min_four
set_option linter.unusedVariables false
set_option linter.unusedSimpArgs false

def entG (ps : List S55) (G s : List Bool) (j : Nat) : Int := if (ps.getD j z55).f0 && !(G.getD j false) then idxF (fun v => s.getD v.toNat false) (ps.getD j z55).f1 0 else -1
def rowG (ps : List S55) (G s : List Bool) : List Int := (List.range ps.length).map (entG ps G s)
def guideF (ps : List S55) (gs : List Int) (n : Nat) : List (List Int) := (List.range n).map fun i => rowG ps (gset gs) (winSet ps gs i)
def puzzle_Guide.f (l0_0 : List S55) (a0_1 : Int) (l0_2 : List Int) (a0_3 : Int) : Option (List (List Int) × Int) := some (if mayB l0_0 a0_1 l0_2 a0_3 then (guideF l0_0 l0_2 a0_3.toNat, 0) else ([], 2))
theorem row_step {cur : List Int} {n j : Nat} {e : Nat → Int} {v : Int} (hl : cur.length = n) (hj : j < n) (h : ∀ m, m < j → cur.getD m 0 = e m) (hv : v = e j) : (cur.set j v).length = n ∧ ∀ m, m < j + 1 → (cur.set j v).getD m 0 = e m := by
  refine ⟨by simp [hl], fun m hm => ?_⟩
  rw [List.getD_eq_getElem?_getD, List.getElem?_set]
  by_cases hmj : j = m
  · subst hmj; simp [hv, hl, hj]
  · rw [if_neg hmj, ← List.getD_eq_getElem?_getD]
    exact h m (by omega)
theorem row_done {cur : List Int} {n : Nat} {e : Nat → Int} (hl : cur.length = n) (h : ∀ m, m < n → cur.getD m 0 = e m) : cur = (List.range n).map e := by
  apply List.ext_getElem
  · simp [hl]
  · intro i hi hi'
    have := h i (by omega)
    rw [List.getD_eq_getElem?_getD, List.getElem?_eq_getElem hi] at this
    simpa using this
structure GF (w W : World) (b1 b4 b6 b7 : Nat) (puz brd : Array Value) (G s : List Bool) : Prop where
  h1 : W.heap[b1]? = some (.cells puz 25 (0, 0))
  h4 : W.heap[b4]? = some (.cells brd 69 (0, 0))
  h6 : W.heap[b6]? = some (.cells (bits G) 76 (0, 0))
  h7 : W.heap[b7]? = some (.cells (bits s) 76 (0, 0))
  bl : Below w.heap.size w W
section
variable {w W W' : World} {b1 b4 b6 b7 : Nat} {puz brd : Array Value} {G s : List Bool}
theorem GF.step (h : GF w W b1 b4 b6 b7 puz brd G s) (hb : Below W.heap.size W W') : GF w W' b1 b4 b6 b7 puz brd G s :=
  ⟨blk_below h.h1 hb, blk_below h.h4 hb, blk_below h.h6 hb, blk_below h.h7 hb, below_step h.bl hb⟩
theorem GF.grown (h : GF w W b1 b4 b6 b7 puz brd G s) {v : Value} {xs : List Int} {ok : Nat → Prop} (hr : (Kd.int .i64).R 3 W w.heap.size ok v xs) (hg : W.grownBy W' v.ownBlock) : GF w W' b1 b4 b6 b7 puz brd G s :=
  ⟨blk_grown h.h1 hg (Kd.R_ne hr h.h1 (by decide)), blk_grown h.h4 hg (Kd.R_ne hr h.h4 (by decide)), blk_grown h.h6 hg (Kd.R_ne hr h.h6 (by decide)), blk_grown h.h7 hg (Kd.R_ne hr h.h7 (by decide)),
    pw_below_grown h.bl _ h.bl.size hg (Kd.R_base hr)⟩
theorem GF.grownS (h : GF w W b1 b4 b6 b7 puz brd G s) {v : Value} {xs : List (List Int)} {ok : Nat → Prop} (hr : Kd.S (Kd.slice 3 (Kd.int .i64)) 23 W w.heap.size ok v xs) (hg : W.grownBy W' v.ownBlock) : GF w W' b1 b4 b6 b7 puz brd G s :=
  ⟨blk_grown h.h1 hg (Kd.S_ne hr h.h1 (by decide)), blk_grown h.h4 hg (Kd.S_ne hr h.h4 (by decide)), blk_grown h.h6 hg (Kd.S_ne hr h.h6 (by decide)), blk_grown h.h7 hg (Kd.S_ne hr h.h7 (by decide)),
    pw_below_grown h.bl _ h.bl.size hg (Kd.S_base hr)⟩
end
set_option maxHeartbeats 6400000 in
set_option maxRecDepth 100000 in
theorem puzzle_Guide.calls (A0_0 : Option Addr) (c0_0 : Nat) (l0_0 : List (S55)) (a0_1 : Int) (A0_2 : Option Addr) (c0_2 : Nat) (l0_2 : List Int) (a0_3 : Int) (r1 : List (List Int)) (r2 : Int) (w : World) (hr0_0 : Kd.C k55 w A0_0 l0_0.length l0_0) (hc0_0 : l0_0.length ≤ c0_0) (hr0_2 : Kd.C (Kd.int .i64) w A0_2 l0_2.length l0_2) (hc0_2 : l0_2.length ≤ c0_2) (h : puzzle_Guide.f l0_0 a0_1 l0_2 a0_3 = some (r1, r2)) :
    Calls Try.prog 16 #[.agg #[.slice A0_0 l0_0.length c0_0, .int .i64 a0_1, .slice A0_2 l0_2.length c0_2, .int .i64 a0_3]] w fun e w' => ∃ v0_ : Value, e = .returned (.tuple #[v0_, .int .i64 r2]) ∧ Kd.S (Kd.slice 3 (Kd.int .i64)) 23 w' w.heap.size (fun _ => True) v0_ r1 ∧ Below w.heap.size w w' := by
  have HR0 := Aside0.mk hr0_0
  have HR2 := Aside0.mk hr0_2
  have HB := Aside0.mk (Below.refl w.heap.size w)
  have HO := Aside0.mk (fun (W : World) (hb : Below w.heap.size w W) => open.calls A0_0 c0_0 l0_0 a0_1 A0_2 c0_2 l0_2 a0_3 W (Kd.C_below hr0_0 hb) hc0_0 (Kd.C_below hr0_2 hb) hc0_2)
  clear hr0_0 hr0_2
  unfold openV at HO
  unfold puzzle_Guide.f at h
  cases hm : mayB l0_0 a0_1 l0_2 a0_3 with
  | false =>
    simp only [hm, Bool.false_eq_true, if_false] at HO h
    obtain ⟨rfl, rfl⟩ := Prod.mk.inj (Option.some.inj h)
    clear h hm
    go_enter Try.func16, Try.ntmps16
    go_wp2_with (first | ((with_reducible refine gate_dst (N := 1) rfl ?_); (try (refine gate_guard (by rfl) ?_; dsimp only)); refine box_event ?hg (N := 1) ?hd (cs := #[.slice A0_0 l0_0.length c0_0, .int .i64 a0_1, .slice A0_2 l0_2.length c0_2, .int .i64 a0_3]) (t := 25) ?hr ?_; (case hd => rfl); (case hg => rfl); (case hr => exact qz23); intro b1 hb1_ w_b1 hbox hb_; have n0_ := Aside0.mk (below_then HB.out HB.out.size hb_); have Bb1 := Aside0.mk hbox; clear hbox; have G1 := Aside0.mk (by rw [hb1_]; exact HB.out.size : w.heap.size ≤ b1); clear hb_; clear hb1_; (try clear HB); have HB := n0_; clear n0_) | ((with_reducible refine gate_dst (N := 13) rfl ?_); (try (refine gate_guard (by rfl) ?_; dsimp only)); refine wpList_load_row rfl 25 (.tmp 1) rfl b1 rfl 25 (#[.slice A0_0 l0_0.length c0_0, .int .i64 a0_1, .slice A0_2 l0_2.length c0_2, .int .i64 a0_3]) (0, 0) _ Bb1.out Try.underlying25 rfl info25n ?_) | ((with_reducible refine gate_callee (f := 32) rfl ?_); (try (refine gate_guard (by rfl) ?_; dsimp only)); refine goesL_ (some 14) rfl rfl Try.func32 (by kernel_rfl) rfl #[.agg #[.slice A0_0 l0_0.length c0_0, .int .i64 a0_1, .slice A0_2 l0_2.length c0_2, .int .i64 a0_3]] rfl qz20 ?_; refine (HO.out _ HB.out).mono ?_; rintro e_ w_ ⟨rfl, hb_⟩; have Cb1 := Aside0.mk ((hb_.block _ (blk_lt Bb1.out)).trans Bb1.out); have HB1 := Aside0.mk (below_then HB.out HB.out.size hb_); clear Bb1 HB hb_; have HB := HB1; clear HB1; refine ⟨_, rfl, ?_⟩) | ((with_reducible refine gate_dst (N := 4) rfl ?_); (try (refine gate_guard (by rfl) ?_; dsimp only)); refine box_event ?hg (N := 4) ?hd (cs := #[.slice none 0 0, .int .i64 0, .slice none 0 0, .int .i64 0, .int .i64 0]) (t := 69) ?hr ?_; (case hd => rfl); (case hg => rfl); (case hr => exact qz23); intro b4 hb4_ w_b4 hbox hb_; have n0_ := Aside0.mk (below_then HB.out HB.out.size hb_); have Bb4 := Aside0.mk hbox; clear hbox; have G4 := Aside0.mk (by rw [hb4_]; exact HB.out.size : w.heap.size ≤ b4); have Db1 := Aside0.mk ((hb_.block _ (blk_lt Cb1.out)).trans Cb1.out); have N14 := Aside0.mk (by have := blk_lt Cb1.out; omega : b1 ≠ b4); clear Cb1; clear hb_; clear hb4_; (try clear HB); have HB := n0_; clear n0_) | ((with_reducible refine gate_store (t := 69) (p := 4) rfl ?_); refine wpList_store_rowTo rfl 69 (.tmp 4) (.tmp 15) rfl rfl b4 (#[.slice none 0 0, .int .i64 0, .slice none 0 0, .int .i64 0, .int .i64 0]) rfl rfl 69 (#[.slice none 0 0, .int .i64 0, .slice none 0 0, .int .i64 0, .int .i64 0]) Bb4.out info69n rfl (by simp [Value.oneCell']) ?_; refine named_world _ ?_; intro w4 hw_; have B4 : Aside0 (w4.heap[b4]? = some (.cells #[.slice none 0 0, .int .i64 0, .slice none 0 0, .int .i64 0, .int .i64 0] 69 (0, 0))) := ⟨by rw [hw_]; exact setRow_heap _ _ _ _ _ _ Bb4.out⟩; have B1 : Aside0 (w4.heap[b1]? = some (.cells #[.slice A0_0 l0_0.length c0_0, .int .i64 a0_1, .slice A0_2 l0_2.length c0_2, .int .i64 a0_3] 25 (0, 0))) := ⟨by rw [hw_, setRow_other _ _ _ _ N14.out]; exact Db1.out⟩; have HB1 : Aside0 (Below w.heap.size w w4) := ⟨by rw [hw_]; exact below_setRow HB.out G4.out _⟩; clear Bb4 Db1 HB; have HB := HB1; clear HB1; have f0 : w4.cell? ⟨b4, 4, none⟩ = some (.int .i64 0) := (blk_cell B4.out 4).trans rfl; have f1 : w4.cell? ⟨b1, 3, none⟩ = some (.int .i64 a0_3) := (blk_cell B1.out 3).trans rfl; have f2 : w4.cell? ⟨b1, 1, none⟩ = some (.int .i64 a0_1) := (blk_cell B1.out 1).trans rfl; have f3 : w4.cell? ⟨b1, 0, none⟩ = some (.slice A0_0 l0_0.length c0_0) := (blk_cell B1.out 0).trans rfl; clear hw_))
    go_ret2
    exact ⟨_, rfl, Kd.S_nil _ _ _ _ _, HB.out⟩
  | true =>
    have hfacts := mayB_facts hm
    simp only [hm, if_true] at HO h
    obtain ⟨rfl, rfl⟩ := Prod.mk.inj (Option.some.inj h)
    have HF := Aside0.mk hfacts
    have HG := Aside0.mk (fun (x : Int) hx => (⟨(hfacts.2.2.2.1 x hx).1, by have := (hfacts.2.2.2.1 x hx).2; have := hfacts.1; omega⟩ : 0 ≤ x ∧ x < 16))
    have HT := Aside0.mk (fun (x : S55) hx (v : Int) hv => (⟨((hfacts.2.2.2.2.2 x hx).2 v hv).1, by have := ((hfacts.2.2.2.2.2 x hx).2 v hv).2; have := hfacts.1; omega⟩ : 0 ≤ v ∧ v < 16))
    clear h hm hfacts
    go_enter Try.func16, Try.ntmps16
    go_wp2_with (first | ((with_reducible refine gate_dst (N := 1) rfl ?_); (try (refine gate_guard (by rfl) ?_; dsimp only)); refine box_event ?hg (N := 1) ?hd (cs := #[.slice A0_0 l0_0.length c0_0, .int .i64 a0_1, .slice A0_2 l0_2.length c0_2, .int .i64 a0_3]) (t := 25) ?hr ?_; (case hd => rfl); (case hg => rfl); (case hr => exact qz23); intro b1 hb1_ w_b1 hbox hb_; have n0_ := Aside0.mk (below_then HB.out HB.out.size hb_); have Bb1 := Aside0.mk hbox; clear hbox; have G1 := Aside0.mk (by rw [hb1_]; exact HB.out.size : w.heap.size ≤ b1); clear hb_; clear hb1_; (try clear HB); have HB := n0_; clear n0_) | ((with_reducible refine gate_dst (N := 13) rfl ?_); (try (refine gate_guard (by rfl) ?_; dsimp only)); refine wpList_load_row rfl 25 (.tmp 1) rfl b1 rfl 25 (#[.slice A0_0 l0_0.length c0_0, .int .i64 a0_1, .slice A0_2 l0_2.length c0_2, .int .i64 a0_3]) (0, 0) _ Bb1.out Try.underlying25 rfl info25n ?_) | ((with_reducible refine gate_callee (f := 32) rfl ?_); (try (refine gate_guard (by rfl) ?_; dsimp only)); refine goesL_ (some 14) rfl rfl Try.func32 (by kernel_rfl) rfl #[.agg #[.slice A0_0 l0_0.length c0_0, .int .i64 a0_1, .slice A0_2 l0_2.length c0_2, .int .i64 a0_3]] rfl qz20 ?_; refine (HO.out _ HB.out).mono ?_; rintro e_ w_ ⟨rfl, hb_⟩; have Cb1 := Aside0.mk ((hb_.block _ (blk_lt Bb1.out)).trans Bb1.out); have HB1 := Aside0.mk (below_then HB.out HB.out.size hb_); clear Bb1 HB hb_; have HB := HB1; clear HB1; refine ⟨_, rfl, ?_⟩) | ((with_reducible refine gate_dst (N := 4) rfl ?_); (try (refine gate_guard (by rfl) ?_; dsimp only)); refine box_event ?hg (N := 4) ?hd (cs := #[.slice none 0 0, .int .i64 0, .slice none 0 0, .int .i64 0, .int .i64 0]) (t := 69) ?hr ?_; (case hd => rfl); (case hg => rfl); (case hr => exact qz23); intro b4 hb4_ w_b4 hbox hb_; have n0_ := Aside0.mk (below_then HB.out HB.out.size hb_); have Bb4 := Aside0.mk hbox; clear hbox; have G4 := Aside0.mk (by rw [hb4_]; exact HB.out.size : w.heap.size ≤ b4); have Db1 := Aside0.mk ((hb_.block _ (blk_lt Cb1.out)).trans Cb1.out); have N14 := Aside0.mk (by have := blk_lt Cb1.out; omega : b1 ≠ b4); clear Cb1; clear hb_; clear hb4_; (try clear HB); have HB := n0_; clear n0_) | ((with_reducible refine gate_store (t := 69) (p := 4) rfl ?_); refine wpList_store_rowTo rfl 69 (.tmp 4) (.tmp 15) rfl rfl b4 (#[.slice A0_0 l0_0.length c0_0, .int .i64 a0_1, .slice A0_2 l0_2.length c0_2, .int .i64 a0_3, .int .i64 (widthP l0_0)]) rfl rfl 69 (#[.slice none 0 0, .int .i64 0, .slice none 0 0, .int .i64 0, .int .i64 0]) Bb4.out info69n rfl (by simp [Value.oneCell']) ?_; refine named_world _ ?_; intro w4 hw_; have B4 : Aside0 (w4.heap[b4]? = some (.cells #[.slice A0_0 l0_0.length c0_0, .int .i64 a0_1, .slice A0_2 l0_2.length c0_2, .int .i64 a0_3, .int .i64 (widthP l0_0)] 69 (0, 0))) := ⟨by rw [hw_]; exact setRow_heap _ _ _ _ _ _ Bb4.out⟩; have B1 : Aside0 (w4.heap[b1]? = some (.cells #[.slice A0_0 l0_0.length c0_0, .int .i64 a0_1, .slice A0_2 l0_2.length c0_2, .int .i64 a0_3] 25 (0, 0))) := ⟨by rw [hw_, setRow_other _ _ _ _ N14.out]; exact Db1.out⟩; have HB1 : Aside0 (Below w.heap.size w w4) := ⟨by rw [hw_]; exact below_setRow HB.out G4.out _⟩; clear Bb4 Db1 HB; have HB := HB1; clear HB1; have f0 : w4.cell? ⟨b4, 4, none⟩ = some (.int .i64 (widthP l0_0)) := (blk_cell B4.out 4).trans rfl; have f1 : w4.cell? ⟨b1, 3, none⟩ = some (.int .i64 a0_3) := (blk_cell B1.out 3).trans rfl; have f2 : w4.cell? ⟨b1, 1, none⟩ = some (.int .i64 a0_1) := (blk_cell B1.out 1).trans rfl; have f3 : w4.cell? ⟨b1, 0, none⟩ = some (.slice A0_0 l0_0.length c0_0) := (blk_cell B1.out 0).trans rfl; clear hw_) | ((with_reducible refine gate_dst (N := 20) rfl ?_); (try (refine gate_guard (by rfl) ?_; dsimp only)); refine wpList_load_row rfl 69 (.tmp 4) rfl b4 rfl 69 (#[.slice A0_0 l0_0.length c0_0, .int .i64 a0_1, .slice A0_2 l0_2.length c0_2, .int .i64 a0_3, .int .i64 (widthP l0_0)]) (0, 0) _ B4.out Try.underlying69 rfl info69n ?_) | ((with_reducible refine gate_callee (f := 36) rfl ?_); (try (refine gate_guard (by rfl) ?_; dsimp only)); refine goesL_ (some 21) rfl rfl Try.func36 (by kernel_rfl) rfl #[.agg #[.slice A0_0 l0_0.length c0_0, .int .i64 a0_1, .slice A0_2 l0_2.length c0_2, .int .i64 a0_3, .int .i64 (widthP l0_0)]] rfl qz20 ?_; refine (goals.calls A0_0 c0_0 l0_0.length a0_1 A0_2 c0_2 l0_2 a0_3 (widthP l0_0) _ (Kd.C_below HR2.out HB.out) hc0_2 HG.out).mono ?_; rintro e_ w_ ⟨rfl, hb_⟩; have C1 := Aside0.mk ((hb_.block _ (blk_lt B1.out)).trans B1.out); have C4 := Aside0.mk ((hb_.block _ (blk_lt B4.out)).trans B4.out); have HB1 := Aside0.mk (below_then HB.out HB.out.size hb_); clear B1 B4 HB hb_ f0 f1 f2 f3; have HB := HB1; clear HB1; refine ⟨_, rfl, ?_⟩) | ((with_reducible refine gate_dst (N := 6) rfl ?_); (try (refine gate_guard (by rfl) ?_; dsimp only)); refine box_event ?hg (N := 6) ?hd (cs := bits (gset [])) (t := 76) ?hr ?_; (case hd => rfl); (case hg => rfl); (case hr => exact qz23); intro b6 hb6_ w_b6 hbox hb_; have n0_ := Aside0.mk (below_then HB.out HB.out.size hb_); have Bb6 := Aside0.mk hbox; clear hbox; have G6 := Aside0.mk (by rw [hb6_]; exact HB.out.size : w.heap.size ≤ b6); have D1 := Aside0.mk ((hb_.block _ (blk_lt C1.out)).trans C1.out); have D4 := Aside0.mk ((hb_.block _ (blk_lt C4.out)).trans C4.out); have N1 := Aside0.mk (by have := blk_lt C1.out; omega : b1 ≠ b6); have N4 := Aside0.mk (by have := blk_lt C4.out; omega : b4 ≠ b6); clear C1 C4; clear hb_; clear hb6_; (try clear HB); have HB := n0_; clear n0_) | ((with_reducible refine gate_store (t := 76) (p := 6) rfl ?_); refine wpList_store_rowTo rfl 76 (.tmp 6) (.tmp 21) rfl rfl b6 (bits (gset l0_2)) rfl rfl 76 (bits (gset [])) Bb6.out (info76s _ (gset_length _)) (by rw [bits_size, bits_size, gset_length, gset_length]) (bits_one _) ?_; refine named_world _ ?_; intro w6 hw_; have F6 : Aside0 (w6.heap[b6]? = some (.cells (bits (gset l0_2)) 76 (0, 0))) := ⟨by rw [hw_]; exact setRow_heap _ _ _ _ _ _ Bb6.out⟩; have F1 : Aside0 (w6.heap[b1]? = some (.cells #[.slice A0_0 l0_0.length c0_0, .int .i64 a0_1, .slice A0_2 l0_2.length c0_2, .int .i64 a0_3] 25 (0, 0))) := ⟨by rw [hw_, setRow_other _ _ _ _ N1.out]; exact D1.out⟩; have F4 : Aside0 (w6.heap[b4]? = some (.cells #[.slice A0_0 l0_0.length c0_0, .int .i64 a0_1, .slice A0_2 l0_2.length c0_2, .int .i64 a0_3, .int .i64 (widthP l0_0)] 69 (0, 0))) := ⟨by rw [hw_, setRow_other _ _ _ _ N4.out]; exact D4.out⟩; have HB1 : Aside0 (Below w.heap.size w w6) := ⟨by rw [hw_]; exact below_setRow HB.out G6.out _⟩; clear HB; have HB := HB1; clear HB1 Bb6 D1 D4; clear hw_) | ((with_reducible refine gate_dst (N := 22) rfl ?_); (try (refine gate_guard (by rfl) ?_; dsimp only)); refine wpList_load_row rfl 76 (.tmp 6) rfl b6 rfl 76 (bits (gset l0_2)) (0, 0) _ F6.out Try.underlying76 rfl (info76s _ (gset_length _)) ?_) | ((with_reducible refine gate_dst (N := 7) rfl ?_); (try (refine gate_guard (by rfl) ?_; dsimp only)); refine box_event ?hg (N := 7) ?hd (cs := bits (gset [])) (t := 76) ?hr ?_; (case hd => rfl); (case hg => rfl); (case hr => exact qz23); intro b7 hb7_ w_b7 hbox hb_; have n0_ := Aside0.mk (below_then HB.out HB.out.size hb_); have Bb7 := Aside0.mk hbox; clear hbox; have G7 := Aside0.mk (by rw [hb7_]; exact HB.out.size : w.heap.size ≤ b7); have D1 := Aside0.mk ((hb_.block _ (blk_lt F1.out)).trans F1.out); have D4 := Aside0.mk ((hb_.block _ (blk_lt F4.out)).trans F4.out); have D6 := Aside0.mk ((hb_.block _ (blk_lt F6.out)).trans F6.out); have M1 := Aside0.mk (by have := blk_lt F1.out; omega : b1 ≠ b7); have M4 := Aside0.mk (by have := blk_lt F4.out; omega : b4 ≠ b7); have M6 := Aside0.mk (by have := blk_lt F6.out; omega : b6 ≠ b7); clear F1 F4 F6; clear hb_; clear hb7_; (try clear HB); have HB := n0_; clear n0_) | ((with_reducible refine gate_store (t := 76) (p := 7) rfl ?_); refine wpList_store_rowTo rfl 76 (.tmp 7) (.tmp 22) rfl rfl b7 (bits (gset l0_2)) rfl rfl 76 (bits (gset [])) Bb7.out (info76s _ (gset_length _)) (by rw [bits_size, bits_size, gset_length, gset_length]) (bits_one _) ?_; refine named_world _ ?_; intro w7 hw_; have E7 : Aside0 (w7.heap[b7]? = some (.cells (bits (gset l0_2)) 76 (0, 0))) := ⟨by rw [hw_]; exact setRow_heap _ _ _ _ _ _ Bb7.out⟩; have E1 : Aside0 (w7.heap[b1]? = some (.cells #[.slice A0_0 l0_0.length c0_0, .int .i64 a0_1, .slice A0_2 l0_2.length c0_2, .int .i64 a0_3] 25 (0, 0))) := ⟨by rw [hw_, setRow_other _ _ _ _ M1.out]; exact D1.out⟩; have E4 : Aside0 (w7.heap[b4]? = some (.cells #[.slice A0_0 l0_0.length c0_0, .int .i64 a0_1, .slice A0_2 l0_2.length c0_2, .int .i64 a0_3, .int .i64 (widthP l0_0)] 69 (0, 0))) := ⟨by rw [hw_, setRow_other _ _ _ _ M4.out]; exact D4.out⟩; have E6 : Aside0 (w7.heap[b6]? = some (.cells (bits (gset l0_2)) 76 (0, 0))) := ⟨by rw [hw_, setRow_other _ _ _ _ M6.out]; exact D6.out⟩; have HB1 : Aside0 (Below w.heap.size w w7) := ⟨by rw [hw_]; exact below_setRow HB.out G7.out _⟩; clear HB; have HB := HB1; clear HB1 Bb7 D1 D4 D6; have f1 : w7.cell? ⟨b1, 3, none⟩ = some (.int .i64 a0_3) := (blk_cell E1.out 3).trans rfl; clear hw_))
    clear f1
    go_loopg [8, 25] a0_3.toNat (fun kq v8 v25 wr => ∃ (x : Int) (out : List (List Int)) (s : List Bool), v25 = .int .i64 x ∧ Aside0 (∃ i : Nat, x = i ∧ kq + i = a0_3.toNat ∧ s = winSet l0_0 l0_2 i ∧ out = guideF l0_0 l0_2 i) ∧ Aside0 (GF w wr b1 b4 b6 b7 #[.slice A0_0 l0_0.length c0_0, .int .i64 a0_1, .slice A0_2 l0_2.length c0_2, .int .i64 a0_3] #[.slice A0_0 l0_0.length c0_0, .int .i64 a0_1, .slice A0_2 l0_2.length c0_2, .int .i64 a0_3, .int .i64 (widthP l0_0)] (gset l0_2) s) ∧ Aside0 (Kd.S (Kd.slice 3 (Kd.int .i64)) 23 wr w.heap.size (fun _ => True) v8 out))
    case atStart => exact ⟨0, [], gset l0_2, rfl, ⟨0, rfl, by omega, rfl, rfl⟩, ⟨⟨E1.out, E4.out, E6.out, E7.out, HB.out⟩⟩, ⟨Kd.S_nil _ _ _ _ _⟩⟩
    case round =>
      clear HB E6 E1 E4 E7
      obtain ⟨x, out, s, rfl, HI, HGF, HS⟩ := hrel
      have HSL : Aside0 (s.length = 16) := ⟨by obtain ⟨i, _, _, rfl, _⟩ := HI.out; exact winSet_length _ _ _⟩
      by_cases hlt : x < a0_3
      · have hlt' := decide_eq_true hlt
        have HP := Aside0.mk hlt
        obtain ⟨ko, rfl⟩ : ∃ ko, gk = ko + 1 := ⟨gk - 1, by obtain ⟨i, rfl, h1, _⟩ := HI.out; omega⟩
        obtain ⟨wo, rfl⟩ : ∃ wo : World, wo = wr := ⟨_, rfl⟩
        have f1 : wo.cell? ⟨b1, 0, none⟩ = some (.slice A0_0 l0_0.length c0_0) := (blk_cell HGF.out.h1 0).trans rfl
        clear hlt
        go_wp2_with (first | ((with_reducible refine gate_dst (N := 30) rfl ?_); refine Kd.R_make (Kd.int .i64) _ 3 rfl (N := 30) rfl 23 _ _ rfl (l0_0.length : Int) rfl rfl Try.underlying23 (.int .i64 0) 8 info3 rfl (by decide) (by omega) 0 (ok := fun _ => True) (okp := fun _ => True) rfl (fun _ hk => hk) trivial (by omega) (by have := HF.out.1; omega) (Below.refl _ _) (Nat.le_refl _) ?_; intro v30 w30 ho_ hb_ hg_ hnew_; clear hg_ hnew_; have HGF1 := Aside0.mk (HGF.out.step hb_); have HS1 := Aside0.mk (Kd.S_elder' HS.out (Kd.R_base ho_) hb_); have HV := Aside0.mk (Kd.R_lower ho_ HGF.out.bl.size); clear ho_ hb_ f1; have f1 : w30.cell? ⟨b1, 0, none⟩ = some (.slice A0_0 l0_0.length c0_0) := (blk_cell HGF1.out.h1 0).trans rfl))
        clear f1
        go_loopg [34] l0_0.length (fun kq v34 wr => ∃ (y : Int) (cur : List Int), v34 = .int .i64 y ∧ Aside0 (∃ j : Nat, y = j ∧ kq + j = l0_0.length ∧ cur.length = l0_0.length ∧ ∀ m, m < j → cur.getD m 0 = entG l0_0 (gset l0_2) s m) ∧ Aside0 (GF w wr b1 b4 b6 b7 #[.slice A0_0 l0_0.length c0_0, .int .i64 a0_1, .slice A0_2 l0_2.length c0_2, .int .i64 a0_3] #[.slice A0_0 l0_0.length c0_0, .int .i64 a0_1, .slice A0_2 l0_2.length c0_2, .int .i64 a0_3, .int .i64 (widthP l0_0)] (gset l0_2) s) ∧ Aside0 (Kd.S (Kd.slice 3 (Kd.int .i64)) 23 wr w.heap.size (fun k_ => True ∧ some k_ ≠ v30.ownBlock) u8 out) ∧ Aside0 (Kd.R (Kd.int .i64) 3 wr w.heap.size (fun _ => True) v30 cur))
        case atStart => exact ⟨0, _, rfl, ⟨0, rfl, by omega, by simp, fun m hm => absurd hm (by omega)⟩, HGF1, HS1, HV⟩
        case round =>
          clear HGF1 HS1 HV HGF HS
          obtain ⟨y, cur, rfl, HJ, HGF, HS, HV⟩ := hrel
          by_cases hlt : y < (l0_0.length : Int)
          · obtain ⟨ki, rfl⟩ : ∃ ki, gk = ki + 1 := ⟨gk - 1, by obtain ⟨i, rfl, h1, _⟩ := HJ.out; omega⟩
            obtain ⟨wi, rfl⟩ : ∃ wi : World, wi = wr := ⟨_, rfl⟩
            have h0 : 0 ≤ y := by obtain ⟨i, rfl, _⟩ := HJ.out; omega
            have hcl : y < (cur.length : Int) := by obtain ⟨i, rfl, _, h, _⟩ := HJ.out; omega
            have h16 : y < 16 := by have := HF.out.1; omega
            obtain ⟨go, cap, rfl, hgo1, hgo2, hgo3⟩ := Kd.R_form HV.out (by omega)
            obtain ⟨ad, A1, c1, rfl, hx, hx1, hl1, hr1⟩ := at_T55 HR0.out y h0 hlt
            replace hx := (HGF.out.bl.cell (World.block_lt_of_cell? w _ hx)).trans hx
            replace hx1 := (HGF.out.bl.cell (World.block_lt_of_cell? w _ hx1)).trans hx1
            have hmem : rd_T55 l0_0 y ∈ l0_0 := getD_mem l0_0 z55 _ (by omega)
            have hto := HT.out _ hmem
            have hent : entG l0_0 (gset l0_2) s y.toNat = if (rd_T55 l0_0 y).f0 && !((gset l0_2).getD y.toNat false) then idxF (fun v => s.getD v.toNat false) (rd_T55 l0_0 y).f1 0 else -1 := rfl
            obtain ⟨r, hr⟩ : ∃ r, rd_T55 l0_0 y = r := ⟨_, rfl⟩
            rw [hr] at hx hx1 hto hl1 hr1 hent
            have HRR := Aside0.mk hr1
            have HTO := Aside0.mk hto
            have HENT := Aside0.mk hent
            have p1 := eq_true h0
            have p2 := eq_true hlt
            have p3 := eq_true h16
            have p4 := eq_true hcl
            have hlt' := decide_eq_true hlt
            have HQ := Aside0.mk (And.intro h0 (And.intro hlt hcl))
            have HGO := Aside0.mk (And.intro hgo1 hgo2)
            clear hr hmem hto hent hr1 h0 hlt h16 hcl hgo1 hgo2 hgo3
            cases hm : r.f0 && !((gset l0_2).getD y.toNat false) with
            | false =>
              have HENT2 : Aside0 (entG l0_0 (gset l0_2) s y.toNat = -1) := ⟨by rw [HENT.out, hm]; rfl⟩
              cases hf0 : r.f0 with
              | false =>
                rw [hf0] at hx
                clear hm hf0
                go_wp2_with (first | ((with_reducible refine gate_dst (N := 11) rfl ?_); refine box_event ?hg (N := 11) ?hd (cs := #[.bool false, .slice none 0 0]) (t := 55) ?hr ?_; (case hd => rfl); (case hg => rfl); (case hr => exact qz23); intro b11 hb11_ w_b11 hbox hb_; have Bb11 := Aside0.mk hbox; have G11 := Aside0.mk (by rw [hb11_]; exact Nat.le_refl _ : wi.heap.size ≤ b11); have HBI0 := Aside0.mk hb_; clear hbox hb_ hb11_) | ((with_reducible refine gate_store (t := 55) (p := 11) rfl ?_); refine wpList_store_rowTo rfl 55 (.tmp 11) (.tmp 38) rfl rfl b11 (#[.bool false, .slice A1 r.f1.length c1]) rfl rfl 55 (#[.bool false, .slice none 0 0]) Bb11.out info55n rfl (by simp [Value.oneCell']) ?_; refine named_world _ ?_; intro w11 hw_; have B11 : Aside0 (w11.heap[b11]? = some (.cells #[.bool false, .slice A1 r.f1.length c1] 55 (0, 0))) := ⟨by rw [hw_]; exact setRow_heap _ _ _ _ _ _ Bb11.out⟩; have HBI : Aside0 (Below wi.heap.size wi w11) := ⟨by rw [hw_]; exact below_setRow HBI0.out G11.out _⟩; have HGF1 := Aside0.mk (HGF.out.step HBI.out); have HS1 := Aside0.mk (Kd.S_below HS.out HBI.out); have HV1 := Aside0.mk (Kd.R_below HV.out HBI.out); obtain ⟨hx_, hz_⟩ := Kd.R_celln 0 HV1.out y (of_eq_true p1) (of_eq_true p4); have HP1 := Aside0.mk (Kd.R_putg HV1.out y (-1)); clear hw_) | ((with_reducible refine gate_store (t := 3) (p := 41) rfl ?_); refine store_event (t := 3) (p := 41) (v := (.const (.int .i64 (-1)))) (w1 := w11.setCell ⟨go, y.toNat, none⟩ (.int .i64 (-1))) ?hg ?ho ?hn ?hr ?_; (case ho => rfl); (case hg => rfl); (case hn => rfl); (case hr => exact qz23); intro w12 hw_; have hg_ : w11.grownBy w12 (some go) := (by rw [hw_]; exact HP1.out.2); have HV2 : Aside0 (Kd.R (Kd.int .i64) 3 w12 w.heap.size (fun _ => True) (.slice (some ⟨go, 0, none⟩) cur.length cap) (cur.set y.toNat (-1))) := ⟨by rw [hw_]; exact HP1.out.1⟩; have HS2 := Aside0.mk (Kd.S_grown HS1.out hg_ (fun k hk => hk.2)); have HGF2 := Aside0.mk (HGF1.out.grown HV1.out hg_); have C112 := Aside0.mk (blk_grown B11.out hg_ (Kd.R_ne HV1.out B11.out (by decide))); clear hw_ hx_ hz_; have f0 : w12.cell? ⟨b11, 0, none⟩ = some (.bool false) := (blk_cell C112.out 0).trans rfl; have f1 : w12.cell? ⟨b11, 1, none⟩ = some (.slice A1 r.f1.length c1) := (blk_cell C112.out 1).trans rfl))
                go_roundg ki
                case measure => omega
                case rel =>
                  have hQ := HQ.out
                  refine ⟨y + 1, cur.set y.toNat (-1), by rw [show wrap64 (y + 1) = y + 1 by have := HF.out.1; unfold wrap64; omega], ⟨?_⟩, HGF2, HS2, HV2⟩
                  obtain ⟨j, rfl, h1, h2, h3⟩ := HJ.out
                  rw [Int.toNat_natCast] at HENT2 ⊢
                  exact ⟨j + 1, by omega, by omega, row_step h2 (by omega) h3 HENT2.out.symm⟩
              | true =>
                rw [hf0] at hx hm
                have hgt : (gset l0_2).getD y.toNat false = true := by simpa using hm
                have HGT := Aside0.mk hgt
                clear hm hf0 hgt
                go_wp2_with (first | ((with_reducible refine gate_dst (N := 11) rfl ?_); refine box_event ?hg (N := 11) ?hd (cs := #[.bool false, .slice none 0 0]) (t := 55) ?hr ?_; (case hd => rfl); (case hg => rfl); (case hr => exact qz23); intro b11 hb11_ w_b11 hbox hb_; have Bb11 := Aside0.mk hbox; have G11 := Aside0.mk (by rw [hb11_]; exact Nat.le_refl _ : wi.heap.size ≤ b11); have HBI0 := Aside0.mk hb_; clear hbox hb_ hb11_) | ((with_reducible refine gate_store (t := 55) (p := 11) rfl ?_); refine wpList_store_rowTo rfl 55 (.tmp 11) (.tmp 38) rfl rfl b11 (#[.bool true, .slice A1 r.f1.length c1]) rfl rfl 55 (#[.bool false, .slice none 0 0]) Bb11.out info55n rfl (by simp [Value.oneCell']) ?_; refine named_world _ ?_; intro w11 hw_; have B11 : Aside0 (w11.heap[b11]? = some (.cells #[.bool true, .slice A1 r.f1.length c1] 55 (0, 0))) := ⟨by rw [hw_]; exact setRow_heap _ _ _ _ _ _ Bb11.out⟩; have HBI : Aside0 (Below wi.heap.size wi w11) := ⟨by rw [hw_]; exact below_setRow HBI0.out G11.out _⟩; have HGF1 := Aside0.mk (HGF.out.step HBI.out); have HS1 := Aside0.mk (Kd.S_below HS.out HBI.out); have HV1 := Aside0.mk (Kd.R_below HV.out HBI.out); obtain ⟨hx_, hz_⟩ := Kd.R_celln 0 HV1.out y (of_eq_true p1) (of_eq_true p4); have HP1 := Aside0.mk (Kd.R_putg HV1.out y (-1)); clear hw_) | ((with_reducible refine gate_store (t := 3) (p := 41) rfl ?_); refine store_event (t := 3) (p := 41) (v := (.const (.int .i64 (-1)))) (w1 := w11.setCell ⟨go, y.toNat, none⟩ (.int .i64 (-1))) ?hg ?ho ?hn ?hr ?_; (case ho => rfl); (case hg => rfl); (case hn => rfl); (case hr => exact qz23); intro w12 hw_; have hg_ : w11.grownBy w12 (some go) := (by rw [hw_]; exact HP1.out.2); have HV2 : Aside0 (Kd.R (Kd.int .i64) 3 w12 w.heap.size (fun _ => True) (.slice (some ⟨go, 0, none⟩) cur.length cap) (cur.set y.toNat (-1))) := ⟨by rw [hw_]; exact HP1.out.1⟩; have HS2 := Aside0.mk (Kd.S_grown HS1.out hg_ (fun k hk => hk.2)); have HGF2 := Aside0.mk (HGF1.out.grown HV1.out hg_); have C112 := Aside0.mk (blk_grown B11.out hg_ (Kd.R_ne HV1.out B11.out (by decide))); clear hw_ hx_ hz_; have f0 : w12.cell? ⟨b11, 0, none⟩ = some (.bool true) := (blk_cell C112.out 0).trans rfl; have f1 : w12.cell? ⟨b11, 1, none⟩ = some (.slice A1 r.f1.length c1) := (blk_cell C112.out 1).trans rfl; have f6 : w12.cell? ⟨b6, y.toNat, none⟩ = some (.bool true) := (blk_cell HGF2.out.h6 _).trans ((bits_get _ _ (by rw [gset_length]; have := HQ.out.1; have := of_eq_true p3; omega)).trans (by rw [HGT.out]))))
                go_roundg ki
                case measure => omega
                case rel =>
                  have hQ := HQ.out
                  refine ⟨y + 1, cur.set y.toNat (-1), by rw [show wrap64 (y + 1) = y + 1 by have := HF.out.1; unfold wrap64; omega], ⟨?_⟩, HGF2, HS2, HV2⟩
                  obtain ⟨j, rfl, h1, h2, h3⟩ := HJ.out
                  rw [Int.toNat_natCast] at HENT2 ⊢
                  exact ⟨j + 1, by omega, by omega, row_step h2 (by omega) h3 HENT2.out.symm⟩
            | true =>
              have HENT2 : Aside0 (entG l0_0 (gset l0_2) s y.toNat = idxF (fun v => s.getD v.toNat false) r.f1 0) := ⟨by rw [HENT.out, hm]; rfl⟩
              have hf0 : r.f0 = true := by simp at hm; exact hm.1
              have hgt : (gset l0_2).getD y.toNat false = false := by simp at hm; simpa using hm.2
              have HGT := Aside0.mk hgt
              rw [hf0] at hx
              clear hm hf0 hgt
              obtain ⟨iv, hiv⟩ : ∃ iv, idxF (fun v => s.getD v.toNat false) r.f1 0 = iv := ⟨_, rfl⟩
              have HIV := Aside0.mk hiv
              clear hiv
              go_wp2_with (first | ((with_reducible refine gate_dst (N := 11) rfl ?_); refine box_event ?hg (N := 11) ?hd (cs := #[.bool false, .slice none 0 0]) (t := 55) ?hr ?_; (case hd => rfl); (case hg => rfl); (case hr => exact qz23); intro b11 hb11_ w_b11 hbox hb_; have Bb11 := Aside0.mk hbox; have G11 := Aside0.mk (by rw [hb11_]; exact Nat.le_refl _ : wi.heap.size ≤ b11); have HBI0 := Aside0.mk hb_; clear hbox hb_ hb11_) | ((with_reducible refine gate_store (t := 55) (p := 11) rfl ?_); refine wpList_store_rowTo rfl 55 (.tmp 11) (.tmp 38) rfl rfl b11 (#[.bool true, .slice A1 r.f1.length c1]) rfl rfl 55 (#[.bool false, .slice none 0 0]) Bb11.out info55n rfl (by simp [Value.oneCell']) ?_; refine named_world _ ?_; intro w11 hw_; have B11 : Aside0 (w11.heap[b11]? = some (.cells #[.bool true, .slice A1 r.f1.length c1] 55 (0, 0))) := ⟨by rw [hw_]; exact setRow_heap _ _ _ _ _ _ Bb11.out⟩; have HBI : Aside0 (Below wi.heap.size wi w11) := ⟨by rw [hw_]; exact below_setRow HBI0.out G11.out _⟩; have HGF1 := Aside0.mk (HGF.out.step HBI.out); have HS1 := Aside0.mk (Kd.S_below HS.out HBI.out); have HV1 := Aside0.mk (Kd.R_below HV.out HBI.out); obtain ⟨hx_, hz_⟩ := Kd.R_celln 0 HV1.out y (of_eq_true p1) (of_eq_true p4); have HP1 := Aside0.mk (Kd.R_putg HV1.out y (-1)); clear hw_) | ((with_reducible refine gate_store (t := 3) (p := 41) rfl ?_); refine store_event (t := 3) (p := 41) (v := (.const (.int .i64 (-1)))) (w1 := w11.setCell ⟨go, y.toNat, none⟩ (.int .i64 (-1))) ?hg ?ho ?hn ?hr ?_; (case ho => rfl); (case hg => rfl); (case hn => rfl); (case hr => exact qz23); intro w12 hw_; have hg_ : w11.grownBy w12 (some go) := (by rw [hw_]; exact HP1.out.2); have HV2 : Aside0 (Kd.R (Kd.int .i64) 3 w12 w.heap.size (fun _ => True) (.slice (some ⟨go, 0, none⟩) cur.length cap) (cur.set y.toNat (-1))) := ⟨by rw [hw_]; exact HP1.out.1⟩; have HS2 := Aside0.mk (Kd.S_grown HS1.out hg_ (fun k hk => hk.2)); have HGF2 := Aside0.mk (HGF1.out.grown HV1.out hg_); have C112 := Aside0.mk (blk_grown B11.out hg_ (Kd.R_ne HV1.out B11.out (by decide))); clear hw_ hx_ hz_; have f0 : w12.cell? ⟨b11, 0, none⟩ = some (.bool true) := (blk_cell C112.out 0).trans rfl; have f1 : w12.cell? ⟨b11, 1, none⟩ = some (.slice A1 r.f1.length c1) := (blk_cell C112.out 1).trans rfl; have f6 : w12.cell? ⟨b6, y.toNat, none⟩ = some (.bool false) := (blk_cell HGF2.out.h6 _).trans ((bits_get _ _ (by rw [gset_length]; have := HQ.out.1; have := of_eq_true p3; omega)).trans (by rw [HGT.out]))) | ((with_reducible refine gate_callee (f := 39) rfl ?_); (try (refine gate_guard (by rfl) ?_; dsimp only)); refine goesL_ (some 55) rfl rfl Try.func39 (by kernel_rfl) rfl #[.slice A1 r.f1.length c1, .func (.func 40) #[] #[.pointer (some ⟨b7, 0, none⟩)]] rfl qz20 ?_; refine (idx_int.calls (Kd.C_below HRR.out HGF2.out.bl) hl1 (guide1_pred s HSL.out _ b7 HGF2.out.h7).toK HTO.out).mono ?_; rintro e_ w_ ⟨rfl, hb_⟩; (try rw [HIV.out]); have HGF3 := Aside0.mk (HGF2.out.step hb_); have HS3 := Aside0.mk (Kd.S_below HS2.out hb_); have HV3 := Aside0.mk (Kd.R_below HV2.out hb_); have D11 := Aside0.mk (blk_below C112.out hb_); clear f0 f1 f6 hb_; have hl_ : Aside0 (y < ((cur.set y.toNat (-1)).length : Int)) := ⟨by rw [List.length_set]; exact of_eq_true p4⟩; obtain ⟨hx_, hz_⟩ := Kd.R_celln 0 HV3.out y (of_eq_true p1) (of_eq_true p4); have HP3 := Aside0.mk (Kd.R_putg HV3.out y iv); refine ⟨_, rfl, ?_⟩) | ((with_reducible refine gate_store (t := 3) (p := 56) rfl ?_); refine store_event (t := 3) (p := 56) (v := (.tmp 55)) (w1 := w_.setCell ⟨go, y.toNat, none⟩ (.int .i64 (iv))) ?hg ?ho ?hn ?hr ?_; (case ho => rfl); (case hg => rfl); (case hn => rfl); (case hr => exact qz23); intro w14 hw_; have hg_ : w_.grownBy w14 (some go) := (by rw [hw_]; exact HP3.out.2); have HV4 : Aside0 (Kd.R (Kd.int .i64) 3 w14 w.heap.size (fun _ => True) (.slice (some ⟨go, 0, none⟩) cur.length cap) ((cur.set y.toNat (-1)).set y.toNat iv)) := ⟨by rw [hw_]; exact HP3.out.1⟩; have HS4 := Aside0.mk (Kd.S_grown HS3.out hg_ (fun k hk => hk.2)); have HGF4 := Aside0.mk (HGF3.out.grown HV3.out hg_); have C114 := Aside0.mk (blk_grown D11.out hg_ (Kd.R_ne HV3.out D11.out (by decide))); clear hw_ hx_ hz_; skip))
              go_roundg ki
              case measure => omega
              case rel =>
                have hQ := HQ.out
                refine ⟨y + 1, (cur.set y.toNat (-1)).set y.toNat iv, by rw [show wrap64 (y + 1) = y + 1 by have := HF.out.1; unfold wrap64; omega], ⟨?_⟩, HGF4, HS4, HV4⟩
                obtain ⟨j, rfl, h1, h2, h3⟩ := HJ.out
                rw [Int.toNat_natCast] at HENT2 ⊢
                exact ⟨j + 1, by omega, by omega, by rw [List.set_set]; exact row_step h2 (by omega) h3 (HIV.out.symm.trans HENT2.out.symm)⟩
          · have hlt' := decide_eq_false hlt
            have hcur : Aside0 (cur = rowG l0_0 (gset l0_2) s) := ⟨by
              obtain ⟨j, rfl, h1, h2, h3⟩ := HJ.out
              exact row_done h2 (fun m hm => h3 m (by omega))⟩
            have hol : Aside0 (out.length ≤ 8) := ⟨by
              obtain ⟨i, rfl, h1, _, rfl⟩ := HI.out
              have := HF.out.2.2.1.2
              simp [guideF]; omega⟩
            clear hlt
            obtain ⟨wi, rfl⟩ : ∃ wi : World, wi = wr := ⟨_, rfl⟩
            obtain ⟨Ao, co, eo⟩ := Kd.R_slice HV.out
            subst eo
            go_wp2_with (first | ((with_reducible refine gate_builtin (b := .append) (xs := #[.tmp 58, .tmp 60]) rfl ?_); at_builtin; refine Kd.S_append (Kd.slice 3 (Kd.int .i64)) (w0 := w) w.heap.size rfl (.tmp 58) (.tmp 60) 41 23 (.slice none 0 0) 24 rfl Try.underlying41 info23 rfl (by decide) (by omega) u8 out cur [.slice Ao cur.length co] (fun _ => True) (fun k_ => some k_ = (.slice Ao cur.length co : Value).ownBlock) rfl rfl ?aP (fun k_ hk_ => ((Kd.R_mono (ok' := fun k_ => ((fun _ => True)) k_ ∧ some k_ ≠ (u8 : Value).ownBlock) (Kd.R_apart' (HV.out) (Kd.S_typed HS.out) (by decide)) (fun k_ hk => ⟨trivial, hk.2⟩))).1 k_ hk_.symm) ?aF ?aO ?aB ?aS ?aL ?_; (case aP => exact Kd.M_row (Kd.R_mono (Kd.R_tight rfl (Kd.R_mono (ok' := fun k_ => ((fun _ => True)) k_ ∧ some k_ ≠ (u8 : Value).ownBlock) (Kd.R_apart' (HV.out) (Kd.S_typed HS.out) (by decide)) (fun k_ hk => ⟨trivial, hk.2⟩))) (fun _ h_ => h_))); (case aB => exact HGF.out.bl); (case aF => exact (fun _ _ => trivial)); (case aO => exact Kd.S_mono HS.out (fun k_ hk => ⟨trivial, fun e_ => hk.2 e_⟩)); (case aS => exact HGF.out.bl.size); (case aL => have := hol.out; omega); intro v61 w61 ho_ hb_ hg_ hat_; have HGF1 := Aside0.mk (HGF.out.grownS HS.out hg_); have HS1 := Aside0.mk ho_; clear ho_ hb_ hg_ hat_) | ((with_reducible refine gate_dst (N := 62) rfl ?_); (try (refine gate_guard (by rfl) ?_; dsimp only)); refine wpList_load_row rfl 69 (.tmp 4) rfl b4 rfl 69 (#[.slice A0_0 l0_0.length c0_0, .int .i64 a0_1, .slice A0_2 l0_2.length c0_2, .int .i64 a0_3, .int .i64 (widthP l0_0)]) (0, 0) _ (Aside0.mk HGF1.out.h4).out Try.underlying69 rfl info69n ?_) | ((with_reducible refine gate_dst (N := 63) rfl ?_); (try (refine gate_guard (by rfl) ?_; dsimp only)); refine wpList_load_row rfl 76 (.tmp 7) rfl b7 rfl 76 (bits s) (0, 0) _ (Aside0.mk HGF1.out.h7).out Try.underlying76 rfl (info76s _ HSL.out) ?_) | ((with_reducible refine gate_callee (f := 37) rfl ?_); (try (refine gate_guard (by rfl) ?_; dsimp only)); refine goesL_ (some 64) rfl rfl Try.func37 (by kernel_rfl) rfl #[.agg #[.slice A0_0 l0_0.length c0_0, .int .i64 a0_1, .slice A0_2 l0_2.length c0_2, .int .i64 a0_3, .int .i64 (widthP l0_0)], .agg (bits s)] rfl qz20 ?_; refine (before.calls A0_0 c0_0 l0_0 a0_1 A0_2 c0_2 l0_2 a0_3 (widthP l0_0) s _ (Kd.C_below HR0.out HGF1.out.bl) hc0_0 (Kd.C_below HR2.out HGF1.out.bl) hc0_2 HG.out HSL.out HF.out.1 HT.out).mono ?_; rintro e_ w_ ⟨rfl, hb_⟩; have HGF2 := Aside0.mk (HGF1.out.step hb_); have HS2 := Aside0.mk (Kd.S_below HS1.out hb_); clear hb_; refine ⟨_, rfl, ?_⟩) | ((with_reducible refine gate_store (t := 76) (p := 7) rfl ?_); refine wpList_store_rowTo rfl 76 (.tmp 7) (.tmp 64) rfl rfl b7 (bits (befS l0_0 l0_2 s)) rfl rfl 76 (bits s) (Aside0.mk HGF2.out.h7).out (info76s _ (befS_length _ _ _)) (by rw [bits_size, bits_size, befS_length, HSL.out]) (bits_one _) ?_; refine named_world _ ?_; intro w65 hw_; have HGF3 : Aside0 (GF w w65 b1 b4 b6 b7 #[.slice A0_0 l0_0.length c0_0, .int .i64 a0_1, .slice A0_2 l0_2.length c0_2, .int .i64 a0_3] #[.slice A0_0 l0_0.length c0_0, .int .i64 a0_1, .slice A0_2 l0_2.length c0_2, .int .i64 a0_3, .int .i64 (widthP l0_0)] (gset l0_2) (befS l0_0 l0_2 s)) := ⟨⟨by rw [hw_, setRow_other _ _ _ _ M1.out]; exact HGF2.out.h1, by rw [hw_, setRow_other _ _ _ _ M4.out]; exact HGF2.out.h4, by rw [hw_, setRow_other _ _ _ _ M6.out]; exact HGF2.out.h6, by rw [hw_]; exact setRow_heap _ _ _ _ _ _ HGF2.out.h7, by rw [hw_]; exact below_setRow HGF2.out.bl G7.out _⟩⟩; have HS3 : Aside0 (Kd.S (Kd.slice 3 (Kd.int .i64)) 23 w65 w.heap.size (fun _ => True) v61 (out ++ [cur])) := ⟨by rw [hw_]; exact Kd.S_mono (Kd.S_step (Kd.S_types HS2.out HGF2.out.h7 (by decide)) (fun k hk _ => setRow_other _ _ _ _ hk.2)) (fun _ h => h.1)⟩; clear hw_))
            go_roundg ko
            case measure => omega
            case rel =>
              have hP := HP.out
              refine ⟨x + 1, out ++ [cur], befS l0_0 l0_2 s, by rw [show wrap64 (x + 1) = x + 1 by have := HF.out.2.2.1.2; obtain ⟨i, rfl, _⟩ := HI.out; unfold wrap64; omega], ⟨?_⟩, HGF3, HS3⟩
              obtain ⟨i, rfl, h1, h2, h3⟩ := HI.out
              refine ⟨i + 1, by omega, by omega, by rw [h2]; rfl, ?_⟩
              rw [h3, hcur.out, h2]; simp [guideF, List.range_succ]
      · have hlt' := decide_eq_false hlt
        have ho : Aside0 (out = guideF l0_0 l0_2 a0_3.toNat) := ⟨by
          obtain ⟨i, rfl, h1, h2, h3⟩ := HI.out
          rw [h3, show i = a0_3.toNat by omega]⟩
        clear hlt
        go_wp2
        go_ret2
        exact ⟨u8, rfl, by rw [← ho.out]; exact HS.out, HGF.out.bl⟩
end Go.Proofs.Ytjlehbncpjccmaa.Q
namespace Go.Proofs.Ytjlehbncpjccmaa.Q
open Go.RowKit Go.Proofs.YtjlehbncpjccmaaW.PrintWords Go.Proofs.YtjlehbncpjccmaaW.PrintLast Go.Proofs.YtjlehbncpjccmaaW.PrintMore
open Go.MapKept (findNow_spec IsKey run_keyThatStays heap_set)
set_option linter.unusedVariables false
set_option linter.unusedSimpArgs false

/-- A map whose keys are the numbers of a list, each with the value true. -/
def KeysT (L : List Int) (w : World) (r : Nat) : Prop :=
  ∃ es clock, w.heap[r]? = some (.map es clock) ∧ (∀ x ∈ es.toList, ∃ k ∈ L, x.key = .int .i64 k ∧ x.val = .bool true) ∧ ∀ k ∈ L, ∃ x ∈ es.toList, x.key = .int .i64 k
theorem KeysT.below {L : List Int} {w w' : World} {r : Nat} (h : KeysT L w r) (hb : Below w.heap.size w w') : KeysT L w' r := by
  obtain ⟨es, clock, h0, h1, h2⟩ := h
  exact ⟨es, clock, (hb.block r (blk_lt h0)).trans h0, h1, h2⟩
theorem KeysT.same {L : List Int} {w w' : World} {r : Nat} (h : KeysT L w r) (hb : w'.heap[r]? = w.heap[r]?) : KeysT L w' r := by
  obtain ⟨es, clock, h0, h1, h2⟩ := h
  exact ⟨es, clock, hb.trans h0, h1, h2⟩
theorem KeysT.isKey {L : List Int} {es : Array MapEntry} (h : ∀ x ∈ es.toList, ∃ k ∈ L, x.key = .int .i64 k ∧ x.val = .bool true) : ∀ x ∈ es.toList, IsKey (.int .i64) x.key := by
  intro x hx
  obtain ⟨k, _, hk, _⟩ := h x hx
  rw [hk]
  exact rfl
section
variable {P : Program} {mt kt et : TypeId}
theorem lookup_keys (hm : P.underlying mt = some (.map kt et)) (hd : P.underlying kt = some (.int .i64)) (hz : ∀ w, (zeroValue et).run P w = .ok (.bool false) w) {L : List Int} {w : World} {r : Nat} (h : KeysT L w r) (k : Int) : (Instr.lookup mt (.map (some r)) (.int .i64 k) false).run P w = .ok (.bool (decide (k ∈ L))) w := by
  obtain ⟨es, clock, h0, h1, h2⟩ := h
  have hk : IsKey (.int .i64) (.int .i64 k) := rfl
  rcases findNow_spec hk es.toList 0 (KeysT.isKey h1) with ⟨h3, h4⟩ | ⟨j, e, h3, h4, h5⟩
  · have hn : k ∉ L := fun hL => by
      obtain ⟨x, hx, hxk⟩ := h2 k hL
      exact h4 x hx hxk
    simp [Instr.lookup, run_underlying hm, Go.MapKept.run_getObj_map h0, Go.MapKept.run_checkKey hd hk, Go.MapKept.run_findKey hd h3, Result.andThen, hz, hn]
  · obtain ⟨k', hL, hk', hv⟩ := h1 e (List.mem_of_getElem? h4)
    rw [h5] at hk'
    cases hk'
    simp [Instr.lookup, run_underlying hm, Go.MapKept.run_getObj_map h0, Go.MapKept.run_checkKey hd hk, Go.MapKept.run_findKey hd h3, Result.andThen, hv, hL]
theorem update_keys (hm : P.underlying mt = some (.map kt et)) (hd : P.underlying kt = some (.int .i64)) {L : List Int} {w : World} {r : Nat} (h : KeysT L w r) (k : Int) : ∃ w', (Instr.mapUpdate mt (.map (some r)) (.int .i64 k) (.bool true)).run P w = .ok () w' ∧ KeysT (k :: L) w' r ∧ (∀ r', r' ≠ r → w'.heap[r']? = w.heap[r']?) ∧ ∀ B, B ≤ r → Below B w w' := by
  obtain ⟨es, clock, h0, h1, h2⟩ := h
  have hk : IsKey (.int .i64) (.int .i64 k) := rfl
  have hbl : ∀ (o : Obj) B, B ≤ r → Below B w { w with heap := w.heap.setIfInBounds r o } := fun o B hB =>
    ⟨rfl, rfl, rfl, by simp, fun i hi => (heap_set h0).2 i (by omega)⟩
  rcases findNow_spec hk es.toList 0 (KeysT.isKey h1) with ⟨h3, h4⟩ | ⟨j, e, h3, h4, h5⟩
  · refine ⟨_, by simp [Instr.mapUpdate, run_underlying hm, Go.MapKept.run_getObj_map h0, Go.MapKept.run_checkKey hd hk, Go.MapKept.run_findKey hd h3, Go.MapKept.run_setObj_map _ h0, Result.andThen]; rfl, ?_, fun r' hne => (heap_set h0).2 r' hne, hbl _⟩
    refine ⟨_, _, (heap_set h0).1, ?_, ?_⟩
    · intro x hx
      simp only [Array.toList_push, List.mem_append, List.mem_singleton] at hx
      rcases hx with hx | rfl
      · obtain ⟨k', a, b, c⟩ := h1 x hx
        exact ⟨k', .tail _ a, b, c⟩
      · exact ⟨k, .head _, rfl, rfl⟩
    · intro k' hk'
      simp only [Array.toList_push, List.mem_append, List.mem_singleton]
      rcases List.mem_cons.1 hk' with rfl | hk'
      · exact ⟨_, .inr rfl, rfl⟩
      · obtain ⟨x, a, b⟩ := h2 k' hk'
        exact ⟨x, .inl a, b⟩
  · have hj : es[j]? = some e := by simpa using h4
    obtain ⟨k', hL, hk', hv⟩ := h1 e (List.mem_of_getElem? h4)
    rw [h5] at hk'
    cases hk'
    refine ⟨_, by simp [Instr.mapUpdate, run_underlying hm, Go.MapKept.run_getObj_map h0, Go.MapKept.run_checkKey hd hk, Go.MapKept.run_findKey hd h3, hj, h5, run_keyThatStays hk, Go.MapKept.run_setObj_map _ h0, Result.andThen]; rfl, ?_, fun r' hne => (heap_set h0).2 r' hne, hbl _⟩
    refine ⟨_, _, (heap_set h0).1, ?_, ?_⟩
    · intro x hx
      obtain ⟨i, hi⟩ := List.mem_iff_getElem?.1 hx
      have hi' : (es.modify j fun e => { e with key := .int .i64 k, val := .bool true })[i]? = some x := by rw [← Array.getElem?_toList]; exact hi
      rw [Array.getElem?_modify] at hi'
      split at hi'
      · obtain ⟨y, hy, rfl⟩ := Option.map_eq_some_iff.1 hi'
        exact ⟨k, .head _, rfl, rfl⟩
      · obtain ⟨k', a, b, c⟩ := h1 x (List.mem_of_getElem? (by simpa using hi'))
        exact ⟨k', .tail _ a, b, c⟩
    · intro k' hk'
      have hk2 : k' ∈ L := by
        rcases List.mem_cons.1 hk' with rfl | h
        · exact hL
        · exact h
      obtain ⟨x, a, b⟩ := h2 k' hk2
      obtain ⟨i, hi⟩ := List.mem_iff_getElem?.1 a
      have hi2 : es[i]? = some x := by rw [← Array.getElem?_toList]; exact hi
      by_cases hij : j = i
      · subst hij
        rw [hj] at hi2
        cases hi2
        refine ⟨{ e with key := .int .i64 k, val := .bool true }, List.mem_of_getElem? (i := j) ?_, ?_⟩
        · rw [Array.getElem?_toList, Array.getElem?_modify, hj]; simp
        · rw [h5] at b; exact b
      · refine ⟨x, List.mem_of_getElem? (i := i) ?_, b⟩
        rw [Array.getElem?_toList, Array.getElem?_modify, if_neg hij, hi2]
end
section
variable {P : Program} {ops : Array Oper} {Q : Exit → Act → World → Prop}
/-- An operation that writes, and has no result. -/
theorem skip_event {rest : List Oper} {o : Oper} {a : Act} {W w1 : World} (hgd : o.guard = none) (hN : o.dst = none)
    (hrun : (execOp a.eval o).run P W = .ok .skip w1) (h : ∀ w', w' = w1 → wpList P ops Q rest a w') : wpList P ops Q (o :: rest) a W := by
  refine wpList_plain hgd fun K hK => ?_
  unfold Oper.wp
  rw [hrun]
  show K (a.put o.dst undef) w1
  rw [hN]
  exact hK _ _ (h _ rfl)
theorem lookup_event {rest : List Oper} {o : Oper} {a : Act} {W : World} (N : Tmp) (hgd : o.guard = none) (hd : o.dst = some N) {mt : TypeId} {m k : Operand} (ho : o.op = .lookup mt m k false) {mv kv u : Value} (hmv : a.eval m = mv) (hkv : a.eval k = kv)
    (hr : (Instr.lookup mt mv kv false).run P W = .ok u W) (h : wpList P ops Q rest (a.put (some N) u) W) : wpList P ops Q (o :: rest) a W := by
  refine Kd.event_run hgd (v := u) (w1 := W) ?_ (by rw [hd]; exact h)
  unfold execOp
  simp [ho, hmv, hkv, hr, Result.andThen]
theorem update_event {rest : List Oper} {o : Oper} {a : Act} {W w1 : World} (hgd : o.guard = none) (hN : o.dst = none) {mt : TypeId} {m k v : Operand} (ho : o.op = .mapUpdate mt m k v) {mv kv u : Value} (hmv : a.eval m = mv) (hkv : a.eval k = kv) (hu : a.eval v = u)
    (hr : (Instr.mapUpdate mt mv kv u).run P W = .ok () w1) (h : wpList P ops Q rest a w1) : wpList P ops Q (o :: rest) a W := by
  refine skip_event hgd hN (w1 := w1) ?_ (fun w' e => e ▸ h)
  unfold execOp
  simp [ho, hmv, hkv, hu, hr, Result.andThen]
theorem gate_lookup {rest : List Oper} {o : Oper} {a : Act} {W : World} {t : TypeId} {m k : Operand} {c : Bool} (_ho : o.op = .lookup t m k c) (h : wpList P ops Q (o :: rest) a W) : wpList P ops Q (o :: rest) a W := h
theorem gate_update {rest : List Oper} {o : Oper} {a : Act} {W : World} {t : TypeId} {m k v : Operand} (_ho : o.op = .mapUpdate t m k v) (h : wpList P ops Q (o :: rest) a W) : wpList P ops Q (o :: rest) a W := h
end
end Go.Proofs.Ytjlehbncpjccmaa.Q
namespace Go.Proofs.Ytjlehbncpjccmaa.Q
open Go.RowKit Go.Proofs.YtjlehbncpjccmaaW.PrintWords Go.Proofs.YtjlehbncpjccmaaW.PrintLast Go.Proofs.YtjlehbncpjccmaaW.PrintMore
attribute [local go_sem] max2_int min2_int max_two min_two max_three min_three max_four min_four   -- for this text's walks alone
set_option linter.unusedVariables false
set_option linter.unusedSimpArgs false

/-! ### aig_variable: function 79 -/
def aig_variable.f (a0 : Int) : Option (Bool) := if a0 ≥ 1 then (some (decide (a0 ≤ 65536))) else (some false)
set_option maxHeartbeats 8000000 in
set_option maxRecDepth 100000 in
theorem aig_variable.calls (a0 : Int) (r : Bool) (w : World) (h : aig_variable.f a0 = some r) :
    Calls Try.prog 79 #[.int .i64 a0] w fun e w' => e = .returned (.bool r) ∧ Drawn0 w w' := by
  have H : (if a0 ≥ 1 then (some (decide (a0 ≤ 65536))) else (some false)) = some r := h
  clear h
  by_cases c2 : a0 ≥ 1
  · rw [if_pos c2] at H
    have c2b0 : decide (1 ≤ a0) = true := decide_eq_true c2
    clear c2
    obtain rfl := Option.some.inj H
    go_enter Try.func79, Try.ntmps79
    go_wp2
    go_ret
    exact ⟨by first | rfl | (simp; done) | (simp [*]; done), by repeat (first | exact Drawn0.refl _ | apply Drawn0.step)⟩
  · rw [if_neg c2] at H
    have c2b0 : decide (1 ≤ a0) = false := decide_eq_false c2
    clear c2
    obtain rfl := Option.some.inj H
    go_enter Try.func79, Try.ntmps79
    go_wp2
    go_ret
    exact ⟨by first | rfl | (simp; done) | (simp [*]; done), by repeat (first | exact Drawn0.refl _ | apply Drawn0.step)⟩

end Go.Proofs.Ytjlehbncpjccmaa.Q
namespace Go.Proofs.Ytjlehbncpjccmaa.Q
open Go.RowKit Go.Proofs.YtjlehbncpjccmaaW.PrintWords Go.Proofs.YtjlehbncpjccmaaW.PrintLast Go.Proofs.YtjlehbncpjccmaaW.PrintMore
attribute [local go_sem] max2_int min2_int max_two min_two max_three min_three max_four min_four   -- for this text's walks alone
set_option linter.unusedVariables false
set_option linter.unusedSimpArgs false

/-! ### aig_inputs: function 81 -/
def aig_inputs.l0 : Nat → Int → List Int → Int → Int → Option (Bool)
  | 0, _, _, _, _ => none
  | k + 1, x3, x6, x7, x8 => if x8 < x7 then (if 0 ≤ x8 then (if x8 < (x6.length : Int) then ((aig_variable.f (rd x6 x8)).bind fun t121 => (if t121 = true then (if (rd x6 x8) ≤ x3 then (some false) else (aig_inputs.l0 k (rd x6 x8) x6 x7 (wrap64 (x8 + 1)))) else (some false))) else (none)) else (none)) else (some true)
def aig_inputs.f (k : Nat) (l0 : List Int) : Option (Bool) := aig_inputs.l0 k 0 l0 (l0.length : Int) 0
theorem aig_inputs.mono_l : ∀ k, (∀ y0 y1 y2 y3, LeO (aig_inputs.l0 k y0 y1 y2 y3) (aig_inputs.l0 (k + 1) y0 y1 y2 y3))
  | 0 => fun _ _ _ _ r h => by simp [aig_inputs.l0] at h
  | k + 1 => by
    have ih0 := aig_inputs.mono_l k
    · intro y0 y1 y2 y3
      unfold aig_inputs.l0
      repeat' first
      | (with_reducible exact ih0 _ _ _ _)
      | (with_reducible exact LeO.refl _)
      | (with_reducible exact LeO.none _)
      | (with_reducible refine LeO.ite ?_ ?_)
      | (with_reducible refine LeO.bind ?_ (fun _ => ?_))
      | exact ih0 _ _ _ _
      | exact LeO.none _
      | refine LeO.ite ?_ ?_
      | refine LeO.bind ?_ (fun _ => ?_)
theorem aig_inputs.mono : ∀ a0 k, LeO (aig_inputs.f k a0) (aig_inputs.f (k + 1) a0) := by
  intro a0 k
  have ih0 := aig_inputs.mono_l k
  unfold aig_inputs.f
  repeat' first
      | (with_reducible exact ih0 _ _ _ _)
      | (with_reducible exact LeO.refl _)
      | (with_reducible exact LeO.none _)
      | (with_reducible refine LeO.ite ?_ ?_)
      | (with_reducible refine LeO.bind ?_ (fun _ => ?_))
      | exact ih0 _ _ _ _
      | exact LeO.none _
      | refine LeO.ite ?_ ?_
      | refine LeO.bind ?_ (fun _ => ?_)
set_option maxHeartbeats 8000000 in
set_option maxRecDepth 100000 in
theorem aig_inputs.calls (k : Nat) (A0 : Option Addr) (c0 : Nat) (l0 : List Int) (r : Bool) (w : World) (hr0 : Kd.C (Kd.int .i64) w A0 l0.length l0) (hc0 : l0.length ≤ c0) (h : aig_inputs.f k l0 = some r) :
    Calls Try.prog 81 #[.slice A0 l0.length c0] w fun e w' => e = .returned (.bool r) ∧ Drawn0 w w' := by
  have HR0 := Aside0.mk hr0
  have HC0 := Aside0.mk hc0
  clear hr0 hc0
  have H : (aig_inputs.l0 k 0 l0 (l0.length : Int) 0) = some r := h
  clear h
  have H' := Aside0.mk H
  clear H
  go_enter Try.func81, Try.ntmps81
  go_wp2
  go_loopg [3, 8] k (fun kq v3 v8 w' => ∃ (x3_1 : Int) (x8_1 : Int), v3 = .int .i64 x3_1 ∧ v8 = .int .i64 x8_1 ∧ Aside0 (aig_inputs.l0 kq x3_1 l0 (l0.length : Int) x8_1 = some r) ∧ Aside0 (kq ≤ k) ∧ Drawn0 w w')
  case atStart => exact ⟨(0), (0), qz22, qz22, H', ⟨Nat.le_refl _⟩, by repeat (first | exact Drawn0.refl _ | apply Drawn0.step)⟩
  case round =>
    clear H'
    obtain ⟨x3_1, x8_1, rfl, rfl, HA, HK1, ⟨m1, rfl⟩⟩ := hrel
    cases gk with
    | zero => exact absurd HA.out (by simp [aig_inputs.l0])
    | succ k1 =>
      have H := HA.out
      clear HA
      simp only [aig_inputs.l0] at H
      by_cases c2 : x8_1 < (l0.length : Int)
      · rw [if_pos c2] at H
        have c2b0 : decide (x8_1 < (l0.length : Int)) = true := decide_eq_true c2
        clear c2
        by_cases c3 : 0 ≤ x8_1
        case neg => rw [if_neg c3] at H; exact absurd H (by simp)
        rw [if_pos c3] at H
        have c3b0 : decide (0 ≤ x8_1) = true := decide_eq_true c3
        clear c3
        by_cases c4 : x8_1 < (l0.length : Int)
        case neg => rw [if_neg c4] at H; exact absurd H (by simp)
        rw [if_pos c4] at H
        have c4b0 : decide (x8_1 < (l0.length : Int)) = true := decide_eq_true c4
        clear c4
        replace H := Option.bind_eq_some_iff.mp H
        obtain ⟨t121, A50, H⟩ := H
        replace H : (if t121 = true then (if (rd l0 x8_1) ≤ x3_1 then (some false) else (aig_inputs.l0 k1 (rd l0 x8_1) l0 (l0.length : Int) (wrap64 (x8_1 + 1)))) else (some false)) = some r := H
        have A5 := Aside0.mk A50
        clear A50
        by_cases c6 : t121 = true
        · subst c6
          have H1 : (if (rd l0 x8_1) ≤ x3_1 then (some false) else (aig_inputs.l0 k1 (rd l0 x8_1) l0 (l0.length : Int) (wrap64 (x8_1 + 1)))) = some r := by rw [if_pos rfl] at H; exact H
          clear H
          have H := H1
          clear H1
          by_cases c7 : (rd l0 x8_1) ≤ x3_1
          · rw [if_pos c7] at H
            have c7b0 : decide ((rd l0 x8_1) ≤ x3_1) = true := decide_eq_true c7
            clear c7
            obtain rfl := Option.some.inj H
            have p120 : 0 ≤ (x8_1 : Int) := of_decide_eq_true qz21
            have q120 : x8_1 < (l0.length : Int) := of_decide_eq_true qz21
            obtain ⟨ad120, e120, hx120_0⟩ := Kd.at_int HR0.out x8_1 p120 q120
            cases e120
            replace p120 := eq_true p120
            replace q120 := eq_true q120
            go_wp2_with (first | ((with_reducible refine gate_callee (f := 79) rfl ?_); refine goesL_ (some 13) rfl rfl Try.func79 (by kernel_rfl) rfl #[.int .i64 (rd l0 x8_1)] rfl qz12 ?_; (with_reducible refine (aig_variable.calls (rd l0 x8_1) true _ A5.out).mono ?_); rintro e w' ⟨rfl, ⟨nd, rfl⟩⟩; refine ⟨_, rfl, ?_⟩))
            go_ret
            exact ⟨by first | rfl | (simp; done) | (simp [*]; done), by repeat (first | exact Drawn0.refl _ | apply Drawn0.step)⟩
          · rw [if_neg c7] at H
            have c7b0 : decide ((rd l0 x8_1) ≤ x3_1) = false := decide_eq_false c7
            clear c7
            have H' := Aside0.mk H
            clear H
            have p120 : 0 ≤ (x8_1 : Int) := of_decide_eq_true qz21
            have q120 : x8_1 < (l0.length : Int) := of_decide_eq_true qz21
            obtain ⟨ad120, e120, hx120_0⟩ := Kd.at_int HR0.out x8_1 p120 q120
            cases e120
            replace p120 := eq_true p120
            replace q120 := eq_true q120
            go_wp2_with (first | ((with_reducible refine gate_callee (f := 79) rfl ?_); refine goesL_ (some 13) rfl rfl Try.func79 (by kernel_rfl) rfl #[.int .i64 (rd l0 x8_1)] rfl qz12 ?_; (with_reducible refine (aig_variable.calls (rd l0 x8_1) true _ A5.out).mono ?_); rintro e w' ⟨rfl, ⟨nd, rfl⟩⟩; refine ⟨_, rfl, ?_⟩))
            go_roundg k1
            case measure => have := HK1.out; omega
            case rel => exact ⟨(rd l0 x8_1), (wrap64 (x8_1 + 1)), qz22, qz22, H', ⟨by have := HK1.out; omega⟩, by repeat (first | exact Drawn0.refl _ | apply Drawn0.step)⟩
        · replace c6 := Bool.eq_false_iff.mpr c6
          subst c6
          have H1 : (some false) = some r := by rw [if_neg (show ¬ (false = true) by decide)] at H; exact H
          clear H
          have H := H1
          clear H1
          obtain rfl := Option.some.inj H
          have p120 : 0 ≤ (x8_1 : Int) := of_decide_eq_true qz21
          have q120 : x8_1 < (l0.length : Int) := of_decide_eq_true qz21
          obtain ⟨ad120, e120, hx120_0⟩ := Kd.at_int HR0.out x8_1 p120 q120
          cases e120
          replace p120 := eq_true p120
          replace q120 := eq_true q120
          go_wp2_with (first | ((with_reducible refine gate_callee (f := 79) rfl ?_); refine goesL_ (some 13) rfl rfl Try.func79 (by kernel_rfl) rfl #[.int .i64 (rd l0 x8_1)] rfl qz12 ?_; (with_reducible refine (aig_variable.calls (rd l0 x8_1) false _ A5.out).mono ?_); rintro e w' ⟨rfl, ⟨nd, rfl⟩⟩; refine ⟨_, rfl, ?_⟩))
          go_ret
          exact ⟨by first | rfl | (simp; done) | (simp [*]; done), by repeat (first | exact Drawn0.refl _ | apply Drawn0.step)⟩
      · rw [if_neg c2] at H
        have c2b0 : decide (x8_1 < (l0.length : Int)) = false := decide_eq_false c2
        clear c2
        obtain rfl := Option.some.inj H
        go_wp2
        go_ret
        exact ⟨by first | rfl | (simp; done) | (simp [*]; done), by repeat (first | exact Drawn0.refl _ | apply Drawn0.step)⟩

end Go.Proofs.Ytjlehbncpjccmaa.Q
namespace Go.Proofs.Ytjlehbncpjccmaa.Q
open Go.RowKit Go.Proofs.YtjlehbncpjccmaaW.PrintWords Go.Proofs.YtjlehbncpjccmaaW.PrintLast Go.Proofs.YtjlehbncpjccmaaW.PrintMore
attribute [local go_sem] max2_int min2_int max_two min_two max_three min_three max_four min_four   -- for this text's walks alone
set_option linter.unusedVariables false
set_option linter.unusedSimpArgs false

/-! ### aig_normal: function 61 -/
def aig_normal.l0 : Nat → Int → List Int → Int → Int → Option (Bool)
  | 0, _, _, _, _ => none
  | k + 1, x3, x7, x8, x9 => if x9 < x8 then (if 0 ≤ x9 then (if x9 < (x7.length : Int) then ((aig_variable.f (mx (rd x7 x9) (wrap64 (-(rd x7 x9))))).bind fun t123 => (if t123 = true then (if (mx (rd x7 x9) (wrap64 (-(rd x7 x9)))) ≤ x3 then (some false) else (aig_normal.l0 k (mx (rd x7 x9) (wrap64 (-(rd x7 x9)))) x7 x8 (wrap64 (x9 + 1)))) else (some false))) else (none)) else (none)) else (some true)
def aig_normal.f (k : Nat) (l0 : List Int) : Option (Bool) := aig_normal.l0 k 0 l0 (l0.length : Int) 0
theorem aig_normal.mono_l : ∀ k, (∀ y0 y1 y2 y3, LeO (aig_normal.l0 k y0 y1 y2 y3) (aig_normal.l0 (k + 1) y0 y1 y2 y3))
  | 0 => fun _ _ _ _ r h => by simp [aig_normal.l0] at h
  | k + 1 => by
    have ih0 := aig_normal.mono_l k
    · intro y0 y1 y2 y3
      unfold aig_normal.l0
      repeat' first
      | (with_reducible exact ih0 _ _ _ _)
      | (with_reducible exact LeO.refl _)
      | (with_reducible exact LeO.none _)
      | (with_reducible refine LeO.ite ?_ ?_)
      | (with_reducible refine LeO.bind ?_ (fun _ => ?_))
      | exact ih0 _ _ _ _
      | exact LeO.none _
      | refine LeO.ite ?_ ?_
      | refine LeO.bind ?_ (fun _ => ?_)
theorem aig_normal.mono : ∀ a0 k, LeO (aig_normal.f k a0) (aig_normal.f (k + 1) a0) := by
  intro a0 k
  have ih0 := aig_normal.mono_l k
  unfold aig_normal.f
  repeat' first
      | (with_reducible exact ih0 _ _ _ _)
      | (with_reducible exact LeO.refl _)
      | (with_reducible exact LeO.none _)
      | (with_reducible refine LeO.ite ?_ ?_)
      | (with_reducible refine LeO.bind ?_ (fun _ => ?_))
      | exact ih0 _ _ _ _
      | exact LeO.none _
      | refine LeO.ite ?_ ?_
      | refine LeO.bind ?_ (fun _ => ?_)
set_option maxHeartbeats 8000000 in
set_option maxRecDepth 100000 in
theorem aig_normal.calls (k : Nat) (A0 : Option Addr) (c0 : Nat) (l0 : List Int) (r : Bool) (w : World) (hr0 : Kd.C (Kd.int .i64) w A0 l0.length l0) (hc0 : l0.length ≤ c0) (h : aig_normal.f k l0 = some r) :
    Calls Try.prog 61 #[.slice A0 l0.length c0] w fun e w' => e = .returned (.bool r) ∧ Below w.heap.size w w' := by
  have HR0 := Aside0.mk hr0
  have HC0 := Aside0.mk hc0
  clear hr0 hc0
  have HB := Aside0.mk (Below.refl w.heap.size w)
  have H : (aig_normal.l0 k 0 l0 (l0.length : Int) 0) = some r := h
  clear h
  have H' := Aside0.mk H
  clear H
  go_enter Try.func61, Try.ntmps61
  go_wp2
  go_loopg [3, 9] k (fun kq v3 v9 w' => ∃ (x3_1 : Int) (x9_1 : Int), v3 = .int .i64 x3_1 ∧ v9 = .int .i64 x9_1 ∧ Aside0 (aig_normal.l0 kq x3_1 l0 (l0.length : Int) x9_1 = some r) ∧ Aside0 (kq ≤ k) ∧ Aside0 (Below w.heap.size w w'))
  case atStart => exact ⟨(0), (0), qz22, qz22, H', ⟨Nat.le_refl _⟩, ⟨by repeat (first | (with_reducible first | exact HB.out | apply below_alloc | apply pw_below_drewN | apply below_drew1) | exact HB.out)⟩⟩
  case round =>
    clear H'
    obtain ⟨x3_1, x9_1, rfl, rfl, HA, HK1, HB⟩ := hrel
    cases gk with
    | zero => exact absurd HA.out (by simp [aig_normal.l0])
    | succ k1 =>
      have H := HA.out
      clear HA
      simp only [aig_normal.l0] at H
      by_cases c2 : x9_1 < (l0.length : Int)
      · rw [if_pos c2] at H
        have c2b0 : decide (x9_1 < (l0.length : Int)) = true := decide_eq_true c2
        clear c2
        by_cases c3 : 0 ≤ x9_1
        case neg => rw [if_neg c3] at H; exact absurd H (by simp)
        rw [if_pos c3] at H
        have c3b0 : decide (0 ≤ x9_1) = true := decide_eq_true c3
        clear c3
        by_cases c4 : x9_1 < (l0.length : Int)
        case neg => rw [if_neg c4] at H; exact absurd H (by simp)
        rw [if_pos c4] at H
        have c4b0 : decide (x9_1 < (l0.length : Int)) = true := decide_eq_true c4
        clear c4
        obtain ⟨ji5, hji5⟩ : ∃ j_ : Int, (mx (rd l0 x9_1) (wrap64 (-(rd l0 x9_1)))) = j_ := ⟨_, rfl⟩
        replace H : ((aig_variable.f (ji5)).bind fun t123 => (if t123 = true then (if (ji5) ≤ x3_1 then (some false) else (aig_normal.l0 k1 ji5 l0 (l0.length : Int) (wrap64 (x9_1 + 1)))) else (some false))) = some r := by first | (rw [hji5] at H; exact H) | (simp only [hji5] at H ⊢; exact H)
        have hji5_ : (if (rd l0 x9_1) < (wrap64 (-(rd l0 x9_1))) then (wrap64 (-(rd l0 x9_1))) else (rd l0 x9_1)) = ji5 := hji5
        replace H := Option.bind_eq_some_iff.mp H
        obtain ⟨t123, A60, H⟩ := H
        replace H : (if t123 = true then (if (ji5) ≤ x3_1 then (some false) else (aig_normal.l0 k1 ji5 l0 (l0.length : Int) (wrap64 (x9_1 + 1)))) else (some false)) = some r := H
        have A6 := Aside0.mk A60
        clear A60
        by_cases c7 : t123 = true
        · subst c7
          have H1 : (if (ji5) ≤ x3_1 then (some false) else (aig_normal.l0 k1 ji5 l0 (l0.length : Int) (wrap64 (x9_1 + 1)))) = some r := by rw [if_pos rfl] at H; exact H
          clear H
          have H := H1
          clear H1
          by_cases c8 : (ji5) ≤ x3_1
          · rw [if_pos c8] at H
            have c8b0 : decide ((ji5) ≤ x3_1) = true := decide_eq_true c8
            clear c8
            obtain rfl := Option.some.inj H
            have p122 : 0 ≤ (x9_1 : Int) := of_decide_eq_true qz21
            have q122 : x9_1 < (l0.length : Int) := of_decide_eq_true qz21
            obtain ⟨ad122, e122, hx122_0⟩ := Kd.at_int HR0.out x9_1 p122 q122
            cases e122
            replace hx122_0 := (HB.out.cell (World.block_lt_of_cell? w _ hx122_0)).trans hx122_0
            replace p122 := eq_true p122
            replace q122 := eq_true q122
            go_wp2_with (first | ((with_reducible refine gate_callee (f := 79) rfl ?_); refine goesL_ (some 18) rfl rfl Try.func79 (by kernel_rfl) rfl #[.int .i64 ji5] rfl qz2 ?_; (with_reducible refine (aig_variable.calls ji5 true _ A6.out).mono ?_); rintro e w' ⟨rfl, ⟨nd, rfl⟩⟩; refine ⟨_, rfl, ?_⟩))
            go_ret
            exact ⟨by first | rfl | (simp [errW_none, errW_some] <;> rfl) | (simp only [← hji5]; first | rfl | (simp [errW_none, errW_some] <;> rfl)) | (simp [*, errW_none, errW_some] <;> rfl), by repeat (first | (with_reducible first | exact HB.out | apply below_alloc | apply pw_below_drewN | apply below_drew1) | exact HB.out)⟩
          · rw [if_neg c8] at H
            have c8b0 : decide ((ji5) ≤ x3_1) = false := decide_eq_false c8
            clear c8
            have H' := Aside0.mk H
            clear H
            have p122 : 0 ≤ (x9_1 : Int) := of_decide_eq_true qz21
            have q122 : x9_1 < (l0.length : Int) := of_decide_eq_true qz21
            obtain ⟨ad122, e122, hx122_0⟩ := Kd.at_int HR0.out x9_1 p122 q122
            cases e122
            replace hx122_0 := (HB.out.cell (World.block_lt_of_cell? w _ hx122_0)).trans hx122_0
            replace p122 := eq_true p122
            replace q122 := eq_true q122
            go_wp2_with (first | ((with_reducible refine gate_callee (f := 79) rfl ?_); refine goesL_ (some 18) rfl rfl Try.func79 (by kernel_rfl) rfl #[.int .i64 ji5] rfl qz2 ?_; (with_reducible refine (aig_variable.calls ji5 true _ A6.out).mono ?_); rintro e w' ⟨rfl, ⟨nd, rfl⟩⟩; refine ⟨_, rfl, ?_⟩))
            go_roundg k1
            case measure => have := HK1.out; omega
            case rel => exact ⟨(ji5), (wrap64 (x9_1 + 1)), (by first | rfl | (simp; done) | (simp only [← hji5] <;> (first | rfl | simp)) | (simp [*]; done)), qz22, H', ⟨by have := HK1.out; omega⟩, ⟨by repeat (first | (with_reducible first | exact HB.out | apply below_alloc | apply pw_below_drewN | apply below_drew1) | exact HB.out)⟩⟩
        · replace c7 := Bool.eq_false_iff.mpr c7
          subst c7
          have H1 : (some false) = some r := by rw [if_neg (show ¬ (false = true) by decide)] at H; exact H
          clear H
          have H := H1
          clear H1
          obtain rfl := Option.some.inj H
          have p122 : 0 ≤ (x9_1 : Int) := of_decide_eq_true qz21
          have q122 : x9_1 < (l0.length : Int) := of_decide_eq_true qz21
          obtain ⟨ad122, e122, hx122_0⟩ := Kd.at_int HR0.out x9_1 p122 q122
          cases e122
          replace hx122_0 := (HB.out.cell (World.block_lt_of_cell? w _ hx122_0)).trans hx122_0
          replace p122 := eq_true p122
          replace q122 := eq_true q122
          go_wp2_with (first | ((with_reducible refine gate_callee (f := 79) rfl ?_); refine goesL_ (some 18) rfl rfl Try.func79 (by kernel_rfl) rfl #[.int .i64 ji5] rfl qz2 ?_; (with_reducible refine (aig_variable.calls ji5 false _ A6.out).mono ?_); rintro e w' ⟨rfl, ⟨nd, rfl⟩⟩; refine ⟨_, rfl, ?_⟩))
          go_ret
          exact ⟨by first | rfl | (simp [errW_none, errW_some] <;> rfl) | (simp only [← hji5]; first | rfl | (simp [errW_none, errW_some] <;> rfl)) | (simp [*, errW_none, errW_some] <;> rfl), by repeat (first | (with_reducible first | exact HB.out | apply below_alloc | apply pw_below_drewN | apply below_drew1) | exact HB.out)⟩
      · rw [if_neg c2] at H
        have c2b0 : decide (x9_1 < (l0.length : Int)) = false := decide_eq_false c2
        clear c2
        obtain rfl := Option.some.inj H
        go_wp2
        go_ret
        exact ⟨by first | rfl | (simp [errW_none, errW_some] <;> rfl) | (simp [*, errW_none, errW_some] <;> rfl), by repeat (first | (with_reducible first | exact HB.out | apply below_alloc | apply pw_below_drewN | apply below_drew1) | exact HB.out)⟩

end Go.Proofs.Ytjlehbncpjccmaa.Q
namespace Go.Proofs.Ytjlehbncpjccmaa.Q
open Go.RowKit Go.Proofs.YtjlehbncpjccmaaW.PrintWords Go.Proofs.YtjlehbncpjccmaaW.PrintLast Go.Proofs.YtjlehbncpjccmaaW.PrintMore
attribute [local go_sem] max2_int min2_int max_two min_two max_three min_three max_four min_four   -- for this text's walks alone
set_option linter.unusedVariables false
set_option linter.unusedSimpArgs false

/-! ### aig_value: function 68 -/
def aig_value.f (l0 : List Bool) (a1 : Int) : Option (Bool) := if 0 ≤ (a1 / 2) then (if (a1 / 2) < (l0.length : Int) then (some ((rdOf false l0 (a1 / 2)) != ((Go.bits .and .i64 a1 1) == 1))) else (none)) else (none)
set_option maxHeartbeats 8000000 in
set_option maxRecDepth 100000 in
theorem aig_value.calls (A0 : Option Addr) (c0 : Nat) (l0 : List Bool) (a1 : Int) (r : Bool) (w : World) (hr0 : Kd.C Kd.bool w A0 l0.length l0) (hc0 : l0.length ≤ c0) (h : aig_value.f l0 a1 = some r) :
    Calls Try.prog 68 #[.slice A0 l0.length c0, .int .i64 a1] w fun e w' => e = .returned (.bool r) ∧ Drawn0 w w' := by
  have HR0 := Aside0.mk hr0
  have HC0 := Aside0.mk hc0
  clear hr0 hc0
  have H : (if 0 ≤ (a1 / 2) then (if (a1 / 2) < (l0.length : Int) then (some ((rdOf false l0 (a1 / 2)) != ((Go.bits .and .i64 a1 1) == 1))) else (none)) else (none)) = some r := h
  clear h
  obtain ⟨ji3, hji3⟩ : ∃ j_ : Int, (a1 / 2) = j_ := ⟨_, rfl⟩
  replace H : (if 0 ≤ (ji3) then (if (ji3) < (l0.length : Int) then (some ((rdOf false l0 (ji3)) != ((Go.bits .and .i64 a1 1) == 1))) else (none)) else (none)) = some r := by first | (rw [hji3] at H; exact H) | (simp only [hji3] at H ⊢; exact H)
  by_cases c4 : 0 ≤ (ji3)
  · rw [if_pos c4] at H
    have c4b0 : decide (0 ≤ (ji3)) = true := decide_eq_true c4
    clear c4
    by_cases c5 : (ji3) < (l0.length : Int)
    case neg => rw [if_neg c5] at H; exact absurd H (by simp)
    rw [if_pos c5] at H
    have c5b0 : decide ((ji3) < (l0.length : Int)) = true := decide_eq_true c5
    clear c5
    obtain rfl := Option.some.inj H
    have p124 : 0 ≤ ((ji3) : Int) := of_decide_eq_true qz21
    have q124 : (ji3) < (l0.length : Int) := of_decide_eq_true qz21
    obtain ⟨ad124, e124, hx124_0⟩ := Kd.at_bool HR0.out (ji3) p124 q124
    cases e124
    replace p124 := eq_true p124
    replace q124 := eq_true q124
    go_enter Try.func68, Try.ntmps68
    go_wp2
    go_ret
    exact ⟨by first | rfl | (simp; done) | (simp only [← hji3] <;> (first | rfl | simp)) | (simp [*]; done), by repeat (first | exact Drawn0.refl _ | apply Drawn0.step)⟩
  · rw [if_neg c4] at H
    exact absurd H (by simp)

end Go.Proofs.Ytjlehbncpjccmaa.Q
namespace Go.Proofs.Ytjlehbncpjccmaa.Q
open Go.RowKit Go.Proofs.YtjlehbncpjccmaaW.PrintWords Go.Proofs.YtjlehbncpjccmaaW.PrintLast Go.Proofs.YtjlehbncpjccmaaW.PrintMore
attribute [local go_sem] max2_int min2_int max_two min_two max_three min_three max_four min_four
set_option linter.unusedVariables false
set_option linter.unusedSimpArgs false

theorem info90n : (Try.prog.info? 90).map (·.size) = some 2 := by kernel_rfl
theorem C_nilI (W : World) : Kd.C (Kd.int .i64) W none ([] : List Int).length ([] : List Int) := Kd.C_nil _ W
set_option maxHeartbeats 1600000 in
theorem nodes0.calls (w : World) : Calls Try.prog 62 #[.agg #[.slice none 0 0, .slice none 0 0]] w fun e w' => e = .returned (.int .i64 1) ∧ Below w.heap.size w w' := by
  have HB := Aside0.mk (Below.refl w.heap.size w)
  go_enter Try.func62, Try.ntmps62
  go_wp2_with (first | ((with_reducible refine gate_dst (N := 1) rfl ?_); (try (refine gate_guard (by rfl) ?_; dsimp only)); refine box_event ?hg (N := 1) ?hd (cs := #[.slice none 0 0, .slice none 0 0]) (t := 90) ?hr ?_; (case hd => rfl); (case hg => rfl); (case hr => exact qz23); intro b1 hb1_ w_b1 hbox hb_; have n0_ := Aside0.mk (below_then HB.out HB.out.size hb_); have Bb1 := Aside0.mk hbox; clear hbox; have f0_ : w_b1.cell? ⟨b1, 0, none⟩ = some (.slice none 0 0) := (blk_cell Bb1.out 0).trans rfl; have f1_ : w_b1.cell? ⟨b1, 1, none⟩ = some (.slice none 0 0) := (blk_cell Bb1.out 1).trans rfl; clear hb_; clear hb1_; (try clear HB); have HB := n0_; clear n0_))
  go_ret
  exact ⟨rfl, HB.out⟩
set_option maxHeartbeats 1600000 in
theorem may0.calls (w : World) : Calls Try.prog 77 #[.agg #[.slice none 0 0, .slice none 0 0]] w fun e w' => e = .returned (.bool true) ∧ Below w.heap.size w w' := by
  have HB := Aside0.mk (Below.refl w.heap.size w)
  go_enter Try.func77, Try.ntmps77
  go_wp2_with (first | ((with_reducible refine gate_dst (N := 1) rfl ?_); (try (refine gate_guard (by rfl) ?_; dsimp only)); refine box_event ?hg (N := 1) ?hd (cs := #[.slice none 0 0, .slice none 0 0]) (t := 90) ?hr ?_; (case hd => rfl); (case hg => rfl); (case hr => exact qz23); intro b1 hb1_ w_b1 hbox hb_; have n0_ := Aside0.mk (below_then HB.out HB.out.size hb_); have Bb1 := Aside0.mk hbox; clear hbox; have f0_ : w_b1.cell? ⟨b1, 0, none⟩ = some (.slice none 0 0) := (blk_cell Bb1.out 0).trans rfl; have f1_ : w_b1.cell? ⟨b1, 1, none⟩ = some (.slice none 0 0) := (blk_cell Bb1.out 1).trans rfl; clear hb_; clear hb1_; (try clear HB); have HB := n0_; clear n0_) | ((with_reducible refine gate_callee (f := 81) rfl ?_); (try (refine gate_guard (by rfl) ?_; dsimp only)); refine goesL_ (some 8) rfl rfl Try.func81 (by kernel_rfl) rfl #[.slice none 0 0] rfl qz20 ?_; refine (aig_inputs.calls 1 none 0 [] true _ (C_nilI _) (Nat.le_refl _) rfl).mono ?_; rintro e_ w_ ⟨rfl, hb_⟩; replace hb_ := hb_.below; have Cb1 := Aside0.mk (blk_below Bb1.out hb_); have HB1 := Aside0.mk (below_then HB.out HB.out.size hb_); clear Bb1 HB hb_ f0_ f1_; have HB := HB1; clear HB1; refine ⟨_, rfl, ?_⟩) | ((with_reducible refine gate_dst (N := 11) rfl ?_); (try (refine gate_guard (by rfl) ?_; dsimp only)); refine wpList_load_row rfl 90 (.tmp 1) rfl b1 rfl 90 (#[.slice none 0 0, .slice none 0 0]) (0, 0) _ Cb1.out Try.underlying90 rfl info90n ?_) | ((with_reducible refine gate_callee (f := 62) rfl ?_); (try (refine gate_guard (by rfl) ?_; dsimp only)); refine goesL_ (some 12) rfl rfl Try.func62 (by kernel_rfl) rfl #[.agg #[.slice none 0 0, .slice none 0 0]] rfl qz20 ?_; refine (nodes0.calls _).mono ?_; rintro e_ w_ ⟨rfl, hb_⟩; have Db1 := Aside0.mk (blk_below Cb1.out hb_); have HB1 := Aside0.mk (below_then HB.out HB.out.size hb_); clear Cb1 HB hb_; have HB := HB1; clear HB1; have f1_ : w_.cell? ⟨b1, 1, none⟩ = some (.slice none 0 0) := (blk_cell Db1.out 1).trans rfl; refine ⟨_, rfl, ?_⟩))
  go_loopg [18] 0 (fun kq v18 wr => v18 = .int .i64 0 ∧ Aside0 (Below w.heap.size w wr))
  case atStart => exact ⟨rfl, HB⟩
  case round =>
    clear HB
    obtain ⟨rfl, HB⟩ := hrel
    go_wp2
    go_ret
    exact ⟨rfl, HB.out⟩
theorem all1_predQ (w : World) (b : Nat) (hb : w.heap[b]? = some (.cells #[.int .i64 1] 3 (0, 0))) :
    PredQ Try.prog (Kd.int .i64) (fun cs => cs.headD .nilIface) (.func (.func 78) #[] #[.pointer (some ⟨b, 0, none⟩)]) (fun x => x = 0) (fun _ => false) w 78 #[.pointer (some ⟨b, 0, none⟩)] Try.f78 := by
  refine ⟨rfl, Try.func78, by kernel_rfl, rfl, ?_⟩
  intro W x cs hB hK hx
  obtain rfl := hx
  obtain rfl : cs = [.int .i64 0] := hK
  have hW : W.cell? ⟨b, 0, none⟩ = some (.int .i64 1) := (blk_cell ((hB.block b (blk_lt hb)).trans hb) 0).trans rfl
  show Calls Try.prog 78 #[.int .i64 0, .pointer (some ⟨b, 0, none⟩)] W _
  go_enter Try.func78, Try.ntmps78
  go_wp2
  go_ret
  exact ⟨rfl, Drawn0.refl _⟩
set_option maxHeartbeats 1600000 in
theorem all0.calls (A : Option Addr) (c : Nat) (w : World) (hr : Kd.C (Kd.int .i64) w A ([0] : List Int).length [0]) (hc : 1 ≤ c) : Calls Try.prog 60 #[.agg #[.slice none 0 0, .slice none 0 0], .slice A 1 c] w fun e w' => e = .returned (.bool true) ∧ Below w.heap.size w w' := by
  have HR := Aside0.mk hr
  have HB := Aside0.mk (Below.refl w.heap.size w)
  clear hr
  go_enter Try.func60, Try.ntmps60
  go_wp2_with (first | ((with_reducible refine gate_dst (N := 2) rfl ?_); (try (refine gate_guard (by rfl) ?_; dsimp only)); refine box_event ?hg (N := 2) ?hd (cs := #[.slice none 0 0, .slice none 0 0]) (t := 90) ?hr ?_; (case hd => rfl); (case hg => rfl); (case hr => exact qz23); intro b2 hb2_ w_b2 hbox hb_; have n0_ := Aside0.mk (below_then HB.out HB.out.size hb_); have Bb2 := Aside0.mk hbox; clear hbox; clear hb_; clear hb2_; (try clear HB); have HB := n0_; clear n0_) | ((with_reducible refine gate_dst (N := 6) rfl ?_); (try (refine gate_guard (by rfl) ?_; dsimp only)); refine wpList_load_row rfl 90 (.tmp 2) rfl b2 rfl 90 (#[.slice none 0 0, .slice none 0 0]) (0, 0) _ Bb2.out Try.underlying90 rfl info90n ?_) | ((with_reducible refine gate_callee (f := 62) rfl ?_); (try (refine gate_guard (by rfl) ?_; dsimp only)); refine goesL_ (some 7) rfl rfl Try.func62 (by kernel_rfl) rfl #[.agg #[.slice none 0 0, .slice none 0 0]] rfl qz20 ?_; refine (nodes0.calls _).mono ?_; rintro e_ w_ ⟨rfl, hb_⟩; have Cb2 := Aside0.mk (blk_below Bb2.out hb_); have HB1 := Aside0.mk (below_then HB.out HB.out.size hb_); clear Bb2 HB hb_; have HB := HB1; clear HB1; refine ⟨_, rfl, ?_⟩) | ((with_reducible refine gate_dst (N := 5) rfl ?_); (try (refine gate_guard (by rfl) ?_; dsimp only)); refine box_event ?hg (N := 5) ?hd (cs := #[.int .i64 0]) (t := 3) ?hr ?_; (case hd => rfl); (case hg => rfl); (case hr => exact qz23); intro b5 hb5_ w_b5 hbox hb_; have n0_ := Aside0.mk (below_then HB.out HB.out.size hb_); have Bb5 := Aside0.mk hbox; clear hbox; have Db2 := Aside0.mk (blk_below Cb2.out hb_); have N25 := Aside0.mk (by have := blk_lt Cb2.out; omega : b2 ≠ b5); have G5 := Aside0.mk (by rw [hb5_]; exact HB.out.size : w.heap.size ≤ b5); clear Cb2; clear hb_; clear hb5_; (try clear HB); have HB := n0_; clear n0_) | ((with_reducible refine gate_store (t := 3) (p := 5) rfl ?_); have f5 : w_b5.cell? ⟨b5, 0, none⟩ = some (.int .i64 0) := (blk_cell Bb5.out 0).trans rfl; have f6 : w_b5.frozen? ⟨b5, 0, none⟩ = false := blk_frozen Bb5.out _; refine store_event (t := 3) (p := 5) (v := .tmp 9) (w1 := w_b5.setCell ⟨b5, 0, none⟩ (.int .i64 1)) ?hg ?ho ?hn ?hr ?_; (case ho => rfl); (case hg => rfl); (case hn => rfl); (case hr => exact qz23); intro w5 hw_; have E2 : Aside0 (w5.heap[b2]? = some (.cells #[.slice none 0 0, .slice none 0 0] 90 (0, 0))) := ⟨by rw [hw_]; exact blk_far Db2.out N25.out _⟩; have E5 : Aside0 (w5.heap[b5]? = some (.cells #[.int .i64 1] 3 (0, 0))) := ⟨by rw [hw_]; exact blk_set Bb5.out 0 (.int .i64 1)⟩; have HB1 : Aside0 (Below w.heap.size w w5) := ⟨by rw [hw_]; exact below_set HB.out G5.out⟩; clear HB f5 f6 hw_; have HB := HB1; clear HB1) | ((with_reducible refine gate_dst (N := 10) rfl ?_); (try (refine gate_guard (by rfl) ?_; dsimp only)); refine wpList_load_row rfl 90 (.tmp 2) rfl b2 rfl 90 (#[.slice none 0 0, .slice none 0 0]) (0, 0) _ E2.out Try.underlying90 rfl info90n ?_) | ((with_reducible refine gate_callee (f := 77) rfl ?_); (try (refine gate_guard (by rfl) ?_; dsimp only)); refine goesL_ (some 11) rfl rfl Try.func77 (by kernel_rfl) rfl #[.agg #[.slice none 0 0, .slice none 0 0]] rfl qz20 ?_; refine (may0.calls _).mono ?_; rintro e_ w_ ⟨rfl, hb_⟩; have F5 := Aside0.mk (blk_below E5.out hb_); have HB1 := Aside0.mk (below_then HB.out HB.out.size hb_); clear E5 HB hb_; have HB := HB1; clear HB1; refine ⟨_, rfl, ?_⟩) | ((with_reducible refine gate_callee (f := 43) rfl ?_); (try (refine gate_guard (by rfl) ?_; dsimp only)); refine goesL_ (some 15) rfl rfl Try.func43 (by kernel_rfl) rfl #[.slice A 1 c, .func (.func 78) #[] #[.pointer (some ⟨b5, 0, none⟩)]] rfl qz20 ?_; refine (any_int.calls (xs := [0]) (Kd.C_below HR.out HB.out) hc (all1_predQ _ b5 F5.out).toK (by simp)).mono ?_; rintro e_ w_ ⟨rfl, hb_⟩; have HB1 := Aside0.mk (below_then HB.out HB.out.size hb_); clear HB hb_; have HB := HB1; clear HB1; refine ⟨_, rfl, ?_⟩))
  go_ret
  exact ⟨rfl, HB.out⟩
set_option maxHeartbeats 1600000 in
theorem run0.calls (v fv : Value) (w : World) : Calls Try.prog 63 #[.agg #[.slice none 0 0, .slice none 0 0], v, fv] w fun e w' => (∃ u, e = .returned u) ∧ Below w.heap.size w w' := by
  have HB := Aside0.mk (Below.refl w.heap.size w)
  go_enter Try.func63, Try.ntmps63
  go_wp2_with (first | ((with_reducible refine gate_dst (N := 3) rfl ?_); (try (refine gate_guard (by rfl) ?_; dsimp only)); refine box_event ?hg (N := 3) ?hd (cs := #[.slice none 0 0, .slice none 0 0]) (t := 90) ?hr ?_; (case hd => rfl); (case hg => rfl); (case hr => exact qz23); intro b3 hb3_ w_b3 hbox hb_; have n0_ := Aside0.mk (below_then HB.out HB.out.size hb_); have Bb3 := Aside0.mk hbox; clear hbox; have f0_ : w_b3.cell? ⟨b3, 0, none⟩ = some (.slice none 0 0) := (blk_cell Bb3.out 0).trans rfl; have f1_ : w_b3.cell? ⟨b3, 1, none⟩ = some (.slice none 0 0) := (blk_cell Bb3.out 1).trans rfl; clear hb_; clear hb3_; (try clear HB); have HB := n0_; clear n0_))
  clear f0_ f1_
  go_loopg [14] 0 (fun kq v14 wr => v14 = .int .i64 0 ∧ Aside0 (wr.heap[b3]? = some (.cells #[.slice none 0 0, .slice none 0 0] 90 (0, 0))) ∧ Aside0 (Below w.heap.size w wr))
  case atStart => exact ⟨rfl, Bb3, HB⟩
  case round =>
    clear HB Bb3
    obtain ⟨rfl, Bb3, HB⟩ := hrel
    have f0_ : wr.cell? ⟨b3, 0, none⟩ = some (.slice none 0 0) := (blk_cell Bb3.out 0).trans rfl
    have f1_ : wr.cell? ⟨b3, 1, none⟩ = some (.slice none 0 0) := (blk_cell Bb3.out 1).trans rfl
    go_wp2
    clear f0_ f1_
    obtain ⟨wo, rfl⟩ : ∃ wo : World, wo = wr := ⟨_, rfl⟩
    go_loopg [34] 0 (fun kq v34 wr => v34 = .int .i64 0 ∧ Aside0 (Below w.heap.size w wr))
    case atStart => exact ⟨rfl, HB⟩
    case round =>
      clear HB Bb3
      obtain ⟨rfl, HB⟩ := hrel
      go_wp2
      refine bodyPost_end (results_none rfl _ _ _) rfl ?_
      exact ⟨⟨_, rfl⟩, HB.out⟩
set_option maxHeartbeats 1600000 in
theorem eval0.calls (k : Nat) (A : Option Addr) (c : Nat) (l : List Int) (b : Bool) (w : World) (hr : Kd.C (Kd.int .i64) w A l.length l) (hc : l.length ≤ c) (h : aig_normal.f k l = some b) :
    Calls Try.prog 46 #[.agg #[.slice none 0 0, .slice none 0 0], .int .i64 0, .slice A l.length c] w fun e w' => e = .returned (.tuple #[.bool false, .int .i64 (if b then 0 else 2)]) ∧ Below w.heap.size w w' := by
  have HR := Aside0.mk hr
  have HB := Aside0.mk (Below.refl w.heap.size w)
  have HK := Aside0.mk h
  clear hr h
  cases b with
  | false =>
    go_enter Try.func46, Try.ntmps46
    go_wp2_with (first | ((with_reducible refine gate_dst (N := 3) rfl ?_); (try (refine gate_guard (by rfl) ?_; dsimp only)); refine box_event ?hg (N := 3) ?hd (cs := #[.slice none 0 0, .slice none 0 0]) (t := 90) ?hr ?_; (case hd => rfl); (case hg => rfl); (case hr => exact qz23); intro b3 hb3_ w_b3 hbox hb_; have n0_ := Aside0.mk (below_then HB.out HB.out.size hb_); have Bb3 := Aside0.mk hbox; clear hbox; clear hb_; clear hb3_; (try clear HB); have HB := n0_; clear n0_) | ((with_reducible refine gate_dst (N := 5) rfl ?_); (try (refine gate_guard (by rfl) ?_; dsimp only)); refine box_event ?hg (N := 5) ?hd (cs := #[.slice A l.length c]) (t := 23) ?hr ?_; (case hd => rfl); (case hg => rfl); (case hr => exact qz23); intro b5 hb5_ w_b5 hbox hb_; have n0_ := Aside0.mk (below_then HB.out HB.out.size hb_); have Bb5 := Aside0.mk hbox; clear hbox; have Cb3 := Aside0.mk (blk_below Bb3.out hb_); clear Bb3; clear hb_; clear hb5_; (try clear HB); have HB := n0_; clear n0_) | ((with_reducible refine gate_dst (N := 9) rfl ?_); (try (refine gate_guard (by rfl) ?_; dsimp only)); refine wpList_load_row rfl 90 (.tmp 3) rfl b3 rfl 90 (#[.slice none 0 0, .slice none 0 0]) (0, 0) _ Cb3.out Try.underlying90 rfl info90n ?_) | ((with_reducible refine gate_dst (N := 11) rfl ?_); refine Kd.R_lit (Kd.int .i64) _ 3 ?hg (N := 11) ?hd (xs := ([0] : List Int)) (inner := [.int .i64 0]) (ok := fun _ => True) (okp := fun _ => True) ?hr ?hp (fun _ hk => hk) trivial (Below.refl _ _) (Nat.le_refl _) (by simp) ?_; (case hd => rfl); (case hg => rfl); (case hr => exact qz23); (case hp => exact (Reps.one (show Kd.M (Kd.int .i64) _ _ _ 0 [.int .i64 0] from rfl) (Reps.none _ _))); intro v11 w11 ho_ hb_ hg_ hnew_; clear hg_ hnew_; obtain ⟨A0, c0, rfl, hc0, hr0⟩ := Kd.R_reads ho_; have HR0 := Aside0.mk hr0; have Db3 := Aside0.mk (blk_below Cb3.out hb_); have Db5 := Aside0.mk (blk_below Bb5.out hb_); have HB1 := Aside0.mk (below_then HB.out HB.out.size hb_); clear HB hb_ ho_ hr0; have HB := HB1; clear HB1) | ((with_reducible refine gate_callee (f := 60) rfl ?_); (try (refine gate_guard (by rfl) ?_; dsimp only)); refine goesL_ (some 12) rfl rfl Try.func60 (by kernel_rfl) rfl #[.agg #[.slice none 0 0, .slice none 0 0], .slice A0 1 c0] rfl qz20 ?_; refine (all0.calls _ _ _ HR0.out hc0).mono ?_; rintro e_ w_ ⟨rfl, hb_⟩; have Eb3 := Aside0.mk (blk_below Db3.out hb_); have Eb5 := Aside0.mk (blk_below Db5.out hb_); have HB1 := Aside0.mk (below_then HB.out HB.out.size hb_); clear HB hb_; have HB := HB1; clear HB1; have f5 : w_.cell? ⟨b5, 0, none⟩ = some (.slice A l.length c) := (blk_cell Eb5.out 0).trans rfl; refine ⟨_, rfl, ?_⟩) | ((with_reducible refine gate_callee (f := 61) rfl ?_); (try (refine gate_guard (by rfl) ?_; dsimp only)); refine goesL_ (some 16) rfl rfl Try.func61 (by kernel_rfl) rfl #[.slice A l.length c] rfl qz20 ?_; refine (aig_normal.calls k _ _ _ _ _ (Kd.C_below HR.out HB.out) hc HK.out).mono ?_; rintro e_ w_ ⟨rfl, hb_⟩; have Fb3 := Aside0.mk (blk_below Eb3.out hb_); have Fb5 := Aside0.mk (blk_below Eb5.out hb_); have HB1 := Aside0.mk (below_then HB.out HB.out.size hb_); clear HB hb_ f5; have HB := HB1; clear HB1; refine ⟨_, rfl, ?_⟩))
    go_ret2
    exact ⟨rfl, HB.out⟩
  | true =>
    go_enter Try.func46, Try.ntmps46
    go_wp2_with (first | ((with_reducible refine gate_dst (N := 3) rfl ?_); (try (refine gate_guard (by rfl) ?_; dsimp only)); refine box_event ?hg (N := 3) ?hd (cs := #[.slice none 0 0, .slice none 0 0]) (t := 90) ?hr ?_; (case hd => rfl); (case hg => rfl); (case hr => exact qz23); intro b3 hb3_ w_b3 hbox hb_; have n0_ := Aside0.mk (below_then HB.out HB.out.size hb_); have Bb3 := Aside0.mk hbox; clear hbox; clear hb_; clear hb3_; (try clear HB); have HB := n0_; clear n0_) | ((with_reducible refine gate_dst (N := 5) rfl ?_); (try (refine gate_guard (by rfl) ?_; dsimp only)); refine box_event ?hg (N := 5) ?hd (cs := #[.slice A l.length c]) (t := 23) ?hr ?_; (case hd => rfl); (case hg => rfl); (case hr => exact qz23); intro b5 hb5_ w_b5 hbox hb_; have n0_ := Aside0.mk (below_then HB.out HB.out.size hb_); have Bb5 := Aside0.mk hbox; clear hbox; have Cb3 := Aside0.mk (blk_below Bb3.out hb_); clear Bb3; clear hb_; clear hb5_; (try clear HB); have HB := n0_; clear n0_) | ((with_reducible refine gate_dst (N := 9) rfl ?_); (try (refine gate_guard (by rfl) ?_; dsimp only)); refine wpList_load_row rfl 90 (.tmp 3) rfl b3 rfl 90 (#[.slice none 0 0, .slice none 0 0]) (0, 0) _ Cb3.out Try.underlying90 rfl info90n ?_) | ((with_reducible refine gate_dst (N := 11) rfl ?_); refine Kd.R_lit (Kd.int .i64) _ 3 ?hg (N := 11) ?hd (xs := ([0] : List Int)) (inner := [.int .i64 0]) (ok := fun _ => True) (okp := fun _ => True) ?hr ?hp (fun _ hk => hk) trivial (Below.refl _ _) (Nat.le_refl _) (by simp) ?_; (case hd => rfl); (case hg => rfl); (case hr => exact qz23); (case hp => exact (Reps.one (show Kd.M (Kd.int .i64) _ _ _ 0 [.int .i64 0] from rfl) (Reps.none _ _))); intro v11 w11 ho_ hb_ hg_ hnew_; clear hg_ hnew_; obtain ⟨A0, c0, rfl, hc0, hr0⟩ := Kd.R_reads ho_; have HR0 := Aside0.mk hr0; have Db3 := Aside0.mk (blk_below Cb3.out hb_); have Db5 := Aside0.mk (blk_below Bb5.out hb_); have HB1 := Aside0.mk (below_then HB.out HB.out.size hb_); clear HB hb_ ho_ hr0; have HB := HB1; clear HB1) | ((with_reducible refine gate_callee (f := 60) rfl ?_); (try (refine gate_guard (by rfl) ?_; dsimp only)); refine goesL_ (some 12) rfl rfl Try.func60 (by kernel_rfl) rfl #[.agg #[.slice none 0 0, .slice none 0 0], .slice A0 1 c0] rfl qz20 ?_; refine (all0.calls _ _ _ HR0.out hc0).mono ?_; rintro e_ w_ ⟨rfl, hb_⟩; have Eb3 := Aside0.mk (blk_below Db3.out hb_); have Eb5 := Aside0.mk (blk_below Db5.out hb_); have HB1 := Aside0.mk (below_then HB.out HB.out.size hb_); clear HB hb_; have HB := HB1; clear HB1; have f5 : w_.cell? ⟨b5, 0, none⟩ = some (.slice A l.length c) := (blk_cell Eb5.out 0).trans rfl; refine ⟨_, rfl, ?_⟩) | ((with_reducible refine gate_callee (f := 61) rfl ?_); (try (refine gate_guard (by rfl) ?_; dsimp only)); refine goesL_ (some 16) rfl rfl Try.func61 (by kernel_rfl) rfl #[.slice A l.length c] rfl qz20 ?_; refine (aig_normal.calls k _ _ _ _ _ (Kd.C_below HR.out HB.out) hc HK.out).mono ?_; rintro e_ w_ ⟨rfl, hb_⟩; have Fb3 := Aside0.mk (blk_below Eb3.out hb_); have Fb5 := Aside0.mk (blk_below Eb5.out hb_); have HB1 := Aside0.mk (below_then HB.out HB.out.size hb_); clear HB hb_ f5; have HB := HB1; clear HB1; refine ⟨_, rfl, ?_⟩) | ((with_reducible refine gate_dst (N := 19) rfl ?_); (try (refine gate_guard (by rfl) ?_; dsimp only)); refine wpList_load_row rfl 90 (.tmp 3) rfl b3 rfl 90 (#[.slice none 0 0, .slice none 0 0]) (0, 0) _ Fb3.out Try.underlying90 rfl info90n ?_) | ((with_reducible refine gate_callee (f := 62) rfl ?_); (try (refine gate_guard (by rfl) ?_; dsimp only)); refine goesL_ (some 20) rfl rfl Try.func62 (by kernel_rfl) rfl #[.agg #[.slice none 0 0, .slice none 0 0]] rfl qz20 ?_; refine (nodes0.calls _).mono ?_; rintro e_ w_ ⟨rfl, hb_⟩; have Gb3 := Aside0.mk (blk_below Fb3.out hb_); have HB1 := Aside0.mk (below_then HB.out HB.out.size hb_); clear HB hb_; have HB := HB1; clear HB1; refine ⟨_, rfl, ?_⟩) | ((with_reducible refine gate_dst (N := 21) rfl ?_); refine Kd.R_make Kd.bool _ 4 rfl (N := 21) rfl 79 _ _ rfl (1 : Int) rfl rfl Try.underlying79 (.bool false) 1 info4 rfl (by decide) (by omega) false (ok := fun _ => True) (okp := fun _ => True) rfl (fun _ hk => hk) trivial (by omega) (by omega) (Below.refl _ _) (Nat.le_refl _) ?_; intro v21 w21 ho_ hb_ hg_ hnew_; clear hg_ hnew_; obtain ⟨A1, c1, rfl, hc1, hr1⟩ := Kd.R_reads ho_; have HR1 := Aside0.mk hr1; have Hb3 := Aside0.mk (blk_below Gb3.out hb_); have HB1 := Aside0.mk (below_then HB.out HB.out.size hb_); clear HB hb_ ho_ hr1; have HB := HB1; clear HB1) | ((with_reducible refine gate_dst (N := 22) rfl ?_); (try (refine gate_guard (by rfl) ?_; dsimp only)); refine wpList_load_row rfl 90 (.tmp 3) rfl b3 rfl 90 (#[.slice none 0 0, .slice none 0 0]) (0, 0) _ Hb3.out Try.underlying90 rfl info90n ?_) | ((with_reducible refine gate_callee (f := 63) rfl ?_); (try (refine gate_guard (by rfl) ?_; dsimp only)); refine goesL_ (some 25) rfl rfl Try.func63 (by kernel_rfl) rfl #[.agg #[.slice none 0 0, .slice none 0 0], .slice A1 1 c1, .func (.func 64) #[] #[.pointer (some ⟨b5, 0, none⟩)]] rfl qz20 ?_; refine (run0.calls _ _ _).mono ?_; rintro e_ w_ ⟨⟨u, rfl⟩, hb_⟩; have HR2 := Aside0.mk (Kd.C_below HR1.out hb_); have HB1 := Aside0.mk (below_then HB.out HB.out.size hb_); clear HB hb_; have HB := HB1; clear HB1; refine ⟨_, rfl, ?_⟩) | ((with_reducible refine gate_callee (f := 68) rfl ?_); (try (refine gate_guard (by rfl) ?_; dsimp only)); refine goesL_ (some 28) rfl rfl Try.func68 (by kernel_rfl) rfl #[.slice A1 1 c1, .int .i64 0] rfl qz20 ?_; refine (aig_value.calls _ _ [false] 0 false _ HR2.out hc1 rfl).mono ?_; rintro e_ w_ ⟨rfl, hb_⟩; replace hb_ := hb_.below; have HB1 := Aside0.mk (below_then HB.out HB.out.size hb_); clear HB hb_; have HB := HB1; clear HB1; refine ⟨_, rfl, ?_⟩))
    go_ret2
    exact ⟨rfl, HB.out⟩
end Go.Proofs.Ytjlehbncpjccmaa.Q
namespace Go.Proofs.Ytjlehbncpjccmaa.Q
open Go.RowKit Go.Proofs.YtjlehbncpjccmaaW.PrintWords Go.Proofs.YtjlehbncpjccmaaW.PrintLast Go.Proofs.YtjlehbncpjccmaaW.PrintMore
attribute [local go_sem] max2_int min2_int max_two min_two max_three min_three max_four min_four
set_option linter.unusedVariables false
set_option linter.unusedSimpArgs false

section
variable {P : Program} {ops : Array Oper} {Q : Exit → Act → World → Prop}
/-- A call of a function value that is known and holds a receiver. -/
theorem goesVF_ {rest : List Oper} {oi : Oper} {a : Act} {w : World} (N : Option Tmp) (hd : oi.dst = N) (hg : oi.guard = none) {t : Operand} {ar : Array Operand} {ts : Array TypeId}
    (hop : oi.op = .call { callee := .value t, args := ar, argTypes := ts }) {f : FuncId} {fn : Func} {fs cap : Array Value} (ht : a.eval t = .func (.func f) fs cap)
    (hf : P.funcs[f]? = some fn) (hname : (fn.name == "runtime.NumGoroutine") = false) (hb : fn.body.isSome = true) (args : Array Value) (hargs : ar.map a.eval = args)
    (h : Calls P f ((fs ++ args) ++ cap) w fun e w' => ∃ v, e = .returned v ∧ wpList P ops Q rest (a.put N v) w') : wpList P ops Q (oi :: rest) a w := by
  refine wpList_plain hg fun K hK => ?_
  have he := enters_ hf hname hb ((fs ++ args) ++ cap) w
  have hrun : (execOp a.eval oi).run P w = .ok (.enter f ((fs ++ args) ++ cap)) w := by
    unfold execOp
    simp [hop, resolve, Deferred.ofValue, invoke, ht, hargs]
    simpa using he
  unfold Oper.wp
  rw [hrun, Oper.upon_enter]
  refine h.mono fun e w'' hh => ?_
  obtain ⟨v, rfl, hk⟩ := hh
  subst hd
  exact hK _ _ hk
end
theorem u92 : Try.prog.underlying 92 = some (.map 3 4) := by kernel_rfl
theorem zero4 (w : World) : (zeroValue 4).run Try.prog w = .ok (.bool false) w := by
  have h := info4
  cases h2 : Try.prog.info? 4 with
  | none => rw [h2] at h; cases h
  | some i =>
    rw [h2] at h
    simp only [Option.map_some, Option.some.injEq, Prod.mk.injEq] at h
    simp [zeroValue, typeInfo, h2, h.1, Result.andThen]
theorem has.calls (L : List Int) (r : Nat) (v : Int) (w : World) (h : KeysT L w r) :
    Calls Try.prog 48 #[.map (some r), .int .i64 v] w fun e w' => e = .returned (.bool (decide (v ∈ L))) ∧ Below w.heap.size w w' := by
  have HL := Aside0.mk (lookup_keys u92 Try.underlying3 zero4 h v)
  have HB := Aside0.mk (Below.refl w.heap.size w)
  clear h
  go_enter Try.func48, Try.ntmps48
  go_wp2_with (first | ((with_reducible refine gate_lookup (t := 92) rfl ?_); refine lookup_event 7 rfl rfl rfl rfl rfl HL.out ?_))
  go_ret
  exact ⟨rfl, HB.out⟩
/-- The number that choices make, from place i on. -/
def numB (is : Int → Bool) : List Int → Nat → Int
  | [], _ => 0
  | v :: r, i => (if is v then 2 ^ i else 0) + numB is r (i + 1)
theorem numB_drop (is : Int → Bool) (xs : List Int) (i : Nat) (h : i < xs.length) : numB is (xs.drop i) i = (if is (rd xs i) then 2 ^ i else 0) + numB is (xs.drop (i + 1)) (i + 1) := by
  rw [List.drop_eq_getElem_cons h]
  simp [numB, rd, List.getD_eq_getElem?_getD, List.getElem?_eq_getElem h]
theorem choiceF_length (b : Nat) (m : Int) (mine : Bool) : (choiceF b m mine).length = b := by simp [choiceF]
theorem numB_nonneg (is : Int → Bool) : ∀ (l : List Int) (i : Nat), 0 ≤ numB is l i
  | [], _ => Int.le_refl _
  | v :: r, i => by
    have := numB_nonneg is r (i + 1)
    have h2 : (0 : Int) ≤ 2 ^ i := Int.pow_nonneg (by omega)
    rw [numB]
    split <;> omega
def stepP (ps : List S55) (is : Int → Bool) (t v : Int) : Int :=
  let x := ps.getD v.toNat z55
  if (x.f1.length : Int) > 0 then rd x.f1 (Int.tmod (numB is (choiceF (widthP ps) t x.f0) 0) x.f1.length) else v
def playL (ps : List S55) (is : Int → Bool) : Nat → Int → Int → List Int → List Int
  | 0, _, _, acc => acc
  | n + 1, t, v, acc => playL ps is n (t + 1) (stepP ps is t v) (acc ++ [stepP ps is t v])
def playF (ps : List S55) (st mv : Int) (is : Int → Bool) : List Int := playL ps is mv.toNat 1 st [st]
theorem tmod_rng {a n : Int} (ha : 0 ≤ a) (hn : 0 < n) : 0 ≤ Int.tmod a n ∧ Int.tmod a n < n := ⟨Int.tmod_nonneg _ ha, Int.tmod_lt_of_pos _ hn⟩
structure PG (w W : World) (b2 b8 : Nat) (brd pl : Array Value) (v6 : Value) (acc : List Int) : Prop where
  h2 : W.heap[b2]? = some (.cells brd 69 (0, 0))
  h8 : W.heap[b8]? = some (.cells pl 55 (0, 0))
  hR : Kd.R (Kd.int .i64) 3 W w.heap.size (fun _ => True) v6 acc
  bl : Below w.heap.size w W
theorem PG.step {w W W' : World} {b2 b8 : Nat} {brd pl : Array Value} {v6 : Value} {acc : List Int} (h : PG w W b2 b8 brd pl v6 acc) (hb : Below W.heap.size W W') : PG w W' b2 b8 brd pl v6 acc :=
  ⟨blk_below h.h2 hb, blk_below h.h8 hb, Kd.R_below h.hR hb, below_step h.bl hb⟩
set_option maxHeartbeats 6400000 in
set_option maxRecDepth 100000 in
theorem play.calls (A0_0 : Option Addr) (c0_0 : Nat) (l0_0 : List (S55)) (a0_1 : Int) (A0_2 : Option Addr) (c0_2 : Nat) (l0_2 : List Int) (a0_3 : Int) (L : List Int) (mr : Nat) (w : World) (hr0_0 : Kd.C k55 w A0_0 l0_0.length l0_0) (hc0_0 : l0_0.length ≤ c0_0) (hr0_2 : Kd.C (Kd.int .i64) w A0_2 l0_2.length l0_2) (hc0_2 : l0_2.length ≤ c0_2) (hL : KeysT L w mr) (hm : mayB l0_0 a0_1 l0_2 a0_3 = true) :
    Calls Try.prog 47 #[.agg #[.slice A0_0 l0_0.length c0_0, .int .i64 a0_1, .slice A0_2 l0_2.length c0_2, .int .i64 a0_3, .int .i64 (widthP l0_0)], .func (.func 48) #[.map (some mr)] #[]] w fun e w' => ∃ v0_ : Value, e = .returned v0_ ∧ Kd.R (Kd.int .i64) 3 w' w.heap.size (fun _ => True) v0_ (playF l0_0 a0_1 a0_3 fun v => decide (v ∈ L)) ∧ Below w.heap.size w w' := by
  have HCH := Aside0.mk (fun (W : World) (hb : Below w.heap.size w W) (b m : Int) (mine : Bool) (l : List Int) => puzzle_board_choice.calls 4 A0_0 c0_0 l0_0 a0_1 A0_2 c0_2 l0_2 a0_3 b m mine l W (Kd.C_below hr0_0 hb) hc0_0 (Kd.C_below hr0_2 hb) hc0_2)
  have HR0 := Aside0.mk hr0_0
  have HB := Aside0.mk (Below.refl w.heap.size w)
  have HKT := Aside0.mk (fun (W : World) (hb : Below w.heap.size w W) (v : Int) => has.calls L mr v W (hL.below hb))
  have HF := Aside0.mk (mayB_facts hm)
  obtain ⟨is, his⟩ : ∃ is : Int → Bool, (fun v => decide (v ∈ L)) = is := ⟨_, rfl⟩
  have hisv : ∀ v, decide (v ∈ L) = is v := fun v => congrFun his v
  rw [his]
  simp only [hisv] at HKT
  clear his hisv hm hr0_0 hr0_2 hL
  go_enter Try.func47, Try.ntmps47
  go_wp2_with (first | ((with_reducible refine gate_dst (N := 2) rfl ?_); (try (refine gate_guard (by rfl) ?_; dsimp only)); refine box_event ?hg (N := 2) ?hd (cs := #[.slice A0_0 l0_0.length c0_0, .int .i64 a0_1, .slice A0_2 l0_2.length c0_2, .int .i64 a0_3, .int .i64 (widthP l0_0)]) (t := 69) ?hr ?_; (case hd => rfl); (case hg => rfl); (case hr => exact qz23); intro b2 hb2_ w_b2 hbox hb_; have n0_ := Aside0.mk (below_then HB.out HB.out.size hb_); have Bb2 := Aside0.mk hbox; clear hbox; have f1 : w_b2.cell? ⟨b2, 1, none⟩ = some (.int .i64 a0_1) := (blk_cell Bb2.out 1).trans rfl; clear hb_; clear hb2_; (try clear HB); have HB := n0_; clear n0_) | ((with_reducible refine gate_dst (N := 16) rfl ?_); refine Kd.R_lit (Kd.int .i64) _ 3 ?hg (N := 16) ?hd (xs := ([a0_1] : List Int)) (inner := [.int .i64 a0_1]) (ok := fun _ => True) (okp := fun _ => True) ?hr ?hp (fun _ hk => hk) trivial (Below.refl _ _) (Nat.le_refl _) (by simp) ?_; (case hd => rfl); (case hg => rfl); (case hr => exact qz23); (case hp => exact (Reps.one (show Kd.M (Kd.int .i64) _ _ _ a0_1 [.int .i64 a0_1] from rfl) (Reps.none _ _))); intro v16 w16 ho_ hb_ hg_ hnew_; clear hg_ hnew_; have HV := Aside0.mk (Kd.R_lower ho_ HB.out.size); have Cb2 := Aside0.mk (blk_below Bb2.out hb_); have HB1 := Aside0.mk (below_then HB.out HB.out.size hb_); clear HB hb_ ho_ f1; have HB := HB1; clear HB1; have f1 := True.intro; have f2 := True.intro))
  clear f1 f2
  go_loopg [5, 6, 7] (a0_3.toNat + 1) (fun kq v5 v6 v7 wr => ∃ (v t : Int) (acc : List Int), v5 = .int .i64 v ∧ v7 = .int .i64 t ∧ Aside0 (∃ i : Nat, t = i + 1 ∧ kq + i = a0_3.toNat + 1 ∧ i ≤ a0_3.toNat ∧ acc.length = i + 1 ∧ playF l0_0 a0_1 a0_3 is = playL l0_0 is (a0_3.toNat - i) t v acc) ∧ Aside0 (0 ≤ v ∧ v < l0_0.length) ∧ Aside0 (wr.heap[b2]? = some (.cells #[.slice A0_0 l0_0.length c0_0, .int .i64 a0_1, .slice A0_2 l0_2.length c0_2, .int .i64 a0_3, .int .i64 (widthP l0_0)] 69 (0, 0))) ∧ Aside0 (Kd.R (Kd.int .i64) 3 wr w.heap.size (fun _ => True) v6 acc) ∧ Aside0 (Below w.heap.size w wr))
  case atStart => exact ⟨a0_1, 1, [a0_1], rfl, rfl, ⟨0, rfl, by omega, by omega, rfl, rfl⟩, ⟨HF.out.2.1⟩, Cb2, HV, HB⟩
  case round =>
    clear HB Cb2 HV
    obtain ⟨v, t, acc, rfl, rfl, HI, HVR, B2, HV, HB⟩ := hrel
    obtain ⟨wo, rfl⟩ : ∃ wo : World, wo = wr := ⟨_, rfl⟩
    have f3 : wo.cell? ⟨b2, 3, none⟩ = some (.int .i64 a0_3) := (blk_cell B2.out 3).trans rfl
    have f0 : wo.cell? ⟨b2, 0, none⟩ = some (.slice A0_0 l0_0.length c0_0) := (blk_cell B2.out 0).trans rfl
    by_cases hlt : t ≤ a0_3
    · have hlt' := decide_eq_true hlt
      have HP := Aside0.mk hlt
      obtain ⟨ko, rfl⟩ : ∃ ko, gk = ko + 1 := ⟨gk - 1, by obtain ⟨i, rfl, h1, _⟩ := HI.out; omega⟩
      have h0 := HVR.out.1
      have hvl := HVR.out.2
      obtain ⟨ad, A1, c1, rfl, hx, hx1, hl1, hr1⟩ := at_T55 HR0.out v h0 hvl
      replace hx := (HB.out.cell (World.block_lt_of_cell? w _ hx)).trans hx
      replace hx1 := (HB.out.cell (World.block_lt_of_cell? w _ hx1)).trans hx1
      have hmem : rd_T55 l0_0 v ∈ l0_0 := getD_mem l0_0 z55 _ (by omega)
      have hto := HF.out.2.2.2.2.2 _ hmem
      have hstep : stepP l0_0 is t v = if ((rd_T55 l0_0 v).f1.length : Int) > 0 then rd (rd_T55 l0_0 v).f1 (Int.tmod (numB is (choiceF (widthP l0_0) t (rd_T55 l0_0 v).f0) 0) (rd_T55 l0_0 v).f1.length) else v := rfl
      obtain ⟨r, hr⟩ : ∃ r, rd_T55 l0_0 v = r := ⟨_, rfl⟩
      rw [hr] at hx hx1 hto hl1 hr1 hstep
      have HRR := Aside0.mk hr1
      have HTO := Aside0.mk hto
      have HST := Aside0.mk hstep
      have ht1 : Aside0 (1 ≤ t ∧ t ≤ 8) := ⟨by obtain ⟨i, rfl, _⟩ := HI.out; have := HF.out.2.2.1.2; omega⟩
      have HCC := Aside0.mk (fun W hb => HCH.out W hb (widthP l0_0) t r.f0 _ (choice_f l0_0 a0_1 l0_2 a0_3 (widthP l0_0) (widthP_le _) t ht1.out.1 ht1.out.2 r.f0))
      have hvl2 : Aside0 ((choiceF (widthP l0_0) t r.f0).length ≤ 2) := ⟨by rw [choiceF_length]; exact widthP_le _⟩
      obtain ⟨vars, hvars⟩ : ∃ vars, choiceF (widthP l0_0) t r.f0 = vars := ⟨_, rfl⟩
      rw [hvars] at HCC HST hvl2
      have p1 := eq_true h0
      have p2 := eq_true hvl
      clear hr hmem hto hstep hr1 h0 hvl hlt hvars
      go_wp2_with (first | ((with_reducible refine gate_dst (N := 8) rfl ?_); refine box_event ?hg (N := 8) ?hd (cs := #[.bool false, .slice none 0 0]) (t := 55) ?hr ?_; (case hd => rfl); (case hg => rfl); (case hr => exact qz23); intro b8 hb8_ w_b8 hbox hb_; have Bb8 := Aside0.mk hbox; have G8 := Aside0.mk (by rw [hb8_]; exact Nat.le_refl _ : wo.heap.size ≤ b8); have HBI0 := Aside0.mk hb_; clear hbox hb_ hb8_) | ((with_reducible refine gate_store (t := 55) (p := 8) rfl ?_); refine wpList_store_rowTo rfl 55 (.tmp 8) (.tmp 29) rfl rfl b8 (#[.bool r.f0, .slice A1 r.f1.length c1]) rfl rfl 55 (#[.bool false, .slice none 0 0]) Bb8.out info55n rfl (by simp [Value.oneCell']) ?_; refine named_world _ ?_; intro w8 hw_; have B8 : Aside0 (w8.heap[b8]? = some (.cells #[.bool r.f0, .slice A1 r.f1.length c1] 55 (0, 0))) := ⟨by rw [hw_]; exact setRow_heap _ _ _ _ _ _ Bb8.out⟩; have HBI : Aside0 (Below wo.heap.size wo w8) := ⟨by rw [hw_]; exact below_setRow HBI0.out G8.out _⟩; have HPG : Aside0 (PG w w8 b2 b8 #[.slice (some ad) l0_0.length c0_0, .int .i64 a0_1, .slice A0_2 l0_2.length c0_2, .int .i64 a0_3, .int .i64 (widthP l0_0)] #[.bool r.f0, .slice A1 r.f1.length c1] u6 acc) := ⟨⟨blk_below B2.out HBI.out, B8.out, Kd.R_below HV.out HBI.out, below_step HB.out HBI.out⟩⟩; have f1 : w8.cell? ⟨b8, 0, none⟩ = some (.bool r.f0) := (blk_cell B8.out 0).trans rfl; have f2 := True.intro; clear hw_) | ((with_reducible refine gate_dst (N := 30) rfl ?_); (try (refine gate_guard (by rfl) ?_; dsimp only)); refine wpList_load_row rfl 69 (.tmp 2) rfl b2 rfl 69 (#[.slice (some ad) l0_0.length c0_0, .int .i64 a0_1, .slice A0_2 l0_2.length c0_2, .int .i64 a0_3, .int .i64 (widthP l0_0)]) (0, 0) _ (Aside0.mk HPG.out.h2).out Try.underlying69 rfl info69n ?_) | ((with_reducible refine gate_callee (f := 34) rfl ?_); (try (refine gate_guard (by rfl) ?_; dsimp only)); refine goesL_ (some 34) rfl rfl Try.func34 (by kernel_rfl) rfl #[.agg #[.slice (some ad) l0_0.length c0_0, .int .i64 a0_1, .slice A0_2 l0_2.length c0_2, .int .i64 a0_3, .int .i64 (widthP l0_0)], .int .i64 t, .bool r.f0] rfl qz20 ?_; refine (HCC.out _ HPG.out.bl).mono ?_; rintro e_ w_ ⟨v34, rfl, hR_, hb_⟩; obtain ⟨A2, c2, rfl, hc2, hr2⟩ := Kd.R_reads hR_; have HCV := Aside0.mk hr2; have HPG1 := Aside0.mk (HPG.out.step hb_); obtain ⟨w34, rfl⟩ : ∃ w34 : World, w34 = w_ := ⟨_, rfl⟩; clear HPG hb_ hR_ hr2; have HPG := HPG1; clear HPG1; refine ⟨_, rfl, ?_⟩))
      clear f0 f1 f2 f3
      go_loopg [9, 36] vars.length (fun kq v9 v36 wr => ∃ (c x : Int), v9 = .int .i64 c ∧ v36 = .int .i64 x ∧ Aside0 (∃ i : Nat, x = i ∧ kq + i = vars.length ∧ 0 ≤ c ∧ c < 2 ^ i ∧ numB is vars 0 = c + numB is (vars.drop i) i) ∧ Aside0 (PG w wr b2 b8 #[.slice (some ad) l0_0.length c0_0, .int .i64 a0_1, .slice A0_2 l0_2.length c0_2, .int .i64 a0_3, .int .i64 (widthP l0_0)] #[.bool r.f0, .slice A1 r.f1.length c1] u6 acc) ∧ Aside0 (Below w34.heap.size w34 wr))
      case atStart => exact ⟨0, 0, rfl, rfl, ⟨0, rfl, by omega, by omega, by decide, by simp⟩, HPG, ⟨Below.refl _ _⟩⟩
      case round =>
        clear HPG
        obtain ⟨c, x, rfl, rfl, HJ, HPG, HBV⟩ := hrel
        obtain ⟨wi, rfl⟩ : ∃ wi : World, wi = wr := ⟨_, rfl⟩
        by_cases hxl : x < (vars.length : Int)
        · have hxl' := decide_eq_true hxl
          obtain ⟨ki, rfl⟩ : ∃ ki, gk = ki + 1 := ⟨gk - 1, by obtain ⟨i, rfl, h1, _⟩ := HJ.out; omega⟩
          have hx0 : 0 ≤ x := by obtain ⟨i, rfl, _⟩ := HJ.out; omega
          obtain ⟨ae, rfl, hcell⟩ := Kd.at_int HCV.out x hx0 hxl
          replace hcell := (HBV.out.cell (World.block_lt_of_cell? w34 _ hcell)).trans hcell
          have hcase : Aside0 ((x = 0 ∧ c = 0) ∨ (x = 1 ∧ c = 0) ∨ (x = 1 ∧ c = 1)) := ⟨by
            obtain ⟨i, rfl, h1, h2, h3, _⟩ := HJ.out
            have hv2 := hvl2.out
            obtain rfl | rfl : i = 0 ∨ i = 1 := by omega
            · simp at h3; left; omega
            · simp at h3; omega⟩
          have hnum : Aside0 (∀ i : Nat, x = i → numB is (vars.drop i) i = (if is (rd vars x) then 2 ^ i else 0) + numB is (vars.drop (i + 1)) (i + 1)) := ⟨fun i hi => by subst hi; exact numB_drop is vars i (by omega)⟩
          have HXP := Aside0.mk (And.intro hx0 hxl)
          have HC1 := Aside0.mk (HKT.out wi HPG.out.bl (rd vars x))
          obtain ⟨vx, hvx⟩ : ∃ vx, rd vars x = vx := ⟨_, rfl⟩
          rw [hvx] at hcell hnum HC1
          have q1 := eq_true hx0
          have q2 := eq_true hxl
          clear hvx hx0 hxl
          cases hi : is vx with
          | true =>
            rw [hi] at HC1 hnum
            clear hi
            obtain ⟨sh, hsh⟩ : ∃ sh : Int, sh = (if x = 0 then 1 else 2) := ⟨_, rfl⟩
            have HSH := Aside0.mk hsh
            clear hsh
            go_wp2_with (first | ((with_reducible refine gate_value (t := 41) rfl ?_); refine goesVF_ (some 43) rfl rfl rfl rfl (by kernel_rfl : Try.prog.funcs[48]? = some Try.f48) rfl rfl #[.int .i64 vx] qz20 ?_; refine HC1.out.mono ?_; rintro e w' ⟨rfl, hb⟩; have HPG1 := Aside0.mk (HPG.out.step hb); have HBV1 := Aside0.mk (below_then HBV.out HBV.out.size hb); clear hb; refine ⟨_, rfl, ?_⟩) | ((with_reducible refine gate_dst (N := 46) rfl ?_); refine Kd.event_run (v := .int .i64 sh) (w1 := w') rfl (by have hs := HSH.out; rcases hcase.out with ⟨rfl, rfl⟩ | ⟨rfl, rfl⟩ | ⟨rfl, rfl⟩ <;> (subst hs; rfl)) ?_) | ((with_reducible refine gate_dst (N := 47) rfl ?_); refine Kd.event_run (v := .int .i64 (c + sh)) (w1 := w') rfl (by have hs := HSH.out; rcases hcase.out with ⟨rfl, rfl⟩ | ⟨rfl, rfl⟩ | ⟨rfl, rfl⟩ <;> (subst hs; rfl)) ?_))
            go_roundg ki
            case measure => omega
            case rel =>
              have hQ := HXP.out
              obtain ⟨i, hi, h1, h2, h3, h4⟩ := HJ.out
              have hsh : sh = 2 ^ i := by
                have hs := HSH.out
                rcases hcase.out with ⟨h, _⟩ | ⟨h, _⟩ | ⟨h, _⟩ <;> (subst h; first | (have hi0 : i = 0 := (by omega); subst hi0; rw [hs]; rfl) | (have hi0 : i = 1 := (by omega); subst hi0; rw [hs]; rfl))
              refine ⟨c + sh, x + 1, rfl, by rw [show wrap64 (x + 1) = x + 1 by have := hvl2.out; unfold wrap64; omega], ⟨?_⟩, HPG1, HBV1⟩
              subst hi
              rw [hsh]
              have h5 : (2 : Int) ^ (i + 1) = 2 ^ i * 2 := rfl
              exact ⟨i + 1, by omega, by omega, by omega, by omega, by rw [h4, hnum.out i rfl]; simp; omega⟩
          | false =>
            rw [hi] at HC1 hnum
            clear hi
            go_wp2_with (first | ((with_reducible refine gate_value (t := 41) rfl ?_); refine goesVF_ (some 43) rfl rfl rfl rfl (by kernel_rfl : Try.prog.funcs[48]? = some Try.f48) rfl rfl #[.int .i64 vx] qz20 ?_; refine HC1.out.mono ?_; rintro e w' ⟨rfl, hb⟩; have HPG1 := Aside0.mk (HPG.out.step hb); have HBV1 := Aside0.mk (below_then HBV.out HBV.out.size hb); clear hb; refine ⟨_, rfl, ?_⟩))
            go_roundg ki
            case measure => omega
            case rel =>
              have hQ := HXP.out
              refine ⟨c, x + 1, rfl, by rw [show wrap64 (x + 1) = x + 1 by have := hvl2.out; unfold wrap64; omega], ⟨?_⟩, HPG1, HBV1⟩
              obtain ⟨i, rfl, h1, h2, h3, h4⟩ := HJ.out
              refine ⟨i + 1, by omega, by omega, h2, by have h5 : (2 : Int) ^ (i + 1) = 2 ^ i * 2 := rfl; omega, ?_⟩
              rw [h4, hnum.out i rfl]; simp
        · have hxl' := decide_eq_false hxl
          have hc : Aside0 (numB is vars 0 = c ∧ 0 ≤ c ∧ c < 4) := ⟨by
            obtain ⟨i, rfl, h1, h2, h3, h4⟩ := HJ.out
            rw [List.drop_of_length_le (by omega)] at h4
            have hv2 := hvl2.out
            refine ⟨by simpa [numB] using h4, h2, ?_⟩
            obtain rfl | rfl | rfl : i = 0 ∨ i = 1 ∨ i = 2 := by omega
            all_goals (simp at h3; omega)⟩
          clear hxl
          have f1 : wi.cell? ⟨b8, 1, none⟩ = some (.slice A1 r.f1.length c1) := (blk_cell HPG.out.h8 1).trans rfl
          by_cases hn : (r.f1.length : Int) > 0
          · have hlA : decide (0 < r.f1.length) = true := decide_eq_true (by omega)
            have hlB : decide (0 < (r.f1.length : Int)) = true := decide_eq_true hn
            have hj := tmod_rng hc.out.2.1 hn
            have HST2 : Aside0 (stepP l0_0 is t v = rd r.f1 (Int.tmod c r.f1.length)) := ⟨by rw [HST.out, if_pos hn, hc.out.1]⟩
            have hne : ((r.f1.length : Int) = 0) = False := eq_false (by omega)
            have hne1 : (r.f1.length = 0) = False := eq_false (by omega)
            have hne2 : (r.f1 = []) = False := eq_false (by rintro h; rw [h] at hn; exact absurd hn (by decide))
            have hne3 : ((r.f1.length : Int) == 0) = false := by simpa using hne2
            have hw : IntKind.i64.wrap (Int.tmod c r.f1.length) = Int.tmod c r.f1.length := by
              have h4 := hc.out.2; have := hj.1; have := (HTO.out).1; rw [i64_w]; exact w_id (by omega)
            obtain ⟨j, hjj⟩ : ∃ j, Int.tmod c r.f1.length = j := ⟨_, rfl⟩
            rw [hjj] at hj HST2 hw
            obtain ⟨ae, rfl, hcell⟩ := Kd.at_int HRR.out j hj.1 hj.2
            replace hcell := (HPG.out.bl.cell (World.block_lt_of_cell? w _ hcell)).trans hcell
            have hnew := HTO.out.2 (rd r.f1 j) (getD_mem r.f1 0 _ (by omega))
            obtain ⟨nv, hnv⟩ : ∃ nv, rd r.f1 j = nv := ⟨_, rfl⟩
            rw [hnv] at hcell HST2 hnew
            have HNV := Aside0.mk hnew
            have q1 := eq_true hj.1
            have q2 := eq_true hj.2
            clear hnv hnew hj hn
            have HAL : Aside0 (acc.length ≤ 9) := ⟨by obtain ⟨i, rfl, _, h1, h2, _⟩ := HI.out; have := HF.out.2.2.1.2; omega⟩
            try go_wp2
            go_quiet (fail)
            go_wp2_with (first | ((with_reducible refine gate_builtin (b := .append) (xs := #[.tmp 62, .tmp 64]) rfl ?_); at_builtin; refine Kd.R_append (Kd.int .i64) (w0 := w) w.heap.size rfl (.tmp 62) (.tmp 64) 23 3 (.int .i64 0) 8 rfl Try.underlying23 info3 rfl (by decide) (by omega) u6 acc nv [.int .i64 nv] (fun _ => True) (fun _ => False) rfl rfl ?aP (fun _ hk => hk.elim) ?aF ?aO ?aB ?aS ?aL ?_; (case aP => exact rfl); (case aB => exact (pw_below_drewN HPG.out.bl _)); (case aF => exact (fun _ _ => trivial)); (case aO => exact (Kd.R_drewN HPG.out.hR _)); (case aS => exact (pw_below_drewN HPG.out.bl _).size); (case aL => have := HAL.out; omega); intro v65 w65 ho_ hb_ hg_ hat_; have HV2 := Aside0.mk ho_; have B22 := Aside0.mk (blk_grown (g := b2) (o := .cells #[.slice (some ad) l0_0.length c0_0, .int .i64 a0_1, .slice A0_2 l0_2.length c0_2, .int .i64 a0_3, .int .i64 (widthP l0_0)] 69 (0, 0)) (blk_drewN HPG.out.h2 _) hg_ (Kd.R_ne HPG.out.hR HPG.out.h2 (by decide))); have HB2 := Aside0.mk hb_; clear ho_ hb_ hg_ hat_))
            go_roundg ko
            case measure => omega
            case rel =>
              refine ⟨nv, t + 1, acc ++ [nv], rfl, by rw [show wrap64 (t + 1) = t + 1 by have := ht1.out; unfold wrap64; omega], ⟨?_⟩, HNV, B22, HV2, HB2⟩
              obtain ⟨i, rfl, h1, h2, h3, h4⟩ := HI.out
              have hP := HP.out
              refine ⟨i + 1, by omega, by omega, by omega, by simp [h3], ?_⟩
              rw [h4, show a0_3.toNat - i = (a0_3.toNat - (i + 1)) + 1 by omega, playL, HST2.out]
          · have hlA : decide (0 < r.f1.length) = false := decide_eq_false (by omega)
            have hlB : decide (0 < (r.f1.length : Int)) = false := decide_eq_false hn
            have HST2 : Aside0 (stepP l0_0 is t v = v) := ⟨by rw [HST.out, if_neg hn]⟩
            clear hn
            have HAL : Aside0 (acc.length ≤ 9) := ⟨by obtain ⟨i, rfl, _, h1, h2, _⟩ := HI.out; have := HF.out.2.2.1.2; omega⟩
            go_wp2_with (first | ((with_reducible refine gate_builtin (b := .append) (xs := #[.tmp 62, .tmp 64]) rfl ?_); at_builtin; refine Kd.R_append (Kd.int .i64) (w0 := w) w.heap.size rfl (.tmp 62) (.tmp 64) 23 3 (.int .i64 0) 8 rfl Try.underlying23 info3 rfl (by decide) (by omega) u6 acc v [.int .i64 v] (fun _ => True) (fun _ => False) rfl rfl ?aP (fun _ hk => hk.elim) ?aF ?aO ?aB ?aS ?aL ?_; (case aP => exact rfl); (case aB => exact (HPG.out.bl)); (case aF => exact (fun _ _ => trivial)); (case aO => exact (HPG.out.hR)); (case aS => exact (HPG.out.bl).size); (case aL => have := HAL.out; omega); intro v65 w65 ho_ hb_ hg_ hat_; have HV2 := Aside0.mk ho_; have B22 := Aside0.mk (blk_grown (g := b2) (o := .cells #[.slice (some ad) l0_0.length c0_0, .int .i64 a0_1, .slice A0_2 l0_2.length c0_2, .int .i64 a0_3, .int .i64 (widthP l0_0)] 69 (0, 0)) (HPG.out.h2) hg_ (Kd.R_ne HPG.out.hR HPG.out.h2 (by decide))); have HB2 := Aside0.mk hb_; clear ho_ hb_ hg_ hat_))
            go_roundg ko
            case measure => omega
            case rel =>
              refine ⟨v, t + 1, acc ++ [v], rfl, by rw [show wrap64 (t + 1) = t + 1 by have := ht1.out; unfold wrap64; omega], ⟨?_⟩, HVR, B22, HV2, HB2⟩
              obtain ⟨i, rfl, h1, h2, h3, h4⟩ := HI.out
              have hP := HP.out
              refine ⟨i + 1, by omega, by omega, by omega, by simp [h3], ?_⟩
              rw [h4, show a0_3.toNat - i = (a0_3.toNat - (i + 1)) + 1 by omega, playL, HST2.out]
    · have hlt' := decide_eq_false hlt
      have ho : Aside0 (playF l0_0 a0_1 a0_3 is = acc) := ⟨by
        obtain ⟨i, rfl, h1, h2, h3, h4⟩ := HI.out
        rw [h4, show a0_3.toNat - i = 0 by omega]; rfl⟩
      clear hlt
      go_wp2
      go_ret
      exact ⟨u6, rfl, by rw [ho.out]; exact HV.out, HB.out⟩
end Go.Proofs.Ytjlehbncpjccmaa.Q
