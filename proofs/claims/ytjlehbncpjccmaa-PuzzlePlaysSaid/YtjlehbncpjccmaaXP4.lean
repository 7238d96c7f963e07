/-
  Proved: the law PuzzlePlays returns true for every input (puzzle, list of numbers), and the input reads as it did.
  Part 4 of 4. Conditions: none. Written for this claim by programs of this work (extprint.py, gen_*.py, assemble.py) and by hand.
-/
import Derived.Test.YtjlehbncpjccmaaXP3
namespace Go.Proofs.Ytjlehbncpjccmaa.Q
open Go.RowKit Go.Proofs.YtjlehbncpjccmaaW.PrintWords Go.Proofs.YtjlehbncpjccmaaW.PrintLast Go.Proofs.YtjlehbncpjccmaaW.PrintMore
set_option linter.unusedVariables false
set_option linter.unusedSimpArgs false

theorem plays_ev (ps : List S55) (st : Int) (gs : List Int) (mv : Int) (a : List Int) : Ev (fun k => skolemlaw35_PuzzlePlays.f k ps st gs mv a) true := by
  simp only [skolemlaw35_PuzzlePlays.f]
  have hbig : Ev (fun k => skolemlaw35_PuzzlePlays.j0 k a true ps st gs mv) true := by
    refine Ev.succ ?_
    simp only [skolemlaw35_PuzzlePlays.j0, if_true]
    exact head_end
  refine Ev.bind (large_ev ps st gs mv) ?_
  cases hl : largeB ps gs with
  | true =>
    simp only [if_true]
    exact hbig
  | false =>
    have hs := small_of hl
    simp only [Bool.false_eq_true, if_false]
    by_cases hla : (a.length : Int) > 100
    · simp only [hla, decide_true]
      exact hbig
    · simp only [hla, decide_false]
      refine Ev.succ ?_
      simp only [skolemlaw35_PuzzlePlays.j0, Bool.false_eq_true, if_false, puzzle_Play.f, Option.bind_some]
      refine Ev.bind (Play_ev ps st gs mv hs a (by omega)) ?_
      obtain ⟨cl, hcl⟩ : ∃ cl : List Int × Int, (if mayB ps st gs mv && normB 0 a then (playF ps st mv (fun v => decide (v ∈ a)), 0) else ([], 2)) = cl := ⟨_, rfl⟩
      have hlen : ∀ (is : Int → Bool) (n : Nat) (t v : Int) (acc : List Int), (playL ps is n t v acc).length = acc.length + n := by
        intro is n
        induction n with
        | zero => intro t v acc; rfl
        | succ n ih => intro t v acc; rw [playL, ih]; simp; omega
      have h1 : (cl.1.length : Int) ≤ 9223372036854775807 := by
        rw [← hcl]
        cases hm : mayB ps st gs mv with
        | false => simp
        | true =>
          have hmv := mayB_mv hm
          cases normB 0 a with
          | false => simp
          | true =>
            simp only [Bool.and_self, if_true, playF, hlen]
            simp; omega
      rw [hcl]
      refine Ev.bind (ints_ev _ _ h1) ?_
      simp only [decide_true, if_true]
      exact head_end

end Go.Proofs.Ytjlehbncpjccmaa.Q
namespace Go.Proofs.Ytjlehbncpjccmaa.Q
open Go.ChangeShapes Go.WideShapes Go.ChangeAt Go.RowKit Go.Proofs.YtjlehbncpjccmaaW.PrintWords Go.Proofs.YtjlehbncpjccmaaW.PrintLast Go.Proofs.YtjlehbncpjccmaaW.PrintMore
set_option linter.unusedVariables false
set_option linter.unusedSimpArgs false
namespace RowPuzzlePlays
set_option maxRecDepth 100000 in
theorem lifted (os : Os) (started : os.Started) (H : Type) (enc : TypeId × Value → H) :
    ReturnsInHanded {} Try.checked os 4 .any (Rows.puzzlePlaysSpec.pre6 enc Try.prog Try.f4 Rows.puzzlePlaysRow.domain false) (Rows.puzzlePlaysSpec.post enc Try.prog Try.f4 false true false false) := by
  refine returnsInHanded_of_change_sized (C := Try.checked) own started (by kernel_rfl) Try.func4
    (ChangeSpec.witness6 (enc := enc) (C := Try.checked) false ⟨#[], #[.agg #[.slice none 0 0, .int .i64 0, .slice none 0 0, .int .i64 0], .slice none 0 0], []⟩ 8 (by kernel_rfl) (by kernel_rfl) (by kernel_rfl) (by kernel_rfl)) ?_
  intro W base args ds gs before hval0 hW hcnd hsz0 _
  have hval : ∀ (j : Nat) t v, Try.f4.params[j]? = some t → args[j]? = some v → Value.okWide Try.prog W .any base t v := hval0
  have hW' := hW
  obtain ⟨p, q, hA0, hV, rfl, hfz, hnd⟩ := hW
  have hA : DataW.TrodAll enc Try.prog W 0 (fun _ => true) true Try.f4.params.toList args.toList ds p := hA0
  rw [Try.params4] at hA hval
  obtain ⟨v0, vs0, d0, ds0, p0, q0, hargs, rfl, rfl, h0, r0⟩ := trodAll_cons hA
  obtain ⟨v1, vs1, d1, ds1, p1, q1, rfl, rfl, rfl, h1, r1⟩ := trodAll_cons r0
  obtain ⟨rfl, rfl, rfl⟩ := trodAll_nil r1
  obtain rfl : args = #[v0, v1] := by cases args; simp_all
  obtain ⟨rfl, rfl⟩ := trodVars_none hV
  have k0 := h0
  have lt0 : ∀ x ∈ p0, x.block < W.heap.size := by obtain ⟨m, hm⟩ := k0; exact DataW.trod_lt m _ _ _ hm
  obtain ⟨A0_0, c0_0, l0_0, a0_1, A0_2, c0_2, l0_2, a0_3, rfl, hr0_0, hc0_0, hr0_2, hc0_2⟩ := open_puzzle (hval 0 25 v0 rfl rfl) h0
  have k1 := h1
  have lt1 : ∀ x ∈ p1, x.block < W.heap.size := by obtain ⟨m, hm⟩ := k1; exact DataW.trod_lt m _ _ _ hm
  obtain ⟨A1, c1, l1, rfl, hr1, hc1, hw1⟩ := open_list Try.underlying23 Try.underlying3 (by kernel_rfl) (hval 1 23 v1 rfl rfl) h1
  clear hA0 hval0 hsz0
  obtain ⟨k, hk⟩ := (plays_ev l0_0 a0_1 l0_2 a0_3 l1).some'
  refine (skolemlaw35_PuzzlePlays.callsT k _ _ l0_0 a0_1 _ _ l0_2 a0_3 _ _ l1 true rfl W hr0_0 hc0_0 hr0_2 hc0_2 hr1 hc1 hk).mono fun e W' ⟨he, bel⟩ => ?_
  subst he
  exact ⟨_, rfl, _, _, _, [], _, [], hW', trodAll_mk1 (shut_bool Try.underlying4 _), (trodAll_cons_mk (Below.trod laidOut (by kernel_rfl) (of_decide_eq_true (by kernel_rfl)) k0 bel lt0) (trodAll_cons_mk (Below.trod laidOut (by kernel_rfl) (of_decide_eq_true (by kernel_rfl)) k1 bel lt1) trodAll_mk0)), rfl, bel.frame _, fun h => by cases h⟩
theorem over : Rows.puzzlePlaysRow.holds Try.pinned (OpenSpec.ofChange Rows.puzzlePlaysSpec) :=
  OpenClaim.holds_of_wide 4 Try.f4 rfl rfl rfl rfl rfl rfl rfl ⟨rfl, rfl, rfl, rfl, rfl⟩ rfl rfl rfl rfl rfl (by kernel_rfl) Try.func4 (by kernel_rfl)
    (of_decide_eq_true (by kernel_rfl)) (by unfold Func.isWrapper; first | (rw [if_pos (by decide +kernel)]; kernel_rfl) | (rw [if_neg (by decide +kernel)]; exact ⟨rfl, rfl⟩))
    (fun os started H enc _ => lifted os started H enc)
theorem proved : Rows.PuzzlePlaysSaid := over
end RowPuzzlePlays
end Go.Proofs.Ytjlehbncpjccmaa.Q
namespace Go.Proofs.Ytjlehbncpjccmaa
/-- The row, under a short name, for the claim. -/
theorem puzzlePlays_holds : Rows.PuzzlePlaysSaid := Q.RowPuzzlePlays.proved
#print axioms puzzlePlays_holds
end Go.Proofs.Ytjlehbncpjccmaa
