/-
  Proved: enc's clauses of graphs.
  Part 7 of 9. Conditions: none. A verified frame that runs compiled texts over a ghost heap, the contracts of the functions that the statement reaches, and the plain law.
-/
import Derived.Test.YtdpbcckkdccmlaaGreatXP6
import Derived.Test.YtdpbcckkdccmlaaGreatProg
import Derived.KernelRfl
namespace Go.Gh
open Go.RowKit Go.Proofs
set_option linter.unusedVariables false
set_option linter.unusedSimpArgs false
set_option maxRecDepth 100000
end Go.Gh
namespace Go.Gh
open Go.RowKit Go.Proofs
set_option linter.unusedVariables false
set_option linter.unusedSimpArgs false
set_option maxRecDepth 100000
@[simp] theorem wrap_two : IntKind.i64.wrap 2 = 2 := by decide
theorem flat_ei : ∀ L : List Int, L.flatMap eint = L.map fun x => DV.int .i64 x
  | [] => rfl
  | x :: l => by rw [List.flatMap_cons, flat_ei l]; rfl
theorem own_laid {σ : GS} (L : List Int) : Own σ.length 1 eint (σ ++ [.row false (L.map fun x => DV.int .i64 x)]) (.slice σ.length 0 L.length 1 (some L.length)) L :=
  .at_ (Nat.le_refl _) (by simp [flat_ei]) (fun c h => by cases h; rfl)
theorem lt2 {a b : Int} (ha : Lt a) (hb : Lt b) : ∀ x ∈ [a, b], Lt x := by intro x hx; simp at hx; rcases hx with rfl | rfl <;> assumption
theorem lt3 {a b c : Int} (ha : Lt a) (hb : Lt b) (hc : Lt c) : ∀ x ∈ [a, b, c], Lt x := by intro x hx; simp at hx; rcases hx with rfl | rfl | rfl <;> assumption
theorem fm_snoc (l : List (List Int)) (x : List Int) : (l ++ [x]).filterMap normL = l.filterMap normL ++ (normL x).toList := by
  rw [List.filterMap_append]
  congr 1
theorem fm_len (l : List (List Int)) : (l.filterMap normL).length ≤ l.length := List.length_filterMap_le _ _
theorem enc_neg_ok {i : List Int} {σ : GS} {Post : DV → GS → Prop} (hl : i.length < 2 ^ 40) (hlit : ∀ x ∈ i, Lt x) (k : ∀ s σ', Own σ.length 1 eint σ' s (i.map fun l => -l) → Fr σ.length σ σ' → Post s σ') : GCall Tryz.prog F_enc_neg [fints i] σ Post := by
  refine gc_enc_neg ?_
  have hms := mslice_ints (n := i.length) (by omega) .i64 .i64
  simp [G_enc_neg, genv0, List.replicate, hms]
  refine gfor i.length (fun j e σ' => Fr σ.length σ σ' ∧ Own σ.length 1 eint σ' (.slice σ.length 0 i.length 1 (some i.length)) (((i.take j).map fun l => -l) ++ List.replicate (i.length - j) 0) ∧ e = mkEnv 23 [(3, .slice σ.length 0 i.length 1 (some i.length)), (9, fints i), (10, .int .i64 i.length), (11, .int .i64 j)]) _ ?_ ⟨.self _, ?_, rfl⟩ ?_
  · simp [mkEnv, List.replicate]
  · have := own_laid (σ := σ) (List.replicate i.length 0)
    simpa [ints] using this
  rintro j _ σ1 hj ⟨hF, hO, rfl⟩
  simp [mkEnv, List.replicate]
  by_cases hlt : j < i.length
  · obtain ⟨x, hx⟩ := nth_lt hlt
    have hx' := nth_get hx
    have hxl := hlit x (List.mem_of_getElem? hx')
    have es : IntKind.i64.wrap ((j : Int) + 1) = (j : Int) + 1 := by rw [wrap_small] <;> omega
    obtain ⟨d, σ2, r1, r2, r3, r4, r5, r6⟩ := hO.set (f := fun x => DV.int .i64 x) (i := j) (by simp; omega) (-x) (by simp) (k := .i64)
    simp [hlt, hx, hxl.wrapN, r2, r3, es]
    refine forK_go _ hlt (by simp [mkEnv, List.replicate]) ⟨⟨by rw [r5]; exact hF.len, fun m hm => ?_⟩, ?_, rfl⟩
    · rw [r6 m fun h => by obtain ⟨_, _, _, _, e⟩ := h; cases e; omega]; exact hF.get m hm
    · have e : ((((i.take j).map fun l => -l) ++ List.replicate (i.length - j) 0).set j (-x)) = ((i.take (j + 1)).map fun l => -l) ++ List.replicate (i.length - (j + 1)) 0 := by
        have hjl : ((i.take j).map fun l => -l).length = j := by simp; omega
        rw [List.set_append_right _ _ (by omega), hjl, Nat.sub_self, take_get hx', show i.length - j = (i.length - (j + 1)) + 1 by omega, List.replicate_succ]
        simp
      rw [← e]; exact r4
  · have : j = i.length := by omega
    subst this
    simp
    exact k _ _ (by simpa using hO) hF
end Go.Gh
namespace Go.Gh
open Go.RowKit Go.Proofs
set_option linter.unusedVariables false
set_option linter.unusedSimpArgs false
set_option maxRecDepth 100000
theorem lt_map {i : List Int} (hi : ∀ l ∈ i, Lt l) : ∀ x ∈ i.map (fun l => -l), Lt x := fun x hx => by
  obtain ⟨y, hy, rfl⟩ := List.mem_map.1 hx; exact (hi y hy).neg
theorem lt_snoc {i : List Int} {x : Int} (hi : ∀ l ∈ i, Lt l) (hx : Lt x) : ∀ y ∈ i ++ [x], Lt y := fun y hy => by
  rcases List.mem_append.1 hy with h | h
  · exact hi y h
  · simp at h; subst h; exact hx
theorem fm_take {i : List Int} {f : Int → List Int} {j : Nat} {y : Int} (h : i[j]? = some y) (cs : List (List Int)) : cs ++ ((i.take (j + 1)).map f).filterMap normL = cs ++ ((i.take j).map f).filterMap normL ++ (normL (f y)).toList := by
  rw [take_get h, List.map_append, List.map_cons, List.map_nil, fm_snoc, List.append_assoc]
theorem gcl_1 (x : Int) (i : List Int) (pl mi : Bool) : gcl x 1 i pl mi = (if pl = true then (i.map fun l => [-x, l]).filterMap normL else []) ++ (if mi = true then [(i.map fun l => -l) ++ [x]].filterMap normL else []) := by
  unfold gcl rawP
  rw [if_pos rfl, List.filterMap_append]
  cases pl <;> cases mi <;> rfl
theorem gcl_2 (x : Int) (i : List Int) (pl mi : Bool) : gcl x 2 i pl mi = (if pl = true then [i ++ [-x]].filterMap normL else []) ++ (if mi = true then (i.map fun l => [x, -l]).filterMap normL else []) := by
  unfold gcl rawP
  rw [if_neg (by decide), if_pos rfl, List.filterMap_append]
  cases pl <;> cases mi <;> rfl
theorem gcl_3 (x : Int) (i : List Int) (pl mi : Bool) : gcl x 3 i pl mi = (if pl = true then [[-x, i.getD 0 0, i.getD 1 0], [-x, -i.getD 0 0, -i.getD 1 0]].filterMap normL else []) ++ (if mi = true then [[x, -i.getD 0 0, i.getD 1 0], [x, i.getD 0 0, -i.getD 1 0]].filterMap normL else []) := by
  unfold gcl rawP
  rw [if_neg (by decide), if_neg (by decide), if_pos rfl, List.filterMap_append]
  cases pl <;> cases mi <;> rfl
theorem gcl_4 (x : Int) (i : List Int) (pl mi : Bool) : gcl x 4 i pl mi = (if pl = true then [[-x, -i.getD 0 0, i.getD 1 0], [-x, i.getD 0 0, i.getD 2 0]].filterMap normL else []) ++ (if mi = true then [[x, -i.getD 0 0, -i.getD 1 0], [x, i.getD 0 0, -i.getD 2 0]].filterMap normL else []) := by
  unfold gcl rawP
  rw [if_neg (by decide), if_neg (by decide), if_neg (by decide), List.filterMap_append]
  cases pl <;> cases mi <;> rfl
theorem enc_w1_ok {n id : Nat} {cs : List (List Int)} {x : Int} {i : List Int} {pl mi : Bool} {σ : GS} {Post : DV → GS → Prop} (hB : CB n σ id cs) (hx : Lt x) (hi : ∀ l ∈ i, Lt l) (hil : i.length < 2 ^ 29) (hcs : cs.length < 2 ^ 38)
    (k : ∀ σ', CB n σ' id (cs ++ gcl x 1 i pl mi) → Stc σ id σ' → Post (.tuple []) σ') : GCall Tryz.prog F_enc_writers_1 [.ptr id 0, .int .i64 x, fints i, .bool pl, .bool mi] σ Post := by
  refine gc_enc_writers_1 ?_
  have hsnoc := lt_snoc (lt_map hi) hx
  cases pl with
  | false =>
    cases mi with
    | false =>
      simp [G_enc_writers_1, genv0, List.replicate]
      exact k _ (by simpa [gcl_1, gcl_2] using hB) (.refl _ _)
    | true =>
      simp [G_enc_writers_1, genv0, List.replicate]
      refine enc_neg_ok (by omega) hi fun s σ1 hO hF => ?_
      obtain ⟨s', σ2, q1, q2, q3, q4, q5, q6⟩ := hO.push (by_ := 8) x (fun _ => rfl) (by simp) hF.len (by simp; omega) (by decide)
      have hF2 := hF.trans q3
      simp [q1]
      refine enc_put_ok (hB.keep hF2.len hF2.get) q2 (by simp; omega) hsnoc (by omega) fun σ3 hB3 hS3 => ?_
      simp
      refine k _ ?_ ((hB.stc hF2.len hF2.get).trans hS3)
      have := fm_snoc [] ((i.map fun l => -l) ++ [x])
      simp only [List.nil_append, List.filterMap_nil] at this
      rw [← this] at hB3
      simpa only [gcl_1, if_true, Bool.false_eq_true, if_false, List.nil_append] using hB3
  | true =>
    simp [G_enc_writers_1, genv0, List.replicate]
    refine gfor i.length (fun j e σ' => CB n σ' id (cs ++ ((i.take j).map fun l => [-x, l]).filterMap normL) ∧ Stc σ id σ' ∧ e = mkEnv 34 [(0, .ptr id 0), (1, .int .i64 x), (2, fints i), (4, .bool mi), (13, fints i), (14, .int .i64 i.length), (15, .int .i64 j)]) _ ?_ ⟨by simpa using hB, .refl _ _, rfl⟩ ?_
    · simp [mkEnv, List.replicate]
    rintro j _ σ1 hj ⟨hB1, hS1, rfl⟩
    have hln := fm_len ((i.take j).map fun l => [-x, l])
    simp only [List.length_map, List.length_take] at hln
    simp [mkEnv, List.replicate]
    by_cases hlt : j < i.length
    · obtain ⟨y, hy⟩ := nth_lt hlt
      have hy' := nth_get hy
      have hyl := hi y (List.mem_of_getElem? hy')
      have es : IntKind.i64.wrap ((j : Int) + 1) = (j : Int) + 1 := by rw [wrap_small] <;> omega
      simp [hlt, hy, hx.wrapN]
      refine enc_put_ok (hB1.app _) (own_laid [-x, y]) (by simp) (lt2 hx.neg hyl) (by rw [List.length_append]; omega) fun σ2 hB2 hS2 => ?_
      simp [es]
      exact forK_go _ hlt (by simp [mkEnv, List.replicate]) ⟨by rw [fm_take hy']; exact hB2, (hS1.trans (hB1.stcApp _)).trans hS2, rfl⟩
    · have : j = i.length := by omega
      subst this
      rw [List.take_length] at hB1 hln
      cases mi with
      | false =>
        simp
        exact k _ (by simpa [gcl_1, gcl_2] using hB1) hS1
      | true =>
        simp
        refine enc_neg_ok (by omega) hi fun s σ2 hO hF => ?_
        obtain ⟨s', σ3, q1, q2, q3, q4, q5, q6⟩ := hO.push (by_ := 8) x (fun _ => rfl) (by simp) hF.len (by simp; omega) (by decide)
        have hF2 := hF.trans q3
        simp [q1]
        refine enc_put_ok (hB1.keep hF2.len hF2.get) q2 (by simp; omega) hsnoc (by rw [List.length_append]; omega) fun σ4 hB4 hS4 => ?_
        simp
        refine k _ ?_ ((hS1.trans (hB1.stc hF2.len hF2.get)).trans hS4)
        have := fm_snoc [] ((i.map fun l => -l) ++ [x])
        simp only [List.nil_append, List.filterMap_nil] at this
        rw [List.append_assoc, ← this] at hB4
        simpa only [gcl_1, if_true] using hB4
end Go.Gh
namespace Go.Gh
open Go.RowKit Go.Proofs
set_option linter.unusedVariables false
set_option linter.unusedSimpArgs false
set_option maxRecDepth 100000
@[simp] theorem nth_0 {α : Type} (x : α) (l : List α) : nth (x :: l) 0 = some x := rfl
@[simp] theorem nth_1 {α : Type} (x y : α) (l : List α) : nth (x :: y :: l) 1 = some y := rfl
@[simp] theorem nth_2 {α : Type} (x y z : α) (l : List α) : nth (x :: y :: z :: l) 2 = some z := rfl
@[simp] theorem fill_111 (z0 z1 z2 : DV) (a b c : Int) : gfill [(0, 1), (1, 1), (2, 1)] [z0, z1, z2] [.int .i64 a, .int .i64 b, .int .i64 c] = some [.int .i64 a, .int .i64 b, .int .i64 c] := rfl
@[simp] theorem fill_33 (z0 z1 z2 z3 z4 z5 a b c d e f : DV) : gfill [(0, 3), (3, 3)] [z0, z1, z2, z3, z4, z5] [.agg [a, b, c], .agg [d, e, f]] = some [a, b, c, d, e, f] := by simp [gfill, DV.cells, over]
abbrev ku8 (x : Int) : DV := .int .u8 x
instance : KeyE (.int .u8) ku8 where
  eq a b := by simp only [ku8, keyEq, and_self, if_true]; rfl
  fits a := rfl
/-- What writes the clauses of a gate, by the kind. -/
def wE : List (Int × DV) := [(1, .func F_enc_writers_1 [] []), (2, .func F_enc_writers_2 [] []), (3, .func F_enc_writers_3 [] []), (4, .func F_enc_writers_4 [] [])]
theorem enc_writers_ok {σ : GS} {Post : DV → GS → Prop} (k : ∀ σ', MpO ku8 σ' σ.length wE → Fr σ.length σ σ' → Post (.map σ.length) σ') : GCall Tryz.prog F_enc_writers [] σ Post := by
  refine gc_enc_writers ?_
  have h0 : MpO ku8 (σ ++ [.mp [] ([], 0)]) σ.length ([] : List (Int × DV)) := MpO.new
  obtain ⟨o1, a1, b1⟩ := h0.set (kt := .int .u8) 1 (.func F_enc_writers_1 [] [])
  obtain ⟨o2, a2, b2⟩ := b1.set (kt := .int .u8) 2 (.func F_enc_writers_2 [] [])
  obtain ⟨o3, a3, b3⟩ := b2.set (kt := .int .u8) 3 (.func F_enc_writers_3 [] [])
  obtain ⟨o4, a4, b4⟩ := b3.set (kt := .int .u8) 4 (.func F_enc_writers_4 [] [])
  simp only [ku8] at a1 a2 a3 a4
  simp at a1 a2 a3 a4
  simp [G_enc_writers, genv0, List.replicate, a1, a2, a3, a4]
  refine k _ ?_ ?_
  · simpa [kset, wE] using b4
  · exact Fr.self _
/-- A gate. -/
structure GateP where
  v : Int
  k : Int
  ins : List Int
abbrev egate (g : GateP) : List DV := [.int .i64 g.v, .int .u8 g.k, fints g.ins]
abbrev GateP.enc (g : GateP) : DV := .agg (egate g)
end Go.Gh
namespace Go.Gh
open Go.Proofs
abbrev F_enc_Half : Nat := 36
abbrev F_skolemref12_Cnf : Nat := 93
abbrev F_circ_May : Nat := 96
abbrev F_enc_formula : Nat := 111
abbrev F_enc_signs_add : Nat := 113
abbrev F_slices_Backward_api_Gate_api_Gate : Nat := 114
abbrev F_circ_set_prefix : Nat := 164
abbrev F_circ_literals : Nat := 165
abbrev F_circ_May_1 : Nat := 166
abbrev F_circ_set_has : Nat := 167
abbrev F_circ_shaped : Nat := 168
abbrev F_circ_set_add : Nat := 169
noncomputable abbrev G_enc_Half : GFun := ⟨60, [(.cell 2 2 true), (.tmp 3)], (.seq (.region [⟨0, ⟨(some 1), none, (.new .box), [(.tmp 0)]⟩, []⟩, ⟨0, ⟨(some 2), none, (.new (.alloc [.nils, .nils])), []⟩, []⟩, ⟨0, ⟨(some 3), none, (.pure .id), [(.const (.int .i64 0))]⟩, []⟩]) (.seq (.seq (.region [⟨0, ⟨(some 10), none, (.load (.load 3 true)), [(.tmp 1)]⟩, []⟩, ⟨0, ⟨(some 11), none, (.call F_circ_May), [(.tmp 10)]⟩, []⟩, ⟨0, ⟨(some 12), none, (.pure (.un .not)), [(.tmp 11)]⟩, []⟩]) (.cond (.tmp 12) (.seq (.region [⟨0, ⟨(some 13), none, (.pure (.build [.nils, .nils] [])), []⟩, []⟩, ⟨0, ⟨none, none, (.imp (.store 2)), [(.tmp 2), (.tmp 13)]⟩, []⟩, ⟨0, ⟨(some 3), none, (.pure .id), [(.const (.int .i64 2))]⟩, []⟩]) .ret) .skip)) (.seq (.region [⟨0, ⟨(some 4), none, (.new (.abig 65537 (.int .u8 0))), []⟩, []⟩]) (.seq (.region [⟨0, ⟨(some 14), none, (.pure (.faddr 2)), [(.tmp 1)]⟩, []⟩, ⟨0, ⟨(some 15), none, (.load (.load 1 false)), [(.tmp 14)]⟩, []⟩, ⟨0, ⟨(some 16), none, (.call F_enc_signs_add), [(.tmp 4), (.tmp 15), (.const (.int .u8 1))]⟩, []⟩]) (.seq (.seq (.region [⟨0, ⟨(some 17), none, (.pure (.faddr 1)), [(.tmp 1)]⟩, []⟩, ⟨0, ⟨(some 18), none, (.load (.load 1 false)), [(.tmp 17)]⟩, []⟩, ⟨0, ⟨(some 19), none, (.call F_slices_Backward_api_Gate_api_Gate), [(.tmp 18)]⟩, []⟩]) (.block 0 (.rangeF (.tmp 19) [20, 21] (rngA Tryz.f36 0) (rngB Tryz.f36 0)))) (.seq (.region [⟨0, ⟨(some 56), none, (.load (.load 3 true)), [(.tmp 1)]⟩, []⟩, ⟨0, ⟨(some 57), none, (.call F_enc_formula), [(.tmp 56), (.tmp 4)]⟩, []⟩, ⟨0, ⟨(some 58), none, (.pure (.extract 0)), [(.tmp 57)]⟩, []⟩, ⟨0, ⟨(some 59), none, (.pure (.extract 1)), [(.tmp 57)]⟩, []⟩, ⟨0, ⟨none, none, (.imp (.store 2)), [(.tmp 2), (.tmp 58)]⟩, []⟩, ⟨0, ⟨(some 3), none, (.pure .id), [(.tmp 59)]⟩, []⟩]) .ret))))))⟩
theorem c_enc_Half : compF Tryz.prog Tryz.f36 = some G_enc_Half := by kernel_rfl
noncomputable abbrev G_skolemref12_Cnf : GFun := ⟨32, [(.tmp 2)], (.seq (.region [⟨0, ⟨(some 2), none, (.pure .id), [(.const (.bool false))]⟩, []⟩]) (.seq (.region [⟨0, ⟨(some 3), none, (.pure .id), [(.const (.int .i64 0))]⟩, []⟩]) (.seq (.seq (.region [⟨0, ⟨(some 4), none, (.pure .id), [(.const (.int .i64 0))]⟩, []⟩]) (.block 0 (.loop (.seq (.seq (.region [⟨0, ⟨(some 5), none, (.pure .id), [(.tmp 4)]⟩, []⟩, ⟨0, ⟨(some 6), none, (.pure .id), [(.tmp 0)]⟩, []⟩, ⟨0, ⟨(some 7), none, (.pure .len), [(.tmp 6)]⟩, []⟩, ⟨0, ⟨(some 8), none, (.pure (.bin .lss .none)), [(.tmp 5), (.tmp 7)]⟩, []⟩]) (.cond (.tmp 8) .skip (.exit 0))) (.seq (.block 1 (.seq (.region [⟨0, ⟨(some 11), none, (.pure .id), [(.tmp 3)]⟩, []⟩, ⟨0, ⟨(some 12), none, (.pure .id), [(.tmp 0)]⟩, []⟩, ⟨0, ⟨(some 13), none, (.pure .id), [(.tmp 4)]⟩, []⟩, ⟨0, ⟨(some 14), none, (.pure (.iaddr 1)), [(.tmp 12), (.tmp 13)]⟩, []⟩, ⟨0, ⟨(some 15), none, (.load (.load 1 false)), [(.tmp 14)]⟩, []⟩, ⟨0, ⟨(some 16), none, (.pure .len), [(.tmp 15)]⟩, []⟩, ⟨0, ⟨(some 17), none, (.pure (.bin .add .none)), [(.tmp 11), (.tmp 16)]⟩, []⟩, ⟨0, ⟨(some 3), none, (.pure .id), [(.tmp 17)]⟩, []⟩]) (.seq (.region [⟨0, ⟨(some 18), none, (.pure .id), [(.tmp 4)]⟩, []⟩, ⟨0, ⟨(some 19), none, (.pure (.bin .geq .none)), [(.tmp 18), (.const (.int .i64 20000))]⟩, []⟩, ⟨0, ⟨(some 20), none, (.pure .id), [(.tmp 19)]⟩, []⟩, ⟨0, ⟨(some 21), (some (20, false)), (.pure .id), [(.tmp 3)]⟩, []⟩, ⟨0, ⟨(some 22), (some (20, false)), (.pure (.bin .gtr .none)), [(.tmp 21), (.const (.int .i64 200000))]⟩, []⟩, ⟨0, ⟨(some 23), none, (.pure .pick), [(.tmp 20), (.const (.bool true)), (.tmp 22)]⟩, []⟩, ⟨0, ⟨(some 24), none, (.pure .id), [(.tmp 23)]⟩, []⟩, ⟨0, ⟨(some 25), (some (24, false)), (.pure .id), [(.tmp 0)]⟩, []⟩, ⟨0, ⟨(some 26), (some (24, false)), (.pure .id), [(.tmp 4)]⟩, []⟩, ⟨0, ⟨(some 27), (some (24, false)), (.pure (.iaddr 1)), [(.tmp 25), (.tmp 26)]⟩, []⟩, ⟨0, ⟨(some 28), (some (24, false)), (.load (.load 1 false)), [(.tmp 27)]⟩, []⟩, ⟨0, ⟨(some 29), (some (24, false)), (.call F_skolemref05_Normal), [(.tmp 28)]⟩, []⟩, ⟨0, ⟨(some 30), (some (24, false)), (.pure (.un .not)), [(.tmp 29)]⟩, []⟩, ⟨0, ⟨(some 31), none, (.pure .pick), [(.tmp 24), (.const (.bool true)), (.tmp 30)]⟩, []⟩]) (.cond (.tmp 31) (.seq (.region [⟨0, ⟨(some 2), none, (.pure .id), [(.const (.bool false))]⟩, []⟩]) .ret) .skip)))) (.region [⟨0, ⟨(some 9), none, (.pure .id), [(.tmp 4)]⟩, []⟩, ⟨0, ⟨(some 10), none, (.pure (.bin .add .none)), [(.tmp 9), (.const (.int .i64 1))]⟩, []⟩, ⟨0, ⟨(some 4), none, (.pure .id), [(.tmp 10)]⟩, []⟩])))))) (.seq (.region [⟨0, ⟨(some 2), none, (.pure .id), [(.const (.bool true))]⟩, []⟩]) .ret))))⟩
theorem c_skolemref12_Cnf : compF Tryz.prog Tryz.f93 = some G_skolemref12_Cnf := by kernel_rfl
theorem gc_skolemref12_Cnf {args : List DV} {σ : GS} {Post : DV → GS → Prop} (h : @exB Tryz.prog ⟨G_skolemref12_Cnf.body⟩ (genv0 args G_skolemref12_Cnf.ntmps) σ ⟨@gretB G_skolemref12_Cnf.results ⟨Post⟩⟩) : GCall Tryz.prog F_skolemref12_Cnf args σ Post := gcall_ofB seatfollows Tryz.func93 (by kernel_rfl) c_skolemref12_Cnf h
noncomputable abbrev G_circ_May : GFun := ⟨44, [(.tmp 2)], (.seq (.region [⟨0, ⟨(some 1), none, (.new .box), [(.tmp 0)]⟩, []⟩, ⟨0, ⟨(some 2), none, (.pure .id), [(.const (.bool false))]⟩, []⟩]) (.seq (.region [⟨0, ⟨(some 3), none, (.new (.abig 65537 (.bool false))), []⟩, []⟩]) (.seq (.seq (.region [⟨0, ⟨(some 7), none, (.pure (.faddr 0)), [(.tmp 1)]⟩, []⟩, ⟨0, ⟨(some 8), none, (.load (.load 1 false)), [(.tmp 7)]⟩, []⟩, ⟨0, ⟨(some 9), none, (.call F_circ_set_prefix), [(.tmp 3), (.tmp 8)]⟩, []⟩, ⟨0, ⟨(some 10), none, (.pure (.un .not)), [(.tmp 9)]⟩, []⟩, ⟨0, ⟨(some 11), none, (.pure .id), [(.tmp 10)]⟩, []⟩, ⟨0, ⟨(some 12), (some (11, false)), (.pure (.faddr 1)), [(.tmp 1)]⟩, []⟩, ⟨0, ⟨(some 13), (some (11, false)), (.load (.load 1 false)), [(.tmp 12)]⟩, []⟩, ⟨0, ⟨(some 14), (some (11, false)), (.call F_circ_literals), [(.tmp 13)]⟩, []⟩, ⟨0, ⟨(some 15), (some (11, false)), (.pure (.bin .gtr .none)), [(.tmp 14), (.const (.int .i64 200000))]⟩, []⟩, ⟨0, ⟨(some 16), none, (.pure .pick), [(.tmp 11), (.const (.bool true)), (.tmp 15)]⟩, []⟩]) (.cond (.tmp 16) (.seq (.region [⟨0, ⟨(some 2), none, (.pure .id), [(.const (.bool false))]⟩, []⟩]) .ret) .skip)) (.seq (.region [⟨0, ⟨(some 17), none, (.pure (.mkfunc F_circ_May_1 0)), [(.tmp 3)]⟩, []⟩, ⟨0, ⟨(some 4), none, (.pure .id), [(.tmp 17)]⟩, []⟩]) (.seq (.seq (.region [⟨0, ⟨(some 18), none, (.pure (.faddr 1)), [(.tmp 1)]⟩, []⟩, ⟨0, ⟨(some 19), none, (.load (.load 1 false)), [(.tmp 18)]⟩, []⟩, ⟨0, ⟨(some 20), none, (.pure .len), [(.tmp 19)]⟩, []⟩, ⟨0, ⟨(some 21), none, (.pure .id), [(.const (.int .i64 0))]⟩, []⟩]) (.block 0 (.loop (.seq (.region [⟨0, ⟨(some 22), none, (.pure (.bin .lss .none)), [(.tmp 21), (.tmp 20)]⟩, []⟩]) (.seq (.cond (.tmp 22) .skip (.exit 0)) (.seq (.block 1 (.seq (.region [⟨0, ⟨(some 23), none, (.pure (.iaddr 3)), [(.tmp 19), (.tmp 21)]⟩, []⟩, ⟨0, ⟨(some 24), none, (.load (.load 3 true)), [(.tmp 23)]⟩, []⟩, ⟨0, ⟨(some 6), none, (.new (.alloc [(.int .i64 0), (.int .u8 0), .nils])), []⟩, []⟩, ⟨0, ⟨none, none, (.imp (.store 3)), [(.tmp 6), (.tmp 24)]⟩, []⟩]) (.seq (.region [⟨0, ⟨(some 25), none, (.load (.load 3 true)), [(.tmp 6)]⟩, []⟩, ⟨0, ⟨(some 26), none, (.call F_circ_shaped), [(.tmp 25)]⟩, []⟩, ⟨0, ⟨(some 27), none, (.pure (.un .not)), [(.tmp 26)]⟩, []⟩, ⟨0, ⟨(some 28), none, (.pure .id), [(.tmp 27)]⟩, []⟩, ⟨0, ⟨(some 29), (some (28, false)), (.pure (.faddr 2)), [(.tmp 6)]⟩, []⟩, ⟨0, ⟨(some 30), (some (28, false)), (.load (.load 1 false)), [(.tmp 29)]⟩, []⟩, ⟨0, ⟨(some 31), (some (28, false)), (.pure .id), [(.tmp 4)]⟩, []⟩, ⟨0, ⟨(some 32), (some (28, false)), (.call F_slices_ContainsFunc_int_int), [(.tmp 30), (.tmp 31)]⟩, []⟩, ⟨0, ⟨(some 33), none, (.pure .pick), [(.tmp 28), (.const (.bool true)), (.tmp 32)]⟩, []⟩, ⟨0, ⟨(some 34), none, (.pure .id), [(.tmp 33)]⟩, []⟩, ⟨0, ⟨(some 35), (some (34, false)), (.pure (.faddr 0)), [(.tmp 6)]⟩, []⟩, ⟨0, ⟨(some 36), (some (34, false)), (.load (.load 1 false)), [(.tmp 35)]⟩, []⟩, ⟨0, ⟨(some 37), (some (34, false)), (.call F_circ_set_add), [(.tmp 3), (.tmp 36)]⟩, []⟩, ⟨0, ⟨(some 38), (some (34, false)), (.pure (.un .not)), [(.tmp 37)]⟩, []⟩, ⟨0, ⟨(some 39), none, (.pure .pick), [(.tmp 34), (.const (.bool true)), (.tmp 38)]⟩, []⟩]) (.cond (.tmp 39) (.seq (.region [⟨0, ⟨(some 2), none, (.pure .id), [(.const (.bool false))]⟩, []⟩]) .ret) .skip)))) (.region [⟨0, ⟨(some 40), none, (.pure (.bin .add .none)), [(.tmp 21), (.const (.int .i64 1))]⟩, []⟩, ⟨0, ⟨(some 21), none, (.pure .id), [(.tmp 40)]⟩, []⟩]))))))) (.seq (.region [⟨0, ⟨(some 41), none, (.pure (.faddr 2)), [(.tmp 1)]⟩, []⟩, ⟨0, ⟨(some 42), none, (.load (.load 1 false)), [(.tmp 41)]⟩, []⟩, ⟨0, ⟨(some 43), none, (.call F_circ_set_has), [(.tmp 3), (.tmp 42)]⟩, []⟩, ⟨0, ⟨(some 2), none, (.pure .id), [(.tmp 43)]⟩, []⟩]) .ret))))))⟩
theorem c_circ_May : compF Tryz.prog Tryz.f96 = some G_circ_May := by kernel_rfl
end Go.Gh
namespace Go.Gh
open Go.Proofs
abbrev F_skolemlaw12_EncGraphs : Nat := 5
abbrev F_enc_Graph : Nat := 24
abbrev F_skolemref12_Graph : Nat := 25
abbrev F_enc_Graph_1 : Nat := 84
abbrev F_enc_Graph_2 : Nat := 87
abbrev F_enc_fits : Nat := 89
abbrev F_skolemref12_signed : Nat := 92
noncomputable abbrev G_enc_Graph : GFun := ⟨207, [(.tmp 6), (.tmp 7), (.tmp 8), (.tmp 9)], (.seq (.region [⟨0, ⟨(some 3), none, (.new .box), [(.tmp 0)]⟩, []⟩, ⟨0, ⟨(some 6), none, (.pure .id), [(.const .nils)]⟩, []⟩, ⟨0, ⟨(some 7), none, (.pure .id), [(.const .nils)]⟩, []⟩, ⟨0, ⟨(some 8), none, (.pure .id), [(.const (.int .i64 0))]⟩, []⟩, ⟨0, ⟨(some 9), none, (.pure .id), [(.const (.int .i64 0))]⟩, []⟩]) (.seq (.region [⟨0, ⟨(some 26), none, (.pure (.faddr 0)), [(.tmp 3)]⟩, []⟩, ⟨0, ⟨(some 27), none, (.load (.load 1 false)), [(.tmp 26)]⟩, []⟩, ⟨0, ⟨(some 28), none, (.pure .len), [(.tmp 27)]⟩, []⟩, ⟨0, ⟨(some 29), none, (.pure (.bin .add .none)), [(.const (.int .i64 1)), (.tmp 28)]⟩, []⟩, ⟨0, ⟨(some 30), none, (.pure (.faddr 1)), [(.tmp 3)]⟩, []⟩, ⟨0, ⟨(some 31), none, (.load (.load 1 false)), [(.tmp 30)]⟩, []⟩, ⟨0, ⟨(some 32), none, (.pure .len), [(.tmp 31)]⟩, []⟩, ⟨0, ⟨(some 33), none, (.pure (.bin .add .none)), [(.tmp 29), (.tmp 32)]⟩, []⟩, ⟨0, ⟨(some 34), none, (.pure (.bin .mul .none)), [(.const (.int .i64 2)), (.tmp 33)]⟩, []⟩, ⟨0, ⟨(some 35), none, (.pure (.bin .sub .none)), [(.tmp 34), (.const (.int .i64 1))]⟩, []⟩, ⟨0, ⟨(some 10), none, (.new (.alloc [(.int .i64 0)])), []⟩, []⟩, ⟨0, ⟨none, none, (.imp (.store 1)), [(.tmp 10), (.tmp 35)]⟩, []⟩]) (.seq (.seq (.region [⟨0, ⟨(some 36), none, (.load (.load 2 true)), [(.tmp 3)]⟩, []⟩, ⟨0, ⟨(some 37), none, (.call F_aig_May), [(.tmp 36)]⟩, []⟩, ⟨0, ⟨(some 38), none, (.pure (.un .not)), [(.tmp 37)]⟩, []⟩, ⟨0, ⟨(some 39), none, (.pure .id), [(.tmp 38)]⟩, []⟩, ⟨0, ⟨(some 40), (some (39, false)), (.pure .id), [(.tmp 1)]⟩, []⟩, ⟨0, ⟨(some 41), (some (39, false)), (.pure (.mkfunc F_enc_Graph_1 0)), [(.tmp 10)]⟩, []⟩, ⟨0, ⟨(some 42), (some (39, false)), (.call F_slices_ContainsFunc_int_int), [(.tmp 40), (.tmp 41)]⟩, []⟩, ⟨0, ⟨(some 43), none, (.pure .pick), [(.tmp 39), (.const (.bool true)), (.tmp 42)]⟩, []⟩]) (.cond (.tmp 43) (.seq (.region [⟨0, ⟨(some 6), none, (.pure .id), [(.const .nils)]⟩, []⟩, ⟨0, ⟨(some 7), none, (.pure .id), [(.const .nils)]⟩, []⟩, ⟨0, ⟨(some 8), none, (.pure .id), [(.const (.int .i64 0))]⟩, []⟩, ⟨0, ⟨(some 9), none, (.pure .id), [(.const (.int .i64 2))]⟩, []⟩]) .ret) .skip)) (.seq (.seq (.region [⟨0, ⟨(some 44), none, (.pure (.faddr 0)), [(.tmp 3)]⟩, []⟩, ⟨0, ⟨(some 45), none, (.load (.load 1 false)), [(.tmp 44)]⟩, []⟩, ⟨0, ⟨(some 46), none, (.pure .len), [(.tmp 45)]⟩, []⟩, ⟨0, ⟨(some 11), none, (.pure .id), [(.tmp 46)]⟩, []⟩]) (.seq (.region [⟨0, ⟨(some 47), none, (.pure .id), [(.tmp 2)]⟩, []⟩, ⟨0, ⟨(some 48), none, (.pure (.bin .lss .none)), [(.tmp 47), (.const (.int .i64 1))]⟩, []⟩, ⟨0, ⟨(some 49), none, (.pure .id), [(.tmp 48)]⟩, []⟩, ⟨0, ⟨(some 50), (some (49, false)), (.pure .id), [(.tmp 11)]⟩, []⟩, ⟨0, ⟨(some 51), (some (49, false)), (.pure (.bin .gtr .none)), [(.tmp 50), (.const (.int .i64 0))]⟩, []⟩, ⟨0, ⟨(some 52), (some (49, false)), (.pure .id), [(.tmp 51)]⟩, []⟩, ⟨0, ⟨(some 53), (some (52, true)), (.pure .id), [(.tmp 2)]⟩, []⟩, ⟨0, ⟨(some 54), (some (52, true)), (.pure (.faddr 0)), [(.tmp 3)]⟩, []⟩, ⟨0, ⟨(some 55), (some (52, true)), (.load (.load 1 false)), [(.tmp 54)]⟩, []⟩, ⟨0, ⟨(some 56), (some (52, true)), (.pure .id), [(.tmp 11)]⟩, []⟩, ⟨0, ⟨(some 57), (some (52, true)), (.pure (.bin .sub .none)), [(.tmp 56), (.const (.int .i64 1))]⟩, []⟩, ⟨0, ⟨(some 58), (some (52, true)), (.pure (.iaddr 1)), [(.tmp 55), (.tmp 57)]⟩, []⟩, ⟨0, ⟨(some 59), (some (52, true)), (.load (.load 1 false)), [(.tmp 58)]⟩, []⟩, ⟨0, ⟨(some 60), (some (52, true)), (.pure (.bin .leq .none)), [(.tmp 53), (.tmp 59)]⟩, []⟩, ⟨0, ⟨(some 61), (some (49, false)), (.pure .pick), [(.tmp 52), (.tmp 60), (.const (.bool false))]⟩, []⟩, ⟨0, ⟨(some 62), none, (.pure .pick), [(.tmp 49), (.const (.bool true)), (.tmp 61)]⟩, []⟩]) (.cond (.tmp 62) (.seq (.region [⟨0, ⟨(some 6), none, (.pure .id), [(.const .nils)]⟩, []⟩, ⟨0, ⟨(some 7), none, (.pure .id), [(.const .nils)]⟩, []⟩, ⟨0, ⟨(some 8), none, (.pure .id), [(.const (.int .i64 0))]⟩, []⟩, ⟨0, ⟨(some 9), none, (.pure .id), [(.const (.int .i64 2))]⟩, []⟩]) .ret) .skip))) (.seq (.region [⟨0, ⟨(some 63), none, (.pure (.faddr 0)), [(.tmp 3)]⟩, []⟩, ⟨0, ⟨(some 64), none, (.load (.load 1 false)), [(.tmp 63)]⟩, []⟩, ⟨0, ⟨(some 65), none, (.pure .len), [(.tmp 64)]⟩, []⟩, ⟨0, ⟨(some 66), none, (.pure (.bin .add .none)), [(.const (.int .i64 1)), (.tmp 65)]⟩, []⟩, ⟨0, ⟨(some 67), none, (.pure (.faddr 1)), [(.tmp 3)]⟩, []⟩, ⟨0, ⟨(some 68), none, (.load (.load 1 false)), [(.tmp 67)]⟩, []⟩, ⟨0, ⟨(some 69), none, (.pure .len), [(.tmp 68)]⟩, []⟩, ⟨0, ⟨(some 70), none, (.pure (.bin .add .none)), [(.tmp 66), (.tmp 69)]⟩, []⟩, ⟨0, ⟨(some 71), none, (.new (.mslice 1 1 [(.bool false)])), [(.tmp 70), (.tmp 70)]⟩, []⟩, ⟨0, ⟨(some 12), none, (.new (.alloc [.nils])), []⟩, []⟩, ⟨0, ⟨none, none, (.imp (.store 1)), [(.tmp 12), (.tmp 71)]⟩, []⟩]) (.seq (.seq (.region [⟨0, ⟨(some 72), none, (.pure .id), [(.tmp 1)]⟩, []⟩, ⟨0, ⟨(some 73), none, (.pure .len), [(.tmp 72)]⟩, []⟩, ⟨0, ⟨(some 74), none, (.pure .id), [(.const (.int .i64 0))]⟩, []⟩]) (.block 0 (.loop (.seq (.region [⟨0, ⟨(some 75), none, (.pure (.bin .lss .none)), [(.tmp 74), (.tmp 73)]⟩, []⟩]) (.seq (.cond (.tmp 75) .skip (.exit 0)) (.seq (.block 1 (.seq (.region [⟨0, ⟨(some 76), none, (.pure (.iaddr 1)), [(.tmp 72), (.tmp 74)]⟩, []⟩, ⟨0, ⟨(some 77), none, (.load (.load 1 false)), [(.tmp 76)]⟩, []⟩, ⟨0, ⟨(some 14), none, (.pure .id), [(.tmp 77)]⟩, []⟩]) (.region [⟨0, ⟨(some 78), none, (.load (.load 1 false)), [(.tmp 12)]⟩, []⟩, ⟨0, ⟨(some 79), none, (.pure .id), [(.tmp 14)]⟩, []⟩, ⟨0, ⟨(some 80), none, (.pure (.bin .shr .none)), [(.tmp 79), (.const (.int .u64 1))]⟩, []⟩, ⟨0, ⟨(some 81), none, (.pure (.iaddr 1)), [(.tmp 78), (.tmp 80)]⟩, []⟩, ⟨0, ⟨none, none, (.imp (.store 1)), [(.tmp 81), (.const (.bool true))]⟩, []⟩]))) (.region [⟨0, ⟨(some 82), none, (.pure (.bin .add .none)), [(.tmp 74), (.const (.int .i64 1))]⟩, []⟩, ⟨0, ⟨(some 74), none, (.pure .id), [(.tmp 82)]⟩, []⟩]))))))) (.seq (.region [⟨0, ⟨(some 83), none, (.pure (.faddr 0)), [(.tmp 3)]⟩, []⟩, ⟨0, ⟨(some 84), none, (.load (.load 1 false)), [(.tmp 83)]⟩, []⟩, ⟨0, ⟨(some 85), none, (.pure .len), [(.tmp 84)]⟩, []⟩, ⟨0, ⟨(some 86), none, (.pure (.bin .add .none)), [(.const (.int .i64 1)), (.tmp 85)]⟩, []⟩, ⟨0, ⟨(some 15), none, (.new (.alloc [(.int .i64 0)])), []⟩, []⟩, ⟨0, ⟨none, none, (.imp (.store 1)), [(.tmp 15), (.tmp 86)]⟩, []⟩]) (.seq (.seq (.region [⟨0, ⟨(some 87), none, (.pure (.faddr 1)), [(.tmp 3)]⟩, []⟩, ⟨0, ⟨(some 88), none, (.load (.load 1 false)), [(.tmp 87)]⟩, []⟩, ⟨0, ⟨(some 89), none, (.call F_slices_Backward__2_int__2_int), [(.tmp 88)]⟩, []⟩]) (.block 2 (.rangeF (.tmp 89) [90, 91] (rngA Tryz.f24 0) (rngB Tryz.f24 0)))) (.seq (.region [⟨0, ⟨(some 18), none, (.new (.alloc [.nils])), []⟩, []⟩]) (.seq (.region [⟨0, ⟨(some 108), none, (.call F_enc_writers), []⟩, []⟩, ⟨0, ⟨(some 109), none, (.load (.lookup (.int .u8) .nilf false)), [(.tmp 108), (.const (.int .u8 1))]⟩, []⟩, ⟨0, ⟨(some 19), none, (.pure .id), [(.tmp 109)]⟩, []⟩]) (.seq (.region [⟨0, ⟨(some 110), none, (.pure .id), [(.tmp 2)]⟩, []⟩, ⟨0, ⟨(some 8), none, (.pure .id), [(.tmp 110)]⟩, []⟩]) (.seq (.region [⟨0, ⟨(some 111), none, (.new (.bslice 1 [(.int .i64 0)] 1 [(0, 1)])), [(.const (.int .i64 0))]⟩, []⟩, ⟨1, ⟨(some 112), none, (.pure (.faddr 0)), [(.tmp 3)]⟩, []⟩, ⟨2, ⟨(some 113), none, (.load (.load 1 false)), [(.tmp 112)]⟩, []⟩, ⟨3, ⟨(some 114), none, (.pure (.faddr 1)), [(.tmp 3)]⟩, []⟩, ⟨4, ⟨(some 115), none, (.load (.load 1 false)), [(.tmp 114)]⟩, []⟩, ⟨5, ⟨(some 116), none, (.pure .len), [(.tmp 115)]⟩, []⟩, ⟨6, ⟨(some 117), none, (.new (.mslice 1 8 [(.int .i64 0)])), [(.tmp 116), (.tmp 116)]⟩, []⟩, ⟨7, ⟨(some 118), none, (.new (.bslice 1 [.nils] 3 [(0, 1), (1, 1), (2, 1)])), [(.tmp 111), (.tmp 113), (.tmp 117)]⟩, []⟩, ⟨9, ⟨(some 20), none, (.new (.alloc [.nils])), []⟩, []⟩, ⟨8, ⟨(some 119), none, (.call F_slices_Concat_int_int), [(.tmp 118)]⟩, [⟨(some 20), none, (.new (.alloc [.nils])), []⟩]⟩, ⟨10, ⟨none, none, (.imp (.store 1)), [(.tmp 20), (.tmp 119)]⟩, []⟩]) (.seq (.region [⟨0, ⟨(some 120), none, (.pure (.mkfunc F_enc_Graph_2 0)), [(.tmp 20)]⟩, []⟩, ⟨0, ⟨(some 21), none, (.pure .id), [(.tmp 120)]⟩, []⟩]) (.seq (.seq (.region [⟨0, ⟨(some 121), none, (.load (.load 1 false)), [(.tmp 12)]⟩, []⟩, ⟨0, ⟨(some 122), none, (.pure .len), [(.tmp 121)]⟩, []⟩, ⟨0, ⟨(some 123), none, (.pure .id), [(.const (.int .i64 0))]⟩, []⟩]) (.block 4 (.loop (.seq (.region [⟨0, ⟨(some 124), none, (.pure (.bin .lss .none)), [(.tmp 123), (.tmp 122)]⟩, []⟩]) (.seq (.cond (.tmp 124) .skip (.exit 4)) (.seq (.block 5 (.seq (.region [⟨0, ⟨(some 125), none, (.pure .id), [(.tmp 123)]⟩, []⟩, ⟨0, ⟨(some 126), none, (.pure (.iaddr 1)), [(.tmp 121), (.tmp 123)]⟩, []⟩, ⟨0, ⟨(some 127), none, (.load (.load 1 false)), [(.tmp 126)]⟩, []⟩, ⟨0, ⟨(some 22), none, (.pure .id), [(.tmp 125)]⟩, []⟩, ⟨0, ⟨(some 23), none, (.pure .id), [(.tmp 127)]⟩, []⟩]) (.seq (.seq (.region [⟨0, ⟨(some 128), none, (.pure .id), [(.tmp 23)]⟩, []⟩, ⟨0, ⟨(some 129), none, (.pure (.un .not)), [(.tmp 128)]⟩, []⟩, ⟨0, ⟨(some 130), none, (.pure .id), [(.tmp 129)]⟩, []⟩, ⟨0, ⟨(some 131), (some (130, false)), (.pure .id), [(.tmp 22)]⟩, []⟩, ⟨0, ⟨(some 132), (some (130, false)), (.pure (.bin .gtr .none)), [(.tmp 131), (.const (.int .i64 0))]⟩, []⟩, ⟨0, ⟨(some 133), (some (130, false)), (.pure .id), [(.tmp 132)]⟩, []⟩, ⟨0, ⟨(some 134), (some (133, true)), (.pure .id), [(.tmp 22)]⟩, []⟩, ⟨0, ⟨(some 135), (some (133, true)), (.load (.load 1 false)), [(.tmp 15)]⟩, []⟩, ⟨0, ⟨(some 136), (some (133, true)), (.pure (.bin .lss .none)), [(.tmp 134), (.tmp 135)]⟩, []⟩, ⟨0, ⟨(some 137), (some (130, false)), (.pure .pick), [(.tmp 133), (.tmp 136), (.const (.bool false))]⟩, []⟩, ⟨0, ⟨(some 138), none, (.pure .pick), [(.tmp 130), (.const (.bool true)), (.tmp 137)]⟩, []⟩]) (.cond (.tmp 138) (.exit 5) .skip)) (.seq (.seq (.region [⟨0, ⟨(some 139), none, (.pure .id), [(.tmp 8)]⟩, []⟩, ⟨0, ⟨(some 140), none, (.pure (.bin .gtr .none)), [(.tmp 139), (.const (.int .i64 65536))]⟩, []⟩, ⟨0, ⟨(some 141), none, (.pure .id), [(.tmp 140)]⟩, []⟩, ⟨0, ⟨(some 142), (some (141, false)), (.load (.load 1 false)), [(.tmp 18)]⟩, []⟩, ⟨0, ⟨(some 143), (some (141, false)), (.pure .len), [(.tmp 142)]⟩, []⟩, ⟨0, ⟨(some 144), (some (141, false)), (.pure (.bin .gtr .none)), [(.tmp 143), (.const (.int .i64 20000))]⟩, []⟩, ⟨0, ⟨(some 145), none, (.pure .pick), [(.tmp 141), (.const (.bool true)), (.tmp 144)]⟩, []⟩]) (.cond (.tmp 145) (.seq (.region [⟨0, ⟨(some 6), none, (.pure .id), [(.const .nils)]⟩, []⟩, ⟨0, ⟨(some 7), none, (.pure .id), [(.const .nils)]⟩, []⟩, ⟨0, ⟨(some 8), none, (.pure .id), [(.const (.int .i64 0))]⟩, []⟩, ⟨0, ⟨(some 9), none, (.pure .id), [(.const (.int .i64 3))]⟩, []⟩]) .ret) .skip)) (.seq (.region [⟨0, ⟨(some 146), none, (.load (.load 1 false)), [(.tmp 20)]⟩, []⟩, ⟨0, ⟨(some 147), none, (.pure .id), [(.tmp 22)]⟩, []⟩, ⟨0, ⟨(some 148), none, (.pure .id), [(.tmp 8)]⟩, []⟩, ⟨0, ⟨(some 149), none, (.pure (.iaddr 1)), [(.tmp 146), (.tmp 147)]⟩, []⟩, ⟨0, ⟨none, none, (.imp (.store 1)), [(.tmp 149), (.tmp 148)]⟩, []⟩]) (.seq (.region [⟨0, ⟨(some 150), none, (.pure .id), [(.tmp 8)]⟩, []⟩, ⟨0, ⟨(some 151), none, (.pure (.bin .add .none)), [(.tmp 150), (.const (.int .i64 1))]⟩, []⟩, ⟨0, ⟨(some 8), none, (.pure .id), [(.tmp 151)]⟩, []⟩]) (.seq (.region [⟨0, ⟨(some 152), none, (.pure .id), [(.tmp 22)]⟩, []⟩, ⟨0, ⟨(some 153), none, (.pure (.bin .eql .none)), [(.tmp 152), (.const (.int .i64 0))]⟩, []⟩]) (.cond (.tmp 153) (.region [⟨0, ⟨(some 154), none, (.load (.load 1 false)), [(.tmp 20)]⟩, []⟩, ⟨0, ⟨(some 155), none, (.pure (.iaddr 1)), [(.tmp 154), (.const (.int .i64 0))]⟩, []⟩, ⟨0, ⟨(some 156), none, (.load (.load 1 false)), [(.tmp 155)]⟩, []⟩, ⟨0, ⟨(some 157), none, (.pure (.un .neg)), [(.tmp 156)]⟩, []⟩, ⟨0, ⟨(some 158), none, (.new (.bslice 1 [(.int .i64 0)] 1 [(0, 1)])), [(.tmp 157)]⟩, []⟩, ⟨0, ⟨(some 159), none, (.call F_enc_clauses_put), [(.tmp 18), (.tmp 158)]⟩, []⟩]) (.region [⟨0, ⟨(some 160), none, (.pure .id), [(.tmp 19)]⟩, []⟩, ⟨1, ⟨(some 161), none, (.load (.load 1 false)), [(.tmp 20)]⟩, []⟩, ⟨2, ⟨(some 162), none, (.pure .id), [(.tmp 22)]⟩, []⟩, ⟨3, ⟨(some 163), none, (.pure (.iaddr 1)), [(.tmp 161), (.tmp 162)]⟩, []⟩, ⟨4, ⟨(some 164), none, (.load (.load 1 false)), [(.tmp 163)]⟩, []⟩, ⟨5, ⟨(some 165), none, (.pure .id), [(.tmp 21)]⟩, []⟩, ⟨6, ⟨(some 166), none, (.pure (.faddr 1)), [(.tmp 3)]⟩, []⟩, ⟨7, ⟨(some 167), none, (.load (.load 1 false)), [(.tmp 166)]⟩, []⟩, ⟨8, ⟨(some 168), none, (.pure .id), [(.tmp 22)]⟩, []⟩, ⟨9, ⟨(some 169), none, (.load (.load 1 false)), [(.tmp 15)]⟩, []⟩, ⟨10, ⟨(some 170), none, (.pure (.bin .sub .none)), [(.tmp 168), (.tmp 169)]⟩, []⟩, ⟨11, ⟨(some 171), none, (.pure (.iaddr 2)), [(.tmp 167), (.tmp 170)]⟩, []⟩, ⟨12, ⟨(some 172), none, (.pure (.iarr 2 1)), [(.tmp 171), (.const (.int .i64 0))]⟩, []⟩, ⟨13, ⟨(some 173), none, (.load (.load 1 false)), [(.tmp 172)]⟩, []⟩, ⟨15, ⟨(some 175), none, (.pure .id), [(.tmp 21)]⟩, []⟩, ⟨16, ⟨(some 176), none, (.pure (.faddr 1)), [(.tmp 3)]⟩, []⟩, ⟨17, ⟨(some 177), none, (.load (.load 1 false)), [(.tmp 176)]⟩, []⟩, ⟨18, ⟨(some 178), none, (.pure .id), [(.tmp 22)]⟩, []⟩, ⟨19, ⟨(some 179), none, (.load (.load 1 false)), [(.tmp 15)]⟩, []⟩, ⟨20, ⟨(some 180), none, (.pure (.bin .sub .none)), [(.tmp 178), (.tmp 179)]⟩, []⟩, ⟨21, ⟨(some 181), none, (.pure (.iaddr 2)), [(.tmp 177), (.tmp 180)]⟩, []⟩, ⟨22, ⟨(some 182), none, (.pure (.iarr 2 1)), [(.tmp 181), (.const (.int .i64 1))]⟩, []⟩, ⟨23, ⟨(some 183), none, (.load (.load 1 false)), [(.tmp 182)]⟩, []⟩, ⟨14, ⟨(some 174), none, .callv, [(.tmp 165), (.tmp 173)]⟩, [⟨(some 161), none, (.load (.load 1 false)), [(.tmp 20)]⟩, ⟨(some 164), none, (.load (.load 1 false)), [(.tmp 163)]⟩, ⟨(some 177), none, (.load (.load 1 false)), [(.tmp 176)]⟩, ⟨(some 179), none, (.load (.load 1 false)), [(.tmp 15)]⟩, ⟨(some 183), none, (.load (.load 1 false)), [(.tmp 182)]⟩]⟩, ⟨24, ⟨(some 184), none, .callv, [(.tmp 175), (.tmp 183)]⟩, [⟨(some 161), none, (.load (.load 1 false)), [(.tmp 20)]⟩, ⟨(some 164), none, (.load (.load 1 false)), [(.tmp 163)]⟩]⟩, ⟨25, ⟨(some 185), none, (.new (.bslice 1 [(.int .i64 0)] 2 [(0, 1), (1, 1)])), [(.tmp 174), (.tmp 184)]⟩, []⟩, ⟨26, ⟨(some 186), none, .callv, [(.tmp 160), (.tmp 18), (.tmp 164), (.tmp 185), (.const (.bool true)), (.const (.bool true))]⟩, []⟩]))))))))) (.region [⟨0, ⟨(some 187), none, (.pure (.bin .add .none)), [(.tmp 123), (.const (.int .i64 1))]⟩, []⟩, ⟨0, ⟨(some 123), none, (.pure .id), [(.tmp 187)]⟩, []⟩]))))))) (.seq (.seq (.region [⟨0, ⟨(some 188), none, (.load (.load 1 false)), [(.tmp 18)]⟩, []⟩, ⟨0, ⟨(some 189), none, (.call F_enc_fits), [(.tmp 188)]⟩, []⟩, ⟨0, ⟨(some 190), none, (.pure (.un .not)), [(.tmp 189)]⟩, []⟩]) (.cond (.tmp 190) (.seq (.region [⟨0, ⟨(some 6), none, (.pure .id), [(.const .nils)]⟩, []⟩, ⟨0, ⟨(some 7), none, (.pure .id), [(.const .nils)]⟩, []⟩, ⟨0, ⟨(some 8), none, (.pure .id), [(.const (.int .i64 0))]⟩, []⟩, ⟨0, ⟨(some 9), none, (.pure .id), [(.const (.int .i64 3))]⟩, []⟩]) .ret) .skip)) (.seq (.seq (.region [⟨0, ⟨(some 191), none, (.pure .id), [(.tmp 1)]⟩, []⟩, ⟨0, ⟨(some 192), none, (.pure .len), [(.tmp 191)]⟩, []⟩, ⟨0, ⟨(some 193), none, (.pure .id), [(.const (.int .i64 0))]⟩, []⟩]) (.block 6 (.loop (.seq (.region [⟨0, ⟨(some 194), none, (.pure (.bin .lss .none)), [(.tmp 193), (.tmp 192)]⟩, []⟩]) (.seq (.cond (.tmp 194) .skip (.exit 6)) (.seq (.block 7 (.seq (.region [⟨0, ⟨(some 195), none, (.pure (.iaddr 1)), [(.tmp 191), (.tmp 193)]⟩, []⟩, ⟨0, ⟨(some 196), none, (.load (.load 1 false)), [(.tmp 195)]⟩, []⟩, ⟨0, ⟨(some 25), none, (.pure .id), [(.tmp 196)]⟩, []⟩]) (.region [⟨0, ⟨(some 197), none, (.pure .id), [(.tmp 7)]⟩, []⟩, ⟨0, ⟨(some 198), none, (.pure .id), [(.tmp 21)]⟩, []⟩, ⟨0, ⟨(some 199), none, (.pure .id), [(.tmp 25)]⟩, []⟩, ⟨0, ⟨(some 200), none, .callv, [(.tmp 198), (.tmp 199)]⟩, []⟩, ⟨0, ⟨(some 201), none, (.new (.bslice 1 [(.int .i64 0)] 1 [(0, 1)])), [(.tmp 200)]⟩, []⟩, ⟨0, ⟨(some 202), none, (.imp (.append 1 8)), [(.tmp 197), (.tmp 201)]⟩, []⟩, ⟨0, ⟨(some 7), none, (.pure .id), [(.tmp 202)]⟩, []⟩]))) (.region [⟨0, ⟨(some 203), none, (.pure (.bin .add .none)), [(.tmp 193), (.const (.int .i64 1))]⟩, []⟩, ⟨0, ⟨(some 193), none, (.pure .id), [(.tmp 203)]⟩, []⟩]))))))) (.seq (.region [⟨0, ⟨(some 204), none, (.load (.load 1 false)), [(.tmp 18)]⟩, []⟩, ⟨0, ⟨(some 205), none, (.pure .id), [(.tmp 7)]⟩, []⟩, ⟨0, ⟨(some 206), none, (.pure .id), [(.tmp 8)]⟩, []⟩, ⟨0, ⟨(some 6), none, (.pure .id), [(.tmp 204)]⟩, []⟩, ⟨0, ⟨(some 7), none, (.pure .id), [(.tmp 205)]⟩, []⟩, ⟨0, ⟨(some 8), none, (.pure .id), [(.tmp 206)]⟩, []⟩, ⟨0, ⟨(some 9), none, (.pure .id), [(.const (.int .i64 0))]⟩, []⟩]) .ret)))))))))))))))))⟩
theorem c_enc_Graph : compF Tryz.prog Tryz.f24 = some G_enc_Graph := by kernel_rfl
theorem gc_enc_Graph {args : List DV} {σ : GS} {Post : DV → GS → Prop} (h : @exB Tryz.prog ⟨G_enc_Graph.body⟩ (genv0 args G_enc_Graph.ntmps) σ ⟨@gretB G_enc_Graph.results ⟨Post⟩⟩) : GCall Tryz.prog F_enc_Graph args σ Post := gcall_ofB seatfollows Tryz.func24 (by kernel_rfl) c_enc_Graph h
noncomputable abbrev GA_enc_Graph_0 : GCode := (.seq (.region [⟨0, ⟨(some 16), none, (.pure .id), [(.tmp 90)]⟩, []⟩]) (.region [⟨0, ⟨(some 17), none, (.new (.alloc [(.int .i64 0), (.int .i64 0)])), []⟩, []⟩, ⟨0, ⟨none, none, (.imp (.store 2)), [(.tmp 17), (.tmp 91)]⟩, []⟩]))
theorem ca_enc_Graph_0 : comp Tryz.prog (rngA Tryz.f24 0) = some GA_enc_Graph_0 := by kernel_rfl
noncomputable abbrev GB_enc_Graph_0 : GCode := (.block 3 (.seq (.region [⟨0, ⟨(some 92), none, (.load (.load 1 false)), [(.tmp 12)]⟩, []⟩, ⟨0, ⟨(some 93), none, (.load (.load 1 false)), [(.tmp 15)]⟩, []⟩, ⟨0, ⟨(some 94), none, (.pure .id), [(.tmp 16)]⟩, []⟩, ⟨0, ⟨(some 95), none, (.pure (.bin .add .none)), [(.tmp 93), (.tmp 94)]⟩, []⟩, ⟨0, ⟨(some 96), none, (.pure (.iaddr 1)), [(.tmp 92), (.tmp 95)]⟩, []⟩, ⟨0, ⟨(some 97), none, (.load (.load 1 false)), [(.tmp 96)]⟩, []⟩]) (.cond (.tmp 97) (.region [⟨0, ⟨(some 98), none, (.load (.load 1 false)), [(.tmp 12)]⟩, []⟩, ⟨1, ⟨(some 99), none, (.pure (.iarr 2 1)), [(.tmp 17), (.const (.int .i64 0))]⟩, []⟩, ⟨2, ⟨(some 100), none, (.load (.load 1 false)), [(.tmp 99)]⟩, []⟩, ⟨3, ⟨(some 101), none, (.pure (.bin .shr .none)), [(.tmp 100), (.const (.int .u64 1))]⟩, []⟩, ⟨4, ⟨(some 102), none, (.load (.load 1 false)), [(.tmp 12)]⟩, []⟩, ⟨5, ⟨(some 103), none, (.pure (.iarr 2 1)), [(.tmp 17), (.const (.int .i64 1))]⟩, []⟩, ⟨6, ⟨(some 104), none, (.load (.load 1 false)), [(.tmp 103)]⟩, []⟩, ⟨7, ⟨(some 105), none, (.pure (.bin .shr .none)), [(.tmp 104), (.const (.int .u64 1))]⟩, []⟩, ⟨8, ⟨(some 106), none, (.pure (.iaddr 1)), [(.tmp 98), (.tmp 101)]⟩, []⟩, ⟨9, ⟨none, none, (.imp (.store 1)), [(.tmp 106), (.const (.bool true))]⟩, [⟨(some 102), none, (.load (.load 1 false)), [(.tmp 12)]⟩, ⟨(some 104), none, (.load (.load 1 false)), [(.tmp 103)]⟩]⟩, ⟨10, ⟨(some 107), none, (.pure (.iaddr 1)), [(.tmp 102), (.tmp 105)]⟩, []⟩, ⟨11, ⟨none, none, (.imp (.store 1)), [(.tmp 107), (.const (.bool true))]⟩, []⟩]) .skip)))
theorem cb_enc_Graph_0 : comp Tryz.prog (rngB Tryz.f24 0) = some GB_enc_Graph_0 := by kernel_rfl
noncomputable abbrev G_enc_Graph_1 : GFun := ⟨11, [(.tmp 3)], (.seq (.region [⟨0, ⟨(some 3), none, (.pure .id), [(.const (.bool false))]⟩, []⟩]) (.seq (.region [⟨0, ⟨(some 4), none, (.pure .id), [(.tmp 0)]⟩, []⟩, ⟨0, ⟨(some 5), none, (.pure (.bin .lss .none)), [(.tmp 4), (.const (.int .i64 0))]⟩, []⟩, ⟨0, ⟨(some 6), none, (.pure .id), [(.tmp 5)]⟩, []⟩, ⟨0, ⟨(some 7), (some (6, false)), (.pure .id), [(.tmp 0)]⟩, []⟩, ⟨0, ⟨(some 8), (some (6, false)), (.load (.load 1 false)), [(.tmp 1)]⟩, []⟩, ⟨0, ⟨(some 9), (some (6, false)), (.pure (.bin .gtr .none)), [(.tmp 7), (.tmp 8)]⟩, []⟩, ⟨0, ⟨(some 10), none, (.pure .pick), [(.tmp 6), (.const (.bool true)), (.tmp 9)]⟩, []⟩, ⟨0, ⟨(some 3), none, (.pure .id), [(.tmp 10)]⟩, []⟩]) .ret))⟩
theorem c_enc_Graph_1 : compF Tryz.prog Tryz.f84 = some G_enc_Graph_1 := by kernel_rfl
theorem gc_enc_Graph_1 {args : List DV} {σ : GS} {Post : DV → GS → Prop} (h : @exB Tryz.prog ⟨G_enc_Graph_1.body⟩ (genv0 args G_enc_Graph_1.ntmps) σ ⟨@gretB G_enc_Graph_1.results ⟨Post⟩⟩) : GCall Tryz.prog F_enc_Graph_1 args σ Post := gcall_ofB seatfollows Tryz.func84 (by kernel_rfl) c_enc_Graph_1 h
noncomputable abbrev G_enc_Graph_2 : GFun := ⟨18, [(.tmp 3)], (.seq (.region [⟨0, ⟨(some 3), none, (.pure .id), [(.const (.int .i64 0))]⟩, []⟩]) (.seq (.seq (.region [⟨0, ⟨(some 4), none, (.pure .id), [(.tmp 0)]⟩, []⟩, ⟨0, ⟨(some 5), none, (.pure (.bin .and .none)), [(.tmp 4), (.const (.int .i64 1))]⟩, []⟩, ⟨0, ⟨(some 6), none, (.pure (.bin .eql .none)), [(.tmp 5), (.const (.int .i64 1))]⟩, []⟩]) (.cond (.tmp 6) (.seq (.region [⟨0, ⟨(some 7), none, (.load (.load 1 false)), [(.tmp 1)]⟩, []⟩, ⟨0, ⟨(some 8), none, (.pure .id), [(.tmp 0)]⟩, []⟩, ⟨0, ⟨(some 9), none, (.pure (.bin .shr .none)), [(.tmp 8), (.const (.int .u64 1))]⟩, []⟩, ⟨0, ⟨(some 10), none, (.pure (.iaddr 1)), [(.tmp 7), (.tmp 9)]⟩, []⟩, ⟨0, ⟨(some 11), none, (.load (.load 1 false)), [(.tmp 10)]⟩, []⟩, ⟨0, ⟨(some 12), none, (.pure (.un .neg)), [(.tmp 11)]⟩, []⟩, ⟨0, ⟨(some 3), none, (.pure .id), [(.tmp 12)]⟩, []⟩]) .ret) .skip)) (.seq (.region [⟨0, ⟨(some 13), none, (.load (.load 1 false)), [(.tmp 1)]⟩, []⟩, ⟨0, ⟨(some 14), none, (.pure .id), [(.tmp 0)]⟩, []⟩, ⟨0, ⟨(some 15), none, (.pure (.bin .shr .none)), [(.tmp 14), (.const (.int .u64 1))]⟩, []⟩, ⟨0, ⟨(some 16), none, (.pure (.iaddr 1)), [(.tmp 13), (.tmp 15)]⟩, []⟩, ⟨0, ⟨(some 17), none, (.load (.load 1 false)), [(.tmp 16)]⟩, []⟩, ⟨0, ⟨(some 3), none, (.pure .id), [(.tmp 17)]⟩, []⟩]) .ret)))⟩
theorem c_enc_Graph_2 : compF Tryz.prog Tryz.f87 = some G_enc_Graph_2 := by kernel_rfl
theorem gc_enc_Graph_2 {args : List DV} {σ : GS} {Post : DV → GS → Prop} (h : @exB Tryz.prog ⟨G_enc_Graph_2.body⟩ (genv0 args G_enc_Graph_2.ntmps) σ ⟨@gretB G_enc_Graph_2.results ⟨Post⟩⟩) : GCall Tryz.prog F_enc_Graph_2 args σ Post := gcall_ofB seatfollows Tryz.func87 (by kernel_rfl) c_enc_Graph_2 h
noncomputable abbrev G_enc_fits : GFun := ⟨24, [(.tmp 2)], (.seq (.region [⟨0, ⟨(some 2), none, (.pure .id), [(.const (.bool false))]⟩, []⟩]) (.seq (.region [⟨0, ⟨(some 3), none, (.pure .id), [(.const (.int .i64 0))]⟩, []⟩]) (.seq (.seq (.region [⟨0, ⟨(some 6), none, (.pure .id), [(.tmp 0)]⟩, []⟩, ⟨0, ⟨(some 7), none, (.pure .len), [(.tmp 6)]⟩, []⟩, ⟨0, ⟨(some 8), none, (.pure .id), [(.const (.int .i64 0))]⟩, []⟩]) (.block 0 (.loop (.seq (.region [⟨0, ⟨(some 9), none, (.pure (.bin .lss .none)), [(.tmp 8), (.tmp 7)]⟩, []⟩]) (.seq (.cond (.tmp 9) .skip (.exit 0)) (.seq (.block 1 (.seq (.region [⟨0, ⟨(some 10), none, (.pure (.iaddr 1)), [(.tmp 6), (.tmp 8)]⟩, []⟩, ⟨0, ⟨(some 11), none, (.load (.load 1 false)), [(.tmp 10)]⟩, []⟩, ⟨0, ⟨(some 5), none, (.pure .id), [(.tmp 11)]⟩, []⟩]) (.region [⟨0, ⟨(some 12), none, (.pure .id), [(.tmp 3)]⟩, []⟩, ⟨0, ⟨(some 13), none, (.pure .id), [(.tmp 5)]⟩, []⟩, ⟨0, ⟨(some 14), none, (.pure .len), [(.tmp 13)]⟩, []⟩, ⟨0, ⟨(some 15), none, (.pure (.bin .add .none)), [(.tmp 12), (.tmp 14)]⟩, []⟩, ⟨0, ⟨(some 3), none, (.pure .id), [(.tmp 15)]⟩, []⟩]))) (.region [⟨0, ⟨(some 16), none, (.pure (.bin .add .none)), [(.tmp 8), (.const (.int .i64 1))]⟩, []⟩, ⟨0, ⟨(some 8), none, (.pure .id), [(.tmp 16)]⟩, []⟩]))))))) (.seq (.region [⟨0, ⟨(some 17), none, (.pure .id), [(.tmp 0)]⟩, []⟩, ⟨0, ⟨(some 18), none, (.pure .len), [(.tmp 17)]⟩, []⟩, ⟨0, ⟨(some 19), none, (.pure (.bin .leq .none)), [(.tmp 18), (.const (.int .i64 20000))]⟩, []⟩, ⟨0, ⟨(some 20), none, (.pure .id), [(.tmp 19)]⟩, []⟩, ⟨0, ⟨(some 21), (some (20, true)), (.pure .id), [(.tmp 3)]⟩, []⟩, ⟨0, ⟨(some 22), (some (20, true)), (.pure (.bin .leq .none)), [(.tmp 21), (.const (.int .i64 200000))]⟩, []⟩, ⟨0, ⟨(some 23), none, (.pure .pick), [(.tmp 20), (.tmp 22), (.const (.bool false))]⟩, []⟩, ⟨0, ⟨(some 2), none, (.pure .id), [(.tmp 23)]⟩, []⟩]) .ret))))⟩
theorem c_enc_fits : compF Tryz.prog Tryz.f89 = some G_enc_fits := by kernel_rfl
theorem gc_enc_fits {args : List DV} {σ : GS} {Post : DV → GS → Prop} (h : @exB Tryz.prog ⟨G_enc_fits.body⟩ (genv0 args G_enc_fits.ntmps) σ ⟨@gretB G_enc_fits.results ⟨Post⟩⟩) : GCall Tryz.prog F_enc_fits args σ Post := gcall_ofB seatfollows Tryz.func89 (by kernel_rfl) c_enc_fits h
noncomputable abbrev G_skolemref12_Graph : GFun := ⟨165, [(.tmp 6), (.tmp 7), (.tmp 8), (.tmp 9)], (.seq (.region [⟨0, ⟨(some 3), none, (.new .box), [(.tmp 0)]⟩, []⟩, ⟨0, ⟨(some 6), none, (.pure .id), [(.const .nils)]⟩, []⟩, ⟨0, ⟨(some 7), none, (.pure .id), [(.const .nils)]⟩, []⟩, ⟨0, ⟨(some 8), none, (.pure .id), [(.const (.int .i64 0))]⟩, []⟩, ⟨0, ⟨(some 9), none, (.pure .id), [(.const (.int .i64 0))]⟩, []⟩]) (.seq (.seq (.region [⟨0, ⟨(some 20), none, (.load (.load 2 true)), [(.tmp 3)]⟩, []⟩, ⟨0, ⟨(some 21), none, (.pure .id), [(.tmp 1)]⟩, []⟩, ⟨0, ⟨(some 22), none, (.call F_skolemref06_HasAll), [(.tmp 20), (.tmp 21)]⟩, []⟩, ⟨0, ⟨(some 23), none, (.pure (.un .not)), [(.tmp 22)]⟩, []⟩, ⟨0, ⟨(some 24), none, (.pure .id), [(.tmp 23)]⟩, []⟩, ⟨0, ⟨(some 25), (some (24, false)), (.pure .id), [(.tmp 2)]⟩, []⟩, ⟨0, ⟨(some 26), (some (24, false)), (.pure (.bin .lss .none)), [(.tmp 25), (.const (.int .i64 1))]⟩, []⟩, ⟨0, ⟨(some 27), none, (.pure .pick), [(.tmp 24), (.const (.bool true)), (.tmp 26)]⟩, []⟩, ⟨0, ⟨(some 28), none, (.pure .id), [(.tmp 27)]⟩, []⟩, ⟨0, ⟨(some 29), (some (28, false)), (.pure (.faddr 0)), [(.tmp 3)]⟩, []⟩, ⟨0, ⟨(some 30), (some (28, false)), (.load (.load 1 false)), [(.tmp 29)]⟩, []⟩, ⟨0, ⟨(some 31), (some (28, false)), (.pure .len), [(.tmp 30)]⟩, []⟩, ⟨0, ⟨(some 32), (some (28, false)), (.pure (.bin .gtr .none)), [(.tmp 31), (.const (.int .i64 0))]⟩, []⟩, ⟨0, ⟨(some 33), (some (28, false)), (.pure .id), [(.tmp 32)]⟩, []⟩, ⟨0, ⟨(some 34), (some (33, true)), (.pure .id), [(.tmp 2)]⟩, []⟩, ⟨0, ⟨(some 35), (some (33, true)), (.pure (.faddr 0)), [(.tmp 3)]⟩, []⟩, ⟨0, ⟨(some 36), (some (33, true)), (.load (.load 1 false)), [(.tmp 35)]⟩, []⟩, ⟨0, ⟨(some 37), (some (33, true)), (.pure (.faddr 0)), [(.tmp 3)]⟩, []⟩, ⟨0, ⟨(some 38), (some (33, true)), (.load (.load 1 false)), [(.tmp 37)]⟩, []⟩, ⟨0, ⟨(some 39), (some (33, true)), (.pure .len), [(.tmp 38)]⟩, []⟩, ⟨0, ⟨(some 40), (some (33, true)), (.pure (.bin .sub .none)), [(.tmp 39), (.const (.int .i64 1))]⟩, []⟩, ⟨0, ⟨(some 41), (some (33, true)), (.pure (.iaddr 1)), [(.tmp 36), (.tmp 40)]⟩, []⟩, ⟨0, ⟨(some 42), (some (33, true)), (.load (.load 1 false)), [(.tmp 41)]⟩, []⟩, ⟨0, ⟨(some 43), (some (33, true)), (.pure (.bin .leq .none)), [(.tmp 34), (.tmp 42)]⟩, []⟩, ⟨0, ⟨(some 44), (some (28, false)), (.pure .pick), [(.tmp 33), (.tmp 43), (.const (.bool false))]⟩, []⟩, ⟨0, ⟨(some 45), none, (.pure .pick), [(.tmp 28), (.const (.bool true)), (.tmp 44)]⟩, []⟩]) (.cond (.tmp 45) (.seq (.region [⟨0, ⟨(some 6), none, (.pure .id), [(.const .nils)]⟩, []⟩, ⟨0, ⟨(some 7), none, (.pure .id), [(.const .nils)]⟩, []⟩, ⟨0, ⟨(some 8), none, (.pure .id), [(.const (.int .i64 0))]⟩, []⟩, ⟨0, ⟨(some 9), none, (.pure .id), [(.const (.int .i64 2))]⟩, []⟩]) .ret) .skip)) (.seq (.region [⟨0, ⟨(some 46), none, (.load (.load 2 true)), [(.tmp 3)]⟩, []⟩, ⟨0, ⟨(some 47), none, (.pure .id), [(.tmp 1)]⟩, []⟩, ⟨0, ⟨(some 48), none, (.call F_skolemref06_Reached), [(.tmp 46), (.tmp 47)]⟩, []⟩, ⟨0, ⟨(some 10), none, (.pure .id), [(.tmp 48)]⟩, []⟩]) (.seq (.region [⟨0, ⟨(some 49), none, (.load (.load 2 true)), [(.tmp 3)]⟩, []⟩, ⟨0, ⟨(some 50), none, (.call F_skolemref06_Nodes), [(.tmp 49)]⟩, []⟩, ⟨0, ⟨(some 51), none, (.new (.mslice 1 8 [(.int .i64 0)])), [(.tmp 50), (.tmp 50)]⟩, []⟩, ⟨0, ⟨(some 11), none, (.pure .id), [(.tmp 51)]⟩, []⟩]) (.seq (.region [⟨0, ⟨(some 52), none, (.pure .id), [(.tmp 2)]⟩, []⟩, ⟨0, ⟨(some 12), none, (.pure .id), [(.tmp 52)]⟩, []⟩]) (.seq (.region [⟨0, ⟨(some 13), none, (.pure .id), [(.const .nils)]⟩, []⟩]) (.seq (.seq (.region [⟨0, ⟨(some 53), none, (.pure .id), [(.tmp 10)]⟩, []⟩, ⟨0, ⟨(some 54), none, (.pure (.iaddr 1)), [(.tmp 53), (.const (.int .i64 0))]⟩, []⟩, ⟨0, ⟨(some 55), none, (.load (.load 1 false)), [(.tmp 54)]⟩, []⟩, ⟨0, ⟨(some 56), none, (.pure .id), [(.tmp 55)]⟩, []⟩, ⟨0, ⟨(some 57), (some (56, true)), (.pure .id), [(.tmp 12)]⟩, []⟩, ⟨0, ⟨(some 58), (some (56, true)), (.pure (.bin .gtr .none)), [(.tmp 57), (.const (.int .i64 65536))]⟩, []⟩, ⟨0, ⟨(some 59), none, (.pure .pick), [(.tmp 56), (.tmp 58), (.const (.bool false))]⟩, []⟩]) (.cond (.tmp 59) (.seq (.region [⟨0, ⟨(some 6), none, (.pure .id), [(.const .nils)]⟩, []⟩, ⟨0, ⟨(some 7), none, (.pure .id), [(.const .nils)]⟩, []⟩, ⟨0, ⟨(some 8), none, (.pure .id), [(.const (.int .i64 0))]⟩, []⟩, ⟨0, ⟨(some 9), none, (.pure .id), [(.const (.int .i64 3))]⟩, []⟩]) .ret) .skip)) (.seq (.seq (.region [⟨0, ⟨(some 60), none, (.pure .id), [(.tmp 10)]⟩, []⟩, ⟨0, ⟨(some 61), none, (.pure (.iaddr 1)), [(.tmp 60), (.const (.int .i64 0))]⟩, []⟩, ⟨0, ⟨(some 62), none, (.load (.load 1 false)), [(.tmp 61)]⟩, []⟩]) (.cond (.tmp 62) (.seq (.region [⟨0, ⟨(some 63), none, (.pure .id), [(.tmp 11)]⟩, []⟩, ⟨0, ⟨(some 64), none, (.pure .id), [(.tmp 12)]⟩, []⟩, ⟨0, ⟨(some 65), none, (.pure (.iaddr 1)), [(.tmp 63), (.const (.int .i64 0))]⟩, []⟩, ⟨0, ⟨none, none, (.imp (.store 1)), [(.tmp 65), (.tmp 64)]⟩, []⟩]) (.seq (.region [⟨0, ⟨(some 66), none, (.pure .id), [(.tmp 12)]⟩, []⟩, ⟨0, ⟨(some 67), none, (.pure (.bin .add .none)), [(.tmp 66), (.const (.int .i64 1))]⟩, []⟩, ⟨0, ⟨(some 12), none, (.pure .id), [(.tmp 67)]⟩, []⟩]) (.region [⟨0, ⟨(some 68), none, (.pure .id), [(.tmp 13)]⟩, []⟩, ⟨0, ⟨(some 69), none, (.pure .id), [(.tmp 11)]⟩, []⟩, ⟨0, ⟨(some 70), none, (.pure (.iaddr 1)), [(.tmp 69), (.const (.int .i64 0))]⟩, []⟩, ⟨0, ⟨(some 71), none, (.load (.load 1 false)), [(.tmp 70)]⟩, []⟩, ⟨0, ⟨(some 72), none, (.pure (.un .neg)), [(.tmp 71)]⟩, []⟩, ⟨0, ⟨(some 73), none, (.new (.bslice 1 [(.int .i64 0)] 1 [(0, 1)])), [(.tmp 72)]⟩, []⟩, ⟨0, ⟨(some 74), none, (.new (.bslice 1 [.nils] 1 [(0, 1)])), [(.tmp 73)]⟩, []⟩, ⟨0, ⟨(some 75), none, (.imp (.append 1 24)), [(.tmp 68), (.tmp 74)]⟩, []⟩, ⟨0, ⟨(some 13), none, (.pure .id), [(.tmp 75)]⟩, []⟩]))) .skip)) (.seq (.seq (.region [⟨0, ⟨(some 14), none, (.pure .id), [(.const (.int .i64 0))]⟩, []⟩]) (.block 0 (.loop (.seq (.seq (.region [⟨0, ⟨(some 76), none, (.pure .id), [(.tmp 14)]⟩, []⟩, ⟨0, ⟨(some 77), none, (.pure (.faddr 0)), [(.tmp 3)]⟩, []⟩, ⟨0, ⟨(some 78), none, (.load (.load 1 false)), [(.tmp 77)]⟩, []⟩, ⟨0, ⟨(some 79), none, (.pure .len), [(.tmp 78)]⟩, []⟩, ⟨0, ⟨(some 80), none, (.pure (.bin .lss .none)), [(.tmp 76), (.tmp 79)]⟩, []⟩]) (.cond (.tmp 80) .skip (.exit 0))) (.seq (.block 1 (.region [⟨0, ⟨(some 83), none, (.pure .id), [(.tmp 11)]⟩, []⟩, ⟨0, ⟨(some 84), none, (.pure .id), [(.tmp 14)]⟩, []⟩, ⟨0, ⟨(some 85), none, (.pure (.bin .add .none)), [(.tmp 84), (.const (.int .i64 1))]⟩, []⟩, ⟨0, ⟨(some 86), none, (.pure (.faddr 0)), [(.tmp 3)]⟩, []⟩, ⟨0, ⟨(some 87), none, (.load (.load 1 false)), [(.tmp 86)]⟩, []⟩, ⟨0, ⟨(some 88), none, (.pure .id), [(.tmp 14)]⟩, []⟩, ⟨0, ⟨(some 89), none, (.pure (.iaddr 1)), [(.tmp 87), (.tmp 88)]⟩, []⟩, ⟨0, ⟨(some 90), none, (.load (.load 1 false)), [(.tmp 89)]⟩, []⟩, ⟨0, ⟨(some 91), none, (.pure (.iaddr 1)), [(.tmp 83), (.tmp 85)]⟩, []⟩, ⟨0, ⟨none, none, (.imp (.store 1)), [(.tmp 91), (.tmp 90)]⟩, []⟩])) (.region [⟨0, ⟨(some 81), none, (.pure .id), [(.tmp 14)]⟩, []⟩, ⟨0, ⟨(some 82), none, (.pure (.bin .add .none)), [(.tmp 81), (.const (.int .i64 1))]⟩, []⟩, ⟨0, ⟨(some 14), none, (.pure .id), [(.tmp 82)]⟩, []⟩])))))) (.seq (.seq (.region [⟨0, ⟨(some 15), none, (.pure .id), [(.const (.int .i64 0))]⟩, []⟩]) (.block 2 (.loop (.seq (.seq (.region [⟨0, ⟨(some 92), none, (.pure .id), [(.tmp 15)]⟩, []⟩, ⟨0, ⟨(some 93), none, (.pure (.faddr 1)), [(.tmp 3)]⟩, []⟩, ⟨0, ⟨(some 94), none, (.load (.load 1 false)), [(.tmp 93)]⟩, []⟩, ⟨0, ⟨(some 95), none, (.pure .len), [(.tmp 94)]⟩, []⟩, ⟨0, ⟨(some 96), none, (.pure (.bin .lss .none)), [(.tmp 92), (.tmp 95)]⟩, []⟩]) (.cond (.tmp 96) .skip (.exit 2))) (.seq (.block 3 (.seq (.region [⟨0, ⟨(some 99), none, (.pure (.faddr 0)), [(.tmp 3)]⟩, []⟩, ⟨0, ⟨(some 100), none, (.load (.load 1 false)), [(.tmp 99)]⟩, []⟩, ⟨0, ⟨(some 101), none, (.pure .len), [(.tmp 100)]⟩, []⟩, ⟨0, ⟨(some 102), none, (.pure (.bin .add .none)), [(.const (.int .i64 1)), (.tmp 101)]⟩, []⟩, ⟨0, ⟨(some 103), none, (.pure .id), [(.tmp 15)]⟩, []⟩, ⟨0, ⟨(some 104), none, (.pure (.bin .add .none)), [(.tmp 102), (.tmp 103)]⟩, []⟩, ⟨0, ⟨(some 16), none, (.pure .id), [(.tmp 104)]⟩, []⟩]) (.seq (.seq (.region [⟨0, ⟨(some 105), none, (.pure .id), [(.tmp 10)]⟩, []⟩, ⟨0, ⟨(some 106), none, (.pure .id), [(.tmp 16)]⟩, []⟩, ⟨0, ⟨(some 107), none, (.pure (.iaddr 1)), [(.tmp 105), (.tmp 106)]⟩, []⟩, ⟨0, ⟨(some 108), none, (.load (.load 1 false)), [(.tmp 107)]⟩, []⟩, ⟨0, ⟨(some 109), none, (.pure (.un .not)), [(.tmp 108)]⟩, []⟩]) (.cond (.tmp 109) (.exit 3) .skip)) (.seq (.region [⟨0, ⟨(some 110), none, (.pure .id), [(.tmp 11)]⟩, []⟩, ⟨0, ⟨(some 111), none, (.pure .id), [(.tmp 16)]⟩, []⟩, ⟨0, ⟨(some 112), none, (.pure .id), [(.tmp 12)]⟩, []⟩, ⟨0, ⟨(some 113), none, (.pure (.iaddr 1)), [(.tmp 110), (.tmp 111)]⟩, []⟩, ⟨0, ⟨none, none, (.imp (.store 1)), [(.tmp 113), (.tmp 112)]⟩, []⟩]) (.seq (.seq (.region [⟨0, ⟨(some 114), none, (.pure .id), [(.tmp 12)]⟩, []⟩, ⟨0, ⟨(some 115), none, (.pure (.bin .gtr .none)), [(.tmp 114), (.const (.int .i64 65536))]⟩, []⟩]) (.cond (.tmp 115) (.seq (.region [⟨0, ⟨(some 6), none, (.pure .id), [(.const .nils)]⟩, []⟩, ⟨0, ⟨(some 7), none, (.pure .id), [(.const .nils)]⟩, []⟩, ⟨0, ⟨(some 8), none, (.pure .id), [(.const (.int .i64 0))]⟩, []⟩, ⟨0, ⟨(some 9), none, (.pure .id), [(.const (.int .i64 3))]⟩, []⟩]) .ret) .skip)) (.seq (.region [⟨0, ⟨(some 116), none, (.pure .id), [(.tmp 12)]⟩, []⟩, ⟨0, ⟨(some 117), none, (.pure (.bin .add .none)), [(.tmp 116), (.const (.int .i64 1))]⟩, []⟩, ⟨0, ⟨(some 12), none, (.pure .id), [(.tmp 117)]⟩, []⟩]) (.seq (.region [⟨0, ⟨(some 118), none, (.pure .id), [(.tmp 11)]⟩, []⟩, ⟨1, ⟨(some 119), none, (.pure .id), [(.tmp 16)]⟩, []⟩, ⟨2, ⟨(some 120), none, (.pure (.iaddr 1)), [(.tmp 118), (.tmp 119)]⟩, []⟩, ⟨3, ⟨(some 121), none, (.load (.load 1 false)), [(.tmp 120)]⟩, []⟩, ⟨4, ⟨(some 122), none, (.pure .id), [(.tmp 11)]⟩, []⟩, ⟨5, ⟨(some 123), none, (.pure (.faddr 1)), [(.tmp 3)]⟩, []⟩, ⟨6, ⟨(some 124), none, (.load (.load 1 false)), [(.tmp 123)]⟩, []⟩, ⟨7, ⟨(some 125), none, (.pure .id), [(.tmp 15)]⟩, []⟩, ⟨8, ⟨(some 126), none, (.pure (.iaddr 2)), [(.tmp 124), (.tmp 125)]⟩, []⟩, ⟨9, ⟨(some 127), none, (.pure (.iarr 2 1)), [(.tmp 126), (.const (.int .i64 0))]⟩, []⟩, ⟨10, ⟨(some 128), none, (.load (.load 1 false)), [(.tmp 127)]⟩, []⟩, ⟨12, ⟨(some 130), none, (.pure .id), [(.tmp 11)]⟩, []⟩, ⟨13, ⟨(some 131), none, (.pure (.faddr 1)), [(.tmp 3)]⟩, []⟩, ⟨14, ⟨(some 132), none, (.load (.load 1 false)), [(.tmp 131)]⟩, []⟩, ⟨15, ⟨(some 133), none, (.pure .id), [(.tmp 15)]⟩, []⟩, ⟨16, ⟨(some 134), none, (.pure (.iaddr 2)), [(.tmp 132), (.tmp 133)]⟩, []⟩, ⟨17, ⟨(some 135), none, (.pure (.iarr 2 1)), [(.tmp 134), (.const (.int .i64 1))]⟩, []⟩, ⟨18, ⟨(some 136), none, (.load (.load 1 false)), [(.tmp 135)]⟩, []⟩, ⟨22, ⟨(some 17), none, (.new (.alloc [(.int .i64 0), (.int .u8 0), .nils])), []⟩, []⟩, ⟨11, ⟨(some 129), none, (.call F_skolemref12_signed), [(.tmp 122), (.tmp 128)]⟩, [⟨(some 121), none, (.load (.load 1 false)), [(.tmp 120)]⟩, ⟨(some 132), none, (.load (.load 1 false)), [(.tmp 131)]⟩, ⟨(some 136), none, (.load (.load 1 false)), [(.tmp 135)]⟩, ⟨(some 17), none, (.new (.alloc [(.int .i64 0), (.int .u8 0), .nils])), []⟩]⟩, ⟨19, ⟨(some 137), none, (.call F_skolemref12_signed), [(.tmp 130), (.tmp 136)]⟩, [⟨(some 121), none, (.load (.load 1 false)), [(.tmp 120)]⟩, ⟨(some 17), none, (.new (.alloc [(.int .i64 0), (.int .u8 0), .nils])), []⟩]⟩, ⟨20, ⟨(some 138), none, (.new (.bslice 1 [(.int .i64 0)] 2 [(0, 1), (1, 1)])), [(.tmp 129), (.tmp 137)]⟩, []⟩, ⟨21, ⟨(some 139), none, (.pure (.build [(.int .i64 0), (.int .u8 0), .nils] [(0, 1), (1, 1), (2, 1)])), [(.tmp 121), (.const (.int .u8 1)), (.tmp 138)]⟩, []⟩, ⟨23, ⟨none, none, (.imp (.store 3)), [(.tmp 17), (.tmp 139)]⟩, []⟩]) (.region [⟨0, ⟨(some 140), none, (.pure .id), [(.tmp 13)]⟩, []⟩, ⟨0, ⟨(some 141), none, (.load (.load 3 true)), [(.tmp 17)]⟩, []⟩, ⟨0, ⟨(some 142), none, (.call F_skolemref12_Clauses), [(.tmp 141), (.const (.bool true)), (.const (.bool true))]⟩, []⟩, ⟨0, ⟨(some 143), none, (.imp (.append 1 24)), [(.tmp 140), (.tmp 142)]⟩, []⟩, ⟨0, ⟨(some 13), none, (.pure .id), [(.tmp 143)]⟩, []⟩])))))))) (.region [⟨0, ⟨(some 97), none, (.pure .id), [(.tmp 15)]⟩, []⟩, ⟨0, ⟨(some 98), none, (.pure (.bin .add .none)), [(.tmp 97), (.const (.int .i64 1))]⟩, []⟩, ⟨0, ⟨(some 15), none, (.pure .id), [(.tmp 98)]⟩, []⟩])))))) (.seq (.seq (.region [⟨0, ⟨(some 144), none, (.pure .id), [(.tmp 13)]⟩, []⟩, ⟨0, ⟨(some 145), none, (.call F_skolemref12_Cnf), [(.tmp 144)]⟩, []⟩, ⟨0, ⟨(some 146), none, (.pure (.un .not)), [(.tmp 145)]⟩, []⟩]) (.cond (.tmp 146) (.seq (.region [⟨0, ⟨(some 6), none, (.pure .id), [(.const .nils)]⟩, []⟩, ⟨0, ⟨(some 7), none, (.pure .id), [(.const .nils)]⟩, []⟩, ⟨0, ⟨(some 8), none, (.pure .id), [(.const (.int .i64 0))]⟩, []⟩, ⟨0, ⟨(some 9), none, (.pure .id), [(.const (.int .i64 3))]⟩, []⟩]) .ret) .skip)) (.seq (.region [⟨0, ⟨(some 18), none, (.pure .id), [(.const .nils)]⟩, []⟩]) (.seq (.seq (.region [⟨0, ⟨(some 19), none, (.pure .id), [(.const (.int .i64 0))]⟩, []⟩]) (.block 4 (.loop (.seq (.seq (.region [⟨0, ⟨(some 147), none, (.pure .id), [(.tmp 19)]⟩, []⟩, ⟨0, ⟨(some 148), none, (.pure .id), [(.tmp 1)]⟩, []⟩, ⟨0, ⟨(some 149), none, (.pure .len), [(.tmp 148)]⟩, []⟩, ⟨0, ⟨(some 150), none, (.pure (.bin .lss .none)), [(.tmp 147), (.tmp 149)]⟩, []⟩]) (.cond (.tmp 150) .skip (.exit 4))) (.seq (.block 5 (.region [⟨0, ⟨(some 153), none, (.pure .id), [(.tmp 18)]⟩, []⟩, ⟨0, ⟨(some 154), none, (.pure .id), [(.tmp 11)]⟩, []⟩, ⟨0, ⟨(some 155), none, (.pure .id), [(.tmp 1)]⟩, []⟩, ⟨0, ⟨(some 156), none, (.pure .id), [(.tmp 19)]⟩, []⟩, ⟨0, ⟨(some 157), none, (.pure (.iaddr 1)), [(.tmp 155), (.tmp 156)]⟩, []⟩, ⟨0, ⟨(some 158), none, (.load (.load 1 false)), [(.tmp 157)]⟩, []⟩, ⟨0, ⟨(some 159), none, (.call F_skolemref12_signed), [(.tmp 154), (.tmp 158)]⟩, []⟩, ⟨0, ⟨(some 160), none, (.new (.bslice 1 [(.int .i64 0)] 1 [(0, 1)])), [(.tmp 159)]⟩, []⟩, ⟨0, ⟨(some 161), none, (.imp (.append 1 8)), [(.tmp 153), (.tmp 160)]⟩, []⟩, ⟨0, ⟨(some 18), none, (.pure .id), [(.tmp 161)]⟩, []⟩])) (.region [⟨0, ⟨(some 151), none, (.pure .id), [(.tmp 19)]⟩, []⟩, ⟨0, ⟨(some 152), none, (.pure (.bin .add .none)), [(.tmp 151), (.const (.int .i64 1))]⟩, []⟩, ⟨0, ⟨(some 19), none, (.pure .id), [(.tmp 152)]⟩, []⟩])))))) (.seq (.region [⟨0, ⟨(some 162), none, (.pure .id), [(.tmp 13)]⟩, []⟩, ⟨0, ⟨(some 163), none, (.pure .id), [(.tmp 18)]⟩, []⟩, ⟨0, ⟨(some 164), none, (.pure .id), [(.tmp 12)]⟩, []⟩, ⟨0, ⟨(some 6), none, (.pure .id), [(.tmp 162)]⟩, []⟩, ⟨0, ⟨(some 7), none, (.pure .id), [(.tmp 163)]⟩, []⟩, ⟨0, ⟨(some 8), none, (.pure .id), [(.tmp 164)]⟩, []⟩, ⟨0, ⟨(some 9), none, (.pure .id), [(.const (.int .i64 0))]⟩, []⟩]) .ret))))))))))))))⟩
theorem c_skolemref12_Graph : compF Tryz.prog Tryz.f25 = some G_skolemref12_Graph := by kernel_rfl
theorem gc_skolemref12_Graph {args : List DV} {σ : GS} {Post : DV → GS → Prop} (h : @exB Tryz.prog ⟨G_skolemref12_Graph.body⟩ (genv0 args G_skolemref12_Graph.ntmps) σ ⟨@gretB G_skolemref12_Graph.results ⟨Post⟩⟩) : GCall Tryz.prog F_skolemref12_Graph args σ Post := gcall_ofB seatfollows Tryz.func25 (by kernel_rfl) c_skolemref12_Graph h
noncomputable abbrev G_skolemref12_signed : GFun := ⟨19, [(.tmp 4)], (.seq (.region [⟨0, ⟨(some 4), none, (.pure .id), [(.const (.int .i64 0))]⟩, []⟩]) (.seq (.seq (.region [⟨0, ⟨(some 5), none, (.pure .id), [(.tmp 1)]⟩, []⟩, ⟨0, ⟨(some 6), none, (.pure (.bin .rem .none)), [(.tmp 5), (.const (.int .i64 2))]⟩, []⟩, ⟨0, ⟨(some 7), none, (.pure (.bin .eql .none)), [(.tmp 6), (.const (.int .i64 1))]⟩, []⟩]) (.cond (.tmp 7) (.seq (.region [⟨0, ⟨(some 8), none, (.pure .id), [(.tmp 0)]⟩, []⟩, ⟨0, ⟨(some 9), none, (.pure .id), [(.tmp 1)]⟩, []⟩, ⟨0, ⟨(some 10), none, (.pure (.bin .quo .none)), [(.tmp 9), (.const (.int .i64 2))]⟩, []⟩, ⟨0, ⟨(some 11), none, (.pure (.iaddr 1)), [(.tmp 8), (.tmp 10)]⟩, []⟩, ⟨0, ⟨(some 12), none, (.load (.load 1 false)), [(.tmp 11)]⟩, []⟩, ⟨0, ⟨(some 13), none, (.pure (.un .neg)), [(.tmp 12)]⟩, []⟩, ⟨0, ⟨(some 4), none, (.pure .id), [(.tmp 13)]⟩, []⟩]) .ret) .skip)) (.seq (.region [⟨0, ⟨(some 14), none, (.pure .id), [(.tmp 0)]⟩, []⟩, ⟨0, ⟨(some 15), none, (.pure .id), [(.tmp 1)]⟩, []⟩, ⟨0, ⟨(some 16), none, (.pure (.bin .quo .none)), [(.tmp 15), (.const (.int .i64 2))]⟩, []⟩, ⟨0, ⟨(some 17), none, (.pure (.iaddr 1)), [(.tmp 14), (.tmp 16)]⟩, []⟩, ⟨0, ⟨(some 18), none, (.load (.load 1 false)), [(.tmp 17)]⟩, []⟩, ⟨0, ⟨(some 4), none, (.pure .id), [(.tmp 18)]⟩, []⟩]) .ret)))⟩
theorem c_skolemref12_signed : compF Tryz.prog Tryz.f92 = some G_skolemref12_signed := by kernel_rfl
theorem gc_skolemref12_signed {args : List DV} {σ : GS} {Post : DV → GS → Prop} (h : @exB Tryz.prog ⟨G_skolemref12_signed.body⟩ (genv0 args G_skolemref12_signed.ntmps) σ ⟨@gretB G_skolemref12_signed.results ⟨Post⟩⟩) : GCall Tryz.prog F_skolemref12_signed args σ Post := gcall_ofB seatfollows Tryz.func92 (by kernel_rfl) c_skolemref12_signed h
noncomputable abbrev G_skolemlaw12_EncGraphs : GFun := ⟨70, [(.tmp 6)], (.seq (.region [⟨0, ⟨(some 3), none, (.new .box), [(.tmp 0)]⟩, []⟩, ⟨0, ⟨(some 6), none, (.pure .id), [(.const (.bool false))]⟩, []⟩]) (.seq (.seq (.region [⟨0, ⟨(some 15), none, (.pure (.faddr 1)), [(.tmp 3)]⟩, []⟩, ⟨0, ⟨(some 16), none, (.load (.load 1 false)), [(.tmp 15)]⟩, []⟩, ⟨0, ⟨(some 17), none, (.pure .len), [(.tmp 16)]⟩, []⟩, ⟨0, ⟨(some 18), none, (.pure (.bin .gtr .none)), [(.tmp 17), (.const (.int .i64 600))]⟩, []⟩, ⟨0, ⟨(some 19), none, (.pure .id), [(.tmp 18)]⟩, []⟩, ⟨0, ⟨(some 20), (some (19, false)), (.pure (.faddr 0)), [(.tmp 3)]⟩, []⟩, ⟨0, ⟨(some 21), (some (19, false)), (.load (.load 1 false)), [(.tmp 20)]⟩, []⟩, ⟨0, ⟨(some 22), (some (19, false)), (.pure .len), [(.tmp 21)]⟩, []⟩, ⟨0, ⟨(some 23), (some (19, false)), (.pure (.bin .gtr .none)), [(.tmp 22), (.const (.int .i64 100))]⟩, []⟩, ⟨0, ⟨(some 24), none, (.pure .pick), [(.tmp 19), (.const (.bool true)), (.tmp 23)]⟩, []⟩, ⟨0, ⟨(some 25), none, (.pure .id), [(.tmp 24)]⟩, []⟩, ⟨0, ⟨(some 26), (some (25, false)), (.pure .id), [(.tmp 1)]⟩, []⟩, ⟨0, ⟨(some 27), (some (25, false)), (.pure .len), [(.tmp 26)]⟩, []⟩, ⟨0, ⟨(some 28), (some (25, false)), (.pure (.bin .gtr .none)), [(.tmp 27), (.const (.int .i64 100))]⟩, []⟩, ⟨0, ⟨(some 29), none, (.pure .pick), [(.tmp 25), (.const (.bool true)), (.tmp 28)]⟩, []⟩]) (.cond (.tmp 29) (.seq (.region [⟨0, ⟨(some 30), none, (.call F_skolemlaw12_works), []⟩, []⟩, ⟨0, ⟨(some 6), none, (.pure .id), [(.tmp 30)]⟩, []⟩]) .ret) .skip)) (.seq (.region [⟨0, ⟨(some 32), none, (.load (.load 2 true)), [(.tmp 3)]⟩, []⟩, ⟨0, ⟨(some 33), none, (.pure .id), [(.tmp 1)]⟩, []⟩, ⟨0, ⟨(some 34), none, (.pure .id), [(.tmp 2)]⟩, []⟩, ⟨0, ⟨(some 35), none, (.call F_enc_Graph), [(.tmp 32), (.tmp 33), (.tmp 34)]⟩, []⟩, ⟨0, ⟨(some 31), none, (.pure .id), [(.tmp 35)]⟩, []⟩, ⟨0, ⟨(some 36), none, (.pure (.extract 0)), [(.tmp 31)]⟩, []⟩, ⟨0, ⟨(some 37), none, (.pure (.extract 1)), [(.tmp 31)]⟩, []⟩, ⟨0, ⟨(some 38), none, (.pure (.extract 2)), [(.tmp 31)]⟩, []⟩, ⟨0, ⟨(some 39), none, (.pure (.extract 3)), [(.tmp 31)]⟩, []⟩, ⟨0, ⟨(some 7), none, (.pure .id), [(.tmp 36)]⟩, []⟩, ⟨0, ⟨(some 8), none, (.pure .id), [(.tmp 37)]⟩, []⟩, ⟨0, ⟨(some 9), none, (.pure .id), [(.tmp 38)]⟩, []⟩, ⟨0, ⟨(some 10), none, (.pure .id), [(.tmp 39)]⟩, []⟩]) (.seq (.region [⟨0, ⟨(some 41), none, (.load (.load 2 true)), [(.tmp 3)]⟩, []⟩, ⟨0, ⟨(some 42), none, (.pure .id), [(.tmp 1)]⟩, []⟩, ⟨0, ⟨(some 43), none, (.pure .id), [(.tmp 2)]⟩, []⟩, ⟨0, ⟨(some 44), none, (.call F_skolemref12_Graph), [(.tmp 41), (.tmp 42), (.tmp 43)]⟩, []⟩, ⟨0, ⟨(some 40), none, (.pure .id), [(.tmp 44)]⟩, []⟩, ⟨0, ⟨(some 45), none, (.pure (.extract 0)), [(.tmp 40)]⟩, []⟩, ⟨0, ⟨(some 46), none, (.pure (.extract 1)), [(.tmp 40)]⟩, []⟩, ⟨0, ⟨(some 47), none, (.pure (.extract 2)), [(.tmp 40)]⟩, []⟩, ⟨0, ⟨(some 48), none, (.pure (.extract 3)), [(.tmp 40)]⟩, []⟩, ⟨0, ⟨(some 11), none, (.pure .id), [(.tmp 45)]⟩, []⟩, ⟨0, ⟨(some 12), none, (.pure .id), [(.tmp 46)]⟩, []⟩, ⟨0, ⟨(some 13), none, (.pure .id), [(.tmp 47)]⟩, []⟩, ⟨0, ⟨(some 14), none, (.pure .id), [(.tmp 48)]⟩, []⟩]) (.seq (.region [⟨0, ⟨(some 49), none, (.pure .id), [(.tmp 7)]⟩, []⟩, ⟨0, ⟨(some 50), none, (.pure .id), [(.tmp 11)]⟩, []⟩, ⟨0, ⟨(some 51), none, (.call F_skolemref12_SameClauses), [(.tmp 49), (.tmp 50)]⟩, []⟩, ⟨0, ⟨(some 52), none, (.pure .id), [(.tmp 51)]⟩, []⟩, ⟨0, ⟨(some 53), (some (52, true)), (.pure .id), [(.tmp 8)]⟩, []⟩, ⟨0, ⟨(some 54), (some (52, true)), (.pure .id), [(.tmp 12)]⟩, []⟩, ⟨0, ⟨(some 55), (some (52, true)), (.call F_skolemref05_Ints), [(.tmp 53), (.tmp 54)]⟩, []⟩, ⟨0, ⟨(some 56), none, (.pure .pick), [(.tmp 52), (.tmp 55), (.const (.bool false))]⟩, []⟩, ⟨0, ⟨(some 57), none, (.pure .id), [(.tmp 56)]⟩, []⟩, ⟨0, ⟨(some 58), (some (57, true)), (.pure .id), [(.tmp 9)]⟩, []⟩, ⟨0, ⟨(some 59), (some (57, true)), (.pure .id), [(.tmp 13)]⟩, []⟩, ⟨0, ⟨(some 60), (some (57, true)), (.pure (.bin .eql .none)), [(.tmp 58), (.tmp 59)]⟩, []⟩, ⟨0, ⟨(some 61), none, (.pure .pick), [(.tmp 57), (.tmp 60), (.const (.bool false))]⟩, []⟩, ⟨0, ⟨(some 62), none, (.pure .id), [(.tmp 61)]⟩, []⟩, ⟨0, ⟨(some 63), (some (62, true)), (.pure .id), [(.tmp 10)]⟩, []⟩, ⟨0, ⟨(some 64), (some (62, true)), (.pure .id), [(.tmp 14)]⟩, []⟩, ⟨0, ⟨(some 65), (some (62, true)), (.pure (.bin .eql .none)), [(.tmp 63), (.tmp 64)]⟩, []⟩, ⟨0, ⟨(some 66), none, (.pure .pick), [(.tmp 62), (.tmp 65), (.const (.bool false))]⟩, []⟩, ⟨0, ⟨(some 67), none, (.pure .id), [(.tmp 66)]⟩, []⟩, ⟨0, ⟨(some 68), (some (67, true)), (.call F_skolemlaw12_works), []⟩, []⟩, ⟨0, ⟨(some 69), none, (.pure .pick), [(.tmp 67), (.tmp 68), (.const (.bool false))]⟩, []⟩, ⟨0, ⟨(some 6), none, (.pure .id), [(.tmp 69)]⟩, []⟩]) .ret)))))⟩
theorem c_skolemlaw12_EncGraphs : compF Tryz.prog Tryz.f5 = some G_skolemlaw12_EncGraphs := by kernel_rfl
theorem gc_skolemlaw12_EncGraphs {args : List DV} {σ : GS} {Post : DV → GS → Prop} (h : @exB Tryz.prog ⟨G_skolemlaw12_EncGraphs.body⟩ (genv0 args G_skolemlaw12_EncGraphs.ntmps) σ ⟨@gretB G_skolemlaw12_EncGraphs.results ⟨Post⟩⟩) : GCall Tryz.prog F_skolemlaw12_EncGraphs args σ Post := gcall_ofB seatfollows Tryz.func5 (by kernel_rfl) c_skolemlaw12_EncGraphs h
end Go.Gh
namespace Go.Gh
set_option linter.unusedVariables false
set_option linter.unusedSimpArgs false
theorem insA_le : ∀ {r : List Int} {x : Int} {r' : List Int}, insA r x = some r' → r'.length ≤ r.length + 1
  | [], x, r', h => by cases h; simp
  | y :: l, x, r', h => by
    rw [insA] at h
    split at h
    · obtain ⟨m, hm, rfl⟩ := Option.map_eq_some_iff.1 h
      have := insA_le hm; simp; omega
    · split at h
      · split at h
        · cases h; simp
        · cases h
      · cases h; simp
theorem normL_le {l r : List Int} (h : normL l = some r) : r.length ≤ l.length := by
  have : ∀ (l r r' : List Int), l.foldl (fun o x => Option.bind o fun r => insA r x) (some r) = some r' → r'.length ≤ r.length + l.length := by
    intro l
    induction l with
    | nil => intro r r' h; cases h; simp
    | cons x l ih =>
      intro r r' h
      rw [List.foldl_cons, Option.bind_some] at h
      cases hi : insA r x with
      | none => rw [hi, normL_none_fold] at h; cases h
      | some m =>
        rw [hi] at h
        have h1 := ih m r' h
        have h2 := insA_le hi
        simp only [List.length_cons]; omega
  have := this l [] r h
  simpa using this
/-- The literal of an edge, from the variables of nodes. -/
def ofE (name : List Int) (e : Int) : Int := if e % 2 = 1 then -(name.getD (e / 2).toNat 0) else name.getD (e / 2).toNat 0
/-- The variables of nodes, the next one, and the clauses so far. -/
structure Nm where
  name : List Int
  next : Int
  cs : List (List Int)
def nmNew (g : AigP) (s : Nm) (i : Nat) : List (List Int) :=
  if i = 0 then [[-s.next]] else gcl s.next 1 [ofE (s.name.set i s.next) (g.ands.getD (i - (1 + g.ins.length)) (0, 0)).1, ofE (s.name.set i s.next) (g.ands.getD (i - (1 + g.ins.length)) (0, 0)).2] true true
def nmSkip (g : AigP) (r : List Bool) (i : Nat) : Bool := !r.getD i false || (decide (0 < i) && decide (i < 1 + g.ins.length))
def nmStep (g : AigP) (r : List Bool) (s : Nm) (i : Nat) : Option Nm :=
  if nmSkip g r i = true then some s else if 65536 < s.next then none else some ⟨s.name.set i s.next, s.next + 1, s.cs ++ nmNew g s i⟩
def nmFold (g : AigP) (r : List Bool) (first : Int) : Nat → Option Nm
  | 0 => some ⟨0 :: g.ins ++ List.replicate g.ands.length 0, first, []⟩
  | k + 1 => (nmFold g r first k).bind fun s => nmStep g r s k
theorem nmFold_none {g : AigP} {r : List Bool} {first : Int} {k : Nat} (h : nmFold g r first k = none) : ∀ m, k ≤ m → nmFold g r first m = none := by
  intro m hm
  induction m with
  | zero => have : k = 0 := by omega
            subst this; exact h
  | succ m ih =>
    by_cases e : k = m + 1
    · subst e; exact h
    · rw [nmFold, ih (by omega)]; rfl
/-- The answer of Graph. -/
def graphZ (g : AigP) (edges : List Int) (first : Int) : List (List Int) × List Int × Int × Int :=
  if (g.all edges && decide (1 ≤ first) && (decide (g.ins.length = 0) || decide (g.ins.getD (g.ins.length - 1) 0 < first))) = true then
    match nmFold g (g.reach edges) first g.nodes with
    | none => ([], [], 0, 3)
    | some s => (s.cs, edges.map (ofE s.name), s.next, 0)
  else ([], [], 0, 2)
/-- What is kept on the way. -/
structure NmOk (g : AigP) (r : List Bool) (first : Int) (k : Nat) (s : Nm) : Prop where
  len : s.name.length = g.nodes
  lo : first ≤ s.next
  var : ∀ j, j < k → nmSkip g r j = false → isVar (s.name.getD j 0) = true
  inp : ∀ j v, g.ins[j]? = some v → s.name.getD (j + 1) 0 = v
  cnt : s.cs.length ≤ if k = 0 then 0 else 3 * (1 + (k - (1 + g.ins.length)))
  sz : ∀ c ∈ s.cs, c.length ≤ 3
theorem ins_vars {g : AigP} (hm : g.may = true) : ∀ v ∈ g.ins, isVar v = true := insOk_vars (AigP.may_ins hm)
theorem nmSetN {l : List Int} {i j : Nat} {x : Int} (h : i ≠ j) : (l.set i x).getD j 0 = l.getD j 0 := by
  rw [List.getD_eq_getElem?_getD, List.getD_eq_getElem?_getD, List.getElem?_set_ne h]
theorem nmSetS {l : List Int} {i : Nat} {x : Int} (h : i < l.length) : (l.set i x).getD i 0 = x := by
  rw [List.getD_eq_getElem?_getD, List.getElem?_set_self h]; rfl
/-- A node that is reached, or an input, has a variable. -/
theorem NmOk.node {g : AigP} {r : List Bool} {first : Int} {k : Nat} {s : Nm} (h : NmOk g r first k s) (hm : g.may = true) {j : Nat} (hj : j < k) (hr : r.getD j false = true) (hjn : j < g.nodes) : isVar (s.name.getD j 0) = true := by
  by_cases c : 0 < j ∧ j < 1 + g.ins.length
  · have hjl : j - 1 < g.ins.length := by omega
    have h1 := h.inp (j - 1) _ (List.getElem?_eq_getElem hjl)
    rw [show j - 1 + 1 = j by omega] at h1
    rw [h1]
    exact ins_vars hm _ (List.getElem_mem hjl)
  · refine h.var j hj ?_
    unfold nmSkip
    rw [hr]
    simp
    omega
theorem ofE_lt {name : List Int} {e : Int} (h : isVar (name.getD (e / 2).toNat 0) = true) : Lt (ofE name e) := by
  unfold isVar at h
  simp only [Bool.and_eq_true, decide_eq_true_eq] at h
  unfold ofE Lt
  split <;> omega
theorem NmOk.zero {g : AigP} {r : List Bool} {first : Int} : NmOk g r first 0 ⟨0 :: g.ins ++ List.replicate g.ands.length 0, first, []⟩ := by
  refine ⟨?_, Int.le_refl _, fun j h => by omega, fun j v hv => ?_, by simp, fun c hc => by cases hc⟩
  · simp [AigP.nodes]; omega
  · have hj := (List.getElem?_eq_some_iff.1 hv).1
    rw [List.getD_eq_getElem?_getD, List.cons_append, List.getElem?_cons_succ, List.getElem?_append_left hj, hv]; rfl
/-- The literals of an And's edges. -/
theorem NmOk.lits {g : AigP} {edges : List Int} {first : Int} {k : Nat} {s : Nm} (h : NmOk g (g.reach edges) first k s) (hm : g.may = true) (hk : k < g.nodes) (hb : 1 + g.ins.length ≤ k) (hs : nmSkip g (g.reach edges) k = false) {p : Int × Int} (hp : g.ands[k - (1 + g.ins.length)]? = some p) (x : Int) :
    (0 ≤ p.1 ∧ (p.1 / 2).toNat < k ∧ Lt (ofE (s.name.set k x) p.1)) ∧ (0 ≤ p.2 ∧ (p.2 / 2).toNat < k ∧ Lt (ofE (s.name.set k x) p.2)) := by
  have hr : (g.reach edges).getD (1 + g.ins.length + (k - (1 + g.ins.length))) false = true := by
    rw [show 1 + g.ins.length + (k - (1 + g.ins.length)) = k by omega]
    unfold nmSkip at hs
    simp only [Bool.or_eq_false_iff, Bool.not_eq_false'] at hs
    exact hs.1
  obtain ⟨c1, c2⟩ := AigP.reach_child hm hp hr
  obtain ⟨q1, q2, q3, q4⟩ := andsOk_get (AigP.may_ands hm) hp
  have k1 : (p.1 / 2).toNat < k := by omega
  have k2 : (p.2 / 2).toNat < k := by omega
  refine ⟨⟨q1, k1, ?_⟩, ⟨q2, k2, ?_⟩⟩
  · refine ofE_lt ?_
    rw [nmSetN (by omega)]
    exact h.node hm k1 c1 (by omega)
  · refine ofE_lt ?_
    rw [nmSetN (by omega)]
    exact h.node hm k2 c2 (by omega)
theorem gcl_and2 {v a b : Int} : (gcl v 1 [a, b] true true).length ≤ 3 ∧ ∀ c ∈ gcl v 1 [a, b] true true, c.length ≤ 3 := by
  constructor
  · refine Nat.le_trans (List.length_filterMap_le _ _) ?_
    simp [rawP]
  · intro c hc
    obtain ⟨r, hr, h⟩ := List.mem_filterMap.1 hc
    have hrl : r.length ≤ 3 := by
      simp [rawP] at hr
      rcases hr with rfl | rfl | rfl <;> simp
    exact Nat.le_trans (normL_le h) hrl
theorem NmOk.step {g : AigP} {edges : List Int} {first : Int} {k : Nat} {s s' : Nm} (h : NmOk g (g.reach edges) first k s) (hm : g.may = true) (hf : 1 ≤ first) (hk : k < g.nodes) (hst : nmStep g (g.reach edges) s k = some s') : NmOk g (g.reach edges) first (k + 1) s' := by
  unfold nmStep at hst
  split at hst
  · rename_i hs
    cases hst
    exact ⟨h.len, h.lo, fun j hj hsk => by
      by_cases e : j = k
      · subst e; rw [hs] at hsk; cases hsk
      · exact h.var j (by omega) hsk, h.inp, by have := h.cnt; rw [if_neg (by omega)]; split at this <;> omega, h.sz⟩
  · rename_i hs
    split at hst
    · cases hst
    · rename_i hn
      cases hst
      have hs : nmSkip g (g.reach edges) k = false := by simpa using hs
      have hkn : k = 0 ∨ 1 + g.ins.length ≤ k := by
        unfold nmSkip at hs
        simp at hs
        omega
      refine ⟨by simp [h.len], by have := h.lo; show first ≤ s.next + 1; omega, fun j hj hsk => ?_, fun j v hv => ?_, ?_, ?_⟩
      · show isVar ((s.name.set k s.next).getD j 0) = true
        by_cases e : j = k
        · subst e
          rw [nmSetS (by rw [h.len]; exact hk)]
          have := h.lo
          simp [isVar]; omega
        · rw [nmSetN (Ne.symm e)]
          exact h.var j (by omega) hsk
      · show (s.name.set k s.next).getD (j + 1) 0 = v
        have hj := (List.getElem?_eq_some_iff.1 hv).1
        rw [nmSetN (by omega)]
        exact h.inp j v hv
      · show (s.cs ++ nmNew g s k).length ≤ if k + 1 = 0 then 0 else 3 * (1 + (k + 1 - (1 + g.ins.length)))
        have := h.cnt
        have h2 : (nmNew g s k).length ≤ 3 := by
          unfold nmNew; split
          · simp
          · exact gcl_and2.1
        rw [List.length_append, if_neg (by omega)]
        split at this <;> omega
      · intro c hc
        rcases List.mem_append.1 hc with hc | hc
        · exact h.sz c hc
        · unfold nmNew at hc
          split at hc
          · simp at hc; subst hc; simp
          · exact gcl_and2.2 c hc
theorem NmOk.fold {g : AigP} {edges : List Int} {first : Int} (hm : g.may = true) (hf : 1 ≤ first) : ∀ {k : Nat} {s : Nm}, k ≤ g.nodes → nmFold g (g.reach edges) first k = some s → NmOk g (g.reach edges) first k s
  | 0, s, _, h => by cases h; exact .zero
  | k + 1, s, hk, h => by
    rw [nmFold] at h
    obtain ⟨s0, h1, h2⟩ := Option.bind_eq_some_iff.1 h
    exact (NmOk.fold hm hf (by omega) h1).step hm hf (by omega) h2
theorem cs_sum {l : List (List Int)} {n : Nat} (h : ∀ c ∈ l, c.length ≤ n) : (l.map fun c => c.length).sum ≤ n * l.length := by
  induction l with
  | nil => simp
  | cons c l ih =>
    have h1 := h c (by simp)
    have h2 := ih fun d hd => h d (by simp [hd])
    simp only [List.map_cons, List.sum_cons, List.length_cons, Nat.mul_add]; omega
end Go.Gh
namespace Go.Gh
set_option linter.unusedVariables false
set_option linter.unusedSimpArgs false
/-- Which variables are marked: truths of 65537 numbers. -/
structure SetV (vs : List Bool) (seen : List Int) : Prop where
  len : vs.length = 65537
  get : ∀ i : Nat, i < 65537 → vs[i]? = some (seen.contains (i : Int))
theorem SetV.nil : SetV (List.replicate 65537 false) [] := ⟨by rw [List.length_replicate], fun i hi => by rw [List.getElem?_replicate, if_pos hi]; simp⟩
theorem SetV.put {vs : List Bool} {seen : List Int} (h : SetV vs seen) {k : Nat} (hk : k < 65537) : SetV (vs.set k true) (seen ++ [(k : Int)]) := by
  refine ⟨by rw [List.length_set, h.len], fun i hi => ?_⟩
  have h1 := h.len
  by_cases e : k = i
  · subst e
    rw [List.getElem?_set_self (by omega)]
    simp
  · rw [List.getElem?_set_ne e, h.get i hi]
    congr 1
    rw [Bool.eq_iff_iff]
    simp
    intro e'; omega
/-- A net. -/
structure NetQ where
  pre : List Blk
  gates : List GateP
  out : Int
abbrev fgates (l : List GateP) : DV := .fsl 3 (l.map egate)
abbrev enet (n : NetQ) : List DV := [fblks n.pre, fgates n.gates, .int .i64 n.out]
abbrev NetQ.enc (n : NetQ) : DV := .agg (enet n)
def NetQ.all (n : NetQ) : List Int := flatB n.pre ++ n.gates.map (·.v)
def NetQ.lits (n : NetQ) : Nat := (n.gates.map fun g => g.ins.length).sum
@[simp] theorem closed_fgates (p : List GateP) : (fgates p).closed = true := closedss_map fun x _ => by have := closed_fints x.ins; simp [DV.closed, closeds] at this ⊢; exact this
theorem sum_take {α : Type} (f : α → Nat) : ∀ (l : List α) (i : Nat), ((l.map f).take i).sum ≤ (l.map f).sum
  | [], i => by simp
  | x :: l, 0 => by simp
  | x :: l, i + 1 => by
    have := sum_take f l i
    simp only [List.map_cons, List.take_succ_cons, List.sum_cons]; omega
theorem sum_snoc {α : Type} {f : α → Nat} {l : List α} {i : Nat} {x : α} (h : l[i]? = some x) : ((l.map f).take (i + 1)).sum = ((l.map f).take i).sum + f x := by
  rw [take_get (show (l.map f)[i]? = some (f x) by simp [h])]; simp
end Go.Gh
namespace Go.Gh
open Go.RowKit Go.Proofs
set_option linter.unusedVariables false
set_option linter.unusedSimpArgs false
set_option maxRecDepth 100000
theorem shpG_cases {k : Int} {n : Nat} (h : shpG k n = true) : k = 1 ∨ k = 2 ∨ (k = 3 ∧ n = 2) ∨ (k = 4 ∧ n = 3) := by
  simp [shpG] at h; omega
theorem CB.out {n id : Nat} {σ : GS} {cs : List (List Int)} (h : CB n σ id cs) : ∃ s, gload (.load 1 false) [.ptr id 0] σ = some s ∧ (∀ ok : Nat → Prop, (∀ i, n ≤ i → ok i) → Rd σ ok s (fcls cs)) ∧ gpure .len [s] = some (.int .i64 cs.length) := by
  obtain ⟨s, raws, h1, h2, h3⟩ := h
  exact ⟨s, by rw [ld_at h2]; rfl, fun ok hok => h3.rd hok, by rw [h3.own.len, h3.len]⟩
theorem Stc.fr {n id m : Nat} {σ σ' : GS} {cs : List (List Int)} (h : Stc σ id σ') (hB : CB n σ id cs) (hm : m ≤ id) : Fr m σ σ' :=
  ⟨by have := hB.dom; have := h.len; omega, fun i hi => h.get i (by have := hB.dom; omega) fun hf => by have := (hB.fcDom hf).1; have := hB.dom; omega⟩
end Go.Gh
namespace Go.Gh
open Go.RowKit Go.Proofs
set_option linter.unusedVariables false
set_option linter.unusedSimpArgs false
set_option maxRecDepth 100000
theorem Own.ix {n : Nat} {σ : GS} {s : DV} {xs : List Int} (h : Own n 1 eint σ s xs) {i : Nat} {x : Int} (hi : xs[i]? = some x) : ∃ id, gpure (.iaddr 1) [s, .int .i64 (i : Int)] = some (.ptr id i) ∧ gload (.load 1 false) [.ptr id i] σ = some (.int .i64 x) := by
  obtain ⟨id, _, h2, _, h4⟩ := h.get (fun _ => rfl) hi (k := .i64)
  refine ⟨id, by simpa using h2, ?_⟩
  have := h4 0 (by omega)
  simpa using this
theorem Lt.gabs {x : Int} (h : Lt x) : Go.Gh.gabs x = ab x := by
  unfold Lt at h
  unfold Go.Gh.gabs ab
  split
  · rw [wrap_small (by omega) (by omega)]; omega
  · rfl
theorem Lt.ab {x : Int} (h : Lt x) : 0 < Go.Gh.ab x ∧ Go.Gh.ab x ≤ 65536 := by
  unfold Lt at h
  unfold Go.Gh.ab; split <;> omega
/-- The fold so far. -/
def nrmF (l : List Int) : Option (List Int) := l.foldl (fun o x => o.bind fun r => insA r x) (some [])
theorem nrmF_snoc {l : List Int} {i : Nat} {x : Int} {r : List Int} (hx : l[i]? = some x) (h : nrmF (l.take i) = some r) : nrmF (l.take (i + 1)) = insA r x := by
  unfold nrmF at h ⊢
  rw [take_get hx, List.foldl_append, h]; rfl
theorem nrmF_none {l : List Int} {i : Nat} (h : nrmF (l.take i) = none) : normL l = none := by
  have e : normL l = normL (l.take i ++ l.drop i) := by rw [List.take_append_drop]
  rw [e]
  unfold normL
  unfold nrmF at h
  rw [List.foldl_append, h, normL_none_fold]
theorem pw_get {r : List Int} (h : AscA r) {i j : Nat} {x y : Int} (hi : r[i]? = some x) (hj : r[j]? = some y) (hij : i < j) : ab x < ab y := by
  obtain ⟨h1, rfl⟩ := List.getElem?_eq_some_iff.1 hi
  obtain ⟨h2, rfl⟩ := List.getElem?_eq_some_iff.1 hj
  exact (List.pairwise_iff_getElem.1 h) i j h1 h2 hij
theorem mem_take_lt {r : List Int} {k : Nat} {z : Int} (h : z ∈ r.take k) : ∃ i, i < k ∧ r[i]? = some z := by
  obtain ⟨i, hi⟩ := List.mem_iff_getElem?.1 h
  rw [List.getElem?_take] at hi
  split at hi
  · exact ⟨i, by assumption, hi⟩
  · cases hi
theorem mem_drop_ge {r : List Int} {k : Nat} {z : Int} (h : z ∈ r.drop k) : ∃ i, k ≤ i ∧ r[i]? = some z := by
  obtain ⟨i, hi⟩ := List.mem_iff_getElem?.1 h
  rw [List.getElem?_drop] at hi
  exact ⟨k + i, by omega, hi⟩
set_option maxHeartbeats 1000000 in
theorem r12_sorted_ok {m : Nat} {t : DV} {l : List Int} {σ : GS} {Post : DV → GS → Prop} (hT : Own m 1 eint σ t l) (hl : l.length < 2 ^ 30) (hlit : ∀ x ∈ l, Lt x) (h : Post (.tuple [fints ((normL l).getD []), .bool (normL l).isSome]) σ) : GCall Tryz.prog F_skolemref12_sorted [t] σ Post := by
  refine GCall.pure (r := .tuple [fints ((normL l).getD []), .bool (normL l).isSome]) ?_ (by simp) h
  refine gc_skolemref12_sorted ?_
  simp [G_skolemref12_sorted, genv0, List.replicate]
  have htl := hT.len
  refine gfor l.length (fun i e σ' => Fr σ.length σ σ' ∧ ∃ s r, nrmF (l.take i) = some r ∧ r.length ≤ i ∧ Own σ.length 1 eint σ' s r ∧ e = mkEnv 85 [(0, t), (4, s), (5, .int .i64 i)]) _ ?_ ⟨.rfl', .nils, [], rfl, by simp, .nil, rfl⟩ ?_
  · simp [mkEnv, List.replicate]
  rintro i _ σ1 hi ⟨hF, s, r, hr, hrl, hO, rfl⟩
  have hT1 : Own m 1 eint σ1 t l := hT.fr hF
  simp [mkEnv, List.replicate, htl]
  by_cases hlt : i < l.length
  rotate_left
  · have : i = l.length := by omega
    subst this
    rw [List.take_length] at hr
    have hn : normL l = some r := hr
    simp
    rw [hn]
    exact ⟨hF, .tuple (.cons (hO.rd (fun _ => rfl) fun i hi => .inl hi) (.cons (.same _) .nil))⟩
  obtain ⟨x, hx⟩ := get_lt hlt
  have hxl := hlit x (List.mem_of_getElem? hx)
  have hxa := hxl.ab
  obtain ⟨tid, t1, t2⟩ := hT1.ix hx
  have es : IntKind.i64.wrap ((i : Int) + 1) = (i : Int) + 1 := by rw [wrap_small] <;> omega
  obtain ⟨hasc, hmem⟩ := normF_some .nil (show (l.take i).foldl (fun o x => Option.bind o fun r => insA r x) (some []) = some r from hr)
  have hrlit : ∀ z ∈ r, Lt z := fun z hz => by
    rcases (hmem z).1 hz with hz | hz
    · cases hz
    · exact hlit z (List.mem_of_mem_take hz)
  have hsl := hO.len
  simp [hlt, t1, t2]
  refine ref_Abs_ok ?_
  rw [hxl.gabs]
  simp [hsl]
  refine gfor r.length (fun c e σ' => σ' = σ1 ∧ c ≤ r.length ∧ (∀ (j : Nat) z, r.length - c ≤ j → r[j]? = some z → ab x < ab z) ∧ e = mkEnv 85 [(0, t), (4, s), (5, .int .i64 i), (6, .int .i64 (ab x)), (7, .int .i64 ((r.length - c : Nat) : Int))]) _ ?_ ⟨rfl, Nat.zero_le _, fun j z hj hz => by have := get_dom hz; omega, rfl⟩ ?_
  · simp [mkEnv, List.replicate]
  rintro c _ _ hc ⟨rfl, hc2, hbig, rfl⟩
  simp [mkEnv, List.replicate]
  obtain ⟨k, hk⟩ : ∃ k, r.length - c = k := ⟨_, rfl⟩
  rw [hk] at hbig ⊢
  have hkr : k ≤ r.length := by omega
  have hB : ∀ y ∈ r.drop k, ab x < ab y := fun y hy => by
    obtain ⟨j, h1, h2⟩ := mem_drop_ge hy
    exact hbig j y h1 h2
  rcases Nat.eq_zero_or_pos k with rfl | hkp
  · have hins : insA r x = some (r.take 0 ++ x :: r.drop 0) := by
      have := insA_cut (A := r.take 0) (B := r.drop 0) (x := x) (by simp) hB
      rwa [List.take_append_drop] at this
    have k0 : (0 : Nat) = 0 := rfl
    simp
    obtain ⟨k, hk0⟩ : ∃ k : Nat, k = 0 := ⟨0, rfl⟩
    rw [← hk0] at hins hkr hk
    obtain ⟨s', σ2, q1, q2, q3, q4, q5, q6⟩ := hO.push (by_ := 8) 0 (fun _ => rfl) (by simp) hF.len (by omega) (by decide)
    have q2l := q2.len
    have hs2 : ((r ++ [(0 : Int)]).length : Int) = r.length + 1 := by simp
    rw [hs2] at q2l
    have ewr : IntKind.i64.wrap (r.length : Int) = r.length := by rw [wrap_small] <;> omega
    simp [q1, q2l, ewr]
    refine gfor (r.length - k) (fun c e σ' => Fr σ.length σ σ' ∧ Own σ.length 1 eint σ' s' ((r ++ [0]).take (r.length - c + 1) ++ r.drop (r.length - c)) ∧ c ≤ r.length - k ∧ e = mkEnv 85 [(0, t), (4, s'), (5, .int .i64 i), (7, .int .i64 (k : Int)), (8, .int .i64 ((r.length - c : Nat) : Int))]) _ ?_ ⟨hF.trans q3, ?_, Nat.zero_le _, rfl⟩ ?_
    · simp [mkEnv, List.replicate] <;> omega
    · have e : (r ++ [(0 : Int)]).take (r.length - 0 + 1) ++ r.drop (r.length - 0) = r ++ [0] := by rw [Nat.sub_zero, List.drop_length, List.append_nil, List.take_of_length_le (by simp)]
      rw [e]; exact q2
    clear q1 q2 q3 q4 q5 q6 q2l
    rintro c' _ σ3 hc' ⟨hF3, hO3, hck, rfl⟩
    have hT3 : Own m 1 eint σ3 t l := hT.fr hF3
    simp [mkEnv, List.replicate]
    have hl3 : ((r ++ [(0 : Int)]).take (r.length - c' + 1) ++ r.drop (r.length - c')).length = r.length + 1 := by simp; omega
    by_cases hgt : k < r.length - c'
    · obtain ⟨z, hz⟩ := get_lt (xs := r) (i := r.length - c' - 1) (by omega)
      have hz' : ((r ++ [(0 : Int)]).take (r.length - c' + 1) ++ r.drop (r.length - c'))[r.length - c' - 1]? = some z := by
        rw [List.getElem?_append_left (by simp; omega), List.getElem?_take, if_pos (by omega), List.getElem?_append_left (by omega)]; exact hz
      obtain ⟨d1, u1, u2⟩ := hO3.ix hz'
      obtain ⟨d2, σ4, v1, v2, v3, v4, v5, v6⟩ := hO3.set (f := fun x => DV.int .i64 x) (i := r.length - c') (by rw [hl3]; omega) z (by simp) (k := .i64)
      have ez : IntKind.i64.wrap (((r.length - c' : Nat) : Int) - 1) = ((r.length - c' - 1 : Nat) : Int) := by rw [wrap_small] <;> omega
      simp [hgt, ez, u1, u2, v2, v3]
      refine forK_go _ (by omega) (by simp [mkEnv, List.replicate]; omega) ⟨⟨by rw [v5]; exact hF3.len, fun j hj => (v6 j fun hh => by have := hO3.has_ge hh; omega).trans (hF3.get j hj)⟩, ?_, by omega, rfl⟩
      have e : (((r ++ [(0 : Int)]).take (r.length - c' + 1) ++ r.drop (r.length - c')).set (r.length - c') z) = (r ++ [(0 : Int)]).take (r.length - (c' + 1) + 1) ++ r.drop (r.length - (c' + 1)) := by
        have h1 : r.length - (c' + 1) + 1 = r.length - c' := by omega
        have h2 : r.length - (c' + 1) = r.length - c' - 1 := by omega
        rw [h1, h2, drop_get hz, show r.length - c' - 1 + 1 = r.length - c' by omega]
        rw [List.set_append_left _ _ (by simp <;> omega)]
        have h3 : ((r ++ [(0 : Int)]).take (r.length - c' + 1)) = (r ++ [(0 : Int)]).take (r.length - c') ++ [((r ++ [(0 : Int)])[r.length - c']'(by simp; omega))] := List.take_succ_eq_append_getElem (by simp; omega)
        rw [h3, List.set_append_right _ _ (by simp; omega)]
        have h4 : r.length - c' - ((r ++ [(0 : Int)]).take (r.length - c')).length = 0 := by simp; omega
        rw [h4]
        simp
      rw [← e]; exact v4
    · have hkc : r.length - c' = k := by omega
      rw [hkc] at hO3 hl3
      obtain ⟨tid3, t31, t32⟩ := hT3.ix hx
      obtain ⟨d2, σ4, v1, v2, v3, v4, v5, v6⟩ := hO3.set (f := fun x => DV.int .i64 x) (i := k) (by rw [hl3]; omega) x (by simp) (k := .i64)
      simp [hgt, t31, t32, v2, v3, es]
      have e : (((r ++ [(0 : Int)]).take (k + 1) ++ r.drop k).set k x) = r.take k ++ x :: r.drop k := by
        rw [List.set_append_left _ _ (by simp <;> omega)]
        have h3 : ((r ++ [(0 : Int)]).take (k + 1)) = (r ++ [(0 : Int)]).take k ++ [((r ++ [(0 : Int)])[k]'(by simp; omega))] := List.take_succ_eq_append_getElem (by simp; omega)
        rw [h3, List.set_append_right _ _ (by simp; omega)]
        have h4 : k - ((r ++ [(0 : Int)]).take k).length = 0 := by simp; omega
        rw [h4, List.take_append_of_le_length (by omega)]
        simp
      rw [e] at v4
      refine forK_go _ hlt (by simp [mkEnv, List.replicate]) ⟨⟨by rw [v5]; exact hF3.len, fun j hj => (v6 j fun hh => by have := hO3.has_ge hh; omega).trans (hF3.get j hj)⟩, s', _, (nrmF_snoc hx hr).trans hins, by simp; omega, v4, rfl⟩
  · obtain ⟨y, hy⟩ := get_lt (xs := r) (i := k - 1) (by omega)
    have hyl := hrlit y (List.mem_of_getElem? hy)
    obtain ⟨sid, s1, s2⟩ := hO.ix hy
    have ek : IntKind.i64.wrap ((k : Int) - 1) = ((k - 1 : Nat) : Int) := by rw [wrap_small] <;> omega
    simp [hkp, ek, s1, s2]
    refine ref_Abs_ok ?_
    rw [hyl.gabs]
    by_cases c1 : ab x < ab y
    · simp [c1, ek]
      refine forK_go _ (by omega) (by simp [mkEnv, List.replicate]; omega) ⟨rfl, by omega, fun j z hj hz => ?_, rfl⟩
      by_cases hjk : k ≤ j
      · exact hbig j z hjk hz
      · have : j = k - 1 := by omega
        subst this
        rw [hy] at hz; cases hz; exact c1
    simp [c1, hkp, ek, s1, s2]
    refine ref_Abs_ok ?_
    rw [hyl.gabs]
    have hsplit : r.take (k - 1) ++ y :: r.drop k = r := by
      have := drop_get hy
      rw [show k - 1 + 1 = k by omega] at this
      rw [← this, List.take_append_drop]
    by_cases c2 : ab y = ab x
    · have hsame := insA_same (A := r.take (k - 1)) (B := r.drop k) (y := y) (x := x) (fun z hz => by
        obtain ⟨j, h1, h2⟩ := mem_take_lt hz
        have := pw_get hasc h2 hy h1; omega) c2
      rw [hsplit] at hsame
      by_cases c3 : y = x
      · rw [if_pos c3] at hsame
        simp [c2, ek, s1, s2, t1, t2, c3, es]
        exact forK_go _ hlt (by simp [mkEnv, List.replicate]) ⟨hF, s, r, (nrmF_snoc hx hr).trans hsame, by omega, hO, rfl⟩
      · rw [if_neg c3] at hsame
        have hnone : normL l = none := nrmF_none (i := i + 1) ((nrmF_snoc hx hr).trans hsame)
        simp [c2, ek, s1, s2, t1, t2, c3]
        rw [hnone]
        exact ⟨hF, .tuple (.cons (.nils 1) (.cons (.same _) .nil))⟩
    have hins : insA r x = some (r.take k ++ x :: r.drop k) := by
      have := insA_cut (A := r.take k) (B := r.drop k) (x := x) (fun z hz => by
        obtain ⟨j, h1, h2⟩ := mem_take_lt hz
        by_cases hj : j = k - 1
        · subst hj; rw [hy] at h2; cases h2; omega
        · have := pw_get hasc h2 hy (by omega); omega) hB
      rwa [List.take_append_drop] at this
    simp [c2]
    obtain ⟨s', σ2, q1, q2, q3, q4, q5, q6⟩ := hO.push (by_ := 8) 0 (fun _ => rfl) (by simp) hF.len (by omega) (by decide)
    have q2l := q2.len
    have hs2 : ((r ++ [(0 : Int)]).length : Int) = r.length + 1 := by simp
    rw [hs2] at q2l
    have ewr : IntKind.i64.wrap (r.length : Int) = r.length := by rw [wrap_small] <;> omega
    simp [q1, q2l, ewr]
    refine gfor (r.length - k) (fun c e σ' => Fr σ.length σ σ' ∧ Own σ.length 1 eint σ' s' ((r ++ [0]).take (r.length - c + 1) ++ r.drop (r.length - c)) ∧ c ≤ r.length - k ∧ e = mkEnv 85 [(0, t), (4, s'), (5, .int .i64 i), (7, .int .i64 (k : Int)), (8, .int .i64 ((r.length - c : Nat) : Int))]) _ ?_ ⟨hF.trans q3, ?_, Nat.zero_le _, rfl⟩ ?_
    · simp [mkEnv, List.replicate] <;> omega
    · have e : (r ++ [(0 : Int)]).take (r.length - 0 + 1) ++ r.drop (r.length - 0) = r ++ [0] := by rw [Nat.sub_zero, List.drop_length, List.append_nil, List.take_of_length_le (by simp)]
      rw [e]; exact q2
    clear q1 q2 q3 q4 q5 q6 q2l
    rintro c' _ σ3 hc' ⟨hF3, hO3, hck, rfl⟩
    have hT3 : Own m 1 eint σ3 t l := hT.fr hF3
    simp [mkEnv, List.replicate]
    have hl3 : ((r ++ [(0 : Int)]).take (r.length - c' + 1) ++ r.drop (r.length - c')).length = r.length + 1 := by simp; omega
    by_cases hgt : k < r.length - c'
    · obtain ⟨z, hz⟩ := get_lt (xs := r) (i := r.length - c' - 1) (by omega)
      have hz' : ((r ++ [(0 : Int)]).take (r.length - c' + 1) ++ r.drop (r.length - c'))[r.length - c' - 1]? = some z := by
        rw [List.getElem?_append_left (by simp; omega), List.getElem?_take, if_pos (by omega), List.getElem?_append_left (by omega)]; exact hz
      obtain ⟨d1, u1, u2⟩ := hO3.ix hz'
      obtain ⟨d2, σ4, v1, v2, v3, v4, v5, v6⟩ := hO3.set (f := fun x => DV.int .i64 x) (i := r.length - c') (by rw [hl3]; omega) z (by simp) (k := .i64)
      have ez : IntKind.i64.wrap (((r.length - c' : Nat) : Int) - 1) = ((r.length - c' - 1 : Nat) : Int) := by rw [wrap_small] <;> omega
      simp [hgt, ez, u1, u2, v2, v3]
      refine forK_go _ (by omega) (by simp [mkEnv, List.replicate]; omega) ⟨⟨by rw [v5]; exact hF3.len, fun j hj => (v6 j fun hh => by have := hO3.has_ge hh; omega).trans (hF3.get j hj)⟩, ?_, by omega, rfl⟩
      have e : (((r ++ [(0 : Int)]).take (r.length - c' + 1) ++ r.drop (r.length - c')).set (r.length - c') z) = (r ++ [(0 : Int)]).take (r.length - (c' + 1) + 1) ++ r.drop (r.length - (c' + 1)) := by
        have h1 : r.length - (c' + 1) + 1 = r.length - c' := by omega
        have h2 : r.length - (c' + 1) = r.length - c' - 1 := by omega
        rw [h1, h2, drop_get hz, show r.length - c' - 1 + 1 = r.length - c' by omega]
        rw [List.set_append_left _ _ (by simp <;> omega)]
        have h3 : ((r ++ [(0 : Int)]).take (r.length - c' + 1)) = (r ++ [(0 : Int)]).take (r.length - c') ++ [((r ++ [(0 : Int)])[r.length - c']'(by simp; omega))] := List.take_succ_eq_append_getElem (by simp; omega)
        rw [h3, List.set_append_right _ _ (by simp; omega)]
        have h4 : r.length - c' - ((r ++ [(0 : Int)]).take (r.length - c')).length = 0 := by simp; omega
        rw [h4]
        simp
      rw [← e]; exact v4
    · have hkc : r.length - c' = k := by omega
      rw [hkc] at hO3 hl3
      obtain ⟨tid3, t31, t32⟩ := hT3.ix hx
      obtain ⟨d2, σ4, v1, v2, v3, v4, v5, v6⟩ := hO3.set (f := fun x => DV.int .i64 x) (i := k) (by rw [hl3]; omega) x (by simp) (k := .i64)
      simp [hgt, t31, t32, v2, v3, es]
      have e : (((r ++ [(0 : Int)]).take (k + 1) ++ r.drop k).set k x) = r.take k ++ x :: r.drop k := by
        rw [List.set_append_left _ _ (by simp <;> omega)]
        have h3 : ((r ++ [(0 : Int)]).take (k + 1)) = (r ++ [(0 : Int)]).take k ++ [((r ++ [(0 : Int)])[k]'(by simp; omega))] := List.take_succ_eq_append_getElem (by simp; omega)
        rw [h3, List.set_append_right _ _ (by simp; omega)]
        have h4 : k - ((r ++ [(0 : Int)]).take k).length = 0 := by simp; omega
        rw [h4, List.take_append_of_le_length (by omega)]
        simp
      rw [e] at v4
      refine forK_go _ hlt (by simp [mkEnv, List.replicate]) ⟨⟨by rw [v5]; exact hF3.len, fun j hj => (v6 j fun hh => by have := hO3.has_ge hh; omega).trans (hF3.get j hj)⟩, s', _, (nrmF_snoc hx hr).trans hins, by simp; omega, v4, rfl⟩
end Go.Gh
namespace Go.Gh
open Go.RowKit Go.Proofs
set_option linter.unusedVariables false
set_option linter.unusedSimpArgs false
set_option maxRecDepth 100000
theorem enc_Graph1_ok {x last : Int} {id : Nat} {σ : GS} {Post : DV → GS → Prop} (hb : gload (.load 1 false) [.ptr id 0] σ = some (.int .i64 last)) (h : Post (.bool (decide (x < 0) || decide (last < x))) σ) : GCall Tryz.prog F_enc_Graph_1 [.int .i64 x, .ptr id 0] σ Post := by
  refine gc_enc_Graph_1 ?_
  by_cases h1 : x < 0
  · simp [G_enc_Graph_1, genv0, List.replicate, h1]
    simpa [h1] using h
  · simp [G_enc_Graph_1, genv0, List.replicate, h1, hb]
    simpa [h1] using h
theorem enc_Graph2_ok {m id : Nat} {s : DV} {name : List Int} {x : Int} {σ : GS} {Post : DV → GS → Prop} (hr : σ[id]? = some (.row false [s])) (hO : Own m 1 eint σ s name) (h0 : 0 ≤ x) (h1 : (x / 2).toNat < name.length) (hx : x < 2 ^ 40) (hv : Lt (ofE name x)) (h : Post (.int .i64 (ofE name x)) σ) : GCall Tryz.prog F_enc_Graph_2 [.int .i64 x, .ptr id 0] σ Post := by
  refine gc_enc_Graph_2 ?_
  have hld : gload (.load 1 false) [.ptr id 0] σ = some s := by rw [ld_at hr]; rfl
  obtain ⟨v, hvv⟩ := get_lt h1
  have hgd : name.getD (x / 2).toNat 0 = v := by rw [List.getD_eq_getElem?_getD, hvv]; rfl
  obtain ⟨d, d1, d2⟩ := hO.ix hvv
  rw [show (((x / 2).toNat : Nat) : Int) = x / 2 by omega] at d1
  have hand := bits_and_one h0 (by omega)
  unfold ofE at h hv
  rw [hgd] at h hv
  by_cases c : x % 2 = 1
  · rw [if_pos c] at h hv
    have hw2 : IntKind.i64.wrap (-v) = -v := by unfold Lt at hv; rw [wrap_small] <;> omega
    simp [G_enc_Graph_2, genv0, List.replicate, hand, c, hld, -gb_shr, shr_one h0, d1, d2, hw2]
    exact h
  · rw [if_neg c] at h hv
    simp [G_enc_Graph_2, genv0, List.replicate, hand, c, hld, -gb_shr, shr_one h0, d1, d2]
    exact h
def fitsB (l : List (List Int)) : Bool := decide (l.length ≤ 20000) && decide ((l.map fun c => c.length).sum ≤ 200000)
theorem enc_fits_ok {l : List (List Int)} {σ : GS} {Post : DV → GS → Prop} (hl : l.length < 2 ^ 50) (hs : (l.map fun c => c.length).sum < 2 ^ 50) (h : Post (.bool (fitsB l)) σ) : GCall Tryz.prog F_enc_fits [fcls l] σ Post := by
  refine gc_enc_fits ?_
  simp [G_enc_fits, genv0, List.replicate]
  refine gfor l.length (fun i e σ' => σ' = σ ∧ e = mkEnv 24 [(0, fcls l), (3, .int .i64 (((l.map fun c => c.length).take i).sum : Nat)), (6, fcls l), (7, .int .i64 l.length), (8, .int .i64 i)]) _ ?_ ⟨rfl, rfl⟩ ?_
  · simp [mkEnv, List.replicate]
  rintro i _ _ hi ⟨rfl, rfl⟩
  simp [mkEnv, List.replicate]
  by_cases hlt : i < l.length
  · obtain ⟨c, hc⟩ := nth_lt hlt
    have hc' := nth_get hc
    have es : IntKind.i64.wrap ((i : Int) + 1) = (i : Int) + 1 := by rw [wrap_small] <;> omega
    have h1 := sum_snoc (f := fun c : List Int => c.length) hc'
    have h2 := sum_take (fun c : List Int => c.length) l (i + 1)
    obtain ⟨q, hq⟩ : ∃ q, ((l.map fun c => c.length).take i).sum = q := ⟨_, rfl⟩
    obtain ⟨q2, hq2⟩ : ∃ q, ((l.map fun c => c.length).take (i + 1)).sum = q := ⟨_, rfl⟩
    rw [hq, hq2] at h1
    rw [hq2] at h2
    have ew : IntKind.i64.wrap ((q : Int) + c.length) = (q2 : Int) := by rw [wrap_small] <;> omega
    simp [hlt, hc, hq, ew, es]
    exact forK_go _ hlt (by simp [mkEnv, List.replicate, hq2]) ⟨rfl, rfl⟩
  · have : i = l.length := by omega
    subst this
    have e1 : (l.map fun c => c.length).take l.length = l.map fun c => c.length := List.take_of_length_le (by simp)
    rw [e1]
    obtain ⟨q, hq⟩ : ∃ q, (l.map fun c => c.length).sum = q := ⟨_, rfl⟩
    unfold fitsB at h
    rw [hq] at h ⊢
    have e2 : ((q : Int) ≤ 200000) ↔ q ≤ 200000 := by omega
    by_cases c1 : l.length ≤ 20000
    · have c1' : (l.length : Int) ≤ 20000 := by omega
      simp [c1']
      simpa [c1, e2] using h
    · have c1' : ¬ (l.length : Int) ≤ 20000 := by omega
      simp [c1']
      simpa [c1] using h
theorem enc_fits_live {s : DV} {l : List (List Int)} {σ : GS} {Post : DV → GS → Prop} (hr : Rd σ (fun _ => True) s (fcls l)) (hl : l.length < 2 ^ 50) (hs : (l.map fun c => c.length).sum < 2 ^ 50) (h : Post (.bool (fitsB l)) σ) : GCall Tryz.prog F_enc_fits [s] σ Post := by
  refine GCall.borrow (args' := [fcls l]) (r := .bool (fitsB l)) (.cons hr .nil) (by simp) rfl ?_ h
  exact enc_fits_ok hl hs rfl
/-- What the elements of a row hold, wherever the heap grows. -/
theorem concat_ok {id k : Nat} {cap : Option Nat} {raws : List DV} {yss : List (List Int)} {σ : GS} {Post : DV → GS → Prop} (hk : raws.length = k) (hk2 : yss.length = k) (hk3 : k < 100) (hsz : (yss.map fun y => y.length).sum < 2 ^ 30) (hr : σ[id]? = some (.row false raws))
    (hrd : ∀ (i : Nat) r y, raws[i]? = some r → yss[i]? = some y → (∀ τ, Fr σ.length σ τ → gread 1 r τ = some (y.flatMap eint)) ∧ glen r = y.length ∧ gpure .len [r] = some (.int .i64 y.length))
    (kk : ∀ s σ', Own σ.length 1 eint σ' s yss.flatten → Fr σ.length σ σ' → NoCap s → Post s σ') : GCall Tryz.prog F_slices_Concat_int_int [.slice id 0 k 1 cap] σ Post := by
  refine gc_slices_Concat_int_int ?_
  have hid := get_dom hr
  have ldi : ∀ (τ : GS), Fr σ.length σ τ → ∀ i, gload (.load 1 false) [.ptr id i] τ = raws[i]? := fun τ h i => ld_at ((h.get _ hid).trans hr)
  have ia : ∀ (i : Nat), i < k → gpure (.iaddr 1) [.slice id 0 k 1 cap, .int .i64 (i : Int)] = some (.ptr id i) := fun i hi => by
    have := iaddr_own (id := id) (n := k) (sz := 1) (i := i) (k := .i64) (cap := cap) hi
    simpa using this
  simp [G_slices_Concat_int_int, genv0, List.replicate]
  refine gfor k (fun i e σ' => σ' = σ ∧ e = mkEnv 36 [(0, .slice id 0 k 1 cap), (3, .int .i64 (((yss.map fun y => y.length).take i).sum : Nat)), (9, .slice id 0 k 1 cap), (10, .int .i64 k), (11, .int .i64 i)]) _ ?_ ⟨rfl, rfl⟩ ?_
  · simp [mkEnv, List.replicate]
  rintro i _ σz hi ⟨hσz, rfl⟩
  rw [hσz]
  clear hσz σz
  simp [mkEnv, List.replicate]
  by_cases hlt : i < k
  · obtain ⟨r, hri⟩ := get_lt (xs := raws) (i := i) (by omega)
    obtain ⟨y, hyi⟩ := get_lt (xs := yss) (i := i) (by omega)
    obtain ⟨r1, r2, r3⟩ := hrd i r y hri hyi
    have es : IntKind.i64.wrap ((i : Int) + 1) = (i : Int) + 1 := by rw [wrap_small] <;> omega
    have h1 := sum_snoc (f := fun c : List Int => c.length) hyi
    have h2 := sum_take (fun c : List Int => c.length) yss (i + 1)
    obtain ⟨q, hq⟩ : ∃ q, ((yss.map fun c => c.length).take i).sum = q := ⟨_, rfl⟩
    obtain ⟨q2, hq2⟩ : ∃ q, ((yss.map fun c => c.length).take (i + 1)).sum = q := ⟨_, rfl⟩
    rw [hq, hq2] at h1
    rw [hq2] at h2
    have ew : IntKind.i64.wrap ((q : Int) + y.length) = (q2 : Int) := by rw [wrap_small] <;> omega
    have hneg : ¬ ((q2 : Int) < 0) := by omega
    simp [hlt, ia i hlt, ldi σ .rfl' i, hri, r3, hq, ew, hneg, es]
    exact forK_go _ hlt (by simp [mkEnv, List.replicate, hq2]) ⟨rfl, rfl⟩
  · have : i = k := by omega
    subst this
    have e1 : ((yss.map fun y => y.length).take i) = yss.map fun y => y.length := List.take_of_length_le (by simp; omega)
    rw [e1]
    simp
    refine slices_Grow_ok (by omega) fun s σ1 hO hF hN => ?_
    simp
    refine gfor i (fun j e σ' => ∃ s, e = mkEnv 36 [(6, s), (25, .slice id 0 i 1 cap), (26, .int .i64 i), (27, .int .i64 j)] ∧ Own σ.length 1 eint σ' s (yss.take j).flatten ∧ Fr σ.length σ σ' ∧ NoCap s) _ ?_ ⟨s, rfl, hO, hF, hN⟩ ?_
    · simp [mkEnv, List.replicate]
    clear hO hF hN s σ1
    rintro j _ σ1 hj ⟨s, rfl, hO, hF, hN⟩
    simp [mkEnv, List.replicate]
    by_cases hjt : j < i
    · obtain ⟨r, hri⟩ := get_lt (xs := raws) (i := j) (by omega)
      obtain ⟨y, hyi⟩ := get_lt (xs := yss) (i := j) (by omega)
      obtain ⟨r1, r2, r3⟩ := hrd j r y hri hyi
      have es : IntKind.i64.wrap ((j : Int) + 1) = (j : Int) + 1 := by rw [wrap_small] <;> omega
      have hfl : (yss.take (j + 1)).flatten = (yss.take j).flatten ++ y := by rw [take_get hyi, List.flatten_append]; simp
      have hle : ((yss.take j).flatten ++ y).length < 2 ^ 30 := by
        have h2 := sum_take (fun c : List Int => c.length) yss (j + 1)
        rw [← hfl, List.length_flatten, ← List.map_take] at *
        have : (List.map List.length (List.take (j + 1) yss)).sum = ((List.map (fun c => c.length) (List.take (j + 1) yss))).sum := rfl
        omega
      rw [List.length_append] at hle
      obtain ⟨s', τ', q1, q2, q3, q4, _⟩ := hO.append (by_ := 8) (x := r) (ys := y) (fun _ => rfl) (r1 σ1 hF) r2 (by simp) hF.len (by omega) (by decide)
      simp [hjt, ia j hjt, ldi σ1 hF j, hri, q1, es]
      exact forK_go _ hjt (by simp [mkEnv, List.replicate]) ⟨s', rfl, by rw [hfl]; exact q2, hF.trans q3, append_nocap hN q1⟩
    · have : j = i := by omega
      subst this
      have e2 : yss.take j = yss := List.take_of_length_le (by omega)
      rw [e2] at hO
      simp
      exact kk _ _ hO hF hN
end Go.Gh
namespace Go.Gh
open Go.RowKit Go.Proofs
set_option linter.unusedVariables false
set_option linter.unusedSimpArgs false
set_option maxRecDepth 100000
theorem graph_round {σ : GS} {n base : Nat} {ands : List (Int × Int)} {A : GObj} {env : Env} {m : List Bool} {τ : GS} {i : Nat} {p : Int × Int} {Post : DV → GS → Prop}
    (hlen : env.length = 207) (h5 : env[12]? = some (.ptr (σ.length + 2) 0)) (h8 : env[15]? = some (.ptr (σ.length + 3) 0)) (hm : m.length = n) (hn : n < 2 ^ 40) (hi : base + i < n) (hp : ands[i]? = some p) (p1 : 0 ≤ p.1) (p2 : 0 ≤ p.2) (q1 : p.1 < 2 * n) (q2 : p.2 < 2 * n)
    (k : ∀ τ', Post (.bool true) (σ ++ (A :: .row false (bools (rcStep base ands m i)) :: .row false [.slice (σ.length + 1) 0 n 1 (some n)] :: .row false [.int .i64 base] :: .loop (lgR env [90, 91] (rngA Tryz.f24 0) (rngB Tryz.f24 0)) :: τ'))) :
    GRound Tryz.prog (σ.length + 4) [.int .i64 i, kpair p] (σ ++ (A :: .row false (bools m) :: .row false [.slice (σ.length + 1) 0 n 1 (some n)] :: .row false [.int .i64 base] :: .loop (lgR env [90, 91] (rngA Tryz.f24 0) (rngB Tryz.f24 0)) :: τ)) Post := by
  have hg : ands.getD i (0, 0) = p := by rw [List.getD_eq_getElem?_getD, hp]; rfl
  have ew : IntKind.i64.wrap ((base : Int) + i) = ((base + i : Nat) : Int) := by rw [wrap_small] <;> omega
  obtain ⟨b, hb⟩ := nth_lt (l := m) (i := base + i) (by omega)
  have hb' : m[base + i]? = some b := hb
  have hia := iaddr_own (id := σ.length + 1) (n := n) (sz := 1) (i := base + i) (k := .i64) (cap := some n) hi
  have hi1 := iaddr_half (id := σ.length + 1) (n := n) (e := p.1) (k := .i64) (cap := some n) p1 (by omega)
  have hi2 := iaddr_half (id := σ.length + 1) (n := n) (e := p.2) (k := .i64) (cap := some n) p2 (by omega)
  simp at hia
  refine round_of (env := env) (ps := [90, 91]) (a := rngA Tryz.f24 0) (b := rngB Tryz.f24 0) seatfollows (by simp) ca_enc_Graph_0 cb_enc_Graph_0 rfl ?_
  have hgd : m.getD (base + i) false = b := by rw [List.getD_eq_getElem?_getD, hb']; rfl
  have h5' : ∀ h, env[12]'h = .ptr (σ.length + 2) 0 := fun h => by rw [List.getElem?_eq_getElem h] at h5; exact Option.some.inj h5
  have h8' : ∀ h, env[15]'h = .ptr (σ.length + 3) 0 := fun h => by rw [List.getElem?_eq_getElem h] at h8; exact Option.some.inj h8
  simp [GA_enc_Graph_0, GB_enc_Graph_0, putAll, List.getElem?_set, hlen, h5', h8', lgR, ew, hia, hb']
  cases b with
  | false =>
    simp
    refine roundK_normal (e0 := env) (ps := [90, 91]) (a := rngA Tryz.f24 0) (b := rngB Tryz.f24 0) (by simp) ?_
    rw [set_tail]
    have e : rcStep base ands m i = m := by unfold rcStep; rw [hgd]; rfl
    rw [e] at k
    simpa [lgR] using k _
  | true =>
    have s1 : (p.1 / 2).toNat < m.length := by omega
    have s2 : (p.2 / 2).toNat < m.length := by omega
    simp [List.getElem?_set, hlen, h5', h8', -gb_shr, shr_one p1, shr_one p2, hi1, hi2, s1, s2]
    refine roundK_normal (e0 := env) (ps := [90, 91]) (a := rngA Tryz.f24 0) (b := rngB Tryz.f24 0) (by simp) ?_
    rw [set_tail]
    have e : rcStep base ands m i = (m.set (p.1 / 2).toNat true).set (p.2 / 2).toNat true := by unfold rcStep; rw [hgd, hg]; rfl
    rw [e] at k
    simpa [List.map_set, lgR] using k _
/-- A list of numbers as a slice that was just made; it is read as frozen from now on. -/
theorem and_call {n id : Nat} {cs : List (List Int)} {x a b : Int} {σ : GS} {Post : DV → GS → Prop} (hB : CB n σ id cs) (hx : Lt x) (ha : Lt a) (hb : Lt b) (hcs : cs.length < 2 ^ 38)
    (k : ∀ σ', CB n σ' id (cs ++ gcl x 1 [a, b] true true) → Stc σ id σ' → Post (.tuple []) σ') : GCall Tryz.prog F_enc_writers_1 [.ptr id 0, .int .i64 x, .slice σ.length 0 2 1 (some 2), .bool true, .bool true] (σ ++ [.row false [.int .i64 a, .int .i64 b]]) Post := by
  have hO := own_laid (σ := σ) [a, b]
  have hrd := hO.rdF (fun _ => rfl)
  have hS : (fun i => (DV.slice σ.length 0 [a, b].length 1 (some [a, b].length)).idOf == some i) = fun i => (some σ.length == some i) := rfl
  refine GCall.frz (fun i => (some σ.length == some i)) (args' := [.ptr id 0, .int .i64 x, fints [a, b], .bool true, .bool true]) (.cons (.same _) (.cons (.same _) (.cons hrd (.cons (.same _) (.cons (.same _) .nil))))) ?_
  have hkeep : ∀ i, i < σ.length → (frz (fun i => (some σ.length == some i)) (σ ++ [.row false [.int .i64 a, .int .i64 b]]))[i]? = σ[i]? := fun i hi => by
    rw [frz_off (by simp; omega), List.getElem?_append_left hi]
  have hl : σ.length ≤ (frz (fun i => (some σ.length == some i)) (σ ++ [.row false [.int .i64 a, .int .i64 b]])).length := by rw [frz_len]; simp
  refine enc_w1_ok (hB.keep hl hkeep) hx (lt2 ha hb) (by simp) hcs fun σ' hB' hS' => k σ' hB' ((hB.stc hl hkeep).trans hS')
end Go.Gh
namespace Go.Gh
open Go.RowKit Go.Proofs
set_option linter.unusedVariables false
set_option linter.unusedSimpArgs false
set_option maxRecDepth 100000
abbrev ega (g : AigP) : List DV := [fints g.ins, fands g.ands]
abbrev graphD (g : AigP) (edges : List Int) (first : Int) : DV := .tuple [fcls (graphZ g edges first).1, fints (graphZ g edges first).2.1, .int .i64 (graphZ g edges first).2.2.1, .int .i64 (graphZ g edges first).2.2.2]
theorem graphZ_no {g : AigP} {edges : List Int} {first : Int} (h : ¬ (g.all edges && decide (1 ≤ first) && (decide (g.ins.length = 0) || decide (g.ins.getD (g.ins.length - 1) 0 < first))) = true) : graphZ g edges first = ([], [], 0, 2) := if_neg h
theorem any_all (g : AigP) (l : List Int) : (l.any fun x => decide (x < 0) || decide (2 * (g.nodes : Int) - 1 < x)) = !l.all g.has := by
  rw [Bool.eq_iff_iff]
  simp [List.all_eq_true, AigP.has]
  constructor
  · rintro ⟨x, hx, hh⟩; exact ⟨x, hx, by omega⟩
  · rintro ⟨x, hx, hh⟩; exact ⟨x, hx, by omega⟩
theorem err_rd {σ : GS} {ok : Nat → Prop} (e : Int) : Rd σ ok (.tuple [.nils, .nils, .int .i64 0, .int .i64 e]) (.tuple [fcls [], fints [], .int .i64 0, .int .i64 e]) := .tuple (.cons (.nils 1) (.cons (.nils 1) (.cons (.same _) (.cons (.same _) .nil))))
set_option maxHeartbeats 4000000 in
theorem enc_Graph_ok {g : AigP} {edges : List Int} {first : Int} {σ : GS} {Post : DV → GS → Prop} (hs : g.Sm) (ha : g.ands.length ≤ 600) (hel : edges.length < 2 ^ 30) (h : Post (graphD g edges first) σ) : GCall Tryz.prog F_enc_Graph [g.enc, fints edges, .int .i64 first] σ Post := by
  refine GCall.pure (r := graphD g edges first) ?_ (by simp) h
  refine gc_enc_Graph ?_
  have hins := hs.ins
  have hnod : g.nodes = 1 + g.ins.length + g.ands.length := rfl
  have e1 : IntKind.i64.wrap (1 + (g.ins.length : Int)) = 1 + g.ins.length := by rw [wrap_small] <;> omega
  have e2 : IntKind.i64.wrap (1 + (g.ins.length : Int) + g.ands.length) = 1 + g.ins.length + g.ands.length := by rw [wrap_small] <;> omega
  have e3 : IntKind.i64.wrap (2 * (1 + (g.ins.length : Int) + g.ands.length)) = 2 * (1 + g.ins.length + g.ands.length) := by rw [wrap_small] <;> omega
  have e4 : IntKind.i64.wrap (2 * (1 + (g.ins.length : Int) + g.ands.length) - 1) = 2 * (g.nodes : Int) - 1 := by rw [wrap_small] <;> omega
  simp [G_enc_Graph, genv0, List.replicate, e1, e2, e3, e4]
  refine aig_May_ok hs ?_
  have hF1 : Fr σ.length σ (σ ++ [GObj.row false (ega g), .row false [.int .i64 (2 * (g.nodes : Int) - 1)]]) := Fr.self _
  have no : ¬ (g.all edges && decide (1 ≤ first) && (decide (g.ins.length = 0) || decide (g.ins.getD (g.ins.length - 1) 0 < first))) = true → ∀ σ', Fr σ.length σ σ' → (Fr σ.length σ σ' ∧ Rd σ' (fun i => σ.length ≤ i ∨ RO σ' i) (.tuple [.nils, .nils, .int .i64 0, .int .i64 2]) (graphD g edges first)) := fun hn σ' hF' => by
    have := graphZ_no hn
    unfold graphD
    rw [this]
    exact ⟨hF', err_rd 2⟩
  cases hm : g.may with
  | false =>
    simp
    exact (no (by simp [AigP.all, hm]) _ hF1).2
  | true =>
  have hnn := AigP.may_nodes hm
  simp
  refine contains_func_ok (by omega) (p := fun x => decide (x < 0) || decide (2 * (g.nodes : Int) - 1 < x)) (fun x hx K hK => enc_Graph1_ok (by simp) hK) ?_
  rw [any_all]
  cases hall : edges.all g.has with
  | false =>
    simp
    exact (no (by simp [AigP.all, hm, hall]) _ hF1).2
  | true =>
  have hga : g.all edges = true := by simp [AigP.all, hm, hall]
  have he : ∀ e ∈ edges, 0 ≤ e ∧ e < 2 * (g.nodes : Int) := fun e he => AigP.all_has hga he
  simp
  by_cases c1 : first < 1
  · simp [c1]
    exact (no (by simp; omega) _ hF1).2
  simp [c1]
  by_cases c2 : g.ins.length = 0
  · have c2' : ¬ (0 < g.ins.length) := by omega
    simp [c2']
    obtain ⟨A, hA⟩ : ∃ A, GObj.row false (ega g) = A := ⟨_, rfl⟩
    obtain ⟨L, hL⟩ : ∃ L, GObj.row false [DV.int .i64 (2 * (g.nodes : Int) - 1)] = L := ⟨_, rfl⟩
    have hld0 : ∀ τ, gload (.load 1 false) [.ptr σ.length 0] (σ ++ A :: τ) = some (fints g.ins) := fun τ => by simp [← hA]
    have hld1 : ∀ τ, gload (.load 1 false) [.ptr σ.length 1] (σ ++ A :: τ) = some (fands g.ands) := fun τ => by simp [← hA]
    have hcond : (g.all edges && decide (1 ≤ first) && (decide (g.ins.length = 0) || decide (g.ins.getD (g.ins.length - 1) 0 < first))) = true := by rw [hga]; simp [c2]; omega
    rw [hA, hL]
    have e5 : (1 + (g.ins.length : Int) + g.ands.length) = ((g.nodes : Nat) : Int) := by omega
    have hms := mslice_bools (n := g.nodes) (by omega) .i64 .i64
    obtain ⟨V, hV⟩ : ∃ V, List.replicate g.nodes false = V := ⟨_, rfl⟩
    have hVl : V.length = g.nodes := by rw [← hV]; simp
    rw [hV] at hms
    have e2' : IntKind.i64.wrap (1 + (g.ins.length : Int) + g.ands.length) = ((g.nodes : Nat) : Int) := by rw [e2, e5]
    simp [hld0, hld1, e1, e2', hms]
    refine gfor edges.length (fun i e σ' => (∃ m, σ' = σ ++ (A :: L :: .row false (bools m) :: .row false [.slice (σ.length + 2) 0 g.nodes 1 (some g.nodes)] :: []) ∧ m.length = g.nodes ∧ marks m (edges.drop i) = marks V edges) ∧ e = mkEnv 207 [(1, fints edges), (2, .int .i64 first), (3, .ptr σ.length 0), (7, .nils), (12, .ptr (σ.length + 3) 0), (72, fints edges), (73, .int .i64 edges.length), (74, .int .i64 i)]) _ ?_ ⟨⟨V, by simp, hVl, rfl⟩, rfl⟩ ?_
    · simp [mkEnv, List.replicate]
    rintro i _ _ hi ⟨⟨m, rfl, hml, hI⟩, rfl⟩
    simp [mkEnv, List.replicate]
    by_cases hlt : i < edges.length
    · obtain ⟨y, hy⟩ := nth_lt hlt
      have hy' := nth_get hy
      obtain ⟨y0, y1⟩ := he y (List.mem_of_getElem? hy')
      have hi1 := iaddr_half (id := σ.length + 2) (n := g.nodes) (e := y) (k := .i64) (cap := some g.nodes) y0 (by omega)
      have s1 : (y / 2).toNat < m.length := by omega
      rw [drop_get hy', marks_cons] at hI
      have es : IntKind.i64.wrap ((i : Int) + 1) = (i : Int) + 1 := by rw [wrap_small] <;> omega
      simp [hlt, hy, -gb_shr, shr_one y0, hi1, s1, es]
      exact forK_go _ hlt (by simp [mkEnv, List.replicate]) ⟨⟨_, by simp [List.map_set], by simp [hml], hI⟩, rfl⟩
    have : i = edges.length := by omega
    subst this
    rw [List.drop_length] at hI
    have hI' : m = marks V edges := hI
    simp [hld0, hld1, e1]
    refine backward_ok ?_
    simp
    refine rangeB_intro ?_
    simp
    have hfin : rcDown (1 + g.ins.length) g.ands g.ands.length m = g.reach edges := by rw [hI', ← hV]; rfl
    have hok : ∀ {i : Nat} {p : Int × Int}, g.ands[i]? = some p → _ := fun {i p} h => andsOk_get (AigP.may_ands hm) (i := i) (p := p) h
    have e1n : (1 + (g.ins.length : Int)) = ((1 + g.ins.length : Nat) : Int) := by omega
    rw [e1n]
    have hsl : (σ ++ [A]).length = σ.length + 1 := by simp
    refine back1_ok (by omega) (fun i σ' => ∃ env m τ, env.length = 207 ∧ env[1]? = some (fints edges) ∧ env[2]? = some (.int .i64 first) ∧ env[3]? = some (.ptr σ.length 0) ∧ env[7]? = some .nils ∧ env[12]? = some (DV.ptr (σ.length + 3) 0) ∧ env[15]? = some (DV.ptr (σ.length + 4) 0) ∧ σ' = (σ ++ [A]) ++ (L :: .row false (bools m) :: .row false [.slice ((σ ++ [A]).length + 1) 0 g.nodes 1 (some g.nodes)] :: .row false [.int .i64 ((1 + g.ins.length : Nat) : Int)] :: .loop (lgR env [90, 91] (rngA Tryz.f24 0) (rngB Tryz.f24 0)) :: τ) ∧ m.length = g.nodes ∧ rcDown (1 + g.ins.length) g.ands i m = g.reach edges) ⟨_, m, [], ?_, ?_, ?_, ?_, ?_, ?_, ?_, by simp; rfl, hml, hfin⟩ ?_ ?_
    · simp
    · simp
    · simp
    · simp
    · simp
    · simp
    · simp
    · rintro i p _ hp ⟨env, m', τ, k1, j1, j2, j3, j7, k2, k3, rfl, k4, k5⟩
      obtain ⟨p1, p2, p3, p4⟩ := hok hp
      have hlt := get_dom hp
      have hr := graph_round (σ := σ ++ [A]) (τ := τ) (Post := fun v σ'' => v = .bool true ∧ ∃ env m τ, env.length = 207 ∧ env[1]? = some (fints edges) ∧ env[2]? = some (.int .i64 first) ∧ env[3]? = some (.ptr σ.length 0) ∧ env[7]? = some .nils ∧ env[12]? = some (DV.ptr (σ.length + 3) 0) ∧ env[15]? = some (DV.ptr (σ.length + 4) 0) ∧ σ'' = (σ ++ [A]) ++ (L :: .row false (bools m) :: .row false [.slice ((σ ++ [A]).length + 1) 0 g.nodes 1 (some g.nodes)] :: .row false [.int .i64 ((1 + g.ins.length : Nat) : Int)] :: .loop (lgR env [90, 91] (rngA Tryz.f24 0) (rngB Tryz.f24 0)) :: τ) ∧ m.length = g.nodes ∧ rcDown (1 + g.ins.length) g.ands i m = g.reach edges) (A := L) k1 (by rw [hsl]; exact k2) (by rw [hsl]; exact k3) k4 (n := g.nodes) (base := 1 + g.ins.length) (ands := g.ands) (by omega) (by omega) hp p1 p2 (by omega) (by omega) fun τ' => ⟨rfl, env, rcStep (1 + g.ins.length) g.ands m' i, τ', k1, j1, j2, j3, j7, k2, k3, rfl, by rw [rcStep_len, k4], k5⟩
      rw [hsl] at hr ⊢
      exact hr
    rintro _ ⟨env, m', τ, k1, j1, j2, j3, j7, k2, k3, rfl, k4, k5⟩
    have k5' : m' = g.reach edges := k5
    subst k5'
    refine grange_normal (e0 := env) (ps := [90, 91]) (a := rngA Tryz.f24 0) (b := rngB Tryz.f24 0) (by simp) ?_
    obtain ⟨S2, hS2⟩ : ∃ S, (List.set (σ ++ [A] ++ L :: .row false (bools (g.reach edges)) :: .row false [.slice ((σ ++ [A]).length + 1) 0 g.nodes 1 (some g.nodes)] :: .row false [.int .i64 ((1 + g.ins.length : Nat) : Int)] :: .loop (lgR env [90, 91] (rngA Tryz.f24 0) (rngB Tryz.f24 0)) :: τ) (σ.length + 5) (.loop ⟨env, [90, 91], rngA Tryz.f24 0, rngB Tryz.f24 0, .exhausted, none⟩)) = S := ⟨_, rfl⟩
    rw [hS2]
    have hl2 : σ.length + 6 ≤ S2.length := by rw [← hS2]; simp <;> omega
    have g0 : S2[σ.length]? = some A := by rw [← hS2, List.getElem?_set_ne (by omega), List.append_assoc]; simp
    have gR : S2[σ.length + 2]? = some (.row false (bools (g.reach edges))) := by rw [← hS2, List.getElem?_set_ne (by omega), List.append_assoc]; simp
    have gB : S2[σ.length + 3]? = some (.row false [.slice (σ.length + 2) 0 g.nodes 1 (some g.nodes)]) := by rw [← hS2, List.getElem?_set_ne (by omega), List.append_assoc]; simp
    have gb : S2[σ.length + 4]? = some (.row false [.int .i64 ((1 + g.ins.length : Nat) : Int)]) := by rw [← hS2, List.getElem?_set_ne (by omega), List.append_assoc]; simp
    have hFr2 : Fr σ.length σ S2 := ⟨by omega, fun j hj => by rw [← hS2, List.getElem?_set_ne (by omega), List.append_assoc, List.getElem?_append_left hj]⟩
    clear hS2 j1 j2 j3 j7 k2 k3 k5 k1
    simp
    refine enc_writers_ok fun σ3 hM hF3 => ?_
    have hlk := hM.lookup (kt := .int .u8) 1 .nilf false
    rw [show (S2 ++ [GObj.row false [DV.nils]]).length = S2.length + 1 by simp] at hlk hF3
    have hl3 := hF3.len
    have up3 : ∀ {j : Nat} {o : GObj}, S2[j]? = some o → σ3[j]? = some o := fun {j o} hj => by
      have := get_dom hj
      rw [hF3.get j (by omega), List.getElem?_append_left this]; exact hj
    have hc3 : σ3[S2.length]? = some (.row false [.nils]) := by rw [hF3.get _ (by omega)]; simp
    have la0 : gload (.load 1 false) [.ptr σ.length 0] σ3 = some (fints g.ins) := by rw [ld_at (hA ▸ up3 g0 : σ3[σ.length]? = some (.row false (ega g)))]; rfl
    have la1 : gload (.load 1 false) [.ptr σ.length 1] σ3 = some (fands g.ands) := by rw [ld_at (hA ▸ up3 g0 : σ3[σ.length]? = some (.row false (ega g)))]; rfl
    have hlk2 : gload (.lookup (.int .u8) .nilf false) [.map (S2.length + 1), .int .u8 1] σ3 = some (.func F_enc_writers_1 [] []) := by simpa [wE, kget] using hlk
    have hmz := mslice_ints (n := g.ands.length) (by omega) .i64 .i64
    obtain ⟨Z, hZ⟩ : ∃ Z : List Int, List.replicate g.ands.length 0 = Z := ⟨_, rfl⟩
    have hZl : Z.length = g.ands.length := by rw [← hZ]; simp
    rw [hZ] at hmz
    have hb3 : ∀ x y z : DV, x.flat = true → y.flat = true → z.flat = true → galloc (.bslice 1 [.nils] 3 [(0, 1), (1, 1), (2, 1)]) [x, y, z] = some (.row false [x, y, z], fun id => .slice id 0 3 1 (some 3)) := fun x y z hx hy hz => by simp [galloc, gfill, cells_of_flat hx, cells_of_flat hy, cells_of_flat hz, gzeros, over]
    have lb0 : ∀ τ, gload (.load 1 false) [.ptr σ.length 0] (σ3 ++ τ) = some (fints g.ins) := fun τ => by rw [ld_app (by omega)]; exact la0
    have lb1 : ∀ τ, gload (.load 1 false) [.ptr σ.length 1] (σ3 ++ τ) = some (fands g.ands) := fun τ => by rw [ld_app (by omega)]; exact la1
    simp [hlk2, lb0, lb1, hmz, hb3]
    obtain ⟨S4, hS4⟩ : ∃ S, σ3 ++ [GObj.row false [DV.int .i64 0], .row false (ints Z), .row false [.slice σ3.length 0 1 1 (some 1), fints g.ins, .slice (σ3.length + 1) 0 g.ands.length 1 (some g.ands.length)], .row false [.nils]] = S := ⟨_, rfl⟩
    rw [hS4]
    have hl4 : S4.length = σ3.length + 4 := by rw [← hS4]; simp
    have r0 : S4[σ3.length]? = some (.row false [.int .i64 0]) := by rw [← hS4]; simp
    have r1 : S4[σ3.length + 1]? = some (.row false (ints Z)) := by rw [← hS4]; simp
    have r2 : S4[σ3.length + 2]? = some (.row false [.slice σ3.length 0 1 1 (some 1), fints g.ins, .slice (σ3.length + 1) 0 g.ands.length 1 (some g.ands.length)]) := by rw [← hS4]; simp
    have r3 : S4[σ3.length + 3]? = some (.row false [.nils]) := by rw [← hS4]; simp
    have up4 : ∀ {j : Nat} {o : GObj}, σ3[j]? = some o → S4[j]? = some o := fun {j o} hj => by rw [← hS4]; exact getE_append hj
    clear hS4
    refine concat_ok (raws := [.slice σ3.length 0 1 1 (some 1), fints g.ins, .slice (σ3.length + 1) 0 g.ands.length 1 (some g.ands.length)]) (yss := [[0], g.ins, Z]) rfl rfl (by decide) (by simp; omega) r2 (fun i r y hr hy => ?_) fun sN σ4 hN hF4 _ => ?_
    · have own0 : ∀ τ, Fr S4.length S4 τ → Own 0 1 eint τ (.slice σ3.length 0 1 1 (some 1)) [0] := fun τ hτ => Own.at_ (xs := [(0 : Int)]) (Nat.zero_le _) ((hτ.get _ (by omega)).trans r0) (fun c hc => by cases hc; rfl)
      have own1 : ∀ τ, Fr S4.length S4 τ → Own 0 1 eint τ (.slice (σ3.length + 1) 0 g.ands.length 1 (some g.ands.length)) Z := fun τ hτ => by
        have := Own.at_ (n := 0) (sz := 1) (enc := eint) (σ := τ) (id := σ3.length + 1) (cap := some Z.length) (xs := Z) (Nat.zero_le _) ((hτ.get _ (by omega)).trans (by rw [r1, flat_ei])) (fun c hc => by cases hc; rfl)
        rwa [hZl] at this
      rcases i with _ | _ | _ | i
      · simp at hr hy
        subst hr hy
        exact ⟨fun τ hτ => ((own0 τ hτ).read fun _ => rfl).1, rfl, rfl⟩
      · simp at hr hy
        subst hr hy
        exact ⟨fun τ hτ => by simp [gread]; exact flatMap_flatten eint g.ins, by simp [glen], by simp⟩
      · simp at hr hy
        subst hr hy
        exact ⟨fun τ hτ => ((own1 τ hτ).read fun _ => rfl).1, by simp [glen, hZl], by simp [hZl]⟩
      · simp at hr
    have hfl : [[(0 : Int)], g.ins, Z].flatten = 0 :: g.ins ++ List.replicate g.ands.length 0 := by simp [hZ]
    rw [hfl] at hN
    have hl4' := hF4.len
    have hq : σ4[σ3.length + 3]? = S4[σ3.length + 3]? := hF4.get _ (by omega)
    have hst : gimp (.store 1) [.ptr (σ3.length + 3) 0, sN] σ4 = some (.tuple [], σ4.set (σ3.length + 3) (.row false [sN])) := by simp [gimp, hq, r3, cells_of_flat hN.flat, over, hN.flat]
    obtain ⟨S5, hS5⟩ : ∃ S, σ4.set (σ3.length + 3) (.row false [sN]) = S := ⟨_, rfl⟩
    rw [hS5] at hst
    have hl5 : S5.length = σ4.length := by rw [← hS5]; simp
    have n5 : S5[σ3.length + 3]? = some (.row false [sN]) := by rw [← hS5, List.getElem?_set_self (by omega)]
    have up5 : ∀ {j : Nat} {o : GObj}, j ≠ σ3.length + 3 → S4[j]? = some o → S5[j]? = some o := fun {j o} hj h4 => by
      rw [← hS5, List.getElem?_set_ne (Ne.symm hj), hF4.get j (get_dom h4)]; exact h4
    have hN5 : Own S4.length 1 eint S5 sN (0 :: g.ins ++ List.replicate g.ands.length 0) := hN.fit fun j hj => by
      rw [← hS5, List.getElem?_set_ne (by have := hN.has_ge hj; omega)]
    clear hS5 hN
    have hc5 : S5[S2.length]? = some (.row false [.nils]) := up5 (by omega) (up4 hc3)
    have hB5 : CB S5.length S5 S2.length [] := ⟨.nils, [], ⟨by omega, Nat.le_refl _⟩, hc5, .nil⟩
    have t0 : S5[σ.length]? = some (.row false (ega g)) := hA ▸ up5 (by omega) (up4 (up3 g0))
    have tR := up5 (by omega) (up4 (up3 gR))
    have tB := up5 (by omega) (up4 (up3 gB))
    have tb := up5 (by omega) (up4 (up3 gb))
    have tBl : gload (.load 1 false) [.ptr (σ.length + 3) 0] S5 = some (.slice (σ.length + 2) 0 g.nodes 1 (some g.nodes)) := by rw [ld_at tB]; rfl
    have hFr5 : Fr σ.length σ S5 := ⟨by omega, fun j hj => by
      obtain ⟨o, ho⟩ := get_lt (xs := σ) hj
      rw [up5 (by omega) (up4 (up3 ((hFr2.get j hj).trans ho))), ho]⟩
    simp [hq, hst, tBl]
    have carry : ∀ {σa σb : GS} {cs : List (List Int)} {name : List Int}, CB S5.length σa S2.length cs → Stc σa S2.length σb → Own S4.length 1 eint σa sN name → σa[σ3.length + 3]? = some (.row false [sN]) → Fr S2.length S5 σa → (Own S4.length 1 eint σb sN name ∧ σb[σ3.length + 3]? = some (.row false [sN]) ∧ Fr S2.length S5 σb) := fun {σa σb cs name} hB hS hO hr hF => by
      have hd := hB.dom
      have key : ∀ j, j < S5.length → j ≠ S2.length → σb[j]? = σa[j]? := fun j hj hne => hS.get j (by omega) fun hf => by
        rcases (hB.fcDom hf).1 with e | e
        · exact hne e
        · omega
      exact ⟨hO.fit fun j hj => key j (hN5.has_lt hj) (by have := hO.has_ge hj; omega), (key _ (by omega) (by omega)).trans hr, hF.trans (hS.fr hB (Nat.le_refl _))⟩
    refine gfor g.nodes (fun i e σ' => Fr S2.length S5 σ' ∧ ∃ s, nmFold g (g.reach edges) first i = some s ∧ CB S5.length σ' S2.length s.cs ∧ Own S4.length 1 eint σ' sN s.name ∧ σ'[σ3.length + 3]? = some (.row false [sN]) ∧ e = mkEnv 207 [(1, fints edges), (3, .ptr σ.length 0), (7, .nils), (8, .int .i64 s.next), (15, .ptr (σ.length + 4) 0), (18, .ptr S2.length 0), (19, .func F_enc_writers_1 [] []), (20, .ptr (σ3.length + 3) 0), (21, .func F_enc_Graph_2 [] [.ptr (σ3.length + 3) 0]), (121, .slice (σ.length + 2) 0 g.nodes 1 (some g.nodes)), (122, .int .i64 g.nodes), (123, .int .i64 i)]) _ ?_ ⟨.refl (by omega), ⟨0 :: g.ins ++ List.replicate g.ands.length 0, first, []⟩, rfl, hB5, hN5, n5, rfl⟩ ?_
    · simp [mkEnv, List.replicate]
    rintro i _ σ5 hi ⟨hFi, s, hfold, hBi, hNi, hri, rfl⟩
    have hsn := NmOk.fold (edges := edges) hm (by omega) hi hfold
    have hdi := hBi.dom
    have u0 : σ5[σ.length]? = some (.row false (ega g)) := (hFi.get _ (by omega)).trans t0
    have uR : σ5[σ.length + 2]? = some (.row false (bools (g.reach edges))) := (hFi.get _ (by omega)).trans tR
    have ub : σ5[σ.length + 4]? = some (.row false [.int .i64 ((1 + g.ins.length : Nat) : Int)]) := (hFi.get _ (by omega)).trans tb
    have lb : gload (.load 1 false) [.ptr (σ.length + 4) 0] σ5 = some (.int .i64 (1 + (g.ins.length : Int))) := by rw [ld_at ub]; simp
    have hFri : Fr σ.length σ σ5 := hFr5.trans (hFi.mono (by omega))
    have hcnt : s.cs.length ≤ 1803 := by have := hsn.cnt; split at this <;> omega
    simp [mkEnv, List.replicate]
    by_cases hlt : i < g.nodes
    · have es : IntKind.i64.wrap ((i : Int) + 1) = (i : Int) + 1 := by rw [wrap_small] <;> omega
      obtain ⟨b, hb⟩ := get_lt (xs := g.reach edges) (i := i) (by rw [AigP.reach_len]; exact hlt)
      have hbd : (g.reach edges).getD i false = b := by rw [List.getD_eq_getElem?_getD, hb]; rfl
      have ia := iaddr_own (id := σ.length + 2) (n := g.nodes) (sz := 1) (i := i) (k := .i64) (cap := some g.nodes) hlt
      have ldb := ld_bools uR hb
      simp at ia
      have skip : nmSkip g (g.reach edges) i = true → nmFold g (g.reach edges) first (i + 1) = some s := fun hh => by
        rw [nmFold, hfold, Option.bind_some, nmStep, if_pos hh]
      cases b with
      | false =>
        simp [hlt, ia, ldb, es]
        exact forK_go _ hlt (by simp [mkEnv, List.replicate]) ⟨hFi, s, skip (by unfold nmSkip; rw [hbd]; rfl), hBi, hNi, hri, rfl⟩
      | true =>
      by_cases hpos : 0 < i ∧ i < 1 + g.ins.length
      · have hp1 : (0 : Int) < i := by omega
        have hp2 : (i : Int) < 1 + (g.ins.length : Int) := by omega
        simp [hlt, ia, ldb, es, hpos.1, lb, hp2]
        exact forK_go _ hlt (by simp [mkEnv, List.replicate]) ⟨hFi, s, skip (by unfold nmSkip; rw [hbd]; simp; omega), hBi, hNi, hri, rfl⟩
      have hns : nmSkip g (g.reach edges) i = false := by unfold nmSkip; rw [hbd]; simp; omega
      have step : nmFold g (g.reach edges) first (i + 1) = if 65536 < s.next then none else some ⟨s.name.set i s.next, s.next + 1, s.cs ++ nmNew g s i⟩ := by
        rw [nmFold, hfold, Option.bind_some, nmStep, if_neg (by rw [hns]; simp)]
      obtain ⟨d, σ6, v1, v2, v3, v4, v5, v6⟩ := hNi.set (f := fun x => DV.int .i64 x) (i := i) (by rw [hsn.len]; exact hlt) s.next (by simp) (k := .i64)
      have hnh : ∀ j, (j < S4.length ∨ S5.length ≤ j) → ¬ sN.has j := fun j hj hh => by have := hNi.has_ge hh; have := hN5.has_lt hh; omega
      have hB6 : CB S5.length σ6 S2.length s.cs := hBi.other (by omega) fun j hj hh => v6 j (hnh j (by omega))
      have hr6 : σ6[σ3.length + 3]? = some (.row false [sN]) := (v6 _ (hnh _ (by omega))).trans hri
      have hF6 : Fr S2.length S5 σ6 := ⟨by omega, fun j hj => (v6 j (hnh j (by omega))).trans (hFi.get j hj)⟩
      have l6 : gload (.load 1 false) [.ptr (σ3.length + 3) 0] σ6 = some sN := by rw [ld_at hr6]; rfl
      have l5 : gload (.load 1 false) [.ptr (σ3.length + 3) 0] σ5 = some sN := by rw [ld_at hri]; rfl
      obtain ⟨sc, w1, w2, w3⟩ := hBi.out
      have hc2 : ¬ ((20000 : Int) < s.cs.length) := by omega
      have fin : ∀ σ7, CB S5.length σ7 S2.length (s.cs ++ nmNew g s i) → Stc σ6 S2.length σ7 → ¬ 65536 < s.next → (Fr S2.length S5 σ7 ∧ ∃ s', nmFold g (g.reach edges) first (i + 1) = some s' ∧ CB S5.length σ7 S2.length s'.cs ∧ Own S4.length 1 eint σ7 sN s'.name ∧ σ7[σ3.length + 3]? = some (.row false [sN]) ∧ s'.next = s.next + 1) := fun σ7 hB7 hS7 hn => by
        obtain ⟨c1, c2, c3⟩ := carry hB6 hS7 v4 hr6 hF6
        exact ⟨c3, _, by rw [step, if_neg hn], hB7, c1, c2, rfl⟩
      have toolong : 65536 < s.next → ∀ σ', Fr σ.length σ σ' → (Fr σ.length σ σ' ∧ Rd σ' (fun i => σ.length ≤ i ∨ RO σ' i) (.tuple [.nils, .nils, .int .i64 0, .int .i64 3]) (graphD g edges first)) := fun hn σ' hF' => by
        have e : graphZ g edges first = ([], [], 0, 3) := by
          unfold graphZ
          rw [if_pos hcond, nmFold_none (k := i + 1) (by rw [step, if_pos hn]) _ (by omega)]
        unfold graphD
        rw [e]
        exact ⟨hF', err_rd 3⟩
      by_cases hn : 65536 < s.next
      · by_cases hi0 : i = 0
        · have hp1 : ¬ (0 < i) := by omega
          simp [hlt, ia, ldb, hp1, hn]
          exact toolong hn _ hFri
        · have hp1 : 0 < i := by omega
          have hp2 : ¬ ((i : Int) < 1 + (g.ins.length : Int)) := by omega
          simp [hlt, ia, ldb, hp1, lb, hp2, hn]
          exact toolong hn _ hFri
      have hlo := hsn.lo
      have hltn : Lt s.next := by unfold Lt; omega
      have ew : IntKind.i64.wrap (s.next + 1) = s.next + 1 := by rw [wrap_small] <;> omega
      by_cases hi0 : i = 0
      · have hp1 : ¬ (0 < i) := by omega
        obtain ⟨d2, w4, w5⟩ := v4.ix (i := i) (x := s.next) (by rw [List.getElem?_set_self (by rw [hsn.len]; exact hlt)])
        have hdd : d2 = d := by have := w4.symm.trans v2; simpa using this
        rw [hdd] at w5
        clear w4
        subst hi0
        simp at ia v2 ldb es
        simp [hlt, ia, ldb, hn, w1, w3, hc2, l5, v2, v3, ew, l6, w5, hltn.wrapN]
        refine enc_put_ok (hB6.app _) (own_laid [-s.next]) (by simp) (fun x hx => by simp at hx; subst hx; exact hltn.neg) (by omega) fun σ7 hB7 hS7 => ?_
        have hnn1 : (normL [-s.next]).toList = nmNew g s 0 := rfl
        rw [hnn1] at hB7
        obtain ⟨f1, s', f2, f3, f4, f5, f6⟩ := fin σ7 hB7 ((hB6.stcApp _).trans hS7) hn
        simp
        exact forK_go _ hlt (by simp [mkEnv, List.replicate, f6]) ⟨f1, s', f2, f3, f4, f5, rfl⟩
      · have hp1 : 0 < i := by omega
        have hp2 : ¬ ((i : Int) < 1 + (g.ins.length : Int)) := by omega
        have hi0' : ¬ ((i : Int) = 0) := by omega
        obtain ⟨d2, w4, w5⟩ := v4.ix (i := i) (x := s.next) (by rw [List.getElem?_set_self (by rw [hsn.len]; exact hlt)])
        have hdd : d2 = d := by have := w4.symm.trans v2; simpa using this
        rw [hdd] at w5
        clear w4
        obtain ⟨p, hp⟩ := nth_lt (l := g.ands) (i := i - (1 + g.ins.length)) (by omega)
        have hp' := nth_get hp
        have u06 : σ6[σ.length]? = some (.row false (ega g)) := (hF6.get _ (by omega)).trans t0
        have la6 : gload (.load 1 false) [.ptr σ.length 1] σ6 = some (fands g.ands) := ld_at u06
        have ub6 : σ6[σ.length + 4]? = some (.row false [.int .i64 ((1 + g.ins.length : Nat) : Int)]) := (hF6.get _ (by omega)).trans tb
        have lb6 : gload (.load 1 false) [.ptr (σ.length + 4) 0] σ6 = some (.int .i64 (1 + (g.ins.length : Int))) := by rw [ld_at ub6]; simp
        have ei : IntKind.i64.wrap ((i : Int) - (1 + (g.ins.length : Int))) = ((i - (1 + g.ins.length) : Nat) : Int) := by rw [wrap_small] <;> omega
        simp [hlt, ia, ldb, hp1, lb, hp2, hn, w1, w3, hc2, l5, v2, v3, ew, hi0, hi0', l6, w5, la6, lb6, ei, hp]
        obtain ⟨⟨q1, q2, q3⟩, q4, q5, q6⟩ := hsn.lits hm hlt (by omega) hns hp' s.next
        obtain ⟨z1, z2, z3, z4⟩ := hok hp'
        have hls : (s.name.set i s.next).length = g.nodes := by rw [List.length_set]; exact hsn.len
        refine enc_Graph2_ok hr6 v4 q1 (by rw [hls]; omega) (by omega) q3 ?_
        simp
        refine enc_Graph2_ok hr6 v4 q4 (by rw [hls]; omega) (by omega) q6 ?_
        simp
        refine and_call hB6 hltn q3 q6 (by omega) fun σ7 hB7 hS7 => ?_
        have hnn1 : gcl s.next 1 [ofE (s.name.set i s.next) p.1, ofE (s.name.set i s.next) p.2] true true = nmNew g s i := by
          unfold nmNew
          rw [if_neg hi0, show g.ands.getD (i - (1 + g.ins.length)) (0, 0) = p by rw [List.getD_eq_getElem?_getD, hp']; rfl]
        rw [hnn1] at hB7
        obtain ⟨f1, s', f2, f3, f4, f5, f6⟩ := fin σ7 hB7 hS7 hn
        simp [es]
        exact forK_go _ hlt (by simp [mkEnv, List.replicate, f6]) ⟨f1, s', f2, f3, f4, f5, rfl⟩
    have : i = g.nodes := by omega
    subst this
    have hz : graphZ g edges first = (s.cs, edges.map (ofE s.name), s.next, 0) := by unfold graphZ; rw [if_pos hcond, hfold]
    obtain ⟨sc, w1, w2, w3⟩ := hBi.out
    have hsum := cs_sum hsn.sz
    have hfits : fitsB s.cs = true := by simp only [fitsB, Bool.and_eq_true, decide_eq_true_eq]; omega
    simp [w1]
    refine enc_fits_live (w2 _ fun _ _ => trivial) (by omega) (by omega) ?_
    rw [hfits]
    simp
    refine gfor edges.length (fun j e σ' => Fr σ5.length σ5 σ' ∧ ∃ sl, Own σ5.length 1 eint σ' sl ((edges.take j).map (ofE s.name)) ∧ e = mkEnv 207 [(7, sl), (8, .int .i64 s.next), (18, .ptr S2.length 0), (21, .func F_enc_Graph_2 [] [.ptr (σ3.length + 3) 0]), (191, fints edges), (192, .int .i64 edges.length), (193, .int .i64 j)]) _ ?_ ⟨.rfl', .nils, .nil, rfl⟩ ?_
    · simp [mkEnv, List.replicate]
    rintro j _ σ6 hj ⟨hF6, sl, hO6, rfl⟩
    simp [mkEnv, List.replicate]
    by_cases hjt : j < edges.length
    · obtain ⟨y, hy⟩ := nth_lt hjt
      have hy' := nth_get hy
      obtain ⟨y0, y1⟩ := he y (List.mem_of_getElem? hy')
      have ej : IntKind.i64.wrap ((j : Int) + 1) = (j : Int) + 1 := by rw [wrap_small] <;> omega
      have hr6 : σ6[σ3.length + 3]? = some (.row false [sN]) := (hF6.get _ (get_dom hri)).trans hri
      simp [hjt, hy]
      refine enc_Graph2_ok hr6 (hNi.fr hF6) y0 (by rw [hsn.len]; omega) (by omega) (ofE_lt (hsn.node hm (by omega) (AigP.reach_edge (List.mem_of_getElem? hy') y0 y1) (by omega))) ?_
      obtain ⟨s', σ7, q1, q2, q3, q4, q5, q6⟩ := hO6.push (by_ := 8) (ofE s.name y) (fun _ => rfl) (by simp) hF6.len (by simp; omega) (by decide)
      simp [q1, ej]
      exact forK_go _ hjt (by simp [mkEnv, List.replicate]) ⟨hF6.trans q3, s', by rw [take_get hy', List.map_append]; exact q2, rfl⟩
    · have : j = edges.length := by omega
      subst this
      rw [List.take_length] at hO6
      obtain ⟨sc', w1', w2', w3'⟩ := (hBi.keep hF6.len hF6.get).out
      simp [w1']
      unfold graphD
      rw [hz]
      exact ⟨hFri.trans (hF6.mono (by omega)), .tuple (.cons (w2' _ fun j hj => .inl (by omega)) (.cons (hO6.rd (fun _ => rfl) fun j hj => .inl (by omega)) (.cons (.same _) (.cons (.same _) .nil))))⟩
  have c2' : 0 < g.ins.length := by omega
  have el : IntKind.i64.wrap ((g.ins.length : Int) - 1) = ((g.ins.length - 1 : Nat) : Int) := by rw [wrap_small] <;> omega
  obtain ⟨v, hv⟩ := nth_lt (l := g.ins) (i := g.ins.length - 1) (by omega)
  have hgd : g.ins.getD (g.ins.length - 1) 0 = v := by rw [List.getD_eq_getElem?_getD, nth_get hv]; rfl
  by_cases c3 : first ≤ v
  · simp [c2', el, hv, c3]
    exact (no (by rw [hgd]; simp; intro _ _; exact ⟨fun e => by rw [e] at c2'; simp at c2', by omega⟩) _ hF1).2
  simp [c2', el, hv, c3]
  obtain ⟨A, hA⟩ : ∃ A, GObj.row false (ega g) = A := ⟨_, rfl⟩
  obtain ⟨L, hL⟩ : ∃ L, GObj.row false [DV.int .i64 (2 * (g.nodes : Int) - 1)] = L := ⟨_, rfl⟩
  have hld0 : ∀ τ, gload (.load 1 false) [.ptr σ.length 0] (σ ++ A :: τ) = some (fints g.ins) := fun τ => by simp [← hA]
  have hld1 : ∀ τ, gload (.load 1 false) [.ptr σ.length 1] (σ ++ A :: τ) = some (fands g.ands) := fun τ => by simp [← hA]
  have hcond : (g.all edges && decide (1 ≤ first) && (decide (g.ins.length = 0) || decide (g.ins.getD (g.ins.length - 1) 0 < first))) = true := by rw [hga, hgd]; simp; exact ⟨by omega, .inr (by omega)⟩
  rw [hA, hL]
  have e5 : (1 + (g.ins.length : Int) + g.ands.length) = ((g.nodes : Nat) : Int) := by omega
  have hms := mslice_bools (n := g.nodes) (by omega) .i64 .i64
  obtain ⟨V, hV⟩ : ∃ V, List.replicate g.nodes false = V := ⟨_, rfl⟩
  have hVl : V.length = g.nodes := by rw [← hV]; simp
  rw [hV] at hms
  have e2' : IntKind.i64.wrap (1 + (g.ins.length : Int) + g.ands.length) = ((g.nodes : Nat) : Int) := by rw [e2, e5]
  simp [hld0, hld1, e1, e2', hms]
  refine gfor edges.length (fun i e σ' => (∃ m, σ' = σ ++ (A :: L :: .row false (bools m) :: .row false [.slice (σ.length + 2) 0 g.nodes 1 (some g.nodes)] :: []) ∧ m.length = g.nodes ∧ marks m (edges.drop i) = marks V edges) ∧ e = mkEnv 207 [(1, fints edges), (2, .int .i64 first), (3, .ptr σ.length 0), (7, .nils), (12, .ptr (σ.length + 3) 0), (72, fints edges), (73, .int .i64 edges.length), (74, .int .i64 i)]) _ ?_ ⟨⟨V, by simp, hVl, rfl⟩, rfl⟩ ?_
  · simp [mkEnv, List.replicate]
  rintro i _ _ hi ⟨⟨m, rfl, hml, hI⟩, rfl⟩
  simp [mkEnv, List.replicate]
  by_cases hlt : i < edges.length
  · obtain ⟨y, hy⟩ := nth_lt hlt
    have hy' := nth_get hy
    obtain ⟨y0, y1⟩ := he y (List.mem_of_getElem? hy')
    have hi1 := iaddr_half (id := σ.length + 2) (n := g.nodes) (e := y) (k := .i64) (cap := some g.nodes) y0 (by omega)
    have s1 : (y / 2).toNat < m.length := by omega
    rw [drop_get hy', marks_cons] at hI
    have es : IntKind.i64.wrap ((i : Int) + 1) = (i : Int) + 1 := by rw [wrap_small] <;> omega
    simp [hlt, hy, -gb_shr, shr_one y0, hi1, s1, es]
    exact forK_go _ hlt (by simp [mkEnv, List.replicate]) ⟨⟨_, by simp [List.map_set], by simp [hml], hI⟩, rfl⟩
  have : i = edges.length := by omega
  subst this
  rw [List.drop_length] at hI
  have hI' : m = marks V edges := hI
  simp [hld0, hld1, e1]
  refine backward_ok ?_
  simp
  refine rangeB_intro ?_
  simp
  have hfin : rcDown (1 + g.ins.length) g.ands g.ands.length m = g.reach edges := by rw [hI', ← hV]; rfl
  have hok : ∀ {i : Nat} {p : Int × Int}, g.ands[i]? = some p → _ := fun {i p} h => andsOk_get (AigP.may_ands hm) (i := i) (p := p) h
  have e1n : (1 + (g.ins.length : Int)) = ((1 + g.ins.length : Nat) : Int) := by omega
  rw [e1n]
  have hsl : (σ ++ [A]).length = σ.length + 1 := by simp
  refine back1_ok (by omega) (fun i σ' => ∃ env m τ, env.length = 207 ∧ env[1]? = some (fints edges) ∧ env[2]? = some (.int .i64 first) ∧ env[3]? = some (.ptr σ.length 0) ∧ env[7]? = some .nils ∧ env[12]? = some (DV.ptr (σ.length + 3) 0) ∧ env[15]? = some (DV.ptr (σ.length + 4) 0) ∧ σ' = (σ ++ [A]) ++ (L :: .row false (bools m) :: .row false [.slice ((σ ++ [A]).length + 1) 0 g.nodes 1 (some g.nodes)] :: .row false [.int .i64 ((1 + g.ins.length : Nat) : Int)] :: .loop (lgR env [90, 91] (rngA Tryz.f24 0) (rngB Tryz.f24 0)) :: τ) ∧ m.length = g.nodes ∧ rcDown (1 + g.ins.length) g.ands i m = g.reach edges) ⟨_, m, [], ?_, ?_, ?_, ?_, ?_, ?_, ?_, by simp; rfl, hml, hfin⟩ ?_ ?_
  · simp
  · simp
  · simp
  · simp
  · simp
  · simp
  · simp
  · rintro i p _ hp ⟨env, m', τ, k1, j1, j2, j3, j7, k2, k3, rfl, k4, k5⟩
    obtain ⟨p1, p2, p3, p4⟩ := hok hp
    have hlt := get_dom hp
    have hr := graph_round (σ := σ ++ [A]) (τ := τ) (Post := fun v σ'' => v = .bool true ∧ ∃ env m τ, env.length = 207 ∧ env[1]? = some (fints edges) ∧ env[2]? = some (.int .i64 first) ∧ env[3]? = some (.ptr σ.length 0) ∧ env[7]? = some .nils ∧ env[12]? = some (DV.ptr (σ.length + 3) 0) ∧ env[15]? = some (DV.ptr (σ.length + 4) 0) ∧ σ'' = (σ ++ [A]) ++ (L :: .row false (bools m) :: .row false [.slice ((σ ++ [A]).length + 1) 0 g.nodes 1 (some g.nodes)] :: .row false [.int .i64 ((1 + g.ins.length : Nat) : Int)] :: .loop (lgR env [90, 91] (rngA Tryz.f24 0) (rngB Tryz.f24 0)) :: τ) ∧ m.length = g.nodes ∧ rcDown (1 + g.ins.length) g.ands i m = g.reach edges) (A := L) k1 (by rw [hsl]; exact k2) (by rw [hsl]; exact k3) k4 (n := g.nodes) (base := 1 + g.ins.length) (ands := g.ands) (by omega) (by omega) hp p1 p2 (by omega) (by omega) fun τ' => ⟨rfl, env, rcStep (1 + g.ins.length) g.ands m' i, τ', k1, j1, j2, j3, j7, k2, k3, rfl, by rw [rcStep_len, k4], k5⟩
    rw [hsl] at hr ⊢
    exact hr
  rintro _ ⟨env, m', τ, k1, j1, j2, j3, j7, k2, k3, rfl, k4, k5⟩
  have k5' : m' = g.reach edges := k5
  subst k5'
  refine grange_normal (e0 := env) (ps := [90, 91]) (a := rngA Tryz.f24 0) (b := rngB Tryz.f24 0) (by simp) ?_
  obtain ⟨S2, hS2⟩ : ∃ S, (List.set (σ ++ [A] ++ L :: .row false (bools (g.reach edges)) :: .row false [.slice ((σ ++ [A]).length + 1) 0 g.nodes 1 (some g.nodes)] :: .row false [.int .i64 ((1 + g.ins.length : Nat) : Int)] :: .loop (lgR env [90, 91] (rngA Tryz.f24 0) (rngB Tryz.f24 0)) :: τ) (σ.length + 5) (.loop ⟨env, [90, 91], rngA Tryz.f24 0, rngB Tryz.f24 0, .exhausted, none⟩)) = S := ⟨_, rfl⟩
  rw [hS2]
  have hl2 : σ.length + 6 ≤ S2.length := by rw [← hS2]; simp <;> omega
  have g0 : S2[σ.length]? = some A := by rw [← hS2, List.getElem?_set_ne (by omega), List.append_assoc]; simp
  have gR : S2[σ.length + 2]? = some (.row false (bools (g.reach edges))) := by rw [← hS2, List.getElem?_set_ne (by omega), List.append_assoc]; simp
  have gB : S2[σ.length + 3]? = some (.row false [.slice (σ.length + 2) 0 g.nodes 1 (some g.nodes)]) := by rw [← hS2, List.getElem?_set_ne (by omega), List.append_assoc]; simp
  have gb : S2[σ.length + 4]? = some (.row false [.int .i64 ((1 + g.ins.length : Nat) : Int)]) := by rw [← hS2, List.getElem?_set_ne (by omega), List.append_assoc]; simp
  have hFr2 : Fr σ.length σ S2 := ⟨by omega, fun j hj => by rw [← hS2, List.getElem?_set_ne (by omega), List.append_assoc, List.getElem?_append_left hj]⟩
  clear hS2 j1 j2 j3 j7 k2 k3 k5 k1
  simp
  refine enc_writers_ok fun σ3 hM hF3 => ?_
  have hlk := hM.lookup (kt := .int .u8) 1 .nilf false
  rw [show (S2 ++ [GObj.row false [DV.nils]]).length = S2.length + 1 by simp] at hlk hF3
  have hl3 := hF3.len
  have up3 : ∀ {j : Nat} {o : GObj}, S2[j]? = some o → σ3[j]? = some o := fun {j o} hj => by
    have := get_dom hj
    rw [hF3.get j (by omega), List.getElem?_append_left this]; exact hj
  have hc3 : σ3[S2.length]? = some (.row false [.nils]) := by rw [hF3.get _ (by omega)]; simp
  have la0 : gload (.load 1 false) [.ptr σ.length 0] σ3 = some (fints g.ins) := by rw [ld_at (hA ▸ up3 g0 : σ3[σ.length]? = some (.row false (ega g)))]; rfl
  have la1 : gload (.load 1 false) [.ptr σ.length 1] σ3 = some (fands g.ands) := by rw [ld_at (hA ▸ up3 g0 : σ3[σ.length]? = some (.row false (ega g)))]; rfl
  have hlk2 : gload (.lookup (.int .u8) .nilf false) [.map (S2.length + 1), .int .u8 1] σ3 = some (.func F_enc_writers_1 [] []) := by simpa [wE, kget] using hlk
  have hmz := mslice_ints (n := g.ands.length) (by omega) .i64 .i64
  obtain ⟨Z, hZ⟩ : ∃ Z : List Int, List.replicate g.ands.length 0 = Z := ⟨_, rfl⟩
  have hZl : Z.length = g.ands.length := by rw [← hZ]; simp
  rw [hZ] at hmz
  have hb3 : ∀ x y z : DV, x.flat = true → y.flat = true → z.flat = true → galloc (.bslice 1 [.nils] 3 [(0, 1), (1, 1), (2, 1)]) [x, y, z] = some (.row false [x, y, z], fun id => .slice id 0 3 1 (some 3)) := fun x y z hx hy hz => by simp [galloc, gfill, cells_of_flat hx, cells_of_flat hy, cells_of_flat hz, gzeros, over]
  have lb0 : ∀ τ, gload (.load 1 false) [.ptr σ.length 0] (σ3 ++ τ) = some (fints g.ins) := fun τ => by rw [ld_app (by omega)]; exact la0
  have lb1 : ∀ τ, gload (.load 1 false) [.ptr σ.length 1] (σ3 ++ τ) = some (fands g.ands) := fun τ => by rw [ld_app (by omega)]; exact la1
  simp [hlk2, lb0, lb1, hmz, hb3]
  obtain ⟨S4, hS4⟩ : ∃ S, σ3 ++ [GObj.row false [DV.int .i64 0], .row false (ints Z), .row false [.slice σ3.length 0 1 1 (some 1), fints g.ins, .slice (σ3.length + 1) 0 g.ands.length 1 (some g.ands.length)], .row false [.nils]] = S := ⟨_, rfl⟩
  rw [hS4]
  have hl4 : S4.length = σ3.length + 4 := by rw [← hS4]; simp
  have r0 : S4[σ3.length]? = some (.row false [.int .i64 0]) := by rw [← hS4]; simp
  have r1 : S4[σ3.length + 1]? = some (.row false (ints Z)) := by rw [← hS4]; simp
  have r2 : S4[σ3.length + 2]? = some (.row false [.slice σ3.length 0 1 1 (some 1), fints g.ins, .slice (σ3.length + 1) 0 g.ands.length 1 (some g.ands.length)]) := by rw [← hS4]; simp
  have r3 : S4[σ3.length + 3]? = some (.row false [.nils]) := by rw [← hS4]; simp
  have up4 : ∀ {j : Nat} {o : GObj}, σ3[j]? = some o → S4[j]? = some o := fun {j o} hj => by rw [← hS4]; exact getE_append hj
  clear hS4
  refine concat_ok (raws := [.slice σ3.length 0 1 1 (some 1), fints g.ins, .slice (σ3.length + 1) 0 g.ands.length 1 (some g.ands.length)]) (yss := [[0], g.ins, Z]) rfl rfl (by decide) (by simp; omega) r2 (fun i r y hr hy => ?_) fun sN σ4 hN hF4 _ => ?_
  · have own0 : ∀ τ, Fr S4.length S4 τ → Own 0 1 eint τ (.slice σ3.length 0 1 1 (some 1)) [0] := fun τ hτ => Own.at_ (xs := [(0 : Int)]) (Nat.zero_le _) ((hτ.get _ (by omega)).trans r0) (fun c hc => by cases hc; rfl)
    have own1 : ∀ τ, Fr S4.length S4 τ → Own 0 1 eint τ (.slice (σ3.length + 1) 0 g.ands.length 1 (some g.ands.length)) Z := fun τ hτ => by
      have := Own.at_ (n := 0) (sz := 1) (enc := eint) (σ := τ) (id := σ3.length + 1) (cap := some Z.length) (xs := Z) (Nat.zero_le _) ((hτ.get _ (by omega)).trans (by rw [r1, flat_ei])) (fun c hc => by cases hc; rfl)
      rwa [hZl] at this
    rcases i with _ | _ | _ | i
    · simp at hr hy
      subst hr hy
      exact ⟨fun τ hτ => ((own0 τ hτ).read fun _ => rfl).1, rfl, rfl⟩
    · simp at hr hy
      subst hr hy
      exact ⟨fun τ hτ => by simp [gread]; exact flatMap_flatten eint g.ins, by simp [glen], by simp⟩
    · simp at hr hy
      subst hr hy
      exact ⟨fun τ hτ => ((own1 τ hτ).read fun _ => rfl).1, by simp [glen, hZl], by simp [hZl]⟩
    · simp at hr
  have hfl : [[(0 : Int)], g.ins, Z].flatten = 0 :: g.ins ++ List.replicate g.ands.length 0 := by simp [hZ]
  rw [hfl] at hN
  have hl4' := hF4.len
  have hq : σ4[σ3.length + 3]? = S4[σ3.length + 3]? := hF4.get _ (by omega)
  have hst : gimp (.store 1) [.ptr (σ3.length + 3) 0, sN] σ4 = some (.tuple [], σ4.set (σ3.length + 3) (.row false [sN])) := by simp [gimp, hq, r3, cells_of_flat hN.flat, over, hN.flat]
  obtain ⟨S5, hS5⟩ : ∃ S, σ4.set (σ3.length + 3) (.row false [sN]) = S := ⟨_, rfl⟩
  rw [hS5] at hst
  have hl5 : S5.length = σ4.length := by rw [← hS5]; simp
  have n5 : S5[σ3.length + 3]? = some (.row false [sN]) := by rw [← hS5, List.getElem?_set_self (by omega)]
  have up5 : ∀ {j : Nat} {o : GObj}, j ≠ σ3.length + 3 → S4[j]? = some o → S5[j]? = some o := fun {j o} hj h4 => by
    rw [← hS5, List.getElem?_set_ne (Ne.symm hj), hF4.get j (get_dom h4)]; exact h4
  have hN5 : Own S4.length 1 eint S5 sN (0 :: g.ins ++ List.replicate g.ands.length 0) := hN.fit fun j hj => by
    rw [← hS5, List.getElem?_set_ne (by have := hN.has_ge hj; omega)]
  clear hS5 hN
  have hc5 : S5[S2.length]? = some (.row false [.nils]) := up5 (by omega) (up4 hc3)
  have hB5 : CB S5.length S5 S2.length [] := ⟨.nils, [], ⟨by omega, Nat.le_refl _⟩, hc5, .nil⟩
  have t0 : S5[σ.length]? = some (.row false (ega g)) := hA ▸ up5 (by omega) (up4 (up3 g0))
  have tR := up5 (by omega) (up4 (up3 gR))
  have tB := up5 (by omega) (up4 (up3 gB))
  have tb := up5 (by omega) (up4 (up3 gb))
  have tBl : gload (.load 1 false) [.ptr (σ.length + 3) 0] S5 = some (.slice (σ.length + 2) 0 g.nodes 1 (some g.nodes)) := by rw [ld_at tB]; rfl
  have hFr5 : Fr σ.length σ S5 := ⟨by omega, fun j hj => by
    obtain ⟨o, ho⟩ := get_lt (xs := σ) hj
    rw [up5 (by omega) (up4 (up3 ((hFr2.get j hj).trans ho))), ho]⟩
  simp [hq, hst, tBl]
  have carry : ∀ {σa σb : GS} {cs : List (List Int)} {name : List Int}, CB S5.length σa S2.length cs → Stc σa S2.length σb → Own S4.length 1 eint σa sN name → σa[σ3.length + 3]? = some (.row false [sN]) → Fr S2.length S5 σa → (Own S4.length 1 eint σb sN name ∧ σb[σ3.length + 3]? = some (.row false [sN]) ∧ Fr S2.length S5 σb) := fun {σa σb cs name} hB hS hO hr hF => by
    have hd := hB.dom
    have key : ∀ j, j < S5.length → j ≠ S2.length → σb[j]? = σa[j]? := fun j hj hne => hS.get j (by omega) fun hf => by
      rcases (hB.fcDom hf).1 with e | e
      · exact hne e
      · omega
    exact ⟨hO.fit fun j hj => key j (hN5.has_lt hj) (by have := hO.has_ge hj; omega), (key _ (by omega) (by omega)).trans hr, hF.trans (hS.fr hB (Nat.le_refl _))⟩
  refine gfor g.nodes (fun i e σ' => Fr S2.length S5 σ' ∧ ∃ s, nmFold g (g.reach edges) first i = some s ∧ CB S5.length σ' S2.length s.cs ∧ Own S4.length 1 eint σ' sN s.name ∧ σ'[σ3.length + 3]? = some (.row false [sN]) ∧ e = mkEnv 207 [(1, fints edges), (3, .ptr σ.length 0), (7, .nils), (8, .int .i64 s.next), (15, .ptr (σ.length + 4) 0), (18, .ptr S2.length 0), (19, .func F_enc_writers_1 [] []), (20, .ptr (σ3.length + 3) 0), (21, .func F_enc_Graph_2 [] [.ptr (σ3.length + 3) 0]), (121, .slice (σ.length + 2) 0 g.nodes 1 (some g.nodes)), (122, .int .i64 g.nodes), (123, .int .i64 i)]) _ ?_ ⟨.refl (by omega), ⟨0 :: g.ins ++ List.replicate g.ands.length 0, first, []⟩, rfl, hB5, hN5, n5, rfl⟩ ?_
  · simp [mkEnv, List.replicate]
  rintro i _ σ5 hi ⟨hFi, s, hfold, hBi, hNi, hri, rfl⟩
  have hsn := NmOk.fold (edges := edges) hm (by omega) hi hfold
  have hdi := hBi.dom
  have u0 : σ5[σ.length]? = some (.row false (ega g)) := (hFi.get _ (by omega)).trans t0
  have uR : σ5[σ.length + 2]? = some (.row false (bools (g.reach edges))) := (hFi.get _ (by omega)).trans tR
  have ub : σ5[σ.length + 4]? = some (.row false [.int .i64 ((1 + g.ins.length : Nat) : Int)]) := (hFi.get _ (by omega)).trans tb
  have lb : gload (.load 1 false) [.ptr (σ.length + 4) 0] σ5 = some (.int .i64 (1 + (g.ins.length : Int))) := by rw [ld_at ub]; simp
  have hFri : Fr σ.length σ σ5 := hFr5.trans (hFi.mono (by omega))
  have hcnt : s.cs.length ≤ 1803 := by have := hsn.cnt; split at this <;> omega
  simp [mkEnv, List.replicate]
  by_cases hlt : i < g.nodes
  · have es : IntKind.i64.wrap ((i : Int) + 1) = (i : Int) + 1 := by rw [wrap_small] <;> omega
    obtain ⟨b, hb⟩ := get_lt (xs := g.reach edges) (i := i) (by rw [AigP.reach_len]; exact hlt)
    have hbd : (g.reach edges).getD i false = b := by rw [List.getD_eq_getElem?_getD, hb]; rfl
    have ia := iaddr_own (id := σ.length + 2) (n := g.nodes) (sz := 1) (i := i) (k := .i64) (cap := some g.nodes) hlt
    have ldb := ld_bools uR hb
    simp at ia
    have skip : nmSkip g (g.reach edges) i = true → nmFold g (g.reach edges) first (i + 1) = some s := fun hh => by
      rw [nmFold, hfold, Option.bind_some, nmStep, if_pos hh]
    cases b with
    | false =>
      simp [hlt, ia, ldb, es]
      exact forK_go _ hlt (by simp [mkEnv, List.replicate]) ⟨hFi, s, skip (by unfold nmSkip; rw [hbd]; rfl), hBi, hNi, hri, rfl⟩
    | true =>
    by_cases hpos : 0 < i ∧ i < 1 + g.ins.length
    · have hp1 : (0 : Int) < i := by omega
      have hp2 : (i : Int) < 1 + (g.ins.length : Int) := by omega
      simp [hlt, ia, ldb, es, hpos.1, lb, hp2]
      exact forK_go _ hlt (by simp [mkEnv, List.replicate]) ⟨hFi, s, skip (by unfold nmSkip; rw [hbd]; simp; omega), hBi, hNi, hri, rfl⟩
    have hns : nmSkip g (g.reach edges) i = false := by unfold nmSkip; rw [hbd]; simp; omega
    have step : nmFold g (g.reach edges) first (i + 1) = if 65536 < s.next then none else some ⟨s.name.set i s.next, s.next + 1, s.cs ++ nmNew g s i⟩ := by
      rw [nmFold, hfold, Option.bind_some, nmStep, if_neg (by rw [hns]; simp)]
    obtain ⟨d, σ6, v1, v2, v3, v4, v5, v6⟩ := hNi.set (f := fun x => DV.int .i64 x) (i := i) (by rw [hsn.len]; exact hlt) s.next (by simp) (k := .i64)
    have hnh : ∀ j, (j < S4.length ∨ S5.length ≤ j) → ¬ sN.has j := fun j hj hh => by have := hNi.has_ge hh; have := hN5.has_lt hh; omega
    have hB6 : CB S5.length σ6 S2.length s.cs := hBi.other (by omega) fun j hj hh => v6 j (hnh j (by omega))
    have hr6 : σ6[σ3.length + 3]? = some (.row false [sN]) := (v6 _ (hnh _ (by omega))).trans hri
    have hF6 : Fr S2.length S5 σ6 := ⟨by omega, fun j hj => (v6 j (hnh j (by omega))).trans (hFi.get j hj)⟩
    have l6 : gload (.load 1 false) [.ptr (σ3.length + 3) 0] σ6 = some sN := by rw [ld_at hr6]; rfl
    have l5 : gload (.load 1 false) [.ptr (σ3.length + 3) 0] σ5 = some sN := by rw [ld_at hri]; rfl
    obtain ⟨sc, w1, w2, w3⟩ := hBi.out
    have hc2 : ¬ ((20000 : Int) < s.cs.length) := by omega
    have fin : ∀ σ7, CB S5.length σ7 S2.length (s.cs ++ nmNew g s i) → Stc σ6 S2.length σ7 → ¬ 65536 < s.next → (Fr S2.length S5 σ7 ∧ ∃ s', nmFold g (g.reach edges) first (i + 1) = some s' ∧ CB S5.length σ7 S2.length s'.cs ∧ Own S4.length 1 eint σ7 sN s'.name ∧ σ7[σ3.length + 3]? = some (.row false [sN]) ∧ s'.next = s.next + 1) := fun σ7 hB7 hS7 hn => by
      obtain ⟨c1, c2, c3⟩ := carry hB6 hS7 v4 hr6 hF6
      exact ⟨c3, _, by rw [step, if_neg hn], hB7, c1, c2, rfl⟩
    have toolong : 65536 < s.next → ∀ σ', Fr σ.length σ σ' → (Fr σ.length σ σ' ∧ Rd σ' (fun i => σ.length ≤ i ∨ RO σ' i) (.tuple [.nils, .nils, .int .i64 0, .int .i64 3]) (graphD g edges first)) := fun hn σ' hF' => by
      have e : graphZ g edges first = ([], [], 0, 3) := by
        unfold graphZ
        rw [if_pos hcond, nmFold_none (k := i + 1) (by rw [step, if_pos hn]) _ (by omega)]
      unfold graphD
      rw [e]
      exact ⟨hF', err_rd 3⟩
    by_cases hn : 65536 < s.next
    · by_cases hi0 : i = 0
      · have hp1 : ¬ (0 < i) := by omega
        simp [hlt, ia, ldb, hp1, hn]
        exact toolong hn _ hFri
      · have hp1 : 0 < i := by omega
        have hp2 : ¬ ((i : Int) < 1 + (g.ins.length : Int)) := by omega
        simp [hlt, ia, ldb, hp1, lb, hp2, hn]
        exact toolong hn _ hFri
    have hlo := hsn.lo
    have hltn : Lt s.next := by unfold Lt; omega
    have ew : IntKind.i64.wrap (s.next + 1) = s.next + 1 := by rw [wrap_small] <;> omega
    by_cases hi0 : i = 0
    · have hp1 : ¬ (0 < i) := by omega
      obtain ⟨d2, w4, w5⟩ := v4.ix (i := i) (x := s.next) (by rw [List.getElem?_set_self (by rw [hsn.len]; exact hlt)])
      have hdd : d2 = d := by have := w4.symm.trans v2; simpa using this
      rw [hdd] at w5
      clear w4
      subst hi0
      simp at ia v2 ldb es
      simp [hlt, ia, ldb, hn, w1, w3, hc2, l5, v2, v3, ew, l6, w5, hltn.wrapN]
      refine enc_put_ok (hB6.app _) (own_laid [-s.next]) (by simp) (fun x hx => by simp at hx; subst hx; exact hltn.neg) (by omega) fun σ7 hB7 hS7 => ?_
      have hnn1 : (normL [-s.next]).toList = nmNew g s 0 := rfl
      rw [hnn1] at hB7
      obtain ⟨f1, s', f2, f3, f4, f5, f6⟩ := fin σ7 hB7 ((hB6.stcApp _).trans hS7) hn
      simp
      exact forK_go _ hlt (by simp [mkEnv, List.replicate, f6]) ⟨f1, s', f2, f3, f4, f5, rfl⟩
    · have hp1 : 0 < i := by omega
      have hp2 : ¬ ((i : Int) < 1 + (g.ins.length : Int)) := by omega
      have hi0' : ¬ ((i : Int) = 0) := by omega
      obtain ⟨d2, w4, w5⟩ := v4.ix (i := i) (x := s.next) (by rw [List.getElem?_set_self (by rw [hsn.len]; exact hlt)])
      have hdd : d2 = d := by have := w4.symm.trans v2; simpa using this
      rw [hdd] at w5
      clear w4
      obtain ⟨p, hp⟩ := nth_lt (l := g.ands) (i := i - (1 + g.ins.length)) (by omega)
      have hp' := nth_get hp
      have u06 : σ6[σ.length]? = some (.row false (ega g)) := (hF6.get _ (by omega)).trans t0
      have la6 : gload (.load 1 false) [.ptr σ.length 1] σ6 = some (fands g.ands) := ld_at u06
      have ub6 : σ6[σ.length + 4]? = some (.row false [.int .i64 ((1 + g.ins.length : Nat) : Int)]) := (hF6.get _ (by omega)).trans tb
      have lb6 : gload (.load 1 false) [.ptr (σ.length + 4) 0] σ6 = some (.int .i64 (1 + (g.ins.length : Int))) := by rw [ld_at ub6]; simp
      have ei : IntKind.i64.wrap ((i : Int) - (1 + (g.ins.length : Int))) = ((i - (1 + g.ins.length) : Nat) : Int) := by rw [wrap_small] <;> omega
      simp [hlt, ia, ldb, hp1, lb, hp2, hn, w1, w3, hc2, l5, v2, v3, ew, hi0, hi0', l6, w5, la6, lb6, ei, hp]
      obtain ⟨⟨q1, q2, q3⟩, q4, q5, q6⟩ := hsn.lits hm hlt (by omega) hns hp' s.next
      obtain ⟨z1, z2, z3, z4⟩ := hok hp'
      have hls : (s.name.set i s.next).length = g.nodes := by rw [List.length_set]; exact hsn.len
      refine enc_Graph2_ok hr6 v4 q1 (by rw [hls]; omega) (by omega) q3 ?_
      simp
      refine enc_Graph2_ok hr6 v4 q4 (by rw [hls]; omega) (by omega) q6 ?_
      simp
      refine and_call hB6 hltn q3 q6 (by omega) fun σ7 hB7 hS7 => ?_
      have hnn1 : gcl s.next 1 [ofE (s.name.set i s.next) p.1, ofE (s.name.set i s.next) p.2] true true = nmNew g s i := by
        unfold nmNew
        rw [if_neg hi0, show g.ands.getD (i - (1 + g.ins.length)) (0, 0) = p by rw [List.getD_eq_getElem?_getD, hp']; rfl]
      rw [hnn1] at hB7
      obtain ⟨f1, s', f2, f3, f4, f5, f6⟩ := fin σ7 hB7 hS7 hn
      simp [es]
      exact forK_go _ hlt (by simp [mkEnv, List.replicate, f6]) ⟨f1, s', f2, f3, f4, f5, rfl⟩
  have : i = g.nodes := by omega
  subst this
  have hz : graphZ g edges first = (s.cs, edges.map (ofE s.name), s.next, 0) := by unfold graphZ; rw [if_pos hcond, hfold]
  obtain ⟨sc, w1, w2, w3⟩ := hBi.out
  have hsum := cs_sum hsn.sz
  have hfits : fitsB s.cs = true := by simp only [fitsB, Bool.and_eq_true, decide_eq_true_eq]; omega
  simp [w1]
  refine enc_fits_live (w2 _ fun _ _ => trivial) (by omega) (by omega) ?_
  rw [hfits]
  simp
  refine gfor edges.length (fun j e σ' => Fr σ5.length σ5 σ' ∧ ∃ sl, Own σ5.length 1 eint σ' sl ((edges.take j).map (ofE s.name)) ∧ e = mkEnv 207 [(7, sl), (8, .int .i64 s.next), (18, .ptr S2.length 0), (21, .func F_enc_Graph_2 [] [.ptr (σ3.length + 3) 0]), (191, fints edges), (192, .int .i64 edges.length), (193, .int .i64 j)]) _ ?_ ⟨.rfl', .nils, .nil, rfl⟩ ?_
  · simp [mkEnv, List.replicate]
  rintro j _ σ6 hj ⟨hF6, sl, hO6, rfl⟩
  simp [mkEnv, List.replicate]
  by_cases hjt : j < edges.length
  · obtain ⟨y, hy⟩ := nth_lt hjt
    have hy' := nth_get hy
    obtain ⟨y0, y1⟩ := he y (List.mem_of_getElem? hy')
    have ej : IntKind.i64.wrap ((j : Int) + 1) = (j : Int) + 1 := by rw [wrap_small] <;> omega
    have hr6 : σ6[σ3.length + 3]? = some (.row false [sN]) := (hF6.get _ (get_dom hri)).trans hri
    simp [hjt, hy]
    refine enc_Graph2_ok hr6 (hNi.fr hF6) y0 (by rw [hsn.len]; omega) (by omega) (ofE_lt (hsn.node hm (by omega) (AigP.reach_edge (List.mem_of_getElem? hy') y0 y1) (by omega))) ?_
    obtain ⟨s', σ7, q1, q2, q3, q4, q5, q6⟩ := hO6.push (by_ := 8) (ofE s.name y) (fun _ => rfl) (by simp) hF6.len (by simp; omega) (by decide)
    simp [q1, ej]
    exact forK_go _ hjt (by simp [mkEnv, List.replicate]) ⟨hF6.trans q3, s', by rw [take_get hy', List.map_append]; exact q2, rfl⟩
  · have : j = edges.length := by omega
    subst this
    rw [List.take_length] at hO6
    obtain ⟨sc', w1', w2', w3'⟩ := (hBi.keep hF6.len hF6.get).out
    simp [w1']
    unfold graphD
    rw [hz]
    exact ⟨hFri.trans (hF6.mono (by omega)), .tuple (.cons (w2' _ fun j hj => .inl (by omega)) (.cons (hO6.rd (fun _ => rfl) fun j hj => .inl (by omega)) (.cons (.same _) (.cons (.same _) .nil))))⟩
end Go.Gh
