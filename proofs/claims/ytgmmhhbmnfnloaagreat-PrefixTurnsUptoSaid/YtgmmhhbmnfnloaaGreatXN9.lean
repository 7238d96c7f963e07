/-
  Proved: Dqbf, Deps and Linear return what the chapter's own functions return, errors too; where what is read is of bulk at most 1048576.
  Part 9 of 10. Conditions: none. A verified frame that runs compiled texts over a ghost heap, the contracts of the functions that the statement reaches, and the plain law.
-/
import Derived.Test.YtgmmhhbmnfnloaaGreatXN8
namespace Go.Gh
open Go.RowKit Go.Proofs
set_option linter.unusedVariables false
set_option linter.unusedSimpArgs false
set_option maxRecDepth 100000
/-- What the existential variables of a block depend on, and the rows of a prefix. -/
def onB (p : List Blk) (i : Nat) : List Int := sortZ (qB (p.take i) false)
def rowAt (p : List Blk) (i : Nat) : List Dep := match p[i]? with
  | some b => if b.1 then b.2.map fun v => (v, onB p i) else []
  | none => []
def rowsT (p : List Blk) : Nat → List Dep
  | 0 => []
  | i + 1 => rowsT p i ++ rowAt p i
def dqbfP (q : QbfP) (es : List Dep) : DqbfP × Int := if mayQ q then (⟨sortZ (qB q.pre false), es, q.cls⟩, 0) else (⟨[], [], []⟩, 2)
theorem rowsT_len (p : List Blk) : ∀ i, (rowsT p i).length ≤ (flatB (p.take i)).length
  | 0 => by simp [rowsT]
  | i + 1 => by
    have ih := rowsT_len p i
    rw [rowsT, List.length_append]
    unfold rowAt
    cases h : p[i]? with
    | none =>
      have : p.length ≤ i := List.getElem?_eq_none_iff.1 h
      rw [List.take_of_length_le (by omega)] at ih ⊢
      simpa using ih
    | some b =>
      rw [take_get h, flatB_append]
      by_cases hb : b.1 = true
      · simp [hb]; omega
      · simp [hb]; omega
theorem st_three {σ : GS} {id : Nat} {a b c x y z : DV} (h : σ[id]? = some (.row false [a, b, c])) (hx : x.flat = true) (hy : y.flat = true) (hz : z.flat = true) : gimp (.store 3) [.ptr id 0, .agg [x, y, z]] σ = some (.tuple [], σ.set id (.row false [x, y, z])) := by
  simp only [gimp, h, DV.cells]
  rw [if_pos ⟨rfl, by simp, by simp [hx, hy, hz]⟩]
  rfl
theorem ld_agg3 {σ : GS} {id : Nat} {ro : Bool} {a b c : DV} (h : σ[id]? = some (.row ro [a, b, c])) : gload (.load 3 true) [.ptr id 0] σ = some (.agg [a, b, c]) := by rw [ld_agg h]; rfl
theorem p_SortDep_ok {n : Nat} {σ : GS} {s : DV} {xs : List Dep} {Post : DV → GS → Prop} (h : Own n 2 edep σ s xs) (hl : xs.length < 4611686018427387904) (hn : n ≤ σ.length)
    (k : ∀ ys σ', xs.Perm ys → ys.Pairwise (fun x y => x.1 ≤ y.1) → Own n 2 edep σ' s ys → Fr n σ σ' → σ'.length = σ.length → Post (.tuple []) σ') : GCall Tryz.prog 60 [s, .func 61 [] []] σ Post :=
  (Own.sortF sortFC ⟨Tryz.f60, Tryz.func60, by decide, rfl⟩ h hl hn).mono fun v σ' ⟨hv, ys, a, b, c, d, e⟩ => by subst hv; exact k ys σ' a b c d e
/-- The heap of Dqbf: the argument, the result, and what is made. -/
structure DbH (σ : GS) (q : QbfP) (U : List Int) (s : DV) (xs : List Dep) (σ' : GS) : Prop where
  f0 : Fr σ.length σ σ'
  bx : σ'[σ.length]? = some (.row false (eqbf q))
  rx : σ'[σ.length + 1]? = some (.row false [.nils, .nils, .nils])
  dx : σ'[σ.length + 2]? = some (.row false [fints U, s, fcls q.cls])
  own : Own (σ.length + 3) 2 edep σ' s xs
theorem DbH.fr {σ : GS} {q : QbfP} {U : List Int} {s : DV} {xs : List Dep} {σ' σ'' : GS} (h : DbH σ q U s xs σ') (hf : Fr σ'.length σ' σ'') : DbH σ q U s xs σ'' :=
  ⟨h.f0.trans (hf.mono h.f0.len), (hf.get _ (get_dom h.bx)).trans h.bx, (hf.get _ (get_dom h.rx)).trans h.rx, (hf.get _ (get_dom h.dx)).trans h.dx, h.own.fr hf⟩
theorem DbH.add {σ : GS} {q : QbfP} {U : List Int} {s : DV} {xs : List Dep} {σ' : GS} (h : DbH σ q U s xs σ') (hl : xs.length < 2 ^ 40) (x : Dep) :
    ∃ s' σ2, gimp (.append 2 32) [s, .slice σ'.length 0 1 2 (some 1)] (σ' ++ [.row false (edep x)]) = some (s', σ2) ∧ gimp (.store 1) [.ptr (σ.length + 2) 1, s'] σ2 = some (.tuple [], σ2.set (σ.length + 2) (.row false [fints U, s', fcls q.cls])) ∧ DbH σ q U s' (xs ++ [x]) (σ2.set (σ.length + 2) (.row false [fints U, s', fcls q.cls])) := by
  have hlen : σ.length + 3 ≤ σ'.length := get_dom h.dx
  obtain ⟨s', σ2, z1, z2, z3, z4, z5, z6⟩ := h.own.push (by_ := 32) x (fun _ => rfl) (by simp) hlen (by omega) (by decide)
  have hdx : σ2[σ.length + 2]? = some (.row false [fints U, s, fcls q.cls]) := (z3.get _ (by omega)).trans h.dx
  have hsto := st_cell hdx (k := 1) (v := s') (by simp) z2.flat
  simp only [List.set_cons_succ, List.set_cons_zero] at hsto
  refine ⟨s', σ2, z1, hsto, (h.f0.trans (z3.mono (by omega))).set (by omega) _, ?_, ?_, by rw [List.getElem?_set_self (get_dom hdx)], z2.fit fun j hj => List.getElem?_set_ne (by have := z2.has_ge hj; omega)⟩
  · rw [List.getElem?_set_ne (by omega), z3.get _ (by omega)]; exact h.bx
  · rw [List.getElem?_set_ne (by omega), z3.get _ (by omega)]; exact h.rx
set_option maxHeartbeats 4000000 in
theorem p_Dqbf_ok {q : QbfP} {σ : GS} {Post : DV → GS → Prop} (hp : lensB q.pre < 2 ^ 38) (hc : lensC q.cls < 2 ^ 40) (h : ∀ es, (mayQ q = true → (rowsT q.pre q.pre.length).Perm es ∧ es.Pairwise fun x y => x.1 ≤ y.1) → Post (.tuple [(dqbfP q es).1.enc, .int .i64 (dqbfP q es).2]) σ) : GCall Tryz.prog F_prefix_Dqbf [q.enc] σ Post := by
  have hlb := lensB_flat q.pre
  have hcl : ∀ es, (DV.tuple [(dqbfP q es).1.enc, .int .i64 (dqbfP q es).2]).closed = true := fun es => by
    have h1 := closed_fints (dqbfP q es).1.univ
    have h2 := closed_fdeps (dqbfP q es).1.exist
    have h3 := closed_fcls (dqbfP q es).1.cls
    simp [DV.closed, closeds] at h1 h2 h3 ⊢; exact ⟨h1, h2, h3⟩
  refine gcall_pures ?_
  refine gc_prefix_Dqbf ?_
  simp [G_prefix_Dqbf, genv0, List.replicate]
  refine p_MayQbf_ok (by omega) hc ?_
  cases hm : mayQ q with
  | false =>
    simp
    have hp := h [] (fun hh => by rw [hm] at hh; cases hh)
    have hc0 := hcl []
    simp only [dqbfP, hm] at hp hc0
    exact ⟨_, .tuple (.cons (.agg (.cons (.nils 1) (.cons (.nils 2) (.cons (.nils 1) .nil)))) (.cons (.same _) .nil)), hc0, hp⟩
  | true =>
  simp
  refine p_before_ok (by omega) ?_
  simp
  refine p_copied_ok hc ?_
  obtain ⟨U, hU⟩ : ∃ U, sortZ (qB q.pre false) = U := ⟨_, rfl⟩
  rw [hU]
  have hfil : gfill [(0, 1), (2, 1)] [.nils, .nils, .nils] [fints U, fcls q.cls] = some [fints U, .nils, fcls q.cls] := by simp [gfill, cells_of_flat, over]
  simp [hfil]
  refine gfor q.pre.length (fun i e σ' => ∃ s, DbH σ q U s (rowsT q.pre i) σ' ∧ e = mkEnv 56 [(1, .ptr σ.length 0), (2, .ptr (σ.length + 1) 0), (4, .ptr (σ.length + 2) 0), (21, fblks q.pre), (22, .int .i64 q.pre.length), (23, .int .i64 i)]) _ ?_ ⟨.nils, ⟨.app .rfl' _, by simp, by simp, by simp, .nil⟩, rfl⟩ ?_
  · simp [mkEnv, List.replicate]
  rintro i _ σ1 hi ⟨s, hD, rfl⟩
  simp [mkEnv, List.replicate]
  by_cases hlt : i < q.pre.length
  · obtain ⟨b, hb⟩ := nth_lt hlt
    have hb' := nth_get hb
    have hbm := lensB_mem (List.mem_of_getElem? hb')
    have es : IntKind.i64.wrap ((i : Int) + 1) = (i : Int) + 1 := by rw [wrap_small] <;> omega
    have hrl := rowsT_len q.pre i
    have hfl : (flatB (q.pre.take i)).length ≤ (flatB q.pre).length := flatB_take_le _ _
    cases hbb : b.1 with
    | false =>
      simp [hlt, hb, hbb, es]
      exact forK_go _ hlt (by simp [mkEnv, List.replicate]) ⟨s, by rw [rowsT, rowAt, hb']; simp [hbb]; exact hD.fr (.app .rfl' _), rfl⟩
    | true =>
    simp [hlt, hb, hbb]
    refine gfor b.2.length (fun j e σ' => ∃ s, DbH σ q U s (rowsT q.pre i ++ (b.2.take j).map fun v => (v, onB q.pre i)) σ' ∧ e = mkEnv 56 [(1, .ptr σ.length 0), (2, .ptr (σ.length + 1) 0), (4, .ptr (σ.length + 2) 0), (5, .int .i64 i), (21, fblks q.pre), (22, .int .i64 q.pre.length), (23, .int .i64 i), (32, fints b.2), (33, .int .i64 b.2.length), (34, .int .i64 j)]) _ ?_ ⟨s, by simpa using hD.fr (.app .rfl' _), rfl⟩ ?_
    · simp [mkEnv, List.replicate]
    clear hD
    rintro j _ σ2 hj ⟨s, hD, rfl⟩
    simp [mkEnv, List.replicate]
    by_cases hjl : j < b.2.length
    rotate_left
    · have : j = b.2.length := by omega
      subst this
      simp [es]
      exact forK_go _ hlt (by simp [mkEnv, List.replicate]) ⟨s, by rw [rowsT, rowAt, hb']; simpa [hbb] using hD, rfl⟩
    obtain ⟨y, hy⟩ := nth_lt hjl
    have hy' := nth_get hy
    have es3 : IntKind.i64.wrap ((j : Int) + 1) = (j : Int) + 1 := by rw [wrap_small] <;> omega
    have hsl : gpure (.slice 2 false true false) [fblks q.pre, .int .i64 i] = some (fblks (q.pre.take i)) := by
      simp only [gpure, gslice, if_true, gbm, Option.bind_some, gbh, gbl, gbound, List.length_map]
      rw [if_pos (by omega)]
      simp [List.map_take]
    have ld1 : gload (.load 1 false) [.ptr (σ.length + 2) 1] σ2 = some s := by rw [ld_at hD.dx]; rfl
    simp [hjl, hy, ld1, ld_at hD.bx, hsl]
    refine p_before_ok (Nat.lt_of_le_of_lt (lensB_take _ _) (by omega)) ?_
    obtain ⟨s', σ3, a1, a2, a3⟩ := hD.add (by simp; omega) (y, onB q.pre i)
    unfold onB at a1 a3
    simp [ld1, fill_flat2, bs2_agg, a1, a2, es3]
    refine forK_go _ hjl (by simp [mkEnv, List.replicate]) ⟨s', ?_, rfl⟩
    rw [take_get hy', List.map_append, ← List.append_assoc]
    exact a3
  have : i = q.pre.length := by omega
  subst this
  have hrl := rowsT_len q.pre q.pre.length
  have hfl : (flatB (q.pre.take q.pre.length)).length ≤ (flatB q.pre).length := flatB_take_le _ _
  have hlen : σ.length + 3 ≤ σ1.length := get_dom hD.dx
  have ld1 : gload (.load 1 false) [.ptr (σ.length + 2) 1] σ1 = some s := by rw [ld_at hD.dx]; rfl
  simp [ld1]
  refine p_SortDep_ok hD.own (by omega) hlen fun es σ2 y1 y2 hO2 hF2 hl2 => ?_
  have d1 : σ2[σ.length + 1]? = some (.row false [.nils, .nils, .nils]) := (hF2.get _ (by omega)).trans hD.rx
  have d2 : σ2[σ.length + 2]? = some (.row false [fints U, s, fcls q.cls]) := (hF2.get _ (by omega)).trans hD.dx
  have hst := st_three d1 (x := fints U) (y := s) (z := fcls q.cls) rfl hO2.flat rfl
  have hld := ld_agg3 (List.getElem?_set_self (l := σ2) (i := σ.length + 1) (a := .row false [fints U, s, fcls q.cls]) (get_dom d1))
  have hp := h es (fun _ => ⟨y1, y2⟩)
  have hc0 := hcl es
  simp only [dqbfP, hm, if_true, hU] at hp hc0
  simp [ld_agg3 d2, hst, hld]
  refine ⟨(hD.f0.trans (hF2.mono (by omega))).set (by omega) _, _, .tuple (.cons (.agg (.cons (.same _) (.cons ?_ (.cons (.same _) .nil)))) (.cons (.same _) .nil)), hc0, hp⟩
  exact (hO2.fit fun j hj => List.getElem?_set_ne (by have := hO2.has_ge hj; omega)).rd (fun _ => rfl) fun i hi => .inl (by omega)
end Go.Gh
namespace Go.Gh
open Go.RowKit Go.Proofs
set_option linter.unusedVariables false
set_option linter.unusedSimpArgs false
set_option maxRecDepth 100000
/-- Blocks for rows of dependencies, each part of the next. -/
def linF : List Int → List Blk → List Dep → Option (List Int × List Blk)
  | on, p, [] => some (on, p)
  | on, p, x :: l => if on.all (fun v => x.2.contains v) then linF x.2 (p ++ [(false, x.2.filter fun v => !on.contains v), (true, [x.1])]) l else none
def linP (d : DqbfP) (ys : List Dep) : List Blk × Int := if mayD d then (match linF [] [] ys with
  | some (on, p) => (joinB (p ++ [(false, d.univ.filter fun v => !on.contains v)]), 0)
  | none => ([], 30)) else ([], 2)
theorem riseS_asc : ∀ {l : List Int} {last : Int}, riseS last l = true → l.Pairwise (· < ·)
  | [], _, _ => .nil
  | x :: l, last, h => by
    have hx := riseS_gt h
    rw [riseS, Bool.and_eq_true, Bool.and_eq_true] at h
    exact List.pairwise_cons.2 ⟨fun y hy => (riseS_gt h.2 y hy).1, riseS_asc h.2⟩
theorem mayD_parts {d : DqbfP} (h : mayD d = true) : d.all.length ≤ 1024 ∧ singleS [] d.all = true ∧ riseS 0 d.univ = true ∧ riseS 0 (d.exist.map (·.1)) = true ∧ cnfB d.cls = true ∧ withinB d.cls d.all = true ∧ ∀ x ∈ d.exist, riseS 0 x.2 = true ∧ ∀ v ∈ x.2, v ∈ d.univ := by
  unfold mayD at h
  simp only [Bool.and_eq_true, decide_eq_true_eq, List.all_eq_true] at h
  obtain ⟨⟨⟨⟨⟨⟨h1, h2⟩, h3⟩, h4⟩, h5⟩, h6⟩, h7⟩ := h
  refine ⟨h1, h2, h3, h4, h5, h6, fun x hx => ?_⟩
  have := h7 x hx
  unfold onOk at this
  simp only [Bool.and_eq_true, List.all_eq_true] at this
  exact ⟨this.1, fun v hv => by simpa using this.2 v hv⟩
theorem ga_b2 {a b c e z1 z2 : DV} : galloc (.bslice 2 [z1, z2] 2 [(0, 2), (2, 2)]) [.agg [a, b], .agg [c, e]] = some (.row false [a, b, c, e], fun id => .slice id 0 2 2 (some 2)) := by
  simp [galloc, gfill, gzeros, over]
set_option maxHeartbeats 4000000 in
theorem p_Linear_ok {d : DqbfP} {σ : GS} {Post : DV → GS → Prop} (hd : d.univ.length + lensD d.exist < 2 ^ 24) (hc : lensC d.cls < 2 ^ 40) (h : ∀ ys, (mayD d = true → Sd (fun x : Dep => (x.2.length : Int)) ys ∧ Sim (fun x : Dep => (x.2.length : Int)) d.exist ys) → Post (.tuple [fblks (linP d ys).1, .int .i64 (linP d ys).2]) σ) : GCall Tryz.prog F_prefix_Linear [d.enc] σ Post := by
  have hle := lensD_len d.exist
  have hcl : ∀ ys, (DV.tuple [fblks (linP d ys).1, .int .i64 (linP d ys).2]).closed = true := fun ys => by
    have hc := closed_fblks (linP d ys).1
    simp [DV.closed, closeds] at hc ⊢; exact hc
  refine gcall_pures ?_
  refine gc_prefix_Linear ?_
  simp [G_prefix_Linear, genv0, List.replicate]
  refine p_MayDqbf_ok (by omega) hc ?_
  cases hm : mayD d with
  | false =>
    simp
    have := h [] (fun hh => by rw [hm] at hh; cases hh)
    have hc0 := hcl []
    simp only [linP, hm] at this hc0
    exact ⟨_, .tuple (.cons (.nils 2) (.cons (.same _) .nil)), hc0, this⟩
  | true =>
  obtain ⟨m1, m2, m3, m4, m5, m6, m7⟩ := mayD_parts hm
  simp
  refine p_CloneD_ok (n := σ.length + 1) (by omega) (by simp) fun r σ1 hO1 hF1 => ?_
  simp
  simp at hF1
  refine SortStable_ok p_Linear1_ok hO1 (by omega) hF1.len fun ys σ2 y1 y2 hO2 hF2 hl2 => ?_
  have hyl := y2.len
  have hmem : ∀ x ∈ ys, x ∈ d.exist := fun x hx => y2.mem.1 hx
  have b0 : σ2[σ.length]? = some (.row false (edqbf d)) := by rw [hF2.get _ (by omega), hF1.get _ (by omega)]; simp
  have hN : σ.length + 1 ≤ σ2.length := get_dom b0
  obtain ⟨N, hNe⟩ : ∃ N, σ2.length = N := ⟨_, rfl⟩
  simp [hNe, hO2.len]
  refine gfor ys.length (fun i e σ' => ∃ (s so : DV) (raws : List (Bool × DV)) (bs : List Blk) (on : List Int), (∀ j, j < N → σ'[j]? = σ2[j]?) ∧ σ'[N]? = some (.row false [so]) ∧ FS so on ∧ JX (N + 1) σ' s raws bs ∧ on.Pairwise (· < ·) ∧ on.length < 2 ^ 40 ∧ bs.length = 2 * i ∧ lensB bs ≤ i * 2 ^ 25 ∧ linF [] [] ys = linF on bs (ys.drop i) ∧ e = mkEnv 52 [(1, .ptr σ.length 0), (5, s), (6, .ptr N 0), (7, .func F_prefix_Linear_2 [] [.ptr N 0]), (19, r), (20, .int .i64 ys.length), (21, .int .i64 i)]) _ ?_ ⟨.nils, .nils, [], [], [], fun j hj => by rw [List.getElem?_append_left (by omega)], by rw [List.getElem?_append_right (by omega)]; simp [hNe], .inr ⟨rfl, rfl⟩, .nil, .nil, by simp, rfl, by simp [lensB], by simp, rfl⟩ ?_
  · simp [mkEnv, List.replicate]
  rintro i _ σ3 hi ⟨s, so, raws, bs, on, g1, g2, hS, hJ, ho, hol, hbl, hbl2, hlin, rfl⟩
  have hge : N + 1 ≤ σ3.length := get_dom g2
  have hO3 := hO2.fit (σ' := σ3) fun j hj => g1 j (by have := hO2.has_lt hj; omega)
  have b3 : σ3[σ.length]? = some (.row false (edqbf d)) := (g1 _ (by omega)).trans b0
  simp [mkEnv, List.replicate]
  by_cases hlt : i < ys.length
  · obtain ⟨x, hx⟩ := get_lt hlt
    have hxe := hmem x (List.mem_of_getElem? hx)
    obtain ⟨hx1, hx2⟩ := m7 x hxe
    have hxl := lensD_mem hxe
    have hxa := riseS_asc hx1
    rw [drop_get hx, linF] at hlin
    obtain ⟨id, k1, k2, k3, k4⟩ := hO3.get (fun _ => rfl) hx (k := .i64)
    have es : IntKind.i64.wrap ((i : Int) + 1) = (i : Int) + 1 := by rw [wrap_small] <;> omega
    have hn1 : (σ3 ++ [.row false (edep x)])[N]? = some (.row false [so]) := by rw [List.getElem?_append_left (by omega)]; exact g2
    have ld1 : gload (.load 1 false) [.ptr N 0] (σ3 ++ [.row false (edep x)]) = some so := by rw [ld_at hn1]; rfl
    simp [hlt, k2, k3, ld1]
    refine GCall.reads (args' := [fints on, fints x.2]) (.cons hS.rd (.cons (.same _) .nil)) (p_part_ok hxa (by omega) (by omega) ?_)
    cases c : (on.all fun v => x.2.contains v) with
    | false =>
      rw [c, if_neg (by simp)] at hlin
      simp
      have hp := h ys (fun _ => ⟨y1, y2⟩)
      have hc0 := hcl ys
      simp only [linP, hm, hlin, if_true] at hp hc0
      refine ⟨⟨by simp; omega, fun j hj => ?_⟩, _, .tuple (.cons (.nils 2) (.cons (.same _) .nil)), hc0, hp⟩
      rw [List.getElem?_append_left (by omega), g1 j (by omega), hF2.get j (by omega), hF1.get j (by omega), List.getElem?_append_left hj]
    | true =>
    rw [c, if_pos rfl] at hlin
    have hn2 : (σ3 ++ [.row false (edep x), .row false [.int .i64 x.1]])[N]? = some (.row false [so]) := by rw [List.getElem?_append_left (by omega)]; exact g2
    have hfil : gfill [(0, 1), (1, 1)] [.bool false, .nils] [.bool true, .slice (σ3.length + 1) 0 1 1 (some 1)] = some [.bool true, .slice (σ3.length + 1) 0 1 1 (some 1)] := fill_flat2 rfl rfl
    simp [hfil]
    refine p_Linear2_ok hS hn2 ho (by omega) (by omega) ?_
    obtain ⟨ws, hws⟩ : ∃ ws, (x.2.filter fun v => !on.contains v) = ws := ⟨_, rfl⟩
    rw [hws] at hlin ⊢
    obtain ⟨σ4, hσ4⟩ : ∃ σ4, σ3 ++ [GObj.row false (edep x), .row false [.int .i64 x.1]] = σ4 := ⟨_, rfl⟩
    have hl4 : σ4.length = σ3.length + 2 := by rw [← hσ4]; simp
    have k4' : ∀ j, j < σ3.length → σ4[j]? = σ3[j]? := fun j hj => by rw [← hσ4, List.getElem?_append_left hj]
    have hJ4 := hJ.fr (σ' := σ4) fun j hj _ => k4' j hj
    have hrow : σ4[σ3.length + 1]? = some (.row false [.int .i64 x.1]) := by rw [← hσ4]; simp
    obtain ⟨s', σ5, q1, q2, q3, q4, q5⟩ := hJ4.push (new := [(false, fints ws), (true, .slice (σ3.length + 1) 0 1 1 (some 1))]) (nb := [(false, ws), (true, [x.1])]) (by simp) rfl (by simp) (fun i r b h1 h2 => by
      rcases i with _ | _ | i
      · simp at h1 h2; subst h1 h2; exact ⟨rfl, .inl rfl⟩
      · simp at h1 h2; subst h1 h2
        refine ⟨rfl, .inr ⟨.inr ⟨σ3.length + 1, some 1, [], by omega, rfl, hrow, fun c h => by cases h; simp⟩, fun k hk hk' => ?_⟩⟩
        obtain ⟨_, _, _, _, e⟩ := hk
        cases e
        have := hJ.own.has_lt hk'
        omega
      · simp at h1) (by omega) (by simp; omega)
    have hN5 : σ5[N]? = some (.row false [so]) := by
      rw [q5 N (by omega) (fun hh => by have := hJ4.own.has_ge hh; omega), k4' N (by omega)]; exact g2
    have hsto := st_cell hN5 (k := 0) (v := fints x.2) (by simp) rfl
    simp only [List.set_cons_zero] at hsto
    have q1' : gimp (.append 2 32) [s, .slice (σ3.length + 2) 0 2 2 (some 2)] (σ4 ++ [.row false [.bool false, fints ws, .bool true, .slice (σ3.length + 1) 0 1 1 (some 1)]]) = some (s', σ5) := by rw [← hl4]; exact q1
    simp [ga_b2]
    rw [show σ3 ++ [GObj.row false (edep x), .row false [.int .i64 x.1], .row false [.bool false, fints ws, .bool true, .slice (σ3.length + 1) 0 1 1 (some 1)]] = σ4 ++ [.row false [.bool false, fints ws, .bool true, .slice (σ3.length + 1) 0 1 1 (some 1)]] by rw [← hσ4]; simp]
    have hx5 : σ5[σ3.length]? = some (.row false (edep x)) := by
      rw [q5 _ (by omega) (fun hh => by have := hJ.own.has_lt hh; omega), ← hσ4]; simp
    have ld5 : gload (.load 1 false) [.ptr σ3.length 1] σ5 = some (fints x.2) := by rw [ld_at hx5]; rfl
    simp [q1', ld5, hsto, es]
    refine forK_go _ hlt (by simp [mkEnv, List.replicate]) ⟨s', fints x.2, _, _, x.2, fun j hj => ?_, by rw [List.getElem?_set_self (get_dom hN5)], .inl rfl, q2.fr fun j hj hj2 => List.getElem?_set_ne (by omega), hxa, by omega, by simp; omega, ?_, hlin, rfl⟩
    · rw [List.getElem?_set_ne (by omega), q5 j (by omega) (fun hh => by have := hJ4.own.has_ge hh; omega), k4' j (by omega)]
      exact g1 j hj
    · have hw : ws.length ≤ x.2.length := by rw [← hws]; exact List.length_filter_le _ _
      have hap : lensB (bs ++ [(false, ws), (true, [x.1])]) = lensB bs + (ws.length + 3) := by
        unfold lensB; simp; omega
      rw [hap, Nat.add_mul]
      omega
  have : i = ys.length := by omega
  subst this
  rw [List.drop_length, linF] at hlin
  have ld3 : gload (.load 1 false) [.ptr σ.length 0] σ3 = some (fints d.univ) := by rw [ld_at b3]; rfl
  simp [ld3]
  refine p_Linear2_ok hS g2 ho (by omega) (by omega) ?_
  obtain ⟨ws, hws⟩ : ∃ ws, (d.univ.filter fun v => !on.contains v) = ws := ⟨_, rfl⟩
  rw [hws]
  simp [bs2_agg]
  obtain ⟨s', σ5, q1, q2, q3, q4, q5⟩ := hJ.push (new := [(false, fints ws)]) (nb := [(false, ws)]) (by simp) rfl (by simp) (fun i r b h1 h2 => by
    rcases i with _ | i
    · simp at h1 h2; subst h1 h2; exact ⟨rfl, .inl rfl⟩
    · simp at h1) hge (by simp; omega)
  have q1' : gimp (.append 2 32) [s, .slice σ3.length 0 1 2 (some 1)] (σ3 ++ [.row false [.bool false, fints ws]]) = some (s', σ5) := q1
  simp [q1']
  have hF5 : Fr σ.length σ σ5 := by
    refine ⟨by omega, fun j hj => ?_⟩
    rw [q3.get j (by omega), g1 j (by omega), hF2.get j (by omega), hF1.get j (by omega), List.getElem?_append_left hj]
  refine rd_call (n := σ.length) (q2.rd fun i hi => by omega) hF5 fun σ6 hF6 _ => p_joinedF_ok ?_ ?_
  · have hw : ws.length ≤ d.univ.length := by rw [← hws]; exact List.length_filter_le _ _
    have hap : lensB (bs ++ [(false, ws)]) = lensB bs + (ws.length + 1) := by
      unfold lensB; simp; omega
    have hal : d.all.length = d.univ.length + d.exist.length := by simp [DqbfP.all]
    have : ys.length * 2 ^ 25 ≤ 1024 * 2 ^ 25 := Nat.mul_le_mul_right _ (by omega)
    rw [hap]
    omega
  · have hp := h ys (fun _ => ⟨y1, y2⟩)
    have hc0 := hcl ys
    simp only [linP, hm, hlin, if_true, hws] at hp hc0
    simp
    exact ⟨hF6, _, .same _, hc0, hp⟩
end Go.Gh
namespace Go.Gh
open Go.RowKit Go.Proofs
set_option linter.unusedVariables false
set_option linter.unusedSimpArgs false
set_option maxRecDepth 100000
def varsB (p : List Blk) : List Int := (flatB p).foldl putZ []
theorem foldPut_len : ∀ (l a : List Int), (l.foldl putZ a).length ≤ a.length + l.length
  | [], a => by simp
  | x :: l, a => by
    have h1 := foldPut_len l (putZ a x)
    have h2 := putZ_len a x
    rw [List.foldl_cons, List.length_cons]; omega
theorem r_Vars_ok {p : List Blk} {σ : GS} {Post : DV → GS → Prop} (hp : lensB p < 2 ^ 39) (h : Post (fints (varsB p)) σ) : GCall Tryz.prog F_skolemref03_Vars [fblks p] σ Post := by
  have hlb := lensB_flat p
  refine GCall.pure (r := fints (varsB p)) ?_ (by simp) h
  refine gc_skolemref03_Vars ?_
  simp [G_skolemref03_Vars, genv0, List.replicate]
  refine r_Flat_ok (by omega) ?_
  simp
  obtain ⟨F, hF⟩ : ∃ F, flatB p = F := ⟨_, rfl⟩
  unfold varsB
  rw [hF] at hlb ⊢
  refine gfor F.length (fun i e σ' => σ' = σ ∧ ∃ s, FS s ((F.take i).foldl putZ []) ∧ e = mkEnv 21 [(3, s), (4, fints F), (5, .int .i64 i)]) _ ?_ ⟨rfl, .nils, .inr ⟨rfl, rfl⟩, rfl⟩ ?_
  · simp [mkEnv, List.replicate]
  rintro i _ σ hi ⟨rfl, s, hS, rfl⟩
  simp [mkEnv, List.replicate]
  by_cases hlt : i < F.length
  · obtain ⟨v, hv⟩ := nth_lt hlt
    have es : IntKind.i64.wrap ((i : Int) + 1) = (i : Int) + 1 := by rw [wrap_small] <;> omega
    have hl := foldPut_len (F.take i) []
    rw [List.length_take] at hl
    simp [hlt, hv]
    refine GCall.reads (args' := [fints ((F.take i).foldl putZ []), .int .i64 v]) (.cons hS.rd (.cons (.same _) .nil)) (r_Put_ok (by simp at hl; omega) ?_)
    simp [es]
    exact forK_go _ hlt (by simp [mkEnv, List.replicate]) ⟨rfl, fints (putZ ((F.take i).foldl putZ []) v), by rw [take_get (nth_get hv), List.foldl_append]; exact .inl rfl, rfl⟩
  · have : i = F.length := by omega
    subst this
    rw [List.take_length] at hS
    simp
    exact ⟨.rfl', hS.rd⟩
/-- A prefix whose blocks ascend. -/
def ascB (p : List Blk) : List Blk := p.map fun b => (b.1, varsB [b])
end Go.Gh
namespace Go.Gh
set_option linter.unusedVariables false
set_option linter.unusedSimpArgs false
/-- The rows of a prefix behind universal variables, as they come and ascending in each block. -/
def Yr (u : List Int) : List Blk → List Dep
  | [] => []
  | b :: p => if b.1 then b.2.map (fun v => (v, sortZ u)) ++ Yr u p else Yr (u ++ b.2) p
def Yb (u : List Int) : List Blk → List Dep
  | [] => []
  | b :: p => if b.1 then (sortZ b.2).map (fun v => (v, sortZ u)) ++ Yb u p else Yb (u ++ b.2) p
theorem qB_snoc (a : List Blk) (b : Blk) (ex : Bool) : qB (a ++ [b]) ex = qB a ex ++ if b.1 == ex then b.2 else [] := by
  have h : (a ++ [b])[a.length]? = some b := by simp
  have := qB_push (ex := ex) h
  rw [List.take_of_length_le (by simp)] at this
  rw [this]
  simp
theorem rowsT_eq : ∀ (p a : List Blk), rowsT (a ++ p) (a.length + p.length) = rowsT (a ++ p) a.length ++ Yr (qB a false) p
  | [], a => by simp [Yr]
  | b :: p, a => by
    have ih := rowsT_eq p (a ++ [b])
    have e : (a ++ [b]) ++ p = a ++ b :: p := by simp
    rw [e] at ih
    have h : (a ++ b :: p)[a.length]? = some b := by simp
    have hr : rowsT (a ++ b :: p) (a ++ [b]).length = rowsT (a ++ b :: p) a.length ++ rowAt (a ++ b :: p) a.length := by simp [rowsT]
    have hl : (a ++ [b]).length + p.length = a.length + (b :: p).length := by simp; omega
    rw [hl] at ih
    rw [ih, hr, List.append_assoc]
    congr 1
    unfold rowAt onB
    rw [h, qB_snoc, Yr]
    have ht : (a ++ b :: p).take a.length = a := by simp
    rw [ht]
    cases hb : b.1 <;> simp [hb]
theorem rowsT_all (p : List Blk) : rowsT p p.length = Yr [] p := by
  have := rowsT_eq p []
  simpa [rowsT, qB] using this
theorem Yr_perm : ∀ (p : List Blk) (u : List Int), (Yr u p).Perm (Yb u p)
  | [], u => .refl _
  | b :: p, u => by
    rw [Yr, Yb]
    split
    · exact ((List.mergeSort_perm _ _).symm.map _).append (Yr_perm p u)
    · exact Yr_perm p _
theorem Yb_ge : ∀ {p : List Blk} {u : List Int} {y : Dep}, y ∈ Yb u p → u.length ≤ y.2.length
  | [], u, y, h => by simp [Yb] at h
  | b :: p, u, y, h => by
    rw [Yb] at h
    split at h
    · rcases List.mem_append.1 h with h | h
      · obtain ⟨v, _, rfl⟩ := List.mem_map.1 h
        simp [sortZ_len]
      · exact Yb_ge h
    · have := Yb_ge h
      simp at this; omega
theorem altB_cons {o : Option Bool} {b : Blk} {p : List Blk} (h : altB o (b :: p) = true) : b.2 ≠ [] ∧ o ≠ some b.1 ∧ altB (some b.1) p = true := by
  rw [altB_step] at h
  simp only [Bool.and_eq_true, decide_eq_true_eq] at h
  exact ⟨fun e => by rw [e] at h; simp at h, h.1.2, h.2⟩
theorem Yb_gt {p : List Blk} {u : List Int} {y : Dep} (ha : altB (some true) p = true) (h : y ∈ Yb u p) : u.length < y.2.length := by
  cases p with
  | nil => simp [Yb] at h
  | cons b p =>
    obtain ⟨h1, h2, h3⟩ := altB_cons ha
    have hb : b.1 = false := by cases hb : b.1 with
      | false => rfl
      | true => rw [hb] at h2; simp at h2
    rw [Yb, hb, if_neg (by simp)] at h
    have h4 := Yb_ge h
    have h5 : 0 < b.2.length := List.length_pos_iff.2 h1
    rw [List.length_append] at h4
    omega
theorem Yb_order : ∀ {p : List Blk} {u : List Int} {o : Option Bool}, altB o p = true → (∀ b ∈ p, b.2.Nodup) → (Yb u p).Pairwise fun x y => x.2.length < y.2.length ∨ (x.2.length = y.2.length ∧ x.1 < y.1)
  | [], u, o, _, _ => .nil
  | b :: p, u, o, ha, hn => by
    obtain ⟨h1, h2, h3⟩ := altB_cons ha
    rw [Yb]
    split
    · rename_i hb
      rw [hb] at h3
      refine List.pairwise_append.2 ⟨?_, Yb_order h3 fun c hc => hn c (by simp [hc]), fun x hx y hy => ?_⟩
      · rw [List.pairwise_map]
        exact (sortZ_asc (hn b (by simp))).imp fun h => .inr ⟨rfl, h⟩
      · obtain ⟨v, _, rfl⟩ := List.mem_map.1 hx
        have := Yb_gt h3 hy
        left
        simpa [sortZ_len] using this
    · exact Yb_order h3 fun c hc => hn c (by simp [hc])
theorem depEq : ∀ {a b : List Dep}, a.Pairwise (fun x y => x.1 < y.1) → b.Pairwise (fun x y => x.1 < y.1) → (∀ x, x ∈ a ↔ x ∈ b) → a = b
  | [], [], _, _, _ => rfl
  | [], y :: b, _, _, h => by have := (h y).2 (by simp); simp at this
  | x :: a, [], _, _, h => by have := (h x).1 (by simp); simp at this
  | x :: a, y :: b, ha, hb, h => by
    have ha1 := (List.pairwise_cons.1 ha).1
    have hb1 := (List.pairwise_cons.1 hb).1
    have hxy : x = y := by
      rcases List.mem_cons.1 ((h x).1 (by simp)) with e | e
      · exact e
      · rcases List.mem_cons.1 ((h y).2 (by simp)) with e' | e'
        · exact e'.symm
        · have := hb1 x e; have := ha1 y e'; omega
    subst hxy
    congr 1
    refine depEq (List.pairwise_cons.1 ha).2 (List.pairwise_cons.1 hb).2 fun z => ⟨fun hz => ?_, fun hz => ?_⟩
    · rcases List.mem_cons.1 ((h z).1 (List.mem_cons_of_mem _ hz)) with e | e
      · have := ha1 z hz; subst e; omega
      · exact e
    · rcases List.mem_cons.1 ((h z).2 (List.mem_cons_of_mem _ hz)) with e | e
      · have := hb1 z hz; subst e; omega
      · exact e
theorem qB_cons (b : Blk) (p : List Blk) (ex : Bool) : qB (b :: p) ex = (if b.1 == ex then b.2 else []) ++ qB p ex := by
  unfold qB
  rw [List.filter_cons]
  split <;> simp
theorem Yr_vars : ∀ (p : List Blk) (u : List Int), (Yr u p).map (·.1) = qB p true
  | [], u => by simp [Yr, qB]
  | b :: p, u => by
    have ih := Yr_vars p
    rw [Yr, qB_cons]
    cases hb : b.1 with
    | true => simp [hb, ih, Function.comp_def]
    | false => simp [hb, ih]
theorem sub_nodup {p : List Blk} (ex : Bool) (h : (flatB p).Nodup) : (qB p ex).Nodup := by
  have : (qB p ex).Sublist (flatB p) := by
    clear h
    induction p with
    | nil => exact .slnil
    | cons b p ih =>
      rw [qB_cons, flatB_cons]
      refine List.Sublist.append ?_ ih
      split
      · exact .refl _
      · exact List.nil_sublist _
  exact this.nodup h
theorem blk_nodup {p : List Blk} (h : (flatB p).Nodup) : ∀ b ∈ p, b.2.Nodup := fun b hb => by
  have : b.2.Sublist (flatB p) := by
    clear h
    induction p with
    | nil => simp at hb
    | cons c p ih =>
      rw [flatB_cons]
      rcases List.mem_cons.1 hb with rfl | hb
      · exact List.sublist_append_left _ _
      · exact (ih hb).trans (List.sublist_append_right _ _)
  exact this.nodup h
/-- The stable sort of the rows is the rows block by block. -/
theorem back_ys {p : List Blk} (hm : mayB p = true) {es ys : List Dep} (h1 : (rowsT p p.length).Perm es) (h2 : es.Pairwise fun x y => x.1 ≤ y.1) (h3 : Sd (fun x : Dep => (x.2.length : Int)) ys) (h4 : Sim (fun x : Dep => (x.2.length : Int)) es ys) : ys = Yb [] p := by
  obtain ⟨m1, m2, m3⟩ := mayB_parts hm
  have hnd := (singleS_nodup m3).1
  rw [rowsT_all] at h1
  have hord := Yb_order (u := []) m1 (blk_nodup hnd)
  have hsd : Sd (fun x : Dep => (x.2.length : Int)) (Yb [] p) := hord.imp fun {x y} h => (show (x.2.length : Int) ≤ y.2.length by rcases h with h | h <;> omega)
  have hev : (es.map (·.1)).Nodup := by
    have : (es.map (·.1)).Perm (qB p true) := by rw [← Yr_vars p []]; exact (h1.map _).symm
    exact this.nodup_iff.2 (sub_nodup true hnd)
  have hlt : es.Pairwise fun x y => x.1 < y.1 := by
    have h5 : es.Pairwise fun x y => x.1 ≠ y.1 := by
      have := hev
      unfold List.Nodup at this
      rwa [List.pairwise_map] at this
    exact (h2.and h5).imp fun ⟨a, b⟩ => by omega
  have hsim : Sim (fun x : Dep => (x.2.length : Int)) es (Yb [] p) := fun k => by
    refine depEq ?_ (hlt.filter _) fun x => ?_
    · refine List.Pairwise.imp_of_mem (fun {x y} hx hy h => ?_) (hord.filter _)
      have e1 := (List.mem_filter.1 hx).2
      have e2 := (List.mem_filter.1 hy).2
      simp at e1 e2
      rcases h with h | h
      · omega
      · exact h.2
    · rw [List.mem_filter, List.mem_filter, ← (Yr_perm p []).mem_iff, h1.mem_iff]
  exact (stable_one h3 hsd (fun k => by rw [hsim k, h4 k])).symm ▸ rfl
end Go.Gh
namespace Go.Gh
set_option linter.unusedVariables false
set_option linter.unusedSimpArgs false
theorem filt_new {w z : List Int} (hn : (w ++ z).Nodup) : (sortZ (w ++ z)).filter (fun v => !(sortZ w).contains v) = sortZ z := by
  obtain ⟨h1, h2, h3⟩ := List.nodup_append.1 hn
  refine ascEq ((sortZ_asc hn).filter _) (sortZ_asc h2) fun x => ?_
  rw [List.mem_filter, sortZ_mem, sortZ_mem]
  simp only [List.mem_append, Bool.not_eq_true', ← Bool.not_eq_true, List.contains_iff_mem, sortZ_mem]
  constructor
  · rintro ⟨h | h, h'⟩
    · exact absurd h h'
    · exact h
  · intro h
    exact ⟨.inr h, fun h' => h3 x h' x h rfl⟩
abbrev pairB (v : Int) : List Blk := [(false, []), (true, [v])]
theorem linF_rows (o : List Int) : ∀ (vs : List Int) (acc : List Blk) (l : List Dep), linF o acc (vs.map (fun v => (v, o)) ++ l) = linF o (acc ++ vs.flatMap pairB) l
  | [], acc, l => by simp
  | v :: vs, acc, l => by
    rw [List.map_cons, List.cons_append, linF, if_pos (by simp)]
    have : (o.filter fun v => !o.contains v) = [] := by simp [List.filter_eq_nil_iff]
    rw [this, linF_rows o vs]
    simp
theorem joinStep_ne' {t : List Blk} {b : Blk} (h : b.2 ≠ []) : joinStep t b = match t[t.length - 1]? with
  | some c => if c.1 = b.1 then t.set (t.length - 1) (c.1, c.2 ++ b.2) else t ++ [b]
  | none => t ++ [b] := by
  unfold joinStep
  rw [if_neg h]
  cases t[t.length - 1]? <;> rfl
theorem joinStep_true (t : List Blk) : ∃ t0 a, ∀ l : List Int, l ≠ [] → joinStep t (true, l) = t0 ++ [(true, a ++ l)] := by
  rcases List.eq_nil_or_concat t with rfl | ⟨q, c, e⟩
  · exact ⟨[], [], fun l hl => by rw [joinStep_ne' hl]; simp⟩
  · have e' : t = q ++ [c] := by simpa using e
    subst e'
    by_cases hc : c.1 = true
    · refine ⟨q, c.2, fun l hl => ?_⟩
      rw [joinStep_ne' hl]
      simp [hc]
    · refine ⟨q ++ [c], [], fun l hl => ?_⟩
      rw [joinStep_ne' hl]
      simp [hc]
theorem joinStep_more {t0 : List Blk} {a : List Int} (x : Int) : joinStep (t0 ++ [(true, a)]) (true, [x]) = t0 ++ [(true, a ++ [x])] := by
  rw [joinStep_ne' (by simp)]
  simp
theorem joinStep_nil (t : List Blk) (e : Bool) : joinStep t (e, []) = t := by unfold joinStep; rw [if_pos rfl]
theorem join_pairs {t0 : List Blk} : ∀ (vs a : List Int), (vs.flatMap pairB).foldl joinStep (t0 ++ [(true, a)]) = t0 ++ [(true, a ++ vs)]
  | [], a => by simp
  | v :: vs, a => by
    rw [List.flatMap_cons, List.foldl_append]
    show (vs.flatMap pairB).foldl joinStep (joinStep (joinStep (t0 ++ [(true, a)]) (false, [])) (true, [v])) = _
    rw [joinStep_nil, joinStep_more, join_pairs vs]
    simp
theorem join_block (t : List Blk) (v : Int) (vs : List Int) : ((true, [v]) :: vs.flatMap pairB).foldl joinStep t = joinStep t (true, v :: vs) := by
  obtain ⟨t0, a, h⟩ := joinStep_true t
  rw [List.foldl_cons, h [v] (by simp), join_pairs, h (v :: vs) (by simp)]
  simp
def ascS (p : List Blk) : List Blk := p.map fun b => (b.1, sortZ b.2)
theorem sortZ_nil : sortZ [] = [] := by simp [sortZ]
theorem back_lin : ∀ (p : List Blk) (o : Option Bool) (w z : List Int) (acc : List Blk), altB o p = true → (o ≠ some false → z = []) → (w ++ z ++ flatB p).Nodup →
    ∃ on' acc', linF (sortZ w) acc (Yb (w ++ z) p) = some (on', acc') ∧ ∀ s, (acc' ++ [(false, (sortZ (w ++ z ++ qB p false)).filter fun v => !on'.contains v)]).foldl joinStep s = (acc ++ (false, sortZ z) :: ascS p).foldl joinStep s
  | [], o, w, z, acc, ha, hz, hn => by
    have hn' : (w ++ z).Nodup := by simpa [flatB] using hn
    refine ⟨sortZ w, acc, rfl, fun s => ?_⟩
    have : w ++ z ++ qB [] false = w ++ z := by simp [qB, flatB]
    rw [this, filt_new hn']
    rfl
  | b :: p, o, w, z, acc, ha, hz, hn => by
    obtain ⟨h1, h2, h3⟩ := altB_cons ha
    cases hb : b.1 with
    | false =>
      rw [hb] at h2 h3
      have hz0 := hz h2
      subst hz0
      obtain ⟨on', acc', e1, e2⟩ := back_lin p (some false) w b.2 acc h3 (fun h => absurd rfl h) (by simpa using hn)
      refine ⟨on', acc', ?_, fun s => ?_⟩
      · rw [Yb, hb, if_neg (by simp)]; simpa using e1
      · have := e2 s
        rw [qB_cons, hb]
        simp only [List.append_nil, beq_self_eq_true, if_true, ← List.append_assoc] at this ⊢
        rw [this, List.foldl_append, List.foldl_append, List.foldl_cons, List.foldl_cons, sortZ_nil, joinStep_nil]
        unfold ascS
        rw [List.map_cons, List.foldl_cons, hb]
    | true =>
      rw [hb] at h3
      have hbn : sortZ b.2 ≠ [] := fun e => h1 (List.length_eq_zero_iff.1 (by rw [← sortZ_len, e]; rfl))
      obtain ⟨v, vs, hv⟩ : ∃ v vs, sortZ b.2 = v :: vs := by
        cases h : sortZ b.2 with
        | nil => exact absurd h hbn
        | cons v vs => exact ⟨v, vs, rfl⟩
      have hn1 : (w ++ z).Nodup := (List.nodup_append.1 hn).1
      have hn2 : ((w ++ z) ++ [] ++ flatB p).Nodup := by
        rw [flatB_cons] at hn
        have : ((w ++ z) ++ [] ++ flatB p).Sublist (w ++ z ++ (b.2 ++ flatB p)) := by
          rw [List.append_nil]
          exact (List.Sublist.refl _).append (List.sublist_append_right _ _)
        exact this.nodup hn
      obtain ⟨on', acc', e1, e2⟩ := back_lin p (some true) (w ++ z) [] (acc ++ [(false, sortZ z), (true, [v])] ++ vs.flatMap pairB) h3 (fun _ => rfl) hn2
      refine ⟨on', acc', ?_, fun s => ?_⟩
      · rw [Yb, hb, if_pos rfl, hv, List.map_cons, List.cons_append, linF]
        have hall : ((sortZ w).all fun v => (sortZ (w ++ z)).contains v) = true := by
          rw [List.all_eq_true]
          intro x hx
          rw [sortZ_mem] at hx
          simp [sortZ_mem, hx]
        simp only [hall, if_true]
        rw [filt_new hn1, linF_rows]
        simpa using e1
      · have := e2 s
        rw [qB_cons, hb]
        simp only [List.append_nil] at this
        have hq : (if (true == false) = true then b.2 else []) ++ qB p false = qB p false := by simp
        rw [hq, this]
        unfold ascS
        rw [List.map_cons, hb, hv]
        have hl : (acc ++ [(false, sortZ z), (true, [v])] ++ vs.flatMap pairB ++ (false, sortZ []) :: p.map fun b => (b.1, sortZ b.2)) = (acc ++ [(false, sortZ z)]) ++ ((true, [v]) :: vs.flatMap pairB) ++ ((false, sortZ []) :: p.map fun b => (b.1, sortZ b.2)) := by simp
        have hr : (acc ++ (false, sortZ z) :: (true, v :: vs) :: p.map fun b => (b.1, sortZ b.2)) = (acc ++ [(false, sortZ z)]) ++ ((true, v :: vs) :: p.map fun b => (b.1, sortZ b.2)) := by simp
        rw [hl, hr]
        generalize acc ++ [(false, sortZ z)] = A
        rw [List.foldl_append, List.foldl_append, join_block, List.foldl_cons, sortZ_nil, joinStep_nil, List.foldl_append, List.foldl_cons]
theorem altB_asc : ∀ {p : List Blk} {o : Option Bool}, altB o p = true → altB o (ascS p) = true
  | [], o, h => rfl
  | b :: p, o, h => by
    obtain ⟨h1, h2, h3⟩ := altB_cons h
    have hbn : sortZ b.2 ≠ [] := fun e => h1 (List.length_eq_zero_iff.1 (by rw [← sortZ_len, e]; rfl))
    have ih := altB_asc h3
    unfold ascS at ih ⊢
    rw [List.map_cons, altB_step]
    simp [hbn, h2, ih]
theorem joinB_asc {p : List Blk} (h : altB none p = true) : joinB (ascS p) = ascS p := by
  have := joinF_alt (ascS p) [] (fun c hc => by simp at hc) (fun _ => altB_asc h)
  simpa [joinB] using this
theorem back_linP {p : List Blk} (hm : mayB p = true) : ∃ on' acc', linF [] [] (Yb [] p) = some (on', acc') ∧ joinB (acc' ++ [(false, (sortZ (qB p false)).filter fun v => !on'.contains v)]) = ascS p := by
  obtain ⟨m1, m2, m3⟩ := mayB_parts hm
  have hnd := (singleS_nodup m3).1
  obtain ⟨on', acc', e1, e2⟩ := back_lin p none [] [] [] m1 (fun _ => rfl) (by simpa using hnd)
  refine ⟨on', acc', by simpa [sortZ_nil] using e1, ?_⟩
  have := e2 []
  simp only [List.nil_append, List.append_nil] at this
  unfold joinB
  rw [this, List.foldl_cons, sortZ_nil, joinStep_nil]
  exact joinB_asc m1
theorem foldPut_asc : ∀ (l a : List Int), a.Pairwise (· < ·) → (l.foldl putZ a).Pairwise (· < ·) ∧ ∀ x, x ∈ l.foldl putZ a ↔ x ∈ a ∨ x ∈ l
  | [], a, h => ⟨h, fun x => by simp⟩
  | y :: l, a, h => by
    have hp : (putZ a y).Pairwise (· < ·) ∧ ∀ x, x ∈ putZ a y ↔ x = y ∨ x ∈ a := by
      unfold putZ
      by_cases hc : a.contains y = true
      · rw [if_pos hc]
        have : y ∈ a := by simpa using hc
        exact ⟨h, fun x => ⟨.inr, fun hx => by rcases hx with rfl | hx; exact this; exact hx⟩⟩
      · rw [if_neg hc]
        have : y ∉ a := by simpa using hc
        exact ⟨asc_insZ h this, fun x => mem_insZ⟩
    obtain ⟨i1, i2⟩ := foldPut_asc l (putZ a y) hp.1
    rw [List.foldl_cons]
    refine ⟨i1, fun x => ?_⟩
    rw [i2, hp.2, List.mem_cons]
    constructor
    · rintro ((h | h) | h) <;> simp [h]
    · rintro (h | h | h) <;> simp [h]
theorem varsB_sort {p : List Blk} (h : (flatB p).Nodup) : varsB p = sortZ (flatB p) := by
  obtain ⟨a, b⟩ := foldPut_asc (flatB p) [] .nil
  exact ascEq a (sortZ_asc h) fun x => by unfold varsB; rw [b, sortZ_mem]; simp
theorem ascB_eq {p : List Blk} (h : (flatB p).Nodup) : ascB p = ascS p := by
  unfold ascB ascS
  refine List.map_congr_left fun b hb => ?_
  have hb' := blk_nodup h b hb
  have : flatB [b] = b.2 := by simp [flatB]
  rw [varsB_sort (by rw [this]; exact hb'), this]
end Go.Gh
namespace Go.Gh
set_option linter.unusedVariables false
set_option linter.unusedSimpArgs false
theorem qB_split : ∀ p : List Blk, (qB p false).length + (qB p true).length = (flatB p).length
  | [] => by simp [qB, flatB]
  | b :: p => by
    have ih := qB_split p
    rw [qB_cons, qB_cons, flatB_cons]
    cases b.1 <;> simp <;> omega
theorem mem_qB {v : Int} : ∀ {p : List Blk}, v ∈ flatB p ↔ v ∈ qB p false ∨ v ∈ qB p true
  | [] => by simp [qB, flatB]
  | b :: p => by
    have ih := mem_qB (v := v) (p := p)
    rw [qB_cons, qB_cons, flatB_cons, List.mem_append, ih]
    cases b.1 <;> simp [or_assoc, or_comm, or_left_comm]
theorem qB_disj {v : Int} : ∀ {p : List Blk}, (flatB p).Nodup → v ∈ qB p true → v ∉ qB p false
  | [], _, h => by simp [qB, flatB] at h
  | b :: p, hn, h => by
    rw [flatB_cons] at hn
    obtain ⟨h1, h2, h3⟩ := List.nodup_append.1 hn
    rw [qB_cons] at h ⊢
    cases hb : b.1 with
    | true =>
      simp [hb] at h ⊢
      rcases h with h | h
      · exact fun h' => h3 v h v (mem_qB.2 (.inl h')) rfl
      · exact qB_disj h2 h
    | false =>
      simp [hb] at h ⊢
      exact ⟨fun h' => h3 v h' v (mem_qB.2 (.inr h)) rfl, qB_disj h2 h⟩
theorem Yr_on : ∀ {p : List Blk} {u : List Int} {x : Dep}, x ∈ Yr u p → ∃ w, x.2 = sortZ w ∧ w.Sublist (u ++ qB p false)
  | [], u, x, h => by simp [Yr] at h
  | b :: p, u, x, h => by
    rw [Yr] at h
    rw [qB_cons]
    cases hb : b.1 with
    | true =>
      rw [hb, if_pos rfl] at h
      rcases List.mem_append.1 h with h | h
      · obtain ⟨v, _, rfl⟩ := List.mem_map.1 h
        exact ⟨u, rfl, List.sublist_append_left _ _⟩
      · obtain ⟨w, h1, h2⟩ := Yr_on h
        exact ⟨w, h1, by simpa using h2⟩
    | false =>
      rw [hb, if_neg (by simp)] at h
      obtain ⟨w, h1, h2⟩ := Yr_on h
      exact ⟨w, h1, by simpa using h2⟩
theorem asc_rise : ∀ {l : List Int} {last : Int}, l.Pairwise (· < ·) → (∀ x ∈ l, last < x ∧ isVar x = true) → riseS last l = true
  | [], last, _, _ => rfl
  | x :: l, last, h, hv => by
    have h1 := List.pairwise_cons.1 h
    have h2 := hv x (by simp)
    rw [riseS, h2.2, asc_rise h1.2 fun y hy => ⟨h1.1 y hy, (hv y (List.mem_cons_of_mem _ hy)).2⟩]
    simp [h2.1]
theorem isVar_pos {x : Int} (h : isVar x = true) : 0 < x := by simp [isVar] at h; omega
theorem rise_sort {l : List Int} (h : l.Nodup) (hv : ∀ x ∈ l, isVar x = true) : riseS 0 (sortZ l) = true :=
  asc_rise (sortZ_asc h) fun x hx => by
    rw [sortZ_mem] at hx
    exact ⟨isVar_pos (hv x hx), hv x hx⟩
theorem lensD_bound {k : Nat} : ∀ {l : List Dep}, (∀ x ∈ l, x.2.length ≤ k) → lensD l ≤ l.length * (k + 1)
  | [], _ => by simp [lensD]
  | x :: l, h => by
    have ih := lensD_bound (k := k) (l := l) fun y hy => h y (List.mem_cons_of_mem _ hy)
    have := h x (by simp)
    unfold lensD at *
    simp only [List.length_cons, List.map_cons, List.sum_cons, Nat.add_mul] at *
    omega
theorem mayQ_parts {q : QbfP} (h : mayQ q = true) : mayB q.pre = true ∧ cnfB q.cls = true ∧ withinB q.cls (flatB q.pre) = true := by
  unfold mayQ at h
  simp only [Bool.and_eq_true] at h
  exact ⟨h.1.1, h.1.2, h.2⟩
theorem back_plain {q : QbfP} (hm : mayQ q = true) {es : List Dep} (h1 : (rowsT q.pre q.pre.length).Perm es) (h2 : es.Pairwise fun x y => x.1 ≤ y.1) :
    mayD ⟨sortZ (qB q.pre false), es, q.cls⟩ = true ∧ (∀ ys, Sd (fun x : Dep => (x.2.length : Int)) ys → Sim (fun x : Dep => (x.2.length : Int)) es ys → linP ⟨sortZ (qB q.pre false), es, q.cls⟩ ys = (ascB q.pre, 0)) ∧ (sortZ (qB q.pre false)).length + lensD es < 2 ^ 24 := by
  obtain ⟨hmb, hcn, hwi⟩ := mayQ_parts hm
  obtain ⟨m1, m2, m3⟩ := mayB_parts hmb
  have hnd := (singleS_nodup m3).1
  have hvar := singleS_var m3
  have hsp := qB_split q.pre
  have h1' := h1
  rw [rowsT_all] at h1'
  have hvars : (es.map (·.1)).Perm (qB q.pre true) := by rw [← Yr_vars q.pre []]; exact (h1'.map _).symm
  have hel : es.length = (qB q.pre true).length := by have := hvars.length_eq; simpa using this
  have hev : (es.map (·.1)).Nodup := hvars.nodup_iff.2 (sub_nodup true hnd)
  have hlt : es.Pairwise fun x y => x.1 < y.1 := by
    have h5 : es.Pairwise fun x y => x.1 ≠ y.1 := by
      have := hev
      unfold List.Nodup at this
      rwa [List.pairwise_map] at this
    exact (h2.and h5).imp fun ⟨a, b⟩ => by omega
  have hex : ∀ x ∈ es, x.1 ∈ qB q.pre true := fun x hx => hvars.mem_iff.1 (List.mem_map.2 ⟨x, hx, rfl⟩)
  have hon : ∀ x ∈ es, ∃ w, x.2 = sortZ w ∧ w.Sublist (qB q.pre false) := fun x hx => by
    obtain ⟨w, a, b⟩ := Yr_on (h1'.mem_iff.2 hx)
    exact ⟨w, a, by simpa using b⟩
  have hq1 : ∀ v, v ∈ qB q.pre false → isVar v = true := fun v hv => hvar v (mem_qB.2 (.inl hv))
  have hq2 : ∀ v, v ∈ qB q.pre true → isVar v = true := fun v hv => hvar v (mem_qB.2 (.inr hv))
  have hmd : mayD ⟨sortZ (qB q.pre false), es, q.cls⟩ = true := by
    rw [← mayD_eq]
    unfold mayDP
    simp only [Bool.and_eq_true, List.all_eq_true, decide_eq_true_eq]
    refine ⟨fun x hx => ⟨?_, ?_⟩, ⟨⟨?_, ?_⟩, ?_⟩, ?_⟩
    · have := qB_disj hnd (hex x hx)
      simpa [sortZ_mem] using this
    · obtain ⟨w, a, b⟩ := hon x hx
      unfold onOk
      simp only [Bool.and_eq_true, List.all_eq_true]
      refine ⟨by rw [a]; exact rise_sort (b.nodup (sub_nodup false hnd)) fun v hv => hq1 v (b.subset hv), fun v hv => ?_⟩
      rw [a, sortZ_mem] at hv
      simpa [sortZ_mem] using b.subset hv
    · exact rise_sort (sub_nodup false hnd) hq1
    · refine asc_rise (by rw [List.pairwise_map]; exact hlt) fun x hx => ?_
      have := hq2 x (hvars.mem_iff.1 hx)
      exact ⟨isVar_pos this, this⟩
    · rw [sortZ_len]; omega
    · rw [cnfG_eq, hcn, Bool.true_and]
      unfold withinB at hwi
      simp only [List.all_eq_true] at hwi ⊢
      intro c hc x hx
      have := hwi c hc x hx
      have hm : absW x ∈ flatB q.pre := by simpa using this
      have : absW x ∈ (⟨sortZ (qB q.pre false), es, q.cls⟩ : DqbfP).all := by
        unfold DqbfP.all
        rw [List.mem_append, sortZ_mem]
        rcases mem_qB.1 hm with h | h
        · exact .inl h
        · exact .inr (hvars.mem_iff.2 h)
      simpa using this
  refine ⟨hmd, fun ys y1 y2 => ?_, ?_⟩
  · have hy := back_ys hmb h1 h2 y1 y2
    obtain ⟨on', acc', e1, e2⟩ := back_linP hmb
    unfold linP
    rw [hmd, hy, if_pos rfl, e1]
    show (joinB (acc' ++ [(false, (sortZ (qB q.pre false)).filter fun v => !on'.contains v)]), (0 : Int)) = _
    rw [e2, ascB_eq hnd]
  · have hb := lensD_bound (k := 1024) (l := es) fun x hx => by
      obtain ⟨w, a, b⟩ := hon x hx
      have := b.length_le
      rw [a, sortZ_len]; omega
    rw [sortZ_len]
    have : es.length * (1024 + 1) ≤ 1024 * (1024 + 1) := Nat.mul_le_mul_right _ (by omega)
    omega
end Go.Gh
namespace Go.Gh
open Go.RowKit Go.Proofs
set_option linter.unusedVariables false
set_option linter.unusedSimpArgs false
set_option maxRecDepth 100000
theorem r_Find_ok {p : List Blk} {v : Int} {σ : GS} {Post : DV → GS → Prop} (hp : lensB p < 2 ^ 40) (h : Post (findT (findO 0 p v)) σ) : GCall Tryz.prog F_skolemref03_Find [fblks p, .int .i64 v] σ Post := by
  have hlb := lensB_flat p
  have hcl : ∀ o, (findT o).closed = true := fun o => by cases o <;> simp [findT]
  refine GCall.say (r := findT (findO 0 p v)) ?_ (hcl _) h
  refine gc_skolemref03_Find ?_
  simp [G_skolemref03_Find, genv0, List.replicate]
  refine gfor p.length (fun i e σ' => σ' = σ ∧ findO 0 p v = findO i (p.drop i) v ∧ e = mkEnv 27 [(0, fblks p), (1, .int .i64 v), (7, .int .i64 i)]) _ ?_ ⟨rfl, by simp, rfl⟩ ?_
  · simp [mkEnv, List.replicate]
  rintro i _ σ hi ⟨rfl, hI, rfl⟩
  simp [mkEnv, List.replicate]
  by_cases hlt : i < p.length
  · obtain ⟨b, hb⟩ := nth_lt hlt
    have hb' := nth_get hb
    have hbm := lensB_mem (List.mem_of_getElem? hb')
    have es : IntKind.i64.wrap ((i : Int) + 1) = (i : Int) + 1 := by rw [wrap_small] <;> omega
    rw [drop_get hb', findO] at hI
    simp [hlt, hb]
    refine r_Has_ok (by omega) ?_
    cases c : b.2.contains v with
    | true =>
      rw [c, if_pos rfl] at hI
      rw [hI]
      simp [hb, findT]
      exact .rfl'
    | false =>
      rw [c, if_neg (by simp)] at hI
      simp [es]
      exact forK_go _ hlt (by simp [mkEnv, List.replicate]) ⟨rfl, hI, rfl⟩
  · have : i = p.length := by omega
    subst this
    rw [List.drop_length] at hI
    rw [hI]
    simp [findO, findT]
    exact .rfl'
/-- The variables of a quantifier in blocks, put one by one. -/
def putB (p : List Blk) (ex : Bool) : List Int := (qB p ex).foldl putZ []
theorem r_On_ok {p : List Blk} {v : Int} {k : Nat} {e : Bool} {σ : GS} {Post : DV → GS → Prop} (hp : lensB p < 2 ^ 39) (hm : mayB p = true) (hf : findO 0 p v = some (k, e)) (h : Post (.tuple [fints (putB (p.take k) !e), .int .i64 0]) σ) : GCall Tryz.prog F_skolemref03_On [fblks p, .int .i64 v] σ Post := by
  have hlb := lensB_flat p
  have hc := closed_fints (putB (p.take k) !e)
  obtain ⟨b0, _, hk0, _, _⟩ := findO_mem hf
  simp only [Nat.sub_zero] at hk0
  have hkl := get_dom hk0
  refine GCall.pure (r := .tuple [fints (putB (p.take k) !e), .int .i64 0]) ?_ (by simp [DV.closed, closeds] at hc ⊢; exact hc) h
  refine gc_skolemref03_On ?_
  simp [G_skolemref03_On, genv0, List.replicate]
  refine r_May_ok (by omega) ?_
  rw [hm]
  simp
  refine r_Find_ok (by omega) ?_
  rw [hf]
  simp [findT]
  have hlen : ∀ i, ((qB (p.take i) !e).foldl putZ []).length ≤ lensB p := fun i => by
    have h1 := foldPut_len (qB (p.take i) !e) []
    have h2 := qB_le (p.take i) !e
    have h3 := flatB_take_le p i
    simp at h1; omega
  refine gfor k (fun i en σ' => σ' = σ ∧ ∃ s, FS s (putB (p.take i) !e) ∧ en = mkEnv 59 [(0, fblks p), (6, .int .i64 k), (7, .bool e), (9, s), (10, .int .i64 i)]) _ ?_ ⟨rfl, .nils, .inr ⟨rfl, by simp [putB, qB, flatB]⟩, rfl⟩ ?_
  · simp [mkEnv, List.replicate]
  rintro i _ σ hi ⟨rfl, s, hS, rfl⟩
  simp [mkEnv, List.replicate]
  by_cases hlt : i < k
  rotate_left
  · have : i = k := by omega
    subst this
    simp
    exact ⟨.rfl', .tuple (.cons hS.rd (.cons (.same _) .nil))⟩
  obtain ⟨b, hb⟩ := nth_lt (l := p) (i := i) (by omega)
  have hb' := nth_get hb
  have hbm := lensB_mem (List.mem_of_getElem? hb')
  have es : IntKind.i64.wrap ((i : Int) + 1) = (i : Int) + 1 := by rw [wrap_small] <;> omega
  have hpush := qB_push (ex := !e) hb'
  simp [hlt]
  refine gfor b.2.length (fun j en σ' => σ' = σ ∧ ∃ s, FS s ((if b.1 == !e then b.2.take j else []).foldl putZ (putB (p.take i) !e)) ∧ en = mkEnv 59 [(0, fblks p), (6, .int .i64 k), (7, .bool e), (9, s), (10, .int .i64 i), (11, .int .i64 j)]) _ ?_ ⟨rfl, s, by simpa using hS, rfl⟩ ?_
  · simp [mkEnv, List.replicate]
  clear hS
  rintro j _ σ hj ⟨rfl, s, hS, rfl⟩
  simp [mkEnv, List.replicate, hb]
  by_cases hne : (b.1 == !e) = true
  · have hne2 : (b.1 != e) = true := by cases h1 : b.1 <;> cases h2 : e <;> simp_all
    rw [hne, if_pos rfl] at hS hpush
    by_cases hjl : j < b.2.length
    · obtain ⟨y, hy⟩ := nth_lt hjl
      have hy' := nth_get hy
      have es3 : IntKind.i64.wrap ((j : Int) + 1) = (j : Int) + 1 := by rw [wrap_small] <;> omega
      have hl := foldPut_len (b.2.take j) (putB (p.take i) !e)
      have hl2 := hlen i
      rw [List.length_take] at hl
      simp [hjl, hne2, hb, hy]
      refine GCall.reads (args' := [fints ((b.2.take j).foldl putZ (putB (p.take i) !e)), .int .i64 y]) (.cons hS.rd (.cons (.same _) .nil)) (r_Put_ok (by unfold putB at hl ⊢; omega) ?_)
      simp [es3]
      refine forK_go _ hjl (by simp [mkEnv, List.replicate]) ⟨rfl, fints (putZ ((b.2.take j).foldl putZ (putB (p.take i) !e)) y), ?_, rfl⟩
      rw [hne, if_pos rfl, take_get hy', List.foldl_append]
      exact .inl rfl
    · have : j = b.2.length := by omega
      subst this
      rw [List.take_length] at hS
      simp [es]
      refine forK_go _ hlt (by simp [mkEnv, List.replicate]) ⟨rfl, s, ?_, rfl⟩
      unfold putB at hS ⊢
      rw [hpush, List.foldl_append]
      exact hS
  · have hne2 : (b.1 != e) = false := by cases h1 : b.1 <;> cases h2 : e <;> simp_all
    rw [if_neg hne] at hS hpush
    have hfin : FS s (putB (p.take (i + 1)) !e) := by
      unfold putB at hS ⊢
      rw [hpush, List.append_nil]; exact hS
    by_cases hjl : j < b.2.length
    · simp [hjl, hne2, hb, es]
      exact forK_go _ hlt (by simp [mkEnv, List.replicate]) ⟨rfl, s, hfin, rfl⟩
    · simp [hjl, es]
      exact forK_go _ hlt (by simp [mkEnv, List.replicate]) ⟨rfl, s, hfin, rfl⟩
end Go.Gh
namespace Go.Gh
open Go.RowKit Go.Proofs
set_option linter.unusedVariables false
set_option linter.unusedSimpArgs false
set_option maxRecDepth 100000
def exQ (p : List Blk) (v : Int) : Bool := match findO 0 p v with | some (_, e) => e | none => false
def onQ (p : List Blk) (v : Int) : List Int := match findO 0 p v with | some (k, _) => putB (p.take k) false | none => []
def uniR (p : List Blk) (l : List Int) : List Int := l.filter fun v => !exQ p v
def exiR (p : List Blk) (l : List Int) : List Dep := (l.filter (exQ p)).map fun v => (v, onQ p v)
def dqbfR (q : QbfP) : DqbfP × Int := if mayQ q then (⟨uniR q.pre (varsB q.pre), exiR q.pre (varsB q.pre), q.cls⟩, 0) else (⟨[], [], []⟩, 2)
/-- The heap of the reference's Dqbf. -/
structure DcH (σ : GS) (q : QbfP) (s t : DV) (us : List Int) (es : List Dep) (σ' : GS) : Prop where
  f0 : Fr σ.length σ σ'
  bx : σ'[σ.length]? = some (.row false (eqbf q))
  rx : σ'[σ.length + 1]? = some (.row false [.nils, .nils, .nils])
  dx : σ'[σ.length + 2]? = some (.row false [s, t, fcls q.cls])
  o1 : Own (σ.length + 3) 1 eint σ' s us
  o2 : Own (σ.length + 3) 2 edep σ' t es
  off : ∀ k, s.has k → ¬ t.has k
theorem DcH.addU {σ : GS} {q : QbfP} {s t : DV} {us : List Int} {es : List Dep} {σ' : GS} (h : DcH σ q s t us es σ') (hl : us.length < 2 ^ 40) (x : Int) :
    ∃ s' σ2, gimp (.append 1 8) [s, .slice σ'.length 0 1 1 (some 1)] (σ' ++ [.row false (eint x)]) = some (s', σ2) ∧ gimp (.store 1) [.ptr (σ.length + 2) 0, s'] σ2 = some (.tuple [], σ2.set (σ.length + 2) (.row false [s', t, fcls q.cls])) ∧ DcH σ q s' t (us ++ [x]) es (σ2.set (σ.length + 2) (.row false [s', t, fcls q.cls])) := by
  have hlen : σ.length + 3 ≤ σ'.length := get_dom h.dx
  obtain ⟨s', σ2, z1, z2, z3, z4, z5, z6⟩ := h.o1.push (by_ := 8) x (fun _ => rfl) (by simp) hlen (by omega) (by decide)
  have hdx : σ2[σ.length + 2]? = some (.row false [s, t, fcls q.cls]) := (z3.get _ (by omega)).trans h.dx
  have hsto := st_cell hdx (k := 0) (v := s') (by simp) z2.flat
  simp only [List.set_cons_zero] at hsto
  refine ⟨s', σ2, z1, hsto, (h.f0.trans (z3.mono (by omega))).set (by omega) _, ?_, ?_, by rw [List.getElem?_set_self (get_dom hdx)], z2.fit fun j hj => List.getElem?_set_ne (by have := z2.has_ge hj; omega), h.o2.fit fun j hj => ?_, fun k hk hk' => ?_⟩
  · rw [List.getElem?_set_ne (by omega), z3.get _ (by omega)]; exact h.bx
  · rw [List.getElem?_set_ne (by omega), z3.get _ (by omega)]; exact h.rx
  · rw [List.getElem?_set_ne (by have := h.o2.has_ge hj; omega), z5 j (h.o2.has_lt hj) fun hh => h.off j hh hj]
  · rcases z6 k hk with h1 | h1
    · exact h.off k h1 hk'
    · have := h.o2.has_lt hk'; omega
theorem DcH.addE {σ : GS} {q : QbfP} {s t : DV} {us : List Int} {es : List Dep} {σ' : GS} (h : DcH σ q s t us es σ') (hl : es.length < 2 ^ 40) (x : Dep) :
    ∃ t' σ2, gimp (.append 2 32) [t, .slice σ'.length 0 1 2 (some 1)] (σ' ++ [.row false (edep x)]) = some (t', σ2) ∧ gimp (.store 1) [.ptr (σ.length + 2) 1, t'] σ2 = some (.tuple [], σ2.set (σ.length + 2) (.row false [s, t', fcls q.cls])) ∧ DcH σ q s t' us (es ++ [x]) (σ2.set (σ.length + 2) (.row false [s, t', fcls q.cls])) := by
  have hlen : σ.length + 3 ≤ σ'.length := get_dom h.dx
  obtain ⟨t', σ2, z1, z2, z3, z4, z5, z6⟩ := h.o2.push (by_ := 32) x (fun _ => rfl) (by simp) hlen (by omega) (by decide)
  have hdx : σ2[σ.length + 2]? = some (.row false [s, t, fcls q.cls]) := (z3.get _ (by omega)).trans h.dx
  have hsto := st_cell hdx (k := 1) (v := t') (by simp) z2.flat
  simp only [List.set_cons_succ, List.set_cons_zero] at hsto
  refine ⟨t', σ2, z1, hsto, (h.f0.trans (z3.mono (by omega))).set (by omega) _, ?_, ?_, by rw [List.getElem?_set_self (get_dom hdx)], h.o1.fit fun j hj => ?_, z2.fit fun j hj => List.getElem?_set_ne (by have := z2.has_ge hj; omega), fun k hk hk' => ?_⟩
  · rw [List.getElem?_set_ne (by omega), z3.get _ (by omega)]; exact h.bx
  · rw [List.getElem?_set_ne (by omega), z3.get _ (by omega)]; exact h.rx
  · rw [List.getElem?_set_ne (by have := h.o1.has_ge hj; omega), z5 j (h.o1.has_lt hj) fun hh => h.off j hj hh]
  · rcases z6 k hk' with h1 | h1
    · exact h.off k hk h1
    · have := h.o1.has_lt hk; omega
set_option maxHeartbeats 4000000 in
theorem r_Dqbf_ok {q : QbfP} {σ : GS} {Post : DV → GS → Prop} (hp : lensB q.pre < 2 ^ 38) (hc : lensC q.cls < 2 ^ 40) (hw : WfC q.cls) (h : Post (.tuple [(dqbfR q).1.enc, .int .i64 (dqbfR q).2]) σ) : GCall Tryz.prog F_skolemref03_Dqbf [q.enc] σ Post := by
  have hlb := lensB_flat q.pre
  have hcl : (DV.tuple [(dqbfR q).1.enc, .int .i64 (dqbfR q).2]).closed = true := by
    have h1 := closed_fints (dqbfR q).1.univ
    have h2 := closed_fdeps (dqbfR q).1.exist
    have h3 := closed_fcls (dqbfR q).1.cls
    simp [DV.closed, closeds] at h1 h2 h3 ⊢; exact ⟨h1, h2, h3⟩
  refine GCall.pure (r := .tuple [(dqbfR q).1.enc, .int .i64 (dqbfR q).2]) ?_ hcl h
  refine gc_skolemref03_Dqbf ?_
  simp [G_skolemref03_Dqbf, genv0, List.replicate]
  refine r_MayQbf_ok (by omega) hc hw ?_
  cases hm : mayQ q with
  | false =>
    simp [dqbfR, hm]
    exact .tuple (.cons (.agg (.cons (.nils 1) (.cons (.nils 2) (.cons (.nils 1) .nil)))) (.cons (.same _) .nil))
  | true =>
  obtain ⟨hmb, _, _⟩ := mayQ_parts hm
  have hfil : gfill [(2, 1)] [.nils, .nils, .nils] [fcls q.cls] = some [.nils, .nils, fcls q.cls] := by simp [gfill, cells_of_flat, over]
  simp [hfil]
  refine r_Vars_ok (by omega) ?_
  obtain ⟨l, hl⟩ : ∃ l, varsB q.pre = l := ⟨_, rfl⟩
  have hll : l.length ≤ (flatB q.pre).length := by rw [← hl]; simpa [varsB] using foldPut_len (flatB q.pre) []
  have hlm : ∀ v ∈ l, v ∈ flatB q.pre := fun v hv => by
    rw [← hl, varsB_sort (singleS_nodup (mayB_parts hmb).2.2).1, sortZ_mem] at hv; exact hv
  rw [hl]
  simp
  refine gfor l.length (fun i e σ' => ∃ s t, DcH σ q s t (uniR q.pre (l.take i)) (exiR q.pre (l.take i)) σ' ∧ e = mkEnv 71 [(1, .ptr σ.length 0), (2, .ptr (σ.length + 1) 0), (4, .ptr (σ.length + 2) 0), (5, fints l), (6, .int .i64 i)]) _ ?_ ⟨.nils, .nils, ⟨.app .rfl' _, by simp, by simp, by simp, by simpa [uniR] using Own.nil, by simpa [exiR] using Own.nil, fun k ⟨_, _, _, _, e⟩ => by cases e⟩, rfl⟩ ?_
  · simp [mkEnv, List.replicate]
  rintro i _ σ1 hi ⟨s, t, hD, rfl⟩
  simp [mkEnv, List.replicate]
  by_cases hlt : i < l.length
  · obtain ⟨v, hv⟩ := nth_lt hlt
    have hv' := nth_get hv
    have es : IntKind.i64.wrap ((i : Int) + 1) = (i : Int) + 1 := by rw [wrap_small] <;> omega
    obtain ⟨⟨k, e⟩, hf⟩ := Option.isSome_iff_exists.1 (findO_in (p := q.pre) (k := 0) (hlm v (List.mem_of_getElem? hv')))
    have l1 : gload (.load 1 false) [.ptr (σ.length + 2) 0] σ1 = some s := by rw [ld_at hD.dx]; rfl
    have l2 : gload (.load 1 false) [.ptr (σ.length + 2) 1] σ1 = some t := by rw [ld_at hD.dx]; rfl
    simp [hlt, hv, ld_at hD.bx]
    refine r_Find_ok (by omega) ?_
    rw [hf]
    cases e with
    | true =>
      have hex : exQ q.pre v = true := by unfold exQ; rw [hf]
      have hon : onQ q.pre v = putB (q.pre.take k) false := by unfold onQ; rw [hf]
      obtain ⟨t', σ2, a1, a2, a3⟩ := hD.addE (by have := List.length_filter_le (exQ q.pre) (l.take i); simp [exiR] at this ⊢; omega) (v, onQ q.pre v)
      rw [hon] at a1 a3
      simp [findT, ld_at hD.bx, hv]
      refine r_On_ok (by omega) hmb hf ?_
      simp [l2, fill_flat2, bs2_agg, hv, a1, a2, es]
      refine forK_go _ hlt (by simp [mkEnv, List.replicate]) ⟨s, t', ?_, rfl⟩
      rw [take_get hv']
      have e1 : uniR q.pre (l.take i ++ [v]) = uniR q.pre (l.take i) := by unfold uniR; rw [List.filter_append]; simp [hex]
      have e2 : exiR q.pre (l.take i ++ [v]) = exiR q.pre (l.take i) ++ [(v, putB (q.pre.take k) false)] := by unfold exiR; rw [List.filter_append]; simp [hex, hon]
      rw [e1, e2]
      exact a3
    | false =>
      have hex : exQ q.pre v = false := by unfold exQ; rw [hf]
      obtain ⟨s', σ2, a1, a2, a3⟩ := hD.addU (by have := List.length_filter_le (fun v => !exQ q.pre v) (l.take i); unfold uniR; simp at this ⊢; omega) v
      simp [findT, l1, hv, a1, a2, es]
      refine forK_go _ hlt (by simp [mkEnv, List.replicate]) ⟨s', t, ?_, rfl⟩
      rw [take_get hv']
      have e1 : uniR q.pre (l.take i ++ [v]) = uniR q.pre (l.take i) ++ [v] := by unfold uniR; rw [List.filter_append]; simp [hex]
      have e2 : exiR q.pre (l.take i ++ [v]) = exiR q.pre (l.take i) := by unfold exiR; rw [List.filter_append]; simp [hex]
      rw [e1, e2]
      exact a3
  have : i = l.length := by omega
  subst this
  rw [List.take_length] at hD
  have hst := st_three hD.rx (x := s) (y := t) (z := fcls q.cls) hD.o1.flat hD.o2.flat rfl
  have hld := ld_agg3 (List.getElem?_set_self (l := σ1) (i := σ.length + 1) (a := .row false [s, t, fcls q.cls]) (get_dom hD.rx))
  have hv : dqbfR q = (⟨uniR q.pre l, exiR q.pre l, q.cls⟩, 0) := by unfold dqbfR; rw [hm, if_pos rfl, hl]
  rw [hv]
  simp [ld_agg3 hD.dx, hst, hld]
  refine ⟨hD.f0.set (by omega) _, .tuple (.cons (.agg (.cons ?_ (.cons ?_ (.cons (.same _) .nil)))) (.cons (.same _) .nil))⟩
  · exact (hD.o1.fit fun j hj => List.getElem?_set_ne (by have := hD.o1.has_ge hj; omega)).rd (fun _ => rfl) fun i hi => .inl (by omega)
  · exact (hD.o2.fit fun j hj => List.getElem?_set_ne (by have := hD.o2.has_ge hj; omega)).rd (fun _ => rfl) fun i hi => .inl (by omega)
end Go.Gh
namespace Go.Gh
set_option linter.unusedVariables false
set_option linter.unusedSimpArgs false
theorem Sim.perm {α : Type} {kf : α → Int} : ∀ {l m : List α}, Sim kf l m → l.Perm m
  | [], m, h => by rw [List.length_eq_zero_iff.1 h.len]
  | x :: l, m, h => by
    have hx : x ∈ m := h.mem.2 (by simp)
    obtain ⟨p, q, hm⟩ : ∃ p q, m = p ++ x :: q ∧ p.filter (fun d => kf d == kf x) = [] := by
      have h1 := h (kf x)
      rw [List.filter_cons_of_pos (by simp)] at h1
      clear h hx
      induction m with
      | nil => simp at h1
      | cons y m ih =>
        by_cases hy : kf y = kf x
        · rw [List.filter_cons_of_pos (by simp [hy])] at h1
          obtain ⟨e, _⟩ := List.cons.inj h1
          subst e
          exact ⟨[], m, rfl, rfl⟩
        · rw [List.filter_cons_of_neg (by simp [hy])] at h1
          obtain ⟨p, q, h2, h3⟩ := ih h1
          exact ⟨y :: p, q, by rw [h2]; rfl, by rw [List.filter_cons_of_neg (by simp [hy]), h3]⟩
    have hs : Sim kf l (p ++ q) := fun k => by
      have h1 := h k
      rw [hm.1, List.filter_append] at h1
      rw [List.filter_append]
      by_cases hk : kf x = k
      · subst hk
        rw [hm.2] at h1 ⊢
        rw [List.filter_cons_of_pos (by simp), List.filter_cons_of_pos (by simp)] at h1
        simpa using h1
      · rw [List.filter_cons_of_neg (by simpa using hk), List.filter_cons_of_neg (by simpa using hk)] at h1
        exact h1
    rw [hm.1]
    exact (hs.perm.cons x).trans List.perm_middle.symm
end Go.Gh
namespace Go.Gh
open Go.RowKit Go.Proofs
set_option linter.unusedVariables false
set_option linter.unusedSimpArgs false
set_option maxRecDepth 100000
/-- What a variable depends on, and whether it is there. -/
def depsP (d : DqbfP) (v : Int) : List Int × Bool := match d.exist.find? (fun x => x.1 == v) with | some x => (x.2, true) | none => ([], false)
theorem p_Deps1_ok {x : Dep} {v : Int} {bx : Nat} {σ : GS} {Post : DV → GS → Prop} (hb : σ[bx]? = some (.row false [.int .i64 v])) (k : Post (.bool (decide (x.1 = v))) σ) : GCall Tryz.prog F_prefix_Deps_1 [.agg (edep x), .ptr bx 0] σ Post := by
  have hbl := get_dom hb
  refine GCall.say (r := .bool (decide (x.1 = v))) ?_ rfl k
  refine gc_prefix_Deps_1 ?_
  have l1 : ∀ τ, gload (.load 1 false) [.ptr bx 0] (σ ++ τ) = some (.int .i64 v) := fun τ => by rw [ld_app hbl, ld_at hb]; rfl
  simp [G_prefix_Deps_1, genv0, List.replicate, l1]
theorem p_IdxD_ok {f : FuncId} {pre caps : List DV} {xs : List Dep} {p : Dep → Bool} {σ : GS} {Post : DV → GS → Prop} (hl : xs.length < 2 ^ 60)
    (hf : ∀ x ∈ xs, ∀ K : DV → GS → Prop, K (.bool (p x)) σ → GCall Tryz.prog f (pre ++ .agg (edep x) :: caps) σ K) (h : Post (.int .i64 (idxF p 0 xs)) σ) :
    GCall Tryz.prog F_slices_IndexFunc_api_Dep_api_Dep [fdeps xs, .func f pre caps] σ Post := by
  refine gc_slices_IndexFunc_api_Dep_api_Dep ?_
  simp [G_slices_IndexFunc_api_Dep_api_Dep, genv0, List.replicate]
  refine gfor xs.length (fun i e σ' => σ' = σ ∧ idxF p 0 xs = idxF p i (xs.drop i) ∧ e = mkEnv 19 [(0, fdeps xs), (1, .func f pre caps), (7, .int .i64 xs.length), (8, .int .i64 i)]) _ ?_ ⟨rfl, by simp, rfl⟩ ?_
  · simp [mkEnv, List.replicate]
  rintro i _ _ hi ⟨rfl, hI, rfl⟩
  simp [mkEnv, List.replicate]
  by_cases hlt : i < xs.length
  · obtain ⟨y, hy⟩ := nth_lt hlt
    have hy' := nth_get hy
    rw [drop_get hy'] at hI
    simp [hlt, hy]
    refine hf y (List.mem_of_getElem? hy') _ ?_
    by_cases h1 : p y = true
    · simp [h1]
      simpa [hI, idxF, h1] using h
    · simp [h1, wrap_suc (show i < _ by omega)]
      exact forK_go _ hlt (by simp [mkEnv, List.replicate]) ⟨rfl, by simp [hI, idxF, h1], rfl⟩
  · have : i = xs.length := by omega
    subst this
    simp
    simpa [hI, idxF] using h
theorem idxF_find {p : Dep → Bool} : ∀ (xs : List Dep) (k : Nat), (idxF p k xs = -1 ∧ xs.find? p = none) ∨ ∃ i x, idxF p k xs = ((k + i : Nat) : Int) ∧ xs[i]? = some x ∧ xs.find? p = some x
  | [], k => .inl ⟨rfl, rfl⟩
  | y :: xs, k => by
    by_cases h : p y = true
    · right
      exact ⟨0, y, by simp [idxF, h], rfl, by simp [h]⟩
    · rcases idxF_find (p := p) xs (k + 1) with ⟨a, b⟩ | ⟨i, x, a, b, c⟩
      · left; exact ⟨by simp [idxF, h, a], by simp [h, b]⟩
      · right; exact ⟨i + 1, x, by simp only [idxF, if_neg h, a]; congr 1; omega, by simpa using b, by simp [h, c]⟩
theorem p_Deps_ok {d : DqbfP} {v : Int} {σ : GS} {Post : DV → GS → Prop} (hd : lensD d.exist < 2 ^ 40) (h : Post (.tuple [fints (depsP d v).1, .bool (depsP d v).2]) σ) : GCall Tryz.prog F_prefix_Deps [d.enc, .int .i64 v] σ Post := by
  have hel := lensD_len d.exist
  have hc := closed_fints (depsP d v).1
  refine GCall.pure (r := .tuple [fints (depsP d v).1, .bool (depsP d v).2]) ?_ (by simp [DV.closed, closeds] at hc ⊢; exact hc) h
  refine gc_prefix_Deps ?_
  simp [G_prefix_Deps, genv0, List.replicate]
  refine p_IdxD_ok (pre := []) (p := fun x => decide (x.1 = v)) (by omega) (fun x _ K hK => p_Deps1_ok (by simp) hK) ?_
  have hp : (fun x : Dep => decide (x.1 = v)) = fun x => x.1 == v := by funext x; simp [BEq.beq]
  rcases idxF_find (p := fun x : Dep => decide (x.1 = v)) d.exist 0 with ⟨a, b⟩ | ⟨i, x, a, b, c⟩
  · rw [a]
    rw [hp] at b
    simp [depsP, b]
    exact .tuple (.cons (.nils 1) (.cons (.same _) .nil))
  · rw [a]
    rw [hp] at c
    have hx : nth d.exist i = some x := b
    have hxl := lensD_mem (List.mem_of_getElem? b)
    have hil := get_dom b
    have h0 : ¬ (((0 + i : Nat) : Int) < 0) := by omega
    have e0 : ((0 + i : Nat) : Int) = (i : Int) := by omega
    rw [e0] at h0 ⊢
    simp [h0, hx]
    refine p_CloneF_ok (by omega) ?_
    simp [depsP, c]
    exact .same _
theorem r_Deps_ok {d : DqbfP} {v : Int} {σ : GS} {Post : DV → GS → Prop} (hd : lensD d.exist < 2 ^ 40) (h : Post (.tuple [fints (depsP d v).1, .bool (depsP d v).2]) σ) : GCall Tryz.prog F_skolemref03_Deps [d.enc, .int .i64 v] σ Post := by
  have hel := lensD_len d.exist
  have hc := closed_fints (depsP d v).1
  refine GCall.pure (r := .tuple [fints (depsP d v).1, .bool (depsP d v).2]) ?_ (by simp [DV.closed, closeds] at hc ⊢; exact hc) h
  refine gc_skolemref03_Deps ?_
  simp [G_skolemref03_Deps, genv0, List.replicate]
  refine gfor d.exist.length (fun i e σ' => σ' = σ ++ [.row false (edqbf d)] ∧ d.exist.find? (fun x => x.1 == v) = (d.exist.drop i).find? (fun x => x.1 == v) ∧ e = mkEnv 28 [(1, .int .i64 v), (2, .ptr σ.length 0), (6, .int .i64 i)]) _ ?_ ⟨rfl, by simp, rfl⟩ ?_
  · simp [mkEnv, List.replicate]
  rintro i _ _ hi ⟨rfl, hI, rfl⟩
  simp [mkEnv, List.replicate]
  by_cases hlt : i < d.exist.length
  · obtain ⟨x, hx⟩ := nth_lt hlt
    have hx' := nth_get hx
    rw [drop_get hx', List.find?_cons] at hI
    have es : IntKind.i64.wrap ((i : Int) + 1) = (i : Int) + 1 := by rw [wrap_small] <;> omega
    by_cases c : x.1 = v
    · have c2 : (x.1 == v) = true := by simpa using c
      rw [c2] at hI
      simp [hlt, hx, c]
      unfold depsP
      rw [hI]
      exact .same _
    · have c2 : (x.1 == v) = false := by simpa using c
      rw [c2] at hI
      simp [hlt, hx, c, es]
      exact forK_go _ hlt (by simp [mkEnv, List.replicate]) ⟨rfl, hI, rfl⟩
  · have : i = d.exist.length := by omega
    subst this
    rw [List.drop_length] at hI
    simp
    unfold depsP
    rw [hI]
    exact .tuple (.cons (.nils 1) (.cons (.same _) .nil))
end Go.Gh
namespace Go.Gh
set_option linter.unusedVariables false
set_option linter.unusedSimpArgs false
theorem asc_nodup {l : List Int} (h : l.Pairwise (· < ·)) : l.Nodup := h.imp fun h => by omega
theorem sub_all : ∀ {a b : List Int}, a.Nodup → (∀ v ∈ a, v ∈ b) → b.length ≤ a.length → ∀ v ∈ b, v ∈ a
  | [], b, _, _, hl, v, hv => by
    have : b = [] := List.length_eq_zero_iff.1 (by simpa using hl)
    subst this; simp at hv
  | x :: a, b, hn, hs, hl, v, hv => by
    have h1 := List.nodup_cons.1 hn
    have hx := hs x (by simp)
    by_cases e : v = x
    · simp [e]
    · have hlen := List.length_erase_of_mem hx
      have := sub_all (a := a) (b := b.erase x) h1.2 (fun u hu => (List.mem_erase_of_ne (fun e' => h1.1 (by rw [← e']; exact hu))).2 (hs u (by simp [hu]))) (by rw [hlen]; simp at hl; omega) v ((List.mem_erase_of_ne e).2 hv)
      simp [this]
/-- Where there is no prefix two rows are not one part of the other. -/
theorem chain_none : ∀ (l : List Dep) (on : List Int) (acc : List Blk), linF on acc l = none → (∀ x ∈ l, x.2.Nodup) → on.Nodup → (l.Pairwise fun x y => x.2.length ≤ y.2.length) → (∀ x ∈ l, on.length ≤ x.2.length) →
    (∃ x ∈ l, ¬ (∀ v ∈ on, v ∈ x.2) ∧ ¬ (∀ v ∈ x.2, v ∈ on)) ∨ ∃ x y, x ∈ l ∧ y ∈ l ∧ ¬ (∀ v ∈ x.2, v ∈ y.2) ∧ ¬ (∀ v ∈ y.2, v ∈ x.2)
  | [], on, acc, h, _, _, _, _ => by rw [linF] at h; cases h
  | x :: l, on, acc, h, hn, hon, hs, hle => by
    rw [linF] at h
    by_cases hc : (on.all fun v => x.2.contains v) = true
    · rw [if_pos hc] at h
      have hs' := List.pairwise_cons.1 hs
      rcases chain_none l x.2 _ h (fun y hy => hn y (by simp [hy])) (hn x (by simp)) hs'.2 hs'.1 with ⟨y, hy, a, b⟩ | ⟨y, z, hy, hz, a, b⟩
      · exact .inr ⟨x, y, by simp, by simp [hy], a, b⟩
      · exact .inr ⟨y, z, by simp [hy], by simp [hz], a, b⟩
    · left
      refine ⟨x, by simp, fun hh => hc ?_, fun hh => hc ?_⟩
      · rw [List.all_eq_true]; intro v hv; simpa using hh v hv
      · have h1 := hle x (by simp)
        rw [List.all_eq_true]; intro v hv
        simpa using sub_all (hn x (by simp)) hh h1 v hv
end Go.Gh
namespace Go.Gh
open Go.RowKit Go.Proofs
set_option linter.unusedVariables false
set_option linter.unusedSimpArgs false
set_option maxRecDepth 100000
theorem sz_sm {d : DqbfP} (hd : d.sz < 2 ^ 40) : d.Sm := by
  have h1 := lensD_len d.exist
  have h2 : d.cls.length ≤ lensC d.cls := by unfold lensC; omega
  have h3 : d.univ.length + lensD d.exist + lensC d.cls < 2 ^ 40 := hd
  exact ⟨by omega, ⟨by omega, fun b hb => by have := lensD_mem hb; omega⟩, ⟨by omega, fun c hc => by have := lensC_mem hc; omega⟩⟩
theorem sameD_self (d : DqbfP) : sameD d d = true := by unfold sameD; simp
end Go.Gh
namespace Go.Gh
open Go.RowKit Go.Proofs
set_option linter.unusedVariables false
set_option linter.unusedSimpArgs false
set_option maxRecDepth 100000
/-- Is neither of two rows part of the other? -/
def incD (x y : Dep) : Bool := !(x.2.all fun v => y.2.contains v) && !(y.2.all fun v => x.2.contains v)
theorem incD_comm (x y : Dep) : incD x y = incD y x := by unfold incD; exact Bool.and_comm _ _
theorem incD_of {x y : Dep} (h1 : ¬ ∀ v ∈ x.2, v ∈ y.2) (h2 : ¬ ∀ v ∈ y.2, v ∈ x.2) : incD x y = true := by
  unfold incD
  simp only [Bool.and_eq_true, Bool.not_eq_true', ← Bool.not_eq_true, List.all_eq_true]
  exact ⟨fun h => h1 fun v hv => by simpa using h v hv, fun h => h2 fun v hv => by simpa using h v hv⟩
theorem incD_self (x : Dep) : incD x x = false := by
  have : (x.2.all fun v => x.2.contains v) = true := by rw [List.all_eq_true]; intro v hv; simpa using hv
  unfold incD; rw [this]; rfl
theorem chain_inc {d : DqbfP} (hm : mayD d = true) {ys : List Dep} (h3 : Sd (fun x : Dep => (x.2.length : Int)) ys) (h4 : Sim (fun x : Dep => (x.2.length : Int)) d.exist ys) (hl : linF [] [] ys = none) : ∃ (i k : Nat) (x y : Dep), k < i ∧ d.exist[i]? = some x ∧ d.exist[k]? = some y ∧ incD x y = true := by
  obtain ⟨m1, m2, m3, m4, m5, m6, m7⟩ := mayD_parts hm
  have hperm := h4.perm
  have key : ∀ x y : Dep, x ∈ ys → y ∈ ys → incD x y = true → ∃ (i k : Nat) (x y : Dep), k < i ∧ d.exist[i]? = some x ∧ d.exist[k]? = some y ∧ incD x y = true := fun x y hx hy h => by
    obtain ⟨i, hi⟩ := List.mem_iff_getElem?.1 (hperm.mem_iff.2 hx)
    obtain ⟨k, hk⟩ := List.mem_iff_getElem?.1 (hperm.mem_iff.2 hy)
    rcases Nat.lt_trichotomy i k with e | e | e
    · exact ⟨k, i, y, x, e, hk, hi, by rw [incD_comm]; exact h⟩
    · subst e; rw [hi] at hk; cases hk; rw [incD_self] at h; cases h
    · exact ⟨i, k, x, y, e, hi, hk, h⟩
  rcases chain_none ys [] [] hl (fun x hx => asc_nodup (riseS_asc (m7 x (hperm.mem_iff.2 hx)).1)) .nil (h3.imp fun {x y} h => (by simp at h; exact h)) (by simp) with ⟨x, hx, a, b⟩ | ⟨x, y, hx, hy, a, b⟩
  · exact absurd (fun v hv => by simp at hv) a
  · exact key x y hx hy (incD_of a b)
end Go.Gh
namespace Go.Gh
open Go.RowKit Go.Proofs
set_option linter.unusedVariables false
set_option linter.unusedSimpArgs false
set_option maxRecDepth 100000
def newS (s : List Int × List Int) (v : Int) : List Int × List Int := if s.1.contains v then s else (s.1 ++ [v], s.2 ++ [v])
def lvS (n : Nat) (s : List Int × List Int × List Int) (x : Dep) : List Int × List Int × List Int :=
  if x.2.length = n then ((x.2.foldl newS (s.1, s.2.1)).1, (x.2.foldl newS (s.1, s.2.1)).2, s.2.2 ++ [x.1]) else s
def levS (es : List Dep) (s : List Int × List Blk) (n : Nat) : List Int × List Blk :=
  ((es.foldl (lvS n) (s.1, [], [])).1, s.2 ++ [(false, (es.foldl (lvS n) (s.1, [], [])).2.1), (true, (es.foldl (lvS n) (s.1, [], [])).2.2)])
def levR (es : List Dep) (k : Nat) : List Int × List Blk := (List.range k).foldl (levS es) ([], [])
def incAny (es : List Dep) : Bool := es.any fun x => es.any fun z => incD x z
def linR (d : DqbfP) : List Blk × Int := if mayD d then (if incAny d.exist then ([], 30) else
  (joinB ((levR d.exist (d.univ.length + 1)).2 ++ [(false, d.univ.filter fun v => !(levR d.exist (d.univ.length + 1)).1.contains v)]), 0)) else ([], 2)
theorem newF_len : ∀ (l : List Int) (s : List Int × List Int), (l.foldl newS s).1.length ≤ s.1.length + l.length ∧ (l.foldl newS s).2.length ≤ s.2.length + l.length
  | [], s => by simp
  | v :: l, s => by
    have ih := newF_len l (newS s v)
    have h1 : (newS s v).1.length ≤ s.1.length + 1 ∧ (newS s v).2.length ≤ s.2.length + 1 := by unfold newS; split <;> simp
    rw [List.foldl_cons, List.length_cons]
    omega
theorem lvF_len {n : Nat} : ∀ (es : List Dep) (s : List Int × List Int × List Int), (es.foldl (lvS n) s).1.length ≤ s.1.length + lensD es ∧ (es.foldl (lvS n) s).2.1.length ≤ s.2.1.length + lensD es ∧ (es.foldl (lvS n) s).2.2.length ≤ s.2.2.length + es.length
  | [], s => by simp
  | x :: es, s => by
    have ih := lvF_len (n := n) es (lvS n s x)
    have h1 : (lvS n s x).1.length ≤ s.1.length + x.2.length ∧ (lvS n s x).2.1.length ≤ s.2.1.length + x.2.length ∧ (lvS n s x).2.2.length ≤ s.2.2.length + 1 := by
      unfold lvS
      split
      · have := newF_len x.2 (s.1, s.2.1)
        simp at this ⊢; omega
      · omega
    have h2 : lensD (x :: es) = x.2.length + 1 + lensD es := by simp [lensD]; omega
    rw [List.foldl_cons, List.length_cons, h2]
    omega
theorem lensD_take (es : List Dep) (i : Nat) : lensD (es.take i) ≤ lensD es := by
  have ap : ∀ a b : List Dep, lensD (a ++ b) = lensD a + lensD b := fun a b => by unfold lensD; simp; omega
  have := ap (es.take i) (es.drop i)
  rw [List.take_append_drop] at this
  omega
theorem levR_succ (es : List Dep) (k : Nat) : levR es (k + 1) = levS es (levR es k) k := by
  unfold levR; rw [List.range_succ, List.foldl_append]; rfl
theorem levR_len (es : List Dep) : ∀ k, (levR es k).1.length ≤ k * lensD es ∧ (levR es k).2.length = 2 * k ∧ lensB (levR es k).2 ≤ k * (2 * lensD es + 2)
  | 0 => by simp [levR, lensB]
  | k + 1 => by
    obtain ⟨i1, i2, i3⟩ := levR_len es k
    obtain ⟨l1, l2, l3⟩ := lvF_len (n := k) es ((levR es k).1, [], [])
    have h4 := lensD_len es
    simp only [List.length_nil, Nat.zero_add] at l2 l3
    rw [levR_succ]
    unfold levS
    refine ⟨?_, ?_, ?_⟩
    · rw [Nat.add_mul]; simp only at l1 ⊢; omega
    · simp [i2]; omega
    · have : ∀ (b : List Blk) (u v : List Int), lensB (b ++ [(false, u), (true, v)]) = lensB b + (u.length + v.length + 2) := fun b u v => by unfold lensB; simp; omega
      rw [this, Nat.add_mul]
      omega
/-- The heap in a round of the reference's Linear. -/
structure LvH (N L bx : Nat) (d : DqbfP) (σL : GS) (sn0 : DV) (σ' : GS) (sn us vs : DV) (seen u v : List Int) : Prop where
  keep : ∀ j, j < L → ¬ sn0.has j → σ'[j]? = σL[j]?
  a : σ'[L]? = some (.row false [.bool false, us])
  b : σ'[L + 1]? = some (.row false [.bool true, vs])
  x : σ'[bx]? = some (.row false (edqbf d))
  os : Own N 1 eint σ' sn seen
  ou : Own (L + 2) 1 eint σ' us u
  ov : Own (L + 2) 1 eint σ' vs v
  sl : ∀ k, sn.has k → sn0.has k ∨ L + 2 ≤ k
  s0 : ∀ k, sn0.has k → k < L
  d1 : ∀ k, sn.has k → ¬ us.has k
  d2 : ∀ k, sn.has k → ¬ vs.has k
  d3 : ∀ k, us.has k → ¬ vs.has k
variable {N L bx : Nat} {d : DqbfP} {σL : GS} {sn0 : DV} {σ' : GS} {sn us vs : DV} {seen u v : List Int}
theorem LvH.addV (h : LvH N L bx d σL sn0 σ' sn us vs seen u v) (hbN : bx < N) (hNL : N ≤ L) (hl : v.length < 2 ^ 40) (x : Int) :
    ∃ vs' σ2, gimp (.append 1 8) [vs, .slice σ'.length 0 1 1 (some 1)] (σ' ++ [.row false (eint x)]) = some (vs', σ2) ∧ gimp (.store 1) [.ptr (L + 1) 1, vs'] σ2 = some (.tuple [], σ2.set (L + 1) (.row false [.bool true, vs'])) ∧ LvH N L bx d σL sn0 (σ2.set (L + 1) (.row false [.bool true, vs'])) sn us vs' seen u (v ++ [x]) := by
  have hlen : L + 2 ≤ σ'.length := get_dom h.b
  obtain ⟨s', σ2, z1, z2, z3, z4, z5, z6⟩ := h.ov.push (by_ := 8) x (fun _ => rfl) (by simp) hlen (by omega) (by decide)
  have hb := (z3.get (L + 1) (by omega)).trans h.b
  have hsto := st_cell hb (k := 1) (v := s') (by simp) z2.flat
  simp only [List.set_cons_succ, List.set_cons_zero] at hsto
  have snb : ∀ j, sn.has j → j ≠ L + 1 := fun j hj e => by subst e; rcases h.sl _ hj with h1 | h1; have := h.s0 _ h1; omega; omega
  refine ⟨s', σ2, z1, hsto, fun j hj hn => ?_, ?_, by rw [List.getElem?_set_self (get_dom hb)], ?_, h.os.fit fun j hj => ?_, h.ou.fit fun j hj => ?_, z2.fit fun j hj => List.getElem?_set_ne (by have := z2.has_ge hj; omega), h.sl, h.s0, h.d1, fun k hk hk' => ?_, fun k hk hk' => ?_⟩
  · rw [List.getElem?_set_ne (by omega), z3.get _ (by omega)]; exact h.keep j hj hn
  · rw [List.getElem?_set_ne (by omega), z3.get _ (by omega)]; exact h.a
  · rw [List.getElem?_set_ne (by omega), z3.get _ (by omega)]; exact h.x
  · rw [List.getElem?_set_ne (by have := snb j hj; omega), z5 j (h.os.has_lt hj) (h.d2 j hj)]
  · rw [List.getElem?_set_ne (by have := h.ou.has_ge hj; omega), z5 j (h.ou.has_lt hj) (h.d3 j hj)]
  · rcases z6 k hk' with h1 | h1
    · exact h.d2 k hk h1
    · have := h.os.has_lt hk; omega
  · rcases z6 k hk' with h1 | h1
    · exact h.d3 k hk h1
    · have := h.ou.has_lt hk; omega
theorem LvH.addU (h : LvH N L bx d σL sn0 σ' sn us vs seen u v) (hbN : bx < N) (hNL : N ≤ L) (hl : u.length < 2 ^ 40) (x : Int) :
    ∃ us' σ2, gimp (.append 1 8) [us, .slice σ'.length 0 1 1 (some 1)] (σ' ++ [.row false (eint x)]) = some (us', σ2) ∧ gimp (.store 1) [.ptr L 1, us'] σ2 = some (.tuple [], σ2.set L (.row false [.bool false, us'])) ∧ LvH N L bx d σL sn0 (σ2.set L (.row false [.bool false, us'])) sn us' vs seen (u ++ [x]) v := by
  have hlen : L + 2 ≤ σ'.length := get_dom h.b
  obtain ⟨s', σ2, z1, z2, z3, z4, z5, z6⟩ := h.ou.push (by_ := 8) x (fun _ => rfl) (by simp) hlen (by omega) (by decide)
  have hb := (z3.get L (by omega)).trans h.a
  have hsto := st_cell hb (k := 1) (v := s') (by simp) z2.flat
  simp only [List.set_cons_succ, List.set_cons_zero] at hsto
  have snb : ∀ j, sn.has j → j ≠ L := fun j hj e => by subst e; rcases h.sl _ hj with h1 | h1; have := h.s0 _ h1; omega; omega
  refine ⟨s', σ2, z1, hsto, fun j hj hn => ?_, by rw [List.getElem?_set_self (get_dom hb)], ?_, ?_, h.os.fit fun j hj => ?_, z2.fit fun j hj => List.getElem?_set_ne (by have := z2.has_ge hj; omega), h.ov.fit fun j hj => ?_, h.sl, h.s0, fun k hk hk' => ?_, h.d2, fun k hk hk' => ?_⟩
  · rw [List.getElem?_set_ne (by omega), z3.get _ (by omega)]; exact h.keep j hj hn
  · rw [List.getElem?_set_ne (by omega), z3.get _ (by omega)]; exact h.b
  · rw [List.getElem?_set_ne (by omega), z3.get _ (by omega)]; exact h.x
  · rw [List.getElem?_set_ne (by have := snb j hj; omega), z5 j (h.os.has_lt hj) (h.d1 j hj)]
  · rw [List.getElem?_set_ne (by have := h.ov.has_ge hj; omega), z5 j (h.ov.has_lt hj) fun hh => h.d3 j hh hj]
  · rcases z6 k hk' with h1 | h1
    · exact h.d1 k hk h1
    · have := h.os.has_lt hk; omega
  · rcases z6 k hk with h1 | h1
    · exact h.d3 k h1 hk'
    · have := h.ov.has_lt hk'; omega
theorem LvH.addS (h : LvH N L bx d σL sn0 σ' sn us vs seen u v) (hbN : bx < N) (hNL : N ≤ L) (hbs : ¬ sn0.has bx) (hl : seen.length < 2 ^ 40) (x : Int) :
    ∃ sn' σ2, gimp (.append 1 8) [sn, .slice σ'.length 0 1 1 (some 1)] (σ' ++ [.row false (eint x)]) = some (sn', σ2) ∧ LvH N L bx d σL sn0 σ2 sn' us vs (seen ++ [x]) u v := by
  have hlen : L + 2 ≤ σ'.length := get_dom h.b
  obtain ⟨s', σ2, z1, z2, z3, z4, z5, z6⟩ := h.os.push (by_ := 8) x (fun _ => rfl) (by simp) (by omega) (by omega) (by decide)
  have ne : ∀ j, j < L + 2 → ¬ sn0.has j → ¬ sn.has j := fun j hj hn hh => by rcases h.sl j hh with h1 | h1; exact hn h1; omega
  have ge0 : ∀ j, L ≤ j → ¬ sn0.has j := fun j hj hh => by have := h.s0 j hh; omega
  refine ⟨s', σ2, z1, fun j hj hn => ?_, ?_, ?_, ?_, z2, h.ou.fit fun j hj => z5 j (h.ou.has_lt hj) fun hh => h.d1 j hh hj, h.ov.fit fun j hj => z5 j (h.ov.has_lt hj) fun hh => h.d2 j hh hj, fun k hk => ?_, h.s0, fun k hk hk' => ?_, fun k hk hk' => ?_, h.d3⟩
  · rw [z5 j (by omega) (ne j (by omega) hn)]; exact h.keep j hj hn
  · rw [z5 _ (by omega) (ne _ (by omega) (ge0 _ (by omega)))]; exact h.a
  · rw [z5 _ (by omega) (ne _ (by omega) (ge0 _ (by omega)))]; exact h.b
  · rw [z5 _ (by omega) (ne _ (by omega) hbs)]; exact h.x
  · rcases z6 k hk with h1 | h1
    · exact h.sl k h1
    · exact .inr (by omega)
  · rcases z6 k hk with h1 | h1
    · exact h.d1 k h1 hk'
    · have := h.ou.has_lt hk'; omega
  · rcases z6 k hk with h1 | h1
    · exact h.d2 k h1 hk'
    · have := h.ov.has_lt hk'; omega
/-- What a list of blocks holds of the heap. -/
def JHas (s : DV) (raws : List (Bool × DV)) (k : Nat) : Prop := s.has k ∨ ∃ r ∈ raws, r.2.has k
theorem JX.fit {n : Nat} {σ σ' : GS} {s : DV} {raws : List (Bool × DV)} {bs : List Blk} (h : JX n σ s raws bs) (hf : ∀ i, JHas s raws i → σ'[i]? = σ[i]?) : JX n σ' s raws bs :=
  ⟨h.own.fit fun i hi => hf i (.inl hi), h.len, fun i r b h1 h2 => by
    obtain ⟨a, c⟩ := h.at_ i r b h1 h2
    exact ⟨a, c.imp id fun ⟨c, d⟩ => ⟨c.fit fun j hj => hf j (.inr ⟨r, List.mem_of_getElem? h1, hj⟩), d⟩⟩⟩
theorem JX.lt {n : Nat} {σ : GS} {s : DV} {raws : List (Bool × DV)} {bs : List Blk} (h : JX n σ s raws bs) {k : Nat} (hk : JHas s raws k) : n ≤ k ∧ k < σ.length := by
  rcases hk with hk | ⟨r, hr, hk⟩
  · exact ⟨h.own.has_ge hk, h.own.has_lt hk⟩
  · obtain ⟨i, hi⟩ := List.mem_iff_getElem?.1 hr
    have hil := get_dom hi
    rw [h.len] at hil
    obtain ⟨a, c⟩ := h.at_ i r _ hi (List.getElem?_eq_getElem hil)
    rcases c with c | ⟨c, _⟩
    · rw [c] at hk; obtain ⟨_, _, _, _, e⟩ := hk; cases e
    · exact ⟨c.has_ge hk, c.has_lt hk⟩
theorem JX.pushK {n : Nat} {σ : GS} {s : DV} {raws new : List (Bool × DV)} {bs nb : List Blk} (h : JX n σ s raws bs) (hx : ∀ r ∈ new, r.2.flat = true) (hlen : new.length = nb.length) (hne : new ≠ [])
    (hn : ∀ (i : Nat) r b, new[i]? = some r → nb[i]? = some b → r.1 = b.1 ∧ (r.2 = fints b.2 ∨ (Own n 1 eint σ r.2 b.2 ∧ ∀ k, r.2.has k → ¬ s.has k))) (hl : n ≤ σ.length) (hgo : (bs.length + nb.length) * 32 ≤ 140737488355328) :
    ∃ s' σ', gimp (.append 2 32) [s, .slice σ.length 0 new.length 2 (some new.length)] (σ ++ [.row false (new.flatMap eraw)]) = some (s', σ') ∧ JX n σ' s' (raws ++ new) (bs ++ nb) ∧ Fr n σ σ' ∧ σ.length ≤ σ'.length ∧ (∀ i, i < σ.length → ¬ s.has i → σ'[i]? = σ[i]?) ∧ (∀ i, s'.has i → s.has i ∨ σ.length ≤ i) := by
  have hx1 : Own n 2 eraw (σ ++ [.row false (new.flatMap eraw)]) (.slice σ.length 0 new.length 2 (some new.length)) new := Own.at_ hl (by simp) (by simp)
  obtain ⟨r1, r2⟩ := hx1.read (fun _ => rfl)
  obtain ⟨s', σ', q1, q2, q3, q4, q5, q6, _⟩ := (h.own.fr (Fr.rfl'.app [.row false (new.flatMap eraw)])).append (by_ := 32) (ys := new) (fun _ => rfl) r1 r2 (fun y hy => by simp [hx y hy]) (by simp; omega) (by rw [h.len, hlen]; exact hgo) (by decide)
  obtain ⟨s2, σ2, p1, p2, p3, p4, p5⟩ := h.push hx hlen hne hn hl hgo
  rw [q1] at p1
  cases p1
  exact ⟨s', σ', q1, p2, p3, p4, p5, fun i hi => (q6 i hi).imp id fun h => by simp at h; omega⟩
theorem incAny_of {es : List Dep} {i k : Nat} {x z : Dep} (hx : es[i]? = some x) (hz : es[k]? = some z) (h : incD x z = true) : incAny es = true := by
  unfold incAny
  rw [List.any_eq_true]
  exact ⟨x, List.mem_of_getElem? hx, by rw [List.any_eq_true]; exact ⟨z, List.mem_of_getElem? hz, h⟩⟩
theorem incAny_not {es : List Dep} (h : ∀ (i k : Nat) x z, i < es.length → k < i → es[i]? = some x → es[k]? = some z → incD x z = false) : incAny es = false := by
  rw [← Bool.not_eq_true]
  intro ht
  unfold incAny at ht
  rw [List.any_eq_true] at ht
  obtain ⟨x, hx, ht⟩ := ht
  rw [List.any_eq_true] at ht
  obtain ⟨z, hz, ht⟩ := ht
  obtain ⟨i, hi⟩ := List.mem_iff_getElem?.1 hx
  obtain ⟨k, hk⟩ := List.mem_iff_getElem?.1 hz
  rcases Nat.lt_trichotomy i k with e | e | e
  · have := h k i z x (get_dom hk) e hk hi
    rw [incD_comm, this] at ht; cases ht
  · subst e; rw [hi] at hk; cases hk; rw [incD_self] at ht; cases ht
  · have := h i k x z (get_dom hi) e hi hk
    rw [this] at ht; cases ht
end Go.Gh
namespace Go.Gh
set_option linter.unusedVariables false
set_option linter.unusedSimpArgs false
theorem linF_app : ∀ (a b : List Dep) (on : List Int) (acc : List Blk), linF on acc (a ++ b) = match linF on acc a with | some r => linF r.1 r.2 b | none => none
  | [], b, on, acc => by simp [linF]
  | x :: a, b, on, acc => by
    rw [List.cons_append, linF, linF]
    split
    · exact linF_app a b _ _
    · rfl
/-- Where there is a prefix the rows are a chain. -/
theorem linF_chain : ∀ (l : List Dep) (on : List Int) (acc : List Blk) (r : List Int × List Blk), linF on acc l = some r → (∀ x ∈ l, ∀ v ∈ on, v ∈ x.2) ∧ l.Pairwise fun x y => ∀ v ∈ x.2, v ∈ y.2
  | [], on, acc, r, h => ⟨by simp, .nil⟩
  | x :: l, on, acc, r, h => by
    rw [linF] at h
    split at h
    · rename_i hc
      rw [List.all_eq_true] at hc
      have hc' : ∀ v ∈ on, v ∈ x.2 := fun v hv => by simpa using hc v hv
      obtain ⟨i1, i2⟩ := linF_chain l _ _ r h
      refine ⟨fun y hy v hv => ?_, List.pairwise_cons.2 ⟨i1, i2⟩⟩
      rcases List.mem_cons.1 hy with rfl | hy
      · exact hc' v hv
      · exact i1 y hy v (hc' v hv)
    · cases h
theorem incD_not {x y : Dep} (h : incD x y = false) : (∀ v ∈ x.2, v ∈ y.2) ∨ ∀ v ∈ y.2, v ∈ x.2 := by
  rcases Classical.em (∀ v ∈ x.2, v ∈ y.2) with a | a
  · exact .inl a
  rcases Classical.em (∀ v ∈ y.2, v ∈ x.2) with b | b
  · exact .inr b
  rw [incD_of a b] at h; cases h
theorem incD_sub {x y : Dep} (h : ∀ v ∈ x.2, v ∈ y.2) : incD x y = false := by
  have : (x.2.all fun v => y.2.contains v) = true := by rw [List.all_eq_true]; intro v hv; simpa using h v hv
  unfold incD; rw [this]; rfl
theorem chain_incAny {es ys : List Dep} (hp : es.Perm ys) {r : List Int × List Blk} (h : linF [] [] ys = some r) : incAny es = false := by
  obtain ⟨_, h2⟩ := linF_chain ys _ _ r h
  rw [← Bool.not_eq_true]
  intro ht
  unfold incAny at ht
  rw [List.any_eq_true] at ht
  obtain ⟨x, hx, ht⟩ := ht
  rw [List.any_eq_true] at ht
  obtain ⟨z, hz, ht⟩ := ht
  obtain ⟨i, hi⟩ := List.mem_iff_getElem?.1 (hp.mem_iff.1 hx)
  obtain ⟨k, hk⟩ := List.mem_iff_getElem?.1 (hp.mem_iff.1 hz)
  have hil := get_dom hi
  have hkl := get_dom hk
  have ei : ys[i] = x := by rw [List.getElem?_eq_getElem hil] at hi; exact Option.some.inj hi
  have ek : ys[k] = z := by rw [List.getElem?_eq_getElem hkl] at hk; exact Option.some.inj hk
  rcases Nat.lt_trichotomy i k with e | e | e
  · have := (List.pairwise_iff_getElem.1 h2) i k hil hkl e
    rw [ei, ek] at this
    rw [incD_sub this] at ht; cases ht
  · subst e; rw [hi] at hk; cases hk; rw [incD_self] at ht; cases ht
  · have := (List.pairwise_iff_getElem.1 h2) k i hkl hil e
    rw [ei, ek] at this
    rw [incD_comm, incD_sub this] at ht; cases ht
theorem incAny_mem {es : List Dep} (h : incAny es = false) {x y : Dep} (hx : x ∈ es) (hy : y ∈ es) : incD x y = false := by
  rw [← Bool.not_eq_true] at h ⊢
  intro hh
  refine h ?_
  unfold incAny
  rw [List.any_eq_true]
  exact ⟨x, hx, by rw [List.any_eq_true]; exact ⟨y, hy, hh⟩⟩
theorem newF_filter : ∀ (o s u : List Int), o.Nodup → o.foldl newS (s, u) = (s ++ o.filter (fun v => !s.contains v), u ++ o.filter fun v => !s.contains v)
  | [], s, u, _ => by simp
  | v :: o, s, u, h => by
    have h1 := List.nodup_cons.1 h
    rw [List.foldl_cons, newS]
    cases hc : s.contains v with
    | true =>
      rw [if_pos rfl, newF_filter o s u h1.2, List.filter_cons, hc]
      rfl
    | false =>
      rw [if_neg (by simp), newF_filter o _ _ h1.2, List.filter_cons, hc]
      have : o.filter (fun x => !(s ++ [v]).contains x) = o.filter fun x => !s.contains x := by
        refine List.filter_congr fun x hx => ?_
        have hne : x ≠ v := fun e => h1.1 (by rw [← e]; exact hx)
        congr 1
        rw [Bool.eq_iff_iff]
        simp [hne]
      rw [this]
      simp
theorem newF_all : ∀ (o s u : List Int), (∀ v ∈ o, v ∈ s) → o.foldl newS (s, u) = (s, u)
  | [], s, u, _ => rfl
  | v :: o, s, u, h => by
    have : s.contains v = true := by simpa using h v (by simp)
    rw [List.foldl_cons, newS, this, if_pos rfl]
    exact newF_all o s u fun x hx => h x (by simp [hx])
def lvG (s : List Int × List Int × List Int) (x : Dep) : List Int × List Int × List Int := ((x.2.foldl newS (s.1, s.2.1)).1, (x.2.foldl newS (s.1, s.2.1)).2, s.2.2 ++ [x.1])
theorem lvF_filter (n : Nat) : ∀ (es : List Dep) (s : List Int × List Int × List Int), es.foldl (lvS n) s = (es.filter fun x => decide (x.2.length = n)).foldl lvG s
  | [], s => rfl
  | x :: es, s => by
    rw [List.foldl_cons, List.filter_cons]
    by_cases h : x.2.length = n
    · simp only [h, decide_true, if_true, List.foldl_cons]
      rw [lvF_filter n es]
      unfold lvS
      rw [if_pos h]
      rfl
    · simp only [h, decide_false, Bool.false_eq_true, if_false]
      rw [lvF_filter n es]
      unfold lvS
      rw [if_neg h]
theorem lvG_all : ∀ (g : List Dep) (s u w : List Int), (∀ x ∈ g, ∀ v ∈ x.2, v ∈ s) → g.foldl lvG (s, u, w) = (s, u, w ++ g.map (·.1))
  | [], s, u, w, _ => by simp
  | x :: g, s, u, w, h => by
    rw [List.foldl_cons, lvG]
    simp only
    rw [newF_all _ _ _ (h x (by simp)), lvG_all g _ _ _ fun y hy => h y (by simp [hy])]
    simp
abbrev szD (x : Dep) : Int := (x.2.length : Int)
def grp (es : List Dep) (n : Nat) : List Dep := es.filter fun x => decide (x.2.length = n)
def grps (es : List Dep) (k : Nat) : List Dep := (List.range k).flatMap (grp es)
theorem grps_succ (es : List Dep) (k : Nat) : grps es (k + 1) = grps es k ++ grp es k := by
  unfold grps; rw [List.range_succ, List.flatMap_append]; simp
theorem mem_grp {es : List Dep} {n : Nat} {x : Dep} : x ∈ grp es n ↔ x ∈ es ∧ x.2.length = n := by unfold grp; simp
theorem mem_grps {es : List Dep} {k : Nat} {x : Dep} : x ∈ grps es k ↔ x ∈ es ∧ x.2.length < k := by
  unfold grps
  rw [List.mem_flatMap]
  constructor
  · rintro ⟨n, hn, hx⟩
    have := mem_grp.1 hx
    exact ⟨this.1, by have := List.mem_range.1 hn; omega⟩
  · rintro ⟨h1, h2⟩
    exact ⟨x.2.length, List.mem_range.2 h2, mem_grp.2 ⟨h1, rfl⟩⟩
theorem grps_sd (es : List Dep) : ∀ k, Sd szD (grps es k)
  | 0 => .nil
  | k + 1 => by
    rw [grps_succ]
    refine Sd.append.2 ⟨grps_sd es k, ?_, fun x hx y hy => ?_⟩
    · refine List.Pairwise.imp_of_mem (R := fun _ _ => True) (fun {x y} hx hy _ => ?_) (List.pairwise_of_forall (by simp))
      have := (mem_grp.1 hx).2
      have := (mem_grp.1 hy).2
      show (x.2.length : Int) ≤ y.2.length
      omega
    · have := (mem_grps.1 hx).2
      have := (mem_grp.1 hy).2
      show (x.2.length : Int) ≤ y.2.length
      omega
theorem grps_filter (es : List Dep) (n : Int) : ∀ k, (grps es k).filter (fun d => szD d == n) = if n < k then es.filter (fun d => szD d == n) else []
  | 0 => by
    have e : grps es 0 = [] := rfl
    rw [e, List.filter_nil]
    split
    · rename_i h
      symm
      rw [List.filter_eq_nil_iff]
      intro x _ hh
      simp [szD] at hh
      omega
    · rfl
  | k + 1 => by
    rw [grps_succ, List.filter_append, grps_filter es n k]
    have hg : (grp es k).filter (fun d => szD d == n) = if n = k then es.filter (fun d => szD d == n) else [] := by
      unfold grp
      rw [List.filter_filter]
      split
      · rename_i h
        subst h
        refine List.filter_congr fun x _ => ?_
        unfold szD
        rw [Bool.eq_iff_iff]; simp; omega
      · rename_i h
        rw [List.filter_eq_nil_iff]
        intro x _ hh
        simp [szD] at hh
        omega
    rw [hg]
    by_cases h1 : n < k
    · rw [if_pos h1, if_neg (by omega), if_pos (by omega), List.append_nil]
    · rw [if_neg h1, List.nil_append]
      by_cases h2 : n = k
      · rw [if_pos h2, if_pos (by omega)]
      · rw [if_neg h2, if_neg (by omega)]
theorem ys_grps {es ys : List Dep} {k : Nat} (hk : ∀ x ∈ es, x.2.length < k) (h3 : Sd szD ys) (h4 : Sim szD es ys) : ys = grps es k := by
  refine stable_one (grps_sd es k) h3 fun n => ?_
  rw [h4 n, grps_filter]
  split
  · rfl
  · rw [List.filter_eq_nil_iff]
    intro x hx hh
    have := hk x hx
    simp [szD] at hh
    omega
theorem asc_same {a b : List Int} (ha : a.Pairwise (· < ·)) (hb : b.Pairwise (· < ·)) (hs : ∀ v ∈ a, v ∈ b) (hl : b.length ≤ a.length) : a = b :=
  ascEq ha hb fun v => ⟨hs v, sub_all (asc_nodup ha) hs hl v⟩
/-- The levels of the reference are the rows by size. -/
theorem levels {es : List Dep} (ha : ∀ x ∈ es, x.2.Pairwise (· < ·)) (hi : incAny es = false) : ∀ k, ∃ on acc, linF [] [] (grps es k) = some (on, acc) ∧ (∀ v, v ∈ on ↔ v ∈ (levR es k).1) ∧ (∀ s, acc.foldl joinStep s = (levR es k).2.foldl joinStep s) ∧ (on = [] ∨ ∃ y ∈ es, y.2.length < k ∧ on = y.2)
  | 0 => ⟨[], [], rfl, by simp [levR], by simp [levR], .inl rfl⟩
  | k + 1 => by
    obtain ⟨on, acc, h1, h2, h3, h4⟩ := levels ha hi k
    rw [grps_succ, linF_app, h1, levR_succ]
    simp only
    unfold levS
    rw [lvF_filter]
    show ∃ on' acc', linF on acc (grp es k) = some (on', acc') ∧ _
    have hgrp : es.filter (fun x => decide (x.2.length = k)) = grp es k := rfl
    rw [hgrp]
    obtain ⟨S, hS⟩ : ∃ S, (levR es k).1 = S := ⟨_, rfl⟩
    obtain ⟨B, hB⟩ : ∃ B, (levR es k).2 = B := ⟨_, rfl⟩
    rw [hS, hB]
    rw [hS] at h2
    rw [hB] at h3
    cases hg : grp es k with
    | nil =>
      refine ⟨on, acc, by rw [linF], by simpa using h2, fun s => ?_, ?_⟩
      · simp only [List.foldl_nil]
        rw [List.foldl_append, h3 s, List.foldl_cons, List.foldl_cons, joinStep_nil, joinStep_nil]
        rfl
      · rcases h4 with h4 | ⟨y, a, b, c⟩
        · exact .inl h4
        · exact .inr ⟨y, a, by omega, c⟩
    | cons x g =>
      have hx := mem_grp.1 (show x ∈ grp es k by rw [hg]; simp)
      have hall : ∀ y ∈ g, y.2 = x.2 := fun y hy => by
        have hy' := mem_grp.1 (show y ∈ grp es k by rw [hg]; simp [hy])
        rcases incD_not (incAny_mem hi hy'.1 hx.1) with e | e
        · exact asc_same (ha y hy'.1) (ha x hx.1) e (by omega)
        · exact (asc_same (ha x hx.1) (ha y hy'.1) e (by omega)).symm
      have hsub : ∀ v ∈ on, v ∈ x.2 := by
        rcases h4 with h4 | ⟨y, a, b, c⟩
        · rw [h4]; simp
        · rw [c]
          rcases incD_not (incAny_mem hi a hx.1) with e | e
          · exact e
          · have := (asc_same (ha x hx.1) (ha y a) e (by omega))
            rw [this] at hx; omega
      have hxn := asc_nodup (ha x hx.1)
      have hgm : g = (g.map (·.1)).map fun v => (v, x.2) := by
        rw [List.map_map]
        conv => lhs; rw [← List.map_id g]
        refine List.map_congr_left fun y hy => ?_
        show y = (y.1, x.2)
        rw [← hall y hy]
      have hfil : x.2.filter (fun v => !on.contains v) = x.2.filter fun v => !S.contains v := by
        refine List.filter_congr fun v _ => ?_
        congr 1
        rw [Bool.eq_iff_iff]
        simp [h2 v]
      have hmem : ∀ v, v ∈ x.2 ↔ v ∈ S ++ x.2.filter fun v => !S.contains v := fun v => by
        rw [List.mem_append, List.mem_filter]
        simp only [Bool.not_eq_true', ← Bool.not_eq_true, List.contains_iff_mem]
        constructor
        · intro h
          by_cases h' : v ∈ S
          · exact .inl h'
          · exact .inr ⟨h, h'⟩
        · rintro (h | ⟨h, _⟩)
          · exact hsub v ((h2 v).2 h)
          · exact h
      have hlv : (x :: g).foldl lvG (S, [], []) = (S ++ x.2.filter (fun v => !S.contains v), x.2.filter (fun v => !S.contains v), x.1 :: g.map (·.1)) := by
        rw [List.foldl_cons, lvG]
        simp only
        rw [newF_filter _ _ _ hxn]
        simp only [List.nil_append]
        rw [lvG_all g _ _ _ fun y hy v hv => (hmem v).1 (by rw [← hall y hy]; exact hv)]
        rfl
      rw [hlv]
      refine ⟨x.2, acc ++ [(false, x.2.filter fun v => !on.contains v), (true, [x.1])] ++ (g.map (·.1)).flatMap pairB, ?_, hmem, fun s => ?_, .inr ⟨x, hx.1, by omega, rfl⟩⟩
      · rw [linF, if_pos (by rw [List.all_eq_true]; intro v hv; simpa using hsub v hv)]
        have := linF_rows x.2 (g.map (·.1)) (acc ++ [(false, x.2.filter fun v => !on.contains v), (true, [x.1])]) []
        rw [← hgm, List.append_nil] at this
        rw [this, linF]
      · rw [hfil]
        have e : acc ++ [(false, x.2.filter fun v => !S.contains v), (true, [x.1])] ++ (g.map (·.1)).flatMap pairB = acc ++ ([(false, x.2.filter fun v => !S.contains v)] ++ ((true, [x.1]) :: (g.map (·.1)).flatMap pairB)) := by simp
        rw [e, List.foldl_append, List.foldl_append, List.foldl_append, h3 s, join_block]
        rfl
theorem lin_same {d : DqbfP} {ys : List Dep} (h : mayD d = true → Sd (fun x : Dep => (x.2.length : Int)) ys ∧ Sim (fun x : Dep => (x.2.length : Int)) d.exist ys) : linP d ys = linR d := by
  unfold linP linR
  cases hm : mayD d with
  | false => rfl
  | true =>
    obtain ⟨h3, h4⟩ := h hm
    obtain ⟨m1, m2, m3, m4, m5, m6, m7⟩ := mayD_parts hm
    simp only [if_true]
    have ha : ∀ x ∈ d.exist, x.2.Pairwise (· < ·) := fun x hx => riseS_asc (m7 x hx).1
    cases hl : linF [] [] ys with
    | none =>
      obtain ⟨i, k, x, y, _, hx, hy, hinc⟩ := chain_inc hm h3 h4 hl
      rw [incAny_of hx hy hinc]
      rfl
    | some r =>
      obtain ⟨on0, acc0⟩ := r
      have hno := chain_incAny h4.perm hl
      have hk : ∀ x ∈ d.exist, x.2.length < d.univ.length + 1 := fun x hx => by
        have h1 := (m7 x hx).2
        have h2 : (x.2.Perm (d.univ.filter fun v => x.2.contains v)) := (List.perm_ext_iff_of_nodup (asc_nodup (ha x hx)) ((asc_nodup (riseS_asc m3)).filter _)).2 fun v => by
          rw [List.mem_filter]; simp; exact h1 v
        have := h2.length_eq
        have := List.length_filter_le (fun v => x.2.contains v) d.univ
        omega
      have hys := ys_grps hk h3 h4
      obtain ⟨on, acc, e1, e2, e3, _⟩ := levels ha hno (d.univ.length + 1)
      rw [hys, e1] at hl
      obtain ⟨e5, e6⟩ := Prod.mk.inj (Option.some.inj hl)
      subst e5 e6
      rw [hno]
      simp only [Bool.false_eq_true, if_false]
      have hf : d.univ.filter (fun v => !on.contains v) = d.univ.filter fun v => !(levR d.exist (d.univ.length + 1)).1.contains v := by
        refine List.filter_congr fun v _ => ?_
        congr 1
        rw [Bool.eq_iff_iff]
        simp [e2 v]
      rw [hf]
      unfold joinB
      rw [List.foldl_append, List.foldl_append, e3]
end Go.Gh
namespace Go.Gh
set_option linter.unusedVariables false
set_option linter.unusedSimpArgs false
theorem Yr_find : ∀ {p : List Blk} {u : List Int} {j : Nat} {x : Dep}, (flatB p).Nodup → x ∈ Yr u p → ∃ k, findO j p x.1 = some (j + k, true) ∧ x.2 = sortZ (u ++ qB (p.take k) false)
  | [], u, j, x, _, h => by simp [Yr] at h
  | b :: p, u, j, x, hn, h => by
    rw [flatB_cons] at hn
    obtain ⟨n1, n2, n3⟩ := List.nodup_append.1 hn
    have later : ∀ {u : List Int}, x ∈ Yr u p → b.2.contains x.1 = false := fun {u} hx => by
      have : x.1 ∈ qB p true := by rw [← Yr_vars p u]; exact List.mem_map.2 ⟨x, hx, rfl⟩
      rw [← Bool.not_eq_true, List.contains_iff_mem]
      exact fun hb => n3 _ hb _ (mem_qB.2 (.inr this)) rfl
    rw [Yr] at h
    rw [findO]
    cases hb : b.1 with
    | true =>
      rw [hb, if_pos rfl] at h
      rcases List.mem_append.1 h with h | h
      · obtain ⟨v, hv, rfl⟩ := List.mem_map.1 h
        have : b.2.contains v = true := by simpa using hv
        rw [if_pos this]
        exact ⟨0, rfl, by simp [qB, flatB]⟩
      · rw [if_neg (by rw [later h]; simp)]
        obtain ⟨k, e1, e2⟩ := Yr_find (j := j + 1) n2 h
        refine ⟨k + 1, by rw [e1]; congr 2; omega, ?_⟩
        rw [e2, List.take_succ_cons, qB_cons, hb]
        simp
    | false =>
      rw [hb, if_neg (by simp)] at h
      rw [if_neg (by rw [later h]; simp)]
      obtain ⟨k, e1, e2⟩ := Yr_find (j := j + 1) n2 h
      refine ⟨k + 1, by rw [e1]; congr 2; omega, ?_⟩
      rw [e2, List.take_succ_cons, qB_cons, hb]
      simp
theorem findO_q : ∀ {p : List Blk} {j k : Nat} {v : Int} {e : Bool}, findO j p v = some (k, e) → v ∈ qB p e
  | [], j, k, v, e, h => by simp [findO] at h
  | b :: p, j, k, v, e, h => by
    rw [findO] at h
    rw [qB_cons]
    split at h
    · rename_i hc
      cases h
      have : v ∈ b.2 := by simpa using hc
      simp [this]
    · exact List.mem_append.2 (.inr (findO_q h))
theorem exQ_iff {p : List Blk} {v : Int} (hn : (flatB p).Nodup) (hv : v ∈ flatB p) : exQ p v = true ↔ v ∈ qB p true := by
  obtain ⟨⟨k, e⟩, hf⟩ := Option.isSome_iff_exists.1 (findO_in (p := p) (k := 0) hv)
  have hq := findO_q hf
  unfold exQ
  rw [hf]
  simp only
  constructor
  · rintro rfl; exact hq
  · intro h
    cases e with
    | true => rfl
    | false => exact absurd hq (qB_disj hn h)
theorem putB_sort {p : List Blk} (hn : (flatB p).Nodup) (k : Nat) : putB (p.take k) false = sortZ (qB (p.take k) false) := by
  have hs : (flatB (p.take k)).Nodup := by
    have : flatB p = flatB (p.take k) ++ flatB (p.drop k) := by rw [← flatB_append, List.take_append_drop]
    rw [this] at hn
    exact (List.nodup_append.1 hn).1
  obtain ⟨a, b⟩ := foldPut_asc (qB (p.take k) false) [] .nil
  unfold putB
  exact ascEq a (sortZ_asc (sub_nodup false hs)) fun x => by rw [b, sortZ_mem]; simp
theorem Yr_on' {p : List Blk} (hn : (flatB p).Nodup) {x : Dep} (h : x ∈ Yr [] p) : x.2 = onQ p x.1 := by
  obtain ⟨k, e1, e2⟩ := Yr_find (j := 0) hn h
  unfold onQ
  rw [e1]
  simp only [Nat.zero_add]
  rw [putB_sort hn, e2, List.nil_append]
theorem dqbf_same {q : QbfP} {es : List Dep} (h : mayQ q = true → (rowsT q.pre q.pre.length).Perm es ∧ es.Pairwise fun x y => x.1 ≤ y.1) : dqbfP q es = dqbfR q := by
  unfold dqbfP dqbfR
  cases hm : mayQ q with
  | false => rfl
  | true =>
  obtain ⟨h1, h2⟩ := h hm
  obtain ⟨hmb, _, _⟩ := mayQ_parts hm
  obtain ⟨m1, m2, m3⟩ := mayB_parts hmb
  have hnd := (singleS_nodup m3).1
  rw [rowsT_all] at h1
  have hvars : (es.map (·.1)).Perm (qB q.pre true) := by rw [← Yr_vars q.pre []]; exact (h1.map _).symm
  have hev : (es.map (·.1)).Nodup := hvars.nodup_iff.2 (sub_nodup true hnd)
  have hlt : es.Pairwise fun x y => x.1 < y.1 := by
    have h5 : es.Pairwise fun x y => x.1 ≠ y.1 := by
      have := hev
      unfold List.Nodup at this
      rwa [List.pairwise_map] at this
    exact (h2.and h5).imp fun ⟨a, b⟩ => by omega
  rw [varsB_sort hnd]
  have hsa := sortZ_asc hnd
  have e1 : uniR q.pre (sortZ (flatB q.pre)) = sortZ (qB q.pre false) := by
    refine ascEq (hsa.filter _) (sortZ_asc (sub_nodup false hnd)) fun v => ?_
    unfold uniR
    rw [List.mem_filter, sortZ_mem, sortZ_mem]
    simp only [Bool.not_eq_true', ← Bool.not_eq_true]
    constructor
    · rintro ⟨a, b⟩
      rw [exQ_iff hnd a] at b
      exact (mem_qB.1 a).resolve_right b
    · intro a
      have hv := mem_qB.2 (.inl a)
      exact ⟨hv, fun hh => qB_disj hnd ((exQ_iff hnd hv).1 hh) a⟩
  have e2 : exiR q.pre (sortZ (flatB q.pre)) = es := by
    refine depEq ?_ hlt fun x => ?_
    · unfold exiR
      rw [List.pairwise_map]
      exact hsa.filter _
    · unfold exiR
      rw [List.mem_map]
      constructor
      · rintro ⟨v, hv, rfl⟩
        obtain ⟨a, b⟩ := List.mem_filter.1 hv
        rw [sortZ_mem] at a
        have := (exQ_iff hnd a).1 b
        rw [← Yr_vars q.pre []] at this
        obtain ⟨y, hy, rfl⟩ := List.mem_map.1 this
        have := Yr_on' hnd hy
        rw [← this]
        exact h1.mem_iff.1 hy
      · intro hx
        have hx' := h1.mem_iff.2 hx
        have hv : x.1 ∈ qB q.pre true := by rw [← Yr_vars q.pre []]; exact List.mem_map.2 ⟨x, hx', rfl⟩
        have hf := mem_qB.2 (.inr hv)
        exact ⟨x.1, List.mem_filter.2 ⟨by rw [sortZ_mem]; exact hf, (exQ_iff hnd hf).2 hv⟩, by rw [← Yr_on' hnd hx']⟩
  rw [e1, e2]
end Go.Gh
namespace Go.Gh
open Go.RowKit Go.Proofs
set_option linter.unusedVariables false
set_option linter.unusedSimpArgs false
set_option maxRecDepth 100000
set_option maxHeartbeats 8000000 in
theorem r_Linear_ok {d : DqbfP} {σ : GS} {Post : DV → GS → Prop} (hd : d.univ.length + lensD d.exist < 2 ^ 24) (hc : lensC d.cls < 2 ^ 40) (hw : WfC d.cls) (h : Post (.tuple [fblks (linR d).1, .int .i64 (linR d).2]) σ) : GCall Tryz.prog F_skolemref03_Linear [d.enc] σ Post := by
  have hel := lensD_len d.exist
  have hcl : (DV.tuple [fblks (linR d).1, .int .i64 (linR d).2]).closed = true := by
    have hc := closed_fblks (linR d).1
    simp [DV.closed, closeds] at hc ⊢; exact hc
  refine GCall.pure (r := .tuple [fblks (linR d).1, .int .i64 (linR d).2]) ?_ hcl h
  refine gc_skolemref03_Linear ?_
  simp [G_skolemref03_Linear, genv0, List.replicate]
  refine r_MayDqbf_ok (by omega) hc hw ?_
  cases hm : mayD d with
  | false =>
    simp [linR, hm]
    exact .tuple (.cons (.nils 2) (.cons (.same _) .nil))
  | true =>
  obtain ⟨m1, m2, m3, m4, m5, m6, m7⟩ := mayD_parts hm
  have hu : d.univ.length ≤ 1024 := by have : d.all.length = d.univ.length + d.exist.length := by simp [DqbfP.all]
                                       omega
  simp
  refine gfor d.exist.length (fun i e σ' => σ' = σ ++ [.row false (edqbf d)] ∧ (∀ (i' k : Nat) x z, i' < i → k < i' → d.exist[i']? = some x → d.exist[k]? = some z → incD x z = false) ∧ e = mkEnv 175 [(1, .ptr σ.length 0), (4, .int .i64 i)]) _ ?_ ⟨rfl, fun i' k x z h => by omega, rfl⟩ ?_
  · simp [mkEnv, List.replicate]
  rintro i _ _ hi ⟨rfl, hI, rfl⟩
  simp [mkEnv, List.replicate]
  by_cases hlt : i < d.exist.length
  · obtain ⟨x, hx⟩ := nth_lt hlt
    have hx' := nth_get hx
    have hxl := lensD_mem (List.mem_of_getElem? hx')
    have es : IntKind.i64.wrap ((i : Int) + 1) = (i : Int) + 1 := by rw [wrap_small] <;> omega
    simp [hlt]
    refine gfor i (fun k e σ' => σ' = σ ++ [.row false (edqbf d)] ∧ (∀ (k' : Nat) z, k' < k → d.exist[k']? = some z → incD x z = false) ∧ e = mkEnv 175 [(1, .ptr σ.length 0), (4, .int .i64 i), (5, .int .i64 k)]) _ ?_ ⟨rfl, fun k' z h => by omega, rfl⟩ ?_
    · simp [mkEnv, List.replicate]
    rintro k _ _ hk ⟨rfl, hK, rfl⟩
    simp [mkEnv, List.replicate]
    by_cases hkl : k < i
    rotate_left
    · have : k = i := by omega
      subst this
      simp [es]
      refine forK_go _ hlt (by simp [mkEnv, List.replicate]) ⟨rfl, fun i' k' x' z' h1 h2 h3 h4 => ?_, rfl⟩
      by_cases e : i' = k
      · subst e; rw [hx'] at h3; cases h3; exact hK k' z' h2 h4
      · exact hI i' k' x' z' (by omega) h2 h3 h4
    obtain ⟨z, hz⟩ := nth_lt (l := d.exist) (i := k) (by omega)
    have hz' := nth_get hz
    have hzl := lensD_mem (List.mem_of_getElem? hz')
    have es3 : IntKind.i64.wrap ((k : Int) + 1) = (k : Int) + 1 := by rw [wrap_small] <;> omega
    simp [hkl, hx, hz]
    refine r_Part_ok (by omega) (by omega) ?_
    cases p1 : (x.2.all fun v => z.2.contains v) with
    | true =>
      simp [es3]
      refine forK_go _ hkl (by simp [mkEnv, List.replicate]) ⟨rfl, fun k' z' h1 h2 => ?_, rfl⟩
      by_cases e : k' = k
      · subst e; rw [hz'] at h2; cases h2; unfold incD; rw [p1]; rfl
      · exact hK k' z' (by omega) h2
    | false =>
      simp [hx, hz]
      refine r_Part_ok (by omega) (by omega) ?_
      cases p2 : (z.2.all fun v => x.2.contains v) with
      | true =>
        simp [es3]
        refine forK_go _ hkl (by simp [mkEnv, List.replicate]) ⟨rfl, fun k' z' h1 h2 => ?_, rfl⟩
        by_cases e : k' = k
        · subst e; rw [hz'] at h2; cases h2; unfold incD; rw [p1, p2]; rfl
        · exact hK k' z' (by omega) h2
      | false =>
        have hinc : incD x z = true := by unfold incD; rw [p1, p2]; rfl
        have := incAny_of hx' hz' hinc
        simp [linR, hm, this]
        exact .tuple (.cons (.nils 2) (.cons (.same _) .nil))
  have : i = d.exist.length := by omega
  subst this
  have hno := incAny_not hI
  clear hI
  have hlin : linR d = (joinB ((levR d.exist (d.univ.length + 1)).2 ++ [(false, d.univ.filter fun v => !(levR d.exist (d.univ.length + 1)).1.contains v)]), 0) := by
    unfold linR; rw [hm, if_pos rfl, hno]; rfl
  rw [hlin]
  clear hlin hlt
  obtain ⟨N, hN⟩ : ∃ N, σ.length + 1 = N := ⟨_, rfl⟩
  obtain ⟨σ0, hσ0⟩ : ∃ σ0, σ ++ [GObj.row false (edqbf d)] = σ0 := ⟨_, rfl⟩
  have h0len : σ0.length = N := by rw [← hσ0]; simp; omega
  have h0x : σ0[σ.length]? = some (.row false (edqbf d)) := by rw [← hσ0]; simp
  have h0k : ∀ j, j < σ.length → σ0[j]? = σ[j]? := fun j hj => by rw [← hσ0, List.getElem?_append_left hj]
  simp [hσ0]
  refine gfor (d.univ.length + 1) (fun n e σ' => ∃ (s sn : DV) (raws : List (Bool × DV)), Fr N σ0 σ' ∧ JX N σ' s raws (levR d.exist n).2 ∧ Own N 1 eint σ' sn (levR d.exist n).1 ∧ (∀ k, sn.has k → ¬ JHas s raws k) ∧ e = mkEnv 175 [(1, .ptr σ.length 0), (6, s), (7, sn), (8, .int .i64 n)]) _ ?_ ⟨.nils, .nils, [], Fr.refl (by omega), .nil, .nil, (fun k ⟨_, _, _, _, e⟩ => by cases e), rfl⟩ ?_
  · simp [mkEnv, List.replicate]
  rintro n _ σ1 hn ⟨s, sn0, raws, hF, hJ, hS, hD, rfl⟩
  have hx1 : σ1[σ.length]? = some (.row false (edqbf d)) := (hF.get _ (by omega)).trans h0x
  have lU : gload (.load 1 false) [.ptr σ.length 0] σ1 = some (fints d.univ) := by rw [ld_at hx1]; rfl
  obtain ⟨n1, n2, n3⟩ := levR_len d.exist n
  have hmul : n * lensD d.exist ≤ 1025 * lensD d.exist := Nat.mul_le_mul_right _ (by omega)
  have hmul2 : n * (2 * lensD d.exist + 2) ≤ 1025 * (2 * lensD d.exist + 2) := Nat.mul_le_mul_right _ (by omega)
  have hN1 : N ≤ σ1.length := hF.len
  simp [mkEnv, List.replicate, lU]
  have hfil : gfill [(0, 1)] [DV.bool false, DV.nils] [DV.bool true] = some [.bool true, .nils] := fill_one rfl
  have hnb : ¬ sn0.has σ.length := fun hh => by have := hS.has_ge hh; omega
  by_cases hlt : n ≤ d.univ.length
  · simp [hlt, hfil]
    obtain ⟨S0, hS0⟩ : ∃ S0 : List Int × List Int × List Int, ((levR d.exist n).1, [], []) = S0 := ⟨_, rfl⟩
    have hS01 : S0.1 = (levR d.exist n).1 := by rw [← hS0]
    have hS02 : S0.2.1 = [] := by rw [← hS0]
    have hS03 : S0.2.2 = [] := by rw [← hS0]
    obtain ⟨L, hL⟩ : ∃ L, σ1.length = L := ⟨_, rfl⟩
    simp only [hL]
    have hv0 : LvH N L σ.length d σ1 sn0 (σ1 ++ [GObj.row false [.bool false, .nils], .row false [.bool true, .nils]]) sn0 .nils .nils S0.1 S0.2.1 S0.2.2 := by
      rw [hS01, hS02, hS03]
      refine ⟨fun j hj _ => List.getElem?_append_left (by omega), by rw [List.getElem?_append_right (by omega)]; simp [hL], by rw [List.getElem?_append_right (by omega)]; simp [hL], by rw [List.getElem?_append_left (by omega)]; exact hx1, hS.fr (.app .rfl' _), .nil, .nil, fun k hk => .inl hk, fun k hk => by have := hS.has_lt hk; omega, ?_, ?_, ?_⟩
      · rintro k _ ⟨_, _, _, _, e⟩; cases e
      · rintro k _ ⟨_, _, _, _, e⟩; cases e
      · rintro k _ ⟨_, _, _, _, e⟩; cases e
    obtain ⟨σ2, hσ2⟩ : ∃ σ2, (σ1 ++ [GObj.row false [.bool false, .nils], .row false [.bool true, .nils]]) = σ2 := ⟨_, rfl⟩
    rw [hσ2] at hv0 ⊢
    have hlS := fun i => lvF_len (n := n) (d.exist.take i) S0
    have hlT := fun i => lensD_take d.exist i
    rw [hS01, hS02, hS03] at hlS
    simp only [List.length_nil, Nat.zero_add, List.length_take] at hlS
    refine gfor d.exist.length (fun i e σ' => ∃ sn us vs, LvH N L σ.length d σ1 sn0 σ' sn us vs ((d.exist.take i).foldl (lvS n) S0).1 ((d.exist.take i).foldl (lvS n) S0).2.1 ((d.exist.take i).foldl (lvS n) S0).2.2 ∧ e = mkEnv 175 [(1, .ptr σ.length 0), (6, s), (7, sn), (8, .int .i64 n), (9, .ptr L 0), (10, .ptr (L + 1) 0), (11, .int .i64 i)]) _ ?_ ⟨sn0, .nils, .nils, by simpa using hv0, rfl⟩ ?_
    · simp [mkEnv, List.replicate]
    clear hv0 hσ2
    clear σ2
    rintro i _ σ3 hi ⟨sn, us, vs, hV, rfl⟩
    have hli := hlS i
    have hlti := hlT i
    obtain ⟨St, hSt⟩ : ∃ St, (d.exist.take i).foldl (lvS n) S0 = St := ⟨_, rfl⟩
    rw [hSt] at hV hli
    have lE : gload (.load 1 false) [.ptr σ.length 1] σ3 = some (fdeps d.exist) := by rw [ld_at hV.x]; rfl
    simp [mkEnv, List.replicate, lE]
    by_cases hie : i < d.exist.length
    · obtain ⟨x, hx⟩ := nth_lt hie
      have hx' := nth_get hx
      have hxl := lensD_mem (List.mem_of_getElem? hx')
      have es : IntKind.i64.wrap ((i : Int) + 1) = (i : Int) + 1 := by rw [wrap_small] <;> omega
      have hstep : (d.exist.take (i + 1)).foldl (lvS n) S0 = lvS n St x := by rw [take_get hx', List.foldl_append, hSt]; rfl
      by_cases hxn : x.2.length = n
      rotate_left
      · have hxi : ¬ ((x.2.length : Int) = (n : Int)) := by omega
        simp [hie, hx, hxi, es, lE]
        refine forK_go _ hie (by simp [mkEnv, List.replicate]) ⟨sn, us, vs, ?_, rfl⟩
        rw [hstep]
        unfold lvS
        rw [if_neg hxn]
        exact hV
      have lV : gload (.load 1 false) [.ptr (L + 1) 1] σ3 = some vs := by rw [ld_at hV.b]; rfl
      obtain ⟨vs', σ4, a1, a2, a3⟩ := hV.addV (by omega) (by omega) (by omega) x.1
      simp [hie, hx, hxn, lV, a1, a2, lE]
      refine gfor n (fun j e σ' => ∃ sn us, LvH N L σ.length d σ1 sn0 σ' sn us vs' ((x.2.take j).foldl newS (St.1, St.2.1)).1 ((x.2.take j).foldl newS (St.1, St.2.1)).2 (St.2.2 ++ [x.1]) ∧ e = mkEnv 175 [(1, .ptr σ.length 0), (6, s), (7, sn), (8, .int .i64 n), (9, .ptr L 0), (10, .ptr (L + 1) 0), (11, .int .i64 i), (12, .int .i64 j)]) _ ?_ ⟨sn, us, by simpa using a3, rfl⟩ ?_
      · simp [mkEnv, List.replicate]
      clear a1 a2 a3 lV lE hV
      clear σ4 σ3 sn us vs
      rintro j _ σ3 hj ⟨sn, us, hV, rfl⟩
      have hlj := newF_len (x.2.take j) (St.1, St.2.1)
      simp only [List.length_take] at hlj
      have lE : gload (.load 1 false) [.ptr σ.length 1] σ3 = some (fdeps d.exist) := by rw [ld_at hV.x]; rfl
      have lW : gload (.load 1 false) [.ptr L 1] σ3 = some us := by rw [ld_at hV.a]; rfl
      simp [mkEnv, List.replicate]
      by_cases hjn : j < n
      · obtain ⟨y, hy⟩ := nth_lt (l := x.2) (i := j) (by omega)
        have hy' := nth_get hy
        have es3 : IntKind.i64.wrap ((j : Int) + 1) = (j : Int) + 1 := by rw [wrap_small] <;> omega
        have hstj : (x.2.take (j + 1)).foldl newS (St.1, St.2.1) = newS ((x.2.take j).foldl newS (St.1, St.2.1)) y := by rw [take_get hy', List.foldl_append]; rfl
        obtain ⟨Sj, hSj⟩ : ∃ Sj, (x.2.take j).foldl newS (St.1, St.2.1) = Sj := ⟨_, rfl⟩
        rw [hSj] at hV hstj hlj
        simp [hjn, lE, hx, hy]
        refine GCall.borrow (args' := [fints Sj.1, .int .i64 y]) (r := .bool (Sj.1.contains y)) (.cons (hV.os.rd (fun _ => rfl) fun _ _ => trivial) (.cons (.same _) .nil)) (by simp) rfl (r_Has_ok (by omega) rfl) ?_
        cases hc : Sj.1.contains y with
        | true =>
          simp [es3]
          refine forK_go _ hjn (by simp [mkEnv, List.replicate]) ⟨sn, us, ?_, rfl⟩
          rw [hstj]
          unfold newS
          rw [hc, if_pos rfl]
          exact hV
        | false =>
          obtain ⟨us', σ4, a1, a2, a3⟩ := hV.addU (by omega) (by omega) (by omega) y
          obtain ⟨sn', σ5, b1, b3⟩ := a3.addS (by omega) (by omega) hnb (by omega) y
          have lE4 : gload (.load 1 false) [.ptr σ.length 1] (σ4.set L (.row false [.bool false, us'])) = some (fdeps d.exist) := by rw [ld_at a3.x]; rfl
          rw [List.length_set] at b1
          simp [hx, hy, lE, lW, a1, a2, lE4, b1, es3]
          refine forK_go _ hjn (by simp [mkEnv, List.replicate]) ⟨sn', us', ?_, rfl⟩
          rw [hstj]
          unfold newS
          rw [hc, if_neg (by simp)]
          exact b3
      · have : j = n := by omega
        subst this
        simp [es]
        refine forK_go _ hie (by simp [mkEnv, List.replicate]) ⟨sn, us, vs', ?_, rfl⟩
        rw [hstep]
        unfold lvS
        rw [if_pos hxn]
        rw [List.take_of_length_le (by omega)] at hV
        exact hV
    · have : i = d.exist.length := by omega
      subst this
      rw [List.take_length] at hSt
      have hA : gload (.load 2 true) [.ptr L 0] σ3 = some (.agg [.bool false, us]) := ld_agg2 hV.a
      have hB : gload (.load 2 true) [.ptr (L + 1) 0] σ3 = some (.agg [.bool true, vs]) := ld_agg2 hV.b
      have hlev : levR d.exist (n + 1) = (St.1, (levR d.exist n).2 ++ [(false, St.2.1), (true, St.2.2)]) := by
        rw [levR_succ]; unfold levS; rw [hS0, hSt]
      have esn : IntKind.i64.wrap ((n : Int) + 1) = (n : Int) + 1 := by rw [wrap_small] <;> omega
      have hJ3 : JX N σ3 s raws (levR d.exist n).2 := hJ.fit fun k hk => hV.keep k (by have := (hJ.lt hk).2; omega) fun hh => hD k hh hk
      have hge : L + 2 ≤ σ3.length := get_dom hV.b
      obtain ⟨s', σ4, q1, q2, q3, q4, q5, q6⟩ := hJ3.pushK (new := [(false, us), (true, vs)]) (nb := [(false, St.2.1), (true, St.2.2)]) (by
        intro r hr
        simp at hr
        rcases hr with rfl | rfl
        · exact hV.ou.flat
        · exact hV.ov.flat) rfl (by simp) (fun i r b h1 h2 => by
        rcases i with _ | _ | i
        · simp at h1 h2; subst h1 h2
          exact ⟨rfl, .inr ⟨hV.ou.weaken (by omega), fun k hk hk' => by have := hV.ou.has_ge hk; have := (hJ.lt (.inl hk')).2; omega⟩⟩
        · simp at h1 h2; subst h1 h2
          exact ⟨rfl, .inr ⟨hV.ov.weaken (by omega), fun k hk hk' => by have := hV.ov.has_ge hk; have := (hJ.lt (.inl hk')).2; omega⟩⟩
        · simp at h1) (by omega) (by simp; omega)
      have q1' : gimp (.append 2 32) [s, .slice σ3.length 0 2 2 (some 2)] (σ3 ++ [.row false [.bool false, us, .bool true, vs]]) = some (s', σ4) := q1
      have hsn : ∀ k, sn.has k → ¬ JHas s raws k := fun k hk hk' => by
        rcases hV.sl k hk with h1 | h1
        · exact hD k h1 hk'
        · have := (hJ.lt hk').2; omega
      simp [hA, hB, ga_b2, q1', esn]
      refine forK_go _ (by omega) (by simp [mkEnv, List.replicate]) ⟨s', sn, _, ?_, by rw [hlev]; exact q2, ?_, ?_, rfl⟩
      · refine ⟨by have := hF.len; omega, fun j hj => ?_⟩
        rw [q3.get j hj, hV.keep j (by omega) fun hh => by have := hS.has_ge hh; omega, hF.get j hj]
      · rw [hlev]
        exact hV.os.fit fun k hk => q5 k (hV.os.has_lt hk) fun hh => hsn k hk (.inl hh)
      · rintro k hk (h1 | ⟨r, hr, h1⟩)
        · rcases q6 k h1 with h2 | h2
          · exact hsn k hk (.inl h2)
          · have := hV.os.has_lt hk; omega
        · rcases List.mem_append.1 hr with hr | hr
          · exact hsn k hk (.inr ⟨r, hr, h1⟩)
          · simp at hr
            rcases hr with rfl | rfl
            · exact hV.d1 k hk h1
            · exact hV.d2 k hk h1
  · have : n = d.univ.length + 1 := by omega
    subst this
    simp [hlt]
    obtain ⟨M, hM⟩ : ∃ M, σ1.length = M := ⟨_, rfl⟩
    simp only [hM]
    obtain ⟨seen, hseen⟩ : ∃ seen, (levR d.exist (d.univ.length + 1)).1 = seen := ⟨_, rfl⟩
    rw [hseen] at hS n1 ⊢
    refine gfor d.univ.length (fun i e σ' => ∃ ws, (∀ j, j < M → σ'[j]? = σ1[j]?) ∧ σ'[M]? = some (.row false [.bool false, ws]) ∧ Own (M + 1) 1 eint σ' ws ((d.univ.take i).filter fun v => !seen.contains v) ∧ e = mkEnv 175 [(1, .ptr σ.length 0), (6, s), (7, sn0), (13, .ptr M 0), (14, .int .i64 i)]) _ ?_ ⟨.nils, fun j hj => List.getElem?_append_left (by omega), by rw [List.getElem?_append_right (by omega)]; simp [hM], by simpa using Own.nil, rfl⟩ ?_
    · simp [mkEnv, List.replicate]
    rintro i _ σ3 hi ⟨ws, g1, g2, hO, rfl⟩
    have hx3 : σ3[σ.length]? = some (.row false (edqbf d)) := (g1 _ (by omega)).trans hx1
    have lU3 : gload (.load 1 false) [.ptr σ.length 0] σ3 = some (fints d.univ) := by rw [ld_at hx3]; rfl
    have lW : gload (.load 1 false) [.ptr M 1] σ3 = some ws := by rw [ld_at g2]; rfl
    have hge : M + 1 ≤ σ3.length := get_dom g2
    simp [mkEnv, List.replicate, lU3]
    by_cases hiu : i < d.univ.length
    · obtain ⟨y, hy⟩ := nth_lt hiu
      have hy' := nth_get hy
      have es : IntKind.i64.wrap ((i : Int) + 1) = (i : Int) + 1 := by rw [wrap_small] <;> omega
      have hS3 := hS.fit (σ' := σ3) fun j hj => g1 j (by have := hS.has_lt hj; omega)
      simp [hiu, lU3, hy]
      refine GCall.borrow (args' := [fints seen, .int .i64 y]) (r := .bool (seen.contains y)) (.cons (hS3.rd (fun _ => rfl) fun _ _ => trivial) (.cons (.same _) .nil)) (by simp) rfl (r_Has_ok (by omega) rfl) ?_
      cases hc : seen.contains y with
      | true =>
        simp [es]
        refine forK_go _ hiu (by simp [mkEnv, List.replicate]) ⟨ws, g1, g2, ?_, rfl⟩
        rw [take_get hy', List.filter_append]
        have : [y].filter (fun v => !seen.contains v) = [] := by rw [List.filter_cons, hc]; rfl
        rw [this, List.append_nil]
        exact hO
      | false =>
        obtain ⟨ws', σ4, z1, z2, z3, z4, z5, z6⟩ := hO.push (by_ := 8) y (fun _ => rfl) (by simp) hge (by have := List.length_filter_le (fun v => !seen.contains v) (d.univ.take i); simp at this ⊢; omega) (by decide)
        have hb := (z3.get M (by omega)).trans g2
        have hsto := st_cell hb (k := 1) (v := ws') (by simp) z2.flat
        simp only [List.set_cons_succ, List.set_cons_zero] at hsto
        simp [lU3, lW, hy, z1, hsto, es]
        refine forK_go _ hiu (by simp [mkEnv, List.replicate]) ⟨ws', fun j hj => ?_, by rw [List.getElem?_set_self (get_dom hb)], ?_, rfl⟩
        · rw [List.getElem?_set_ne (by omega), z3.get j (by omega)]; exact g1 j hj
        · rw [take_get hy', List.filter_append]
          have : [y].filter (fun v => !seen.contains v) = [y] := by rw [List.filter_cons, hc]; rfl
          rw [this]
          exact z2.fit fun j hj => List.getElem?_set_ne (by have := z2.has_ge hj; omega)
    · have : i = d.univ.length := by omega
      subst this
      rw [List.take_length] at hO
      have hA : gload (.load 2 true) [.ptr M 0] σ3 = some (.agg [.bool false, ws]) := ld_agg2 g2
      have hJ3 := hJ.fit (σ' := σ3) fun k hk => g1 k (by have := (hJ.lt hk).2; omega)
      obtain ⟨rest, hrest⟩ : ∃ rest, (d.univ.filter fun v => !seen.contains v) = rest := ⟨_, rfl⟩
      have hrl : rest.length ≤ d.univ.length := by rw [← hrest]; exact List.length_filter_le _ _
      rw [hrest] at hO ⊢
      obtain ⟨s', σ4, q1, q2, q3, q4, q5⟩ := hJ3.push (new := [(false, ws)]) (nb := [(false, rest)]) (by simpa using hO.flat) rfl (by simp) (fun i r b h1 h2 => by
        rcases i with _ | i
        · simp at h1 h2; subst h1 h2
          exact ⟨rfl, .inr ⟨hO.weaken (by omega), fun k hk hk' => by have := hO.has_ge hk; have := (hJ.lt (.inl hk')).2; omega⟩⟩
        · simp at h1) (by omega) (by simp; omega)
      have q1' : gimp (.append 2 32) [s, .slice σ3.length 0 1 2 (some 1)] (σ3 ++ [.row false [.bool false, ws]]) = some (s', σ4) := q1
      simp [hA, bs2_agg, q1']
      have hF5 : Fr σ.length σ σ4 := by
        refine ⟨by omega, fun j hj => ?_⟩
        rw [q3.get j (by omega), g1 j (by omega), hF.get j (by omega), h0k j hj]
      refine rd_call (n := σ.length) (q2.rd fun i hi => by omega) hF5 fun σ6 hF6 _ => r_JoinedF_ok ?_ ?_
      · have hap : ∀ bs : List Blk, lensB (bs ++ [(false, rest)]) = lensB bs + (rest.length + 1) := fun bs => by
          unfold lensB; simp; omega
        rw [hap]
        omega
      · simp
        exact ⟨hF6, .same _⟩
end Go.Gh
namespace Go.Gh
open Go.RowKit Go.Proofs
set_option linter.unusedVariables false
set_option linter.unusedSimpArgs false
set_option maxRecDepth 100000
end Go.Gh
namespace Go.Gh
open Go.RowKit Go.Proofs
set_option linter.unusedVariables false
set_option linter.unusedSimpArgs false
set_option maxRecDepth 100000
theorem linR_small {d : DqbfP} (hd : d.univ.length + lensD d.exist < 2 ^ 24) : lensB (linR d).1 < 2 ^ 40 := by
  unfold linR
  cases hm : mayD d with
  | false => simp [lensB]
  | true =>
    have hu : d.univ.length ≤ 1024 := by
      have := (mayD_parts hm).1
      have : d.all.length = d.univ.length + d.exist.length := by simp [DqbfP.all]
      omega
    cases incAny d.exist with
    | true => simp [lensB]
    | false =>
      simp only [if_true, Bool.false_eq_true, if_false]
      refine Nat.lt_of_le_of_lt (joinB_lens _) ?_
      obtain ⟨_, _, n3⟩ := levR_len d.exist (d.univ.length + 1)
      have hmul2 : (d.univ.length + 1) * (2 * lensD d.exist + 2) ≤ 1025 * (2 * lensD d.exist + 2) := Nat.mul_le_mul_right _ (by omega)
      have hap : ∀ (bs : List Blk) (rest : List Int), lensB (bs ++ [(false, rest)]) = lensB bs + (rest.length + 1) := fun bs rest => by
        unfold lensB; simp; omega
      rw [hap]
      have := List.length_filter_le (fun v => !(levR d.exist (d.univ.length + 1)).1.contains v) d.univ
      omega
theorem dqbf_sm {q : QbfP} (hq : lensC q.cls < 2 ^ 37) {es : List Dep} (h : mayQ q = true → (rowsT q.pre q.pre.length).Perm es ∧ es.Pairwise fun x y => x.1 ≤ y.1) : (dqbfP q es).1.Sm := by
  refine sz_sm ?_
  unfold dqbfP
  cases hm : mayQ q with
  | false => simp [DqbfP.sz, lensD, lensC]
  | true =>
    obtain ⟨e1, e2⟩ := h hm
    obtain ⟨f1, f2, f3⟩ := back_plain hm e1 e2
    simp only [if_true]
    show (sortZ (qB q.pre false)).length + lensD es + lensC q.cls < 2 ^ 40
    omega
set_option maxHeartbeats 4000000 in
theorem turns_ok {q : QbfP} {d : DqbfP} {v : Int} (hq : q.sz < 2 ^ 37) (hqw : WfC q.cls) (hd : d.sz < 2 ^ 24) (hdw : WfC d.cls) {σ : GS} {Post : DV → GS → Prop} (h : Post (.bool true) σ) : GCall Tryz.prog F_skolemlaw03_PrefixTurns [q.enc, d.enc, .int .i64 v] σ Post := by
  have hq1 : lensB q.pre + lensC q.cls < 2 ^ 37 := hq
  have hlq := lensB_flat q.pre
  have h2 : q.cls.length ≤ lensC q.cls := by unfold lensC; omega
  have hd1 : d.univ.length + lensD d.exist + lensC d.cls < 2 ^ 24 := hd
  have hSm := sz_sm (d := d) (by omega)
  have hel := lensD_len d.exist
  refine GCall.say (r := .bool true) ?_ rfl h
  refine gc_skolemlaw03_PrefixTurns ?_
  simp [G_skolemlaw03_PrefixTurns, genv0, List.replicate]
  refine l_wide_any (by omega) (by omega) fun b => ?_
  cases b with
  | true => simp; refine head_ok ?_; simp
  | false =>
  simp
  refine l_broad_any hSm fun b => ?_
  cases b with
  | true => simp; refine head_ok ?_; simp
  | false =>
  simp
  refine p_Dqbf_ok (by omega) (by omega) fun es hes => ?_
  have hsm := dqbf_sm (by omega) hes
  rw [dqbf_same hes] at hsm ⊢
  obtain ⟨⟨R, er⟩, hR⟩ : ∃ R, dqbfR q = R := ⟨_, rfl⟩
  rw [hR] at hsm ⊢
  simp
  refine r_Dqbf_ok (by omega) (by omega) hqw ?_
  rw [hR]
  simp
  refine p_Linear_ok (by omega) (by omega) fun ys hys => ?_
  rw [lin_same hys]
  have hls := linR_small (d := d) (by omega)
  obtain ⟨⟨P, ep⟩, hP⟩ : ∃ P, linR d = P := ⟨_, rfl⟩
  rw [hP] at hls ⊢
  simp
  refine r_Linear_ok (by omega) (by omega) hdw ?_
  rw [hP]
  simp
  refine p_Deps_ok (by omega) ?_
  obtain ⟨⟨D, ed⟩, hD⟩ : ∃ D, depsP d v = D := ⟨_, rfl⟩
  have hDl : D.length < 2 ^ 60 := by
    have : D = (depsP d v).1 := by rw [hD]
    rw [this]
    unfold depsP
    cases hf : d.exist.find? (fun x => x.1 == v) with
    | none => simp
    | some x => have := lensD_mem (List.mem_of_find?_eq_some hf); simp; omega
  rw [hD]
  simp
  refine r_Deps_ok (by omega) ?_
  rw [hD]
  simp
  refine r_SameDqbf_ok hsm ?_
  rw [sameD_self]
  simp
  refine r_Same_ok hls ?_
  simp
  refine r_Ints_ok hDl ?_
  simp
  refine head_ok ?_
  simp
end Go.Gh
