/-
  Proved: enc's clauses of graphs.
  Part 8 of 9. Conditions: none. A verified frame that runs compiled texts over a ghost heap, the contracts of the functions that the statement reaches, and the plain law.
-/
import Derived.Test.YtdpbcckkdccmlaaGreatXP7
namespace Go.Gh
open Go.RowKit Go.Proofs
set_option linter.unusedVariables false
set_option linter.unusedSimpArgs false
set_option maxRecDepth 100000
theorem fm_take0 {i : List Int} {j : Nat} {y : Int} (h : i[j]? = some y) (f : Int → List Int) : ((i.take (j + 1)).map f).filterMap normL = ((i.take j).map f).filterMap normL ++ (normL (f y)).toList := by simpa using fm_take (f := f) h []
/-- One slice of one's own turns into another. -/
structure SS (σ : GS) (s : DV) (σ' : GS) (s' : DV) : Prop where
  len : σ.length ≤ σ'.length
  get : ∀ i, i < σ.length → ¬ s.has i → σ'[i]? = σ[i]?
  has : ∀ i, s'.has i → s.has i ∨ σ.length ≤ i
theorem SS.refl (σ : GS) (s : DV) : SS σ s σ s := ⟨Nat.le_refl _, fun _ _ _ => rfl, fun _ h => .inl h⟩
theorem SS.trans {a b c : GS} {s t u : DV} (h : SS a s b t) (k : SS b t c u) : SS a s c u :=
  ⟨Nat.le_trans h.len k.len, fun i hi hn => (k.get i (by have := h.len; omega) fun ht => by rcases h.has i ht with h1 | h1; exact hn h1; omega).trans (h.get i hi hn), fun i hi => by
    rcases k.has i hi with h1 | h1
    · exact h.has i h1
    · exact .inr (by have := h.len; omega)⟩
theorem SS.fr {n : Nat} {α : Type} {sz : Nat} {enc : α → List DV} {σ σ' : GS} {s s' : DV} {xs : List α} (h : SS σ s σ' s') (hO : Own n sz enc σ s xs) (hn : n ≤ σ.length) : Fr n σ σ' :=
  ⟨by have := h.len; omega, fun i hi => h.get i (by omega) fun hh => by have := hO.has_ge hh; omega⟩
theorem SS.app {σ : GS} {s : DV} (τ : GS) : SS σ s (σ ++ τ) s := ⟨by simp, fun i hi _ => List.getElem?_append_left hi, fun i h => .inl h⟩
theorem r12_Put_ok {n m : Nat} {s t : DV} {cs : List (List Int)} {raw : List Int} {σ : GS} {Post : DV → GS → Prop} (hS : Own n 1 ecl σ s cs) (hT : Own m 1 eint σ t raw) (hn : n ≤ σ.length) (hl : raw.length < 2 ^ 30) (hlit : ∀ x ∈ raw, Lt x) (hcs : cs.length < 2 ^ 40)
    (k : ∀ s' σ', Own n 1 ecl σ' s' (cs ++ (normL raw).toList) → SS σ s σ' s' → Post s' σ') : GCall Tryz.prog F_skolemref12_Put [s, t] σ Post := by
  refine gc_skolemref12_Put ?_
  simp [G_skolemref12_Put, genv0, List.replicate]
  refine r12_sorted_ok hT hl hlit ?_
  cases h : normL raw with
  | none =>
    rw [h] at k
    simp
    exact k _ _ (by simpa using hS) (.refl _ _)
  | some r =>
    rw [h] at k
    obtain ⟨s', σ', q1, q2, q3, q4, q5, q6⟩ := hS.push (by_ := 24) r (fun _ => rfl) (by simp) hn (by omega) (by decide)
    have hba : galloc (.bslice 1 [.nils] 1 [(0, 1)]) [fints r] = some (.row false (ecl r), fun id => .slice id 0 1 1 (some 1)) := ga_b1_flat rfl
    simp [hba, q1]
    exact k _ _ q2 ⟨q4, q5, q6⟩
theorem row_ld {σ σ1 : GS} {g : GateP} (hF : Fr (σ.length + 1) (σ ++ [.row false (egate g)]) σ1) : gload (.load 1 false) [.ptr σ.length 0] σ1 = some (.int .i64 g.v) ∧ gload (.load 1 false) [.ptr σ.length 1] σ1 = some (.int .u8 g.k) ∧ gload (.load 1 false) [.ptr σ.length 2] σ1 = some (fints g.ins) := by
  have hrow : σ1[σ.length]? = some (.row false (egate g)) := by
    have := hF.get σ.length (by omega)
    rw [this, getE_tail0]; rfl
  exact ⟨ld_at hrow, ld_at hrow, ld_at hrow⟩
theorem gcl_1r (x : Int) (i : List Int) (pl mi : Bool) (hx : x ≠ 0) (hi : ∀ l ∈ i, l ≠ 0) : gcl x 1 i pl mi = (if pl = true then (i.map fun l => [-x, l]).filterMap normL else []) ++ (if mi = true then (normL (x :: i.map fun l => -l)).toList else []) := by
  rw [gcl_1, gcl_wideA hx hi]
  cases mi
  · rfl
  · have := fm_snoc [] ((i.map fun l => -l) ++ [x])
    simp only [List.nil_append, List.filterMap_nil] at this
    rw [if_pos rfl, if_pos rfl, this]
theorem gcl_2r (x : Int) (i : List Int) (pl mi : Bool) (hx : x ≠ 0) (hi : ∀ l ∈ i, l ≠ 0) : gcl x 2 i pl mi = (if pl = true then (normL (-x :: i)).toList else []) ++ (if mi = true then (i.map fun l => [x, -l]).filterMap normL else []) := by
  rw [gcl_2, gcl_wideO hx hi]
  cases pl
  · rfl
  · have := fm_snoc [] (i ++ [-x])
    simp only [List.nil_append, List.filterMap_nil] at this
    rw [if_pos rfl, if_pos rfl, this]
@[simp] theorem wrap_m1 : IntKind.i64.wrap (-1) = -1 := by decide
theorem Lt.wrapI {x : Int} (h : Lt x) : IntKind.i64.wrap x = x := by unfold Lt at h; rw [wrap_small] <;> omega
set_option maxHeartbeats 1000000 in
theorem r12_cl1_ok {x : Int} {i : List Int} {pl mi : Bool} {σ : GS} {Post : DV → GS → Prop} (hx : Lt x) (hi : ∀ l ∈ i, Lt l) (hil : i.length < 2 ^ 29) (h : Post (fcls (gcl x 1 i pl mi)) σ) : GCall Tryz.prog F_skolemref12_Clauses [GateP.enc ⟨x, 1, i⟩, .bool pl, .bool mi] σ Post := by
  refine GCall.pure (r := fcls (gcl x 1 i pl mi)) ?_ (by simp) h
  rw [gcl_1r x i pl mi hx.1 fun l hl => (hi l hl).1]
  refine gc_skolemref12_Clauses ?_
  simp [G_skolemref12_Clauses, genv0, List.replicate, hx.wrapI, hx.wrapN]
  obtain ⟨g, hg⟩ : ∃ g, g = GateP.mk x 1 i := ⟨_, rfl⟩
  have hgr : [DV.int .i64 x, .int .u8 1, fints i] = egate g := by rw [hg]
  have ld : ∀ {σ1 : GS}, Fr (σ.length + 1) (σ ++ [.row false (egate g)]) σ1 → gload (.load 1 false) [.ptr σ.length 0] σ1 = some (.int .i64 x) ∧ gload (.load 1 false) [.ptr σ.length 1] σ1 = some (.int .u8 1) ∧ gload (.load 1 false) [.ptr σ.length 2] σ1 = some (fints i) := fun hF => by have := row_ld hF; rw [hg] at this; exact this
  refine gfor i.length (fun j e σ' => Fr (σ.length + 1) (σ ++ [.row false (egate g)]) σ' ∧ ∃ w, Own (σ.length + 1) 1 eint σ' w (x :: (i.take j).map (fun l => -l)) ∧ e = mkEnv 186 [(1, .bool pl), (2, .bool mi), (3, .ptr σ.length 0), (7, .int .i64 x), (8, .nils), (9, .int .i64 1), (10, w), (11, .int .i64 j)]) _ ?_ ⟨?_, .slice (σ.length + 1) 0 1 1 (some 1), ?_, rfl⟩ ?_
  · simp [mkEnv, List.replicate]
  · rw [← hgr]; exact (Fr.refl (by simp)).app [.row false [.int .i64 (x)]] |>.trans (by simpa using Fr.refl (by simp)) 
  · have := own_laid (σ := σ ++ [.row false (egate g)]) [x]
    rw [← hgr] at this
    simpa using this
  rintro j _ σ1 hj ⟨hF1, w, hW, rfl⟩
  obtain ⟨d0, d1, d2⟩ := ld hF1
  have hWf : ∀ y ∈ (x :: (i.take j).map (fun l => -l)), Lt y := fun y hy => by
    rcases List.mem_cons.1 hy with rfl | hy
    · exact hx
    · obtain ⟨z, hz, rfl⟩ := List.mem_map.1 hy
      exact (hi z (List.mem_of_mem_take hz)).neg
  simp [mkEnv, List.replicate, d2]
  by_cases hlt : j < i.length
  · obtain ⟨y, hy⟩ := nth_lt hlt
    have hy' := nth_get hy
    have hyl := hi y (List.mem_of_getElem? hy')
    have es : IntKind.i64.wrap ((j : Int) + 1) = (j : Int) + 1 := by rw [wrap_small] <;> omega
    have hgl := hF1.len
    obtain ⟨w', σ2, q1, q2, q3, q4, q5, q6⟩ := hW.push (by_ := 8) (-y) (fun _ => rfl) (by simp) (by omega) (by simp; omega) (by decide)
    simp [hlt, hy, d2, hyl.wrapN, hyl.wrapI, q1, es]
    refine forK_go _ hlt (by simp [mkEnv, List.replicate]) ⟨hF1.trans (q3.mono (by simp)), w', ?_, rfl⟩
    rw [take_get hy']
    simpa using q2
  have : j = i.length := by omega
  subst this
  rw [List.take_length] at hW hWf
  have hgl := hF1.len
  simp
  simp [d1]
  refine gfor i.length (fun j e σ' => Fr (σ.length + 1) (σ ++ [.row false (egate g)]) σ' ∧ ∃ s, Own (σ.length + 1) 1 eint σ' w (x :: i.map (fun l => -l)) ∧ Own (σ.length + 1) 1 ecl σ' s (if pl = true then ((i.take j).map (fun l => [-x, l])).filterMap normL else []) ∧ (∀ k, s.has k → ¬ w.has k) ∧ e = mkEnv 186 [(1, .bool pl), (2, .bool mi), (3, .ptr σ.length 0), (7, .int .i64 x), (8, s), (9, .int .i64 1), (10, w), (12, .int .i64 j)]) _ ?_ ⟨hF1, .nils, hW, by simpa using Own.nil, (fun k h => by obtain ⟨_, _, _, _, e⟩ := h; cases e), rfl⟩ ?_
  · simp [mkEnv, List.replicate]
  rintro j _ σ2 hj ⟨hF2, s, hW2, hS2, hsw, rfl⟩
  obtain ⟨d0, d1, d2⟩ := ld hF2
  have hgl2 := hF2.len
  simp [mkEnv, List.replicate, d2]
  by_cases hlt : j < i.length
  · obtain ⟨y, hy⟩ := nth_lt hlt
    have hy' := nth_get hy
    have hyl := hi y (List.mem_of_getElem? hy')
    have es : IntKind.i64.wrap ((j : Int) + 1) = (j : Int) + 1 := by rw [wrap_small] <;> omega
    have hln := fm_len ((i.take j).map (fun l => [-x, l]))
    simp only [List.length_map, List.length_take] at hln
    cases pl with
    | false =>
      simp [hlt, d1, es]
      exact forK_go _ hlt (by simp [mkEnv, List.replicate]) ⟨hF2, s, hW2, by simpa using hS2, hsw, rfl⟩
    | true =>
      simp only [if_true] at hS2
      simp [hlt, hy, d1, d2, hx.wrapN, hx.wrapI, hyl.wrapN, hyl.wrapI]
      have hap : Own (σ.length + 1) 1 ecl (σ2 ++ [.row false ([-x, y].map fun x => DV.int .i64 x)]) s _ := hS2.fr (Fr.rfl'.app _)
      refine r12_Put_ok hap (own_laid [-x, y]) (by simp; omega) (by simp) (lt2 hx.neg hyl) (by  omega) fun s' σ4 hS4 hss => ?_
      have hss2 := (SS.app (σ := σ2) (s := s) [.row false ([-x, y].map fun x => DV.int .i64 x)]).trans hss
      simp [es]
      refine forK_go _ hlt (by simp [mkEnv, List.replicate]) ⟨hF2.trans (hss2.fr hS2 hgl2), s', hW2.fit fun k hk => hss2.get k (hW2.has_lt hk) fun hh => hsw k hh hk, ?_, fun k hk hk' => ?_, rfl⟩
      · rw [if_pos rfl, fm_take0 hy' (fun l => [-x, l])]; first | exact hS4 | (rw [← List.append_assoc]; exact hS4)
      · rcases hss2.has k hk with h1 | h1
        · exact hsw k h1 hk'
        · have := hW2.has_lt hk'; omega
  have : j = i.length := by omega
  subst this
  rw [List.take_length] at hS2
  simp [d1]
  have hln := fm_len (i.map (fun l => [-x, l]))
  rw [List.length_map] at hln
  cases mi with
  | false =>
    simp
    exact ⟨⟨by omega, fun k hk => by rw [hF2.get k (by omega), List.getElem?_append_left hk]⟩, by simp only [fcls]; simpa using hS2.rd (ok := OkN σ.length σ2) (fun _ => rfl) fun k hk => .inl (by omega)⟩
  | true =>
    simp
    refine r12_Put_ok hS2 hW2 (by omega) (by simp; omega) hWf (by split <;> first | omega | (simp only [List.length_nil]; omega)) fun s' σ4 hS4 hss => ?_
    simp
    have hF4 := hF2.trans (hss.fr hS2 hgl2)
    exact ⟨⟨by have := hF4.len; omega, fun k hk => by rw [hF4.get k (by omega), List.getElem?_append_left hk]⟩, by simp only [fcls]; simpa using hS4.rd (ok := OkN σ.length σ4) (fun _ => rfl) fun k hk => .inl (by omega)⟩
set_option maxHeartbeats 1000000 in
theorem r12_cl2_ok {x : Int} {i : List Int} {pl mi : Bool} {σ : GS} {Post : DV → GS → Prop} (hx : Lt x) (hi : ∀ l ∈ i, Lt l) (hil : i.length < 2 ^ 29) (h : Post (fcls (gcl x 2 i pl mi)) σ) : GCall Tryz.prog F_skolemref12_Clauses [GateP.enc ⟨x, 2, i⟩, .bool pl, .bool mi] σ Post := by
  refine GCall.pure (r := fcls (gcl x 2 i pl mi)) ?_ (by simp) h
  rw [gcl_2r x i pl mi hx.1 fun l hl => (hi l hl).1]
  refine gc_skolemref12_Clauses ?_
  simp [G_skolemref12_Clauses, genv0, List.replicate, hx.wrapI, hx.wrapN]
  obtain ⟨g, hg⟩ : ∃ g, g = GateP.mk x 2 i := ⟨_, rfl⟩
  have hgr : [DV.int .i64 x, .int .u8 2, fints i] = egate g := by rw [hg]
  have ld : ∀ {σ1 : GS}, Fr (σ.length + 1) (σ ++ [.row false (egate g)]) σ1 → gload (.load 1 false) [.ptr σ.length 0] σ1 = some (.int .i64 x) ∧ gload (.load 1 false) [.ptr σ.length 1] σ1 = some (.int .u8 2) ∧ gload (.load 1 false) [.ptr σ.length 2] σ1 = some (fints i) := fun hF => by have := row_ld hF; rw [hg] at this; exact this
  refine gfor i.length (fun j e σ' => Fr (σ.length + 1) (σ ++ [.row false (egate g)]) σ' ∧ ∃ w, Own (σ.length + 1) 1 eint σ' w (-x :: (i.take j).map (fun l => l)) ∧ e = mkEnv 186 [(1, .bool pl), (2, .bool mi), (3, .ptr σ.length 0), (7, .int .i64 x), (8, .nils), (9, .int .i64 (-1)), (10, w), (11, .int .i64 j)]) _ ?_ ⟨?_, .slice (σ.length + 1) 0 1 1 (some 1), ?_, rfl⟩ ?_
  · simp [mkEnv, List.replicate]
  · rw [← hgr]; exact (Fr.refl (by simp)).app [.row false [.int .i64 (-x)]] |>.trans (by simpa using Fr.refl (by simp)) 
  · have := own_laid (σ := σ ++ [.row false (egate g)]) [-x]
    rw [← hgr] at this
    simpa using this
  rintro j _ σ1 hj ⟨hF1, w, hW, rfl⟩
  obtain ⟨d0, d1, d2⟩ := ld hF1
  have hWf : ∀ y ∈ (-x :: (i.take j).map (fun l => l)), Lt y := fun y hy => by
    rcases List.mem_cons.1 hy with rfl | hy
    · exact hx.neg
    · obtain ⟨z, hz, rfl⟩ := List.mem_map.1 hy
      exact hi z (List.mem_of_mem_take hz)
  simp [mkEnv, List.replicate, d2]
  by_cases hlt : j < i.length
  · obtain ⟨y, hy⟩ := nth_lt hlt
    have hy' := nth_get hy
    have hyl := hi y (List.mem_of_getElem? hy')
    have es : IntKind.i64.wrap ((j : Int) + 1) = (j : Int) + 1 := by rw [wrap_small] <;> omega
    have hgl := hF1.len
    obtain ⟨w', σ2, q1, q2, q3, q4, q5, q6⟩ := hW.push (by_ := 8) (y) (fun _ => rfl) (by simp) (by omega) (by simp; omega) (by decide)
    simp [hlt, hy, d2, hyl.wrapN, hyl.wrapI, q1, es]
    refine forK_go _ hlt (by simp [mkEnv, List.replicate]) ⟨hF1.trans (q3.mono (by simp)), w', ?_, rfl⟩
    rw [take_get hy']
    simpa using q2
  have : j = i.length := by omega
  subst this
  rw [List.take_length] at hW hWf
  have hgl := hF1.len
  simp
  simp [d1]
  cases pl with
  | false =>
    simp
    refine gfor i.length (fun j e σ' => Fr (σ.length + 1) (σ ++ [.row false (egate g)]) σ' ∧ ∃ s, Own (σ.length + 1) 1 eint σ' w (-x :: i.map (fun l => l)) ∧ Own (σ.length + 1) 1 ecl σ' s (if mi = true then ((i.take j).map (fun l => [x, -l])).filterMap normL else []) ∧ (∀ k, s.has k → ¬ w.has k) ∧ e = mkEnv 186 [(1, .bool false), (2, .bool mi), (3, .ptr σ.length 0), (7, .int .i64 x), (8, s), (9, .int .i64 (-1)), (10, w), (12, .int .i64 j)]) _ ?_ ⟨hF1, .nils, hW, by simpa using Own.nil, (fun k h => by obtain ⟨_, _, _, _, e⟩ := h; cases e), rfl⟩ ?_
    · simp [mkEnv, List.replicate]
    rintro j _ σ2 hj ⟨hF2, s, hW2, hS2, hsw, rfl⟩
    obtain ⟨d0, d1, d2⟩ := ld hF2
    have hgl2 := hF2.len
    simp [mkEnv, List.replicate, d2]
    by_cases hlt : j < i.length
    · obtain ⟨y, hy⟩ := nth_lt hlt
      have hy' := nth_get hy
      have hyl := hi y (List.mem_of_getElem? hy')
      have es : IntKind.i64.wrap ((j : Int) + 1) = (j : Int) + 1 := by rw [wrap_small] <;> omega
      have hln := fm_len ((i.take j).map (fun l => [x, -l]))
      simp only [List.length_map, List.length_take] at hln
      cases mi with
      | false =>
        simp [hlt, d1, es]
        exact forK_go _ hlt (by simp [mkEnv, List.replicate]) ⟨hF2, s, hW2, by simpa using hS2, hsw, rfl⟩
      | true =>
        simp only [if_true] at hS2
        simp [hlt, hy, d1, d2, hx.wrapN, hx.wrapI, hyl.wrapN, hyl.wrapI]
        have hap : Own (σ.length + 1) 1 ecl (σ2 ++ [.row false ([x, -y].map fun x => DV.int .i64 x)]) s _ := hS2.fr (Fr.rfl'.app _)
        refine r12_Put_ok hap (own_laid [x, -y]) (by simp; omega) (by simp) (lt2 hx hyl.neg) (by  omega) fun s' σ4 hS4 hss => ?_
        have hss2 := (SS.app (σ := σ2) (s := s) [.row false ([x, -y].map fun x => DV.int .i64 x)]).trans hss
        simp [es]
        refine forK_go _ hlt (by simp [mkEnv, List.replicate]) ⟨hF2.trans (hss2.fr hS2 hgl2), s', hW2.fit fun k hk => hss2.get k (hW2.has_lt hk) fun hh => hsw k hh hk, ?_, fun k hk hk' => ?_, rfl⟩
        · rw [if_pos rfl, fm_take0 hy' (fun l => [x, -l])]; first | exact hS4 | (rw [← List.append_assoc]; exact hS4)
        · rcases hss2.has k hk with h1 | h1
          · exact hsw k h1 hk'
          · have := hW2.has_lt hk'; omega
    have : j = i.length := by omega
    subst this
    rw [List.take_length] at hS2
    simp [d1]
    exact ⟨⟨by omega, fun k hk => by rw [hF2.get k (by omega), List.getElem?_append_left hk]⟩, by simp only [fcls]; simpa using hS2.rd (ok := OkN σ.length σ2) (fun _ => rfl) fun k hk => .inl (by omega)⟩
  | true =>
    simp
    refine r12_Put_ok (n := σ.length + 1) (cs := []) .nil hW (by omega) (by simp; omega) hWf (by simp) fun s0 σ4 hS4 hss => ?_
    have hF4 := hF1.trans (hss.fr (n := σ.length + 1) (xs := ([] : List (List Int))) (enc := ecl) (sz := 1) .nil (by omega))
    have hW4 : Own (σ.length + 1) 1 eint σ4 w _ := hW.fit fun k hk => hss.get k (hW.has_lt hk) fun hh => by obtain ⟨_, _, _, _, e⟩ := hh; cases e
    have hd4 : ∀ k, s0.has k → ¬ w.has k := fun k hk hk' => by
      rcases hss.has k hk with h1 | h1
      · obtain ⟨_, _, _, _, e⟩ := h1; cases e
      · have := hW.has_lt hk'; omega
    simp only [List.nil_append] at hS4
    simp
    have hl0 : ((normL (-x :: i)).toList).length ≤ 1 := by cases normL (-x :: i) <;> simp
    refine gfor i.length (fun j e σ' => Fr (σ.length + 1) (σ ++ [.row false (egate g)]) σ' ∧ ∃ s, Own (σ.length + 1) 1 eint σ' w (-x :: i.map (fun l => l)) ∧ Own (σ.length + 1) 1 ecl σ' s ((normL (-x :: i)).toList ++ if mi = true then ((i.take j).map (fun l => [x, -l])).filterMap normL else []) ∧ (∀ k, s.has k → ¬ w.has k) ∧ e = mkEnv 186 [(1, .bool true), (2, .bool mi), (3, .ptr σ.length 0), (7, .int .i64 x), (8, s), (9, .int .i64 (-1)), (10, w), (12, .int .i64 j)]) _ ?_ ⟨hF4, s0, hW4, by simpa using hS4, hd4, rfl⟩ ?_
    · simp [mkEnv, List.replicate]
    rintro j _ σ2 hj ⟨hF2, s, hW2, hS2, hsw, rfl⟩
    obtain ⟨d0, d1, d2⟩ := ld hF2
    have hgl2 := hF2.len
    simp [mkEnv, List.replicate, d2]
    by_cases hlt : j < i.length
    · obtain ⟨y, hy⟩ := nth_lt hlt
      have hy' := nth_get hy
      have hyl := hi y (List.mem_of_getElem? hy')
      have es : IntKind.i64.wrap ((j : Int) + 1) = (j : Int) + 1 := by rw [wrap_small] <;> omega
      have hln := fm_len ((i.take j).map (fun l => [x, -l]))
      simp only [List.length_map, List.length_take] at hln
      cases mi with
      | false =>
        simp [hlt, d1, es]
        exact forK_go _ hlt (by simp [mkEnv, List.replicate]) ⟨hF2, s, hW2, by simpa using hS2, hsw, rfl⟩
      | true =>
        simp only [if_true] at hS2
        simp [hlt, hy, d1, d2, hx.wrapN, hx.wrapI, hyl.wrapN, hyl.wrapI]
        have hap : Own (σ.length + 1) 1 ecl (σ2 ++ [.row false ([x, -y].map fun x => DV.int .i64 x)]) s _ := hS2.fr (Fr.rfl'.app _)
        refine r12_Put_ok hap (own_laid [x, -y]) (by simp; omega) (by simp) (lt2 hx hyl.neg) (by rw [List.length_append]; omega) fun s' σ4 hS4 hss => ?_
        have hss2 := (SS.app (σ := σ2) (s := s) [.row false ([x, -y].map fun x => DV.int .i64 x)]).trans hss
        simp [es]
        refine forK_go _ hlt (by simp [mkEnv, List.replicate]) ⟨hF2.trans (hss2.fr hS2 hgl2), s', hW2.fit fun k hk => hss2.get k (hW2.has_lt hk) fun hh => hsw k hh hk, ?_, fun k hk hk' => ?_, rfl⟩
        · rw [if_pos rfl, fm_take0 hy' (fun l => [x, -l])]; first | exact hS4 | (rw [← List.append_assoc]; exact hS4)
        · rcases hss2.has k hk with h1 | h1
          · exact hsw k h1 hk'
          · have := hW2.has_lt hk'; omega
    have : j = i.length := by omega
    subst this
    rw [List.take_length] at hS2
    simp [d1]
    exact ⟨⟨by omega, fun k hk => by rw [hF2.get k (by omega), List.getElem?_append_left hk]⟩, by simp only [fcls]; simpa using hS2.rd (ok := OkN σ.length σ2) (fun _ => rfl) fun k hk => .inl (by omega)⟩

end Go.Gh
namespace Go.Gh
open Go.RowKit Go.Proofs
set_option linter.unusedVariables false
set_option linter.unusedSimpArgs false
set_option maxRecDepth 100000
theorem fm2 (a b : List Int) : [a, b].filterMap normL = (normL a).toList ++ (normL b).toList := by
  have e1 := fm_snoc [] a
  have e2 := fm_snoc [a] b
  simp only [List.nil_append, List.filterMap_nil] at e1
  rw [e1] at e2
  exact e2
theorem tl_len (l : List Int) : ((normL l).toList).length ≤ 1 := by cases normL l <;> simp
theorem put3 {n : Nat} {σ0 σ1 : GS} {s : DV} {cs : List (List Int)} {p q r : Int} {K : DV → GS → Prop} (hS : Own n 1 ecl σ1 s cs) (hF : Fr n σ0 σ1) (hp : Lt p) (hq : Lt q) (hr : Lt r) (hcs : cs.length < 100) (k : ∀ s' σ2, Own n 1 ecl σ2 s' (cs ++ (normL [p, q, r]).toList) → (cs ++ (normL [p, q, r]).toList).length ≤ cs.length + 1 → Fr n σ0 σ2 → K s' σ2) :
    GCall Tryz.prog F_skolemref12_Put [s, .slice σ1.length 0 3 1 (some 3)] (σ1 ++ [.row false [.int .i64 p, .int .i64 q, .int .i64 r]]) K := by
  have hl := hF.len
  have hS1 : Own n 1 ecl (σ1 ++ [.row false [.int .i64 p, .int .i64 q, .int .i64 r]]) s cs := hS.fr (Fr.rfl'.app _)
  refine r12_Put_ok hS1 (own_laid [p, q, r]) (by simp; omega) (by simp) (lt3 hp hq hr) (by omega) fun s' σ2 h2 ss => k s' σ2 h2 (by have := tl_len [p, q, r]; rw [List.length_append]; omega) ?_
  exact (hF.app _).trans (ss.fr hS1 (by simp; omega))
theorem fin3 {n : Nat} {σ0 σ1 : GS} {s : DV} {cs : List (List Int)} (hS : Own n 1 ecl σ1 s cs) (hF : Fr n σ0 σ1) (hn : n = σ0.length) : Fr σ0.length σ0 σ1 ∧ Rd σ1 (fun i => σ0.length ≤ i ∨ RO σ1 i) s (fcls cs) := by
  subst hn
  exact ⟨hF, hS.rd (fun _ => rfl) fun k hk => .inl hk⟩
theorem r12_cl3_ok {x a b : Int} {pl mi : Bool} {σ : GS} {Post : DV → GS → Prop} (hx : Lt x) (ha : Lt a) (hb : Lt b) (h : Post (fcls (gcl x 3 [a, b] pl mi)) σ) : GCall Tryz.prog F_skolemref12_Clauses [GateP.enc ⟨x, 3, [a, b]⟩, .bool pl, .bool mi] σ Post := by
  refine GCall.pure (r := fcls (gcl x 3 [a, b] pl mi)) ?_ (by simp) h
  rw [gcl_3, fm2, fm2]
  simp only [List.getD_cons_zero, List.getD_cons_succ]
  refine gc_skolemref12_Clauses ?_
  simp [G_skolemref12_Clauses, genv0, List.replicate, hx.wrapN, ha.wrapN, hb.wrapN]
  have F0 : Fr σ.length σ (σ ++ [GObj.row false (egate ⟨x, 3, [a, b]⟩)]) := Fr.self _
  obtain ⟨τ, hτ⟩ : ∃ τ, σ ++ [GObj.row false (egate ⟨x, 3, [a, b]⟩)] = τ := ⟨_, rfl⟩
  rw [hτ] at F0 ⊢
  cases pl with
  | false =>
    cases mi with
    | false =>
      simp
      exact fin3 (cs := []) .nil F0 rfl
    | true =>
      simp [hx.wrapN, ha.wrapN, hb.wrapN]
      refine put3 (cs := []) .nil F0 hx ha.neg hb (by first | (simp; done) | (simp only [List.length_nil] at l1; omega)) fun s1 σ1 h1 l1 f1 => ?_
      simp [hx.wrapN, ha.wrapN, hb.wrapN]
      refine put3 h1 f1 hx ha hb.neg (by first | (simp; done) | (simp only [List.length_nil] at l1; omega)) fun s2 σ2 h2 l2 f2 => ?_
      simp
      exact fin3 (by simpa using h2) f2 rfl
  | true =>
    simp [hx.wrapN, ha.wrapN, hb.wrapN]
    refine put3 (cs := []) .nil F0 hx.neg ha hb (by first | (simp; done) | (simp only [List.length_nil] at l1; omega)) fun s1 σ1 h1 l1 f1 => ?_
    simp [hx.wrapN, ha.wrapN, hb.wrapN]
    refine put3 h1 f1 hx.neg ha.neg hb.neg (by first | (simp; done) | (simp only [List.length_nil] at l1; omega)) fun s2 σ2 h2 l2 f2 => ?_
    cases mi with
    | false =>
      simp
      exact fin3 (by simpa using h2) f2 rfl
    | true =>
      simp [hx.wrapN, ha.wrapN, hb.wrapN]
      refine put3 h2 f2 hx ha.neg hb (by first | (simp; done) | (simp only [List.length_nil] at l1; omega)) fun s3 σ3 h3 l3 f3 => ?_
      simp [hx.wrapN, ha.wrapN, hb.wrapN]
      refine put3 h3 f3 hx ha hb.neg (by first | (simp; done) | (simp only [List.length_nil] at l1; omega)) fun s4 σ4 h4 l4 f4 => ?_
      simp
      exact fin3 (by simpa using h4) f4 rfl
theorem r12_cl4_ok {x c a b : Int} {pl mi : Bool} {σ : GS} {Post : DV → GS → Prop} (hx : Lt x) (hc : Lt c) (ha : Lt a) (hb : Lt b) (h : Post (fcls (gcl x 4 [c, a, b] pl mi)) σ) : GCall Tryz.prog F_skolemref12_Clauses [GateP.enc ⟨x, 4, [c, a, b]⟩, .bool pl, .bool mi] σ Post := by
  refine GCall.pure (r := fcls (gcl x 4 [c, a, b] pl mi)) ?_ (by simp) h
  rw [gcl_4, fm2, fm2]
  simp only [List.getD_cons_zero, List.getD_cons_succ]
  refine gc_skolemref12_Clauses ?_
  simp [G_skolemref12_Clauses, genv0, List.replicate, hx.wrapN, hc.wrapN, ha.wrapN, hb.wrapN]
  have F0 : Fr σ.length σ (σ ++ [GObj.row false (egate ⟨x, 4, [c, a, b]⟩)]) := Fr.self _
  obtain ⟨τ, hτ⟩ : ∃ τ, σ ++ [GObj.row false (egate ⟨x, 4, [c, a, b]⟩)] = τ := ⟨_, rfl⟩
  rw [hτ] at F0 ⊢
  cases pl with
  | false =>
    cases mi with
    | false =>
      simp
      exact fin3 (cs := []) .nil F0 rfl
    | true =>
      simp [hx.wrapN, hc.wrapN, ha.wrapN, hb.wrapN]
      refine put3 (cs := []) .nil F0 hx hc.neg ha.neg (by first | (simp; done) | (simp only [List.length_nil] at l1; omega)) fun s1 σ1 h1 l1 f1 => ?_
      simp [hx.wrapN, hc.wrapN, ha.wrapN, hb.wrapN]
      refine put3 h1 f1 hx hc hb.neg (by first | (simp; done) | (simp only [List.length_nil] at l1; omega)) fun s2 σ2 h2 l2 f2 => ?_
      simp
      exact fin3 (by simpa using h2) f2 rfl
  | true =>
    simp [hx.wrapN, hc.wrapN, ha.wrapN, hb.wrapN]
    refine put3 (cs := []) .nil F0 hx.neg hc.neg ha (by first | (simp; done) | (simp only [List.length_nil] at l1; omega)) fun s1 σ1 h1 l1 f1 => ?_
    simp [hx.wrapN, hc.wrapN, ha.wrapN, hb.wrapN]
    refine put3 h1 f1 hx.neg hc hb (by first | (simp; done) | (simp only [List.length_nil] at l1; omega)) fun s2 σ2 h2 l2 f2 => ?_
    cases mi with
    | false =>
      simp
      exact fin3 (by simpa using h2) f2 rfl
    | true =>
      simp [hx.wrapN, hc.wrapN, ha.wrapN, hb.wrapN]
      refine put3 h2 f2 hx hc.neg ha.neg (by first | (simp; done) | (simp only [List.length_nil] at l1; omega)) fun s3 σ3 h3 l3 f3 => ?_
      simp [hx.wrapN, hc.wrapN, ha.wrapN, hb.wrapN]
      refine put3 h3 f3 hx hc hb.neg (by first | (simp; done) | (simp only [List.length_nil] at l1; omega)) fun s4 σ4 h4 l4 f4 => ?_
      simp
      exact fin3 (by simpa using h4) f4 rfl
theorem r12_Clauses_ok {g : GateP} {pl mi : Bool} {σ : GS} {Post : DV → GS → Prop} (hs : shpG g.k g.ins.length = true) (hx : Lt g.v) (hi : ∀ l ∈ g.ins, Lt l) (hil : g.ins.length < 2 ^ 29) (h : Post (fcls (gcl g.v g.k g.ins pl mi)) σ) : GCall Tryz.prog F_skolemref12_Clauses [g.enc, .bool pl, .bool mi] σ Post := by
  obtain ⟨v, k, ins⟩ := g
  rcases shpG_cases hs with e | e | ⟨e, h2⟩ | ⟨e, h2⟩ <;> simp only at e <;> subst e
  · exact r12_cl1_ok hx hi hil h
  · exact r12_cl2_ok hx hi hil h
  · match ins, h2 with
    | [a, b], _ => exact r12_cl3_ok hx (hi a (by simp)) (hi b (by simp)) h
  · match ins, h2 with
    | [c, a, b], _ => exact r12_cl4_ok hx (hi c (by simp)) (hi a (by simp)) (hi b (by simp)) h
theorem r12_SameClauses_ok {xs ys : List (List Int)} {σ : GS} {Post : DV → GS → Prop} (hl : ClsSm xs) (h : Post (.bool (decide (xs = ys))) σ) : GCall Tryz.prog F_skolemref12_SameClauses [fcls xs, fcls ys] σ Post := by
  obtain ⟨h1, h3⟩ := hl
  refine gc_skolemref12_SameClauses ?_
  by_cases hlen : xs.length = ys.length
  rotate_left
  · have hne : xs ≠ ys := fun e => hlen (by rw [e])
    have hlen' : ¬ ((xs.length : Int) = ys.length) := by omega
    simp [G_skolemref12_SameClauses, genv0, List.replicate, hlen']
    simpa [hne] using h
  simp [G_skolemref12_SameClauses, genv0, List.replicate, hlen]
  refine gfor xs.length (fun i e σ' => σ' = σ ∧ (xs = ys ↔ xs.drop i = ys.drop i) ∧ e = mkEnv 27 [(0, fcls xs), (1, fcls ys), (5, .int .i64 i)]) _ ?_ ⟨rfl, by simp, rfl⟩ ?_
  · simp [mkEnv, List.replicate]
  rintro i _ _ hi ⟨rfl, hI, rfl⟩
  simp [mkEnv, List.replicate]
  by_cases hlt : i < xs.length
  · obtain ⟨x, hx⟩ := nth_lt hlt
    obtain ⟨y, hy⟩ := nth_lt (l := ys) (i := i) (by omega)
    have hxl := h3 x (List.mem_of_getElem? (nth_get hx))
    rw [drop_get hx, drop_get hy, List.cons.injEq] at hI
    have es : IntKind.i64.wrap ((i : Int) + 1) = (i : Int) + 1 := by rw [wrap_small] <;> omega
    simp [hlt, hx, hy]
    refine ref_Ints_ok (by omega) ?_
    by_cases c : x = y
    · simp [c, es]
      exact forK_go _ hlt (by simp [mkEnv, List.replicate]) ⟨rfl, by rw [hI]; simp [c], rfl⟩
    · have hne : xs ≠ ys := fun e => c (hI.1 e).1
      simp [c]
      simpa [hne] using h
  · have : i = xs.length := by omega
    subst this
    have he : xs = ys := hI.2 (by rw [List.drop_length, hlen, List.drop_length])
    simp
    simpa [he] using h
end Go.Gh
namespace Go.Gh
open Go.RowKit Go.Proofs
set_option linter.unusedVariables false
set_option linter.unusedSimpArgs false
set_option maxRecDepth 100000
end Go.Gh
namespace Go.Gh
open Go.RowKit Go.Proofs
set_option linter.unusedVariables false
set_option linter.unusedSimpArgs false
set_option maxRecDepth 100000
theorem r12_signed_ok {m : Nat} {s : DV} {name : List Int} {x : Int} {σ : GS} {Post : DV → GS → Prop} (hO : Own m 1 eint σ s name) (h0 : 0 ≤ x) (h1 : (x / 2).toNat < name.length) (hx : x < 2 ^ 40) (hv : Lt (ofE name x)) (h : Post (.int .i64 (ofE name x)) σ) : GCall Tryz.prog F_skolemref12_signed [s, .int .i64 x] σ Post := by
  refine gc_skolemref12_signed ?_
  obtain ⟨v, hvv⟩ := get_lt h1
  have hgd : name.getD (x / 2).toNat 0 = v := by rw [List.getD_eq_getElem?_getD, hvv]; rfl
  obtain ⟨d, d1, d2⟩ := hO.ix hvv
  rw [show (((x / 2).toNat : Nat) : Int) = x / 2 by omega] at d1
  have ht1 : x.tmod 2 = x % 2 := by rw [Int.tmod_eq_emod_of_nonneg h0]
  have ht2 : x.tdiv 2 = x / 2 := by rw [Int.tdiv_eq_ediv_of_nonneg h0]
  have ew : IntKind.i64.wrap (x / 2) = x / 2 := by rw [wrap_small] <;> omega
  unfold ofE at h hv
  rw [hgd] at h hv
  by_cases c : x % 2 = 1
  · rw [if_pos c] at h hv
    have hw2 : IntKind.i64.wrap (-v) = -v := by unfold Lt at hv; rw [wrap_small] <;> omega
    simp [G_skolemref12_signed, genv0, List.replicate, ht1, ht2, c, ew, d1, d2, hw2]
    exact h
  · rw [if_neg c] at h hv
    simp [G_skolemref12_signed, genv0, List.replicate, ht1, ht2, c, ew, d1, d2]
    exact h
/-- A CNF by the reference. -/
def cnf5 (l : List (List Int)) : Bool := decide (l.length ≤ 20000) && decide ((l.map fun c => c.length).sum ≤ 200000) && l.all normal
theorem r12_Cnf_ok {l : List (List Int)} {σ : GS} {Post : DV → GS → Prop} (hl : l.length < 2 ^ 50) (hs : (l.map fun c => c.length).sum < 2 ^ 50) (h : Post (.bool (cnf5 l)) σ) : GCall Tryz.prog F_skolemref12_Cnf [fcls l] σ Post := by
  refine gc_skolemref12_Cnf ?_
  simp [G_skolemref12_Cnf, genv0, List.replicate]
  refine gfor l.length (fun i e σ' => σ' = σ ∧ i ≤ 20000 ∧ ((l.map fun c => c.length).take i).sum ≤ 200000 ∧ (∀ (j : Nat) c, j < i → l[j]? = some c → normal c = true) ∧ e = mkEnv 32 [(0, fcls l), (3, .int .i64 (((l.map fun c => c.length).take i).sum : Nat)), (4, .int .i64 i)]) _ ?_ ⟨rfl, by omega, by simp, fun j c hj => by omega, rfl⟩ ?_
  · simp [mkEnv, List.replicate]
  rintro i _ _ hi ⟨rfl, hi2, hsm, hnm, rfl⟩
  simp [mkEnv, List.replicate]
  by_cases hlt : i < l.length
  · obtain ⟨c, hc⟩ := nth_lt hlt
    have hc' := nth_get hc
    have es : IntKind.i64.wrap ((i : Int) + 1) = (i : Int) + 1 := by rw [wrap_small] <;> omega
    have h1 := sum_snoc (f := fun c : List Int => c.length) hc'
    have h2 := sum_take (fun c : List Int => c.length) l (i + 1)
    obtain ⟨q, hq⟩ : ∃ q, ((l.map fun c => c.length).take i).sum = q := ⟨_, rfl⟩
    obtain ⟨q2, hq2⟩ : ∃ q, ((l.map fun c => c.length).take (i + 1)).sum = q := ⟨_, rfl⟩
    obtain ⟨q3, hq3⟩ : ∃ q, (l.map fun c => c.length).sum = q := ⟨_, rfl⟩
    rw [hq, hq2] at h1
    rw [hq2, hq3] at h2
    rw [hq] at hsm
    rw [hq3] at hs
    have ew : IntKind.i64.wrap ((q : Int) + c.length) = (q2 : Int) := by rw [wrap_small] <;> omega
    by_cases c1 : 20000 ≤ i
    · have c1' : (20000 : Int) ≤ i := by omega
      simp [hlt, hc, hq, ew, c1']
      have : cnf5 l = false := by unfold cnf5; simp; intro hh; omega
      rw [this] at h; exact h
    have c1' : ¬ (20000 : Int) ≤ i := by omega
    by_cases c2 : 200000 < q2
    · have c2' : (200000 : Int) < q2 := by omega
      simp [hlt, hc, hq, ew, c1', c2']
      have : cnf5 l = false := by unfold cnf5; rw [hq3]; simp; intro _ hh; omega
      rw [this] at h; exact h
    have c2' : ¬ (200000 : Int) < q2 := by omega
    simp [hlt, hc, hq, ew, c1', c2']
    refine ref_Normal_ok (by omega) ?_
    cases hn : normal c with
    | false =>
      simp
      have : cnf5 l = false := by
        have : l.all normal = false := by rw [List.all_eq_false]; exact ⟨c, List.mem_of_getElem? hc', by rw [hn]; simp⟩
        unfold cnf5; rw [this]; simp
      rw [this] at h; exact h
    | true =>
      simp [es]
      refine forK_go _ hlt (by simp [mkEnv, List.replicate, hq2]) ⟨rfl, by omega, by omega, fun j c' hj hc2 => ?_, rfl⟩
      by_cases hji : j = i
      · subst hji; rw [hc'] at hc2; cases hc2; exact hn
      · exact hnm j c' (by omega) hc2
  · have : i = l.length := by omega
    subst this
    simp
    have e1 : (l.map fun c => c.length).take l.length = l.map fun c => c.length := List.take_of_length_le (by simp)
    rw [e1] at hsm
    have : cnf5 l = true := by
      unfold cnf5
      simp only [Bool.and_eq_true, decide_eq_true_eq, List.all_eq_true]
      refine ⟨⟨by omega, hsm⟩, fun c hc => ?_⟩
      obtain ⟨j, hj⟩ := List.mem_iff_getElem?.1 hc
      exact hnm j c (get_dom hj) hj
    rw [this] at h; exact h
end Go.Gh
namespace Go.Gh
open Go.RowKit Go.Proofs
set_option linter.unusedVariables false
set_option linter.unusedSimpArgs false
set_option maxRecDepth 100000
@[simp] theorem fill_gate (z0 z1 z2 : DV) (k1 k2 : IntKind) (x y : Int) (a b c d : Nat) (e : Option Nat) : gfill [(0, 1), (1, 1), (2, 1)] [z0, z1, z2] [.int k1 x, .int k2 y, .slice a b c d e] = some [.int k1 x, .int k2 y, .slice a b c d e] := rfl
/-- Lists that nobody writes, behind what is there. -/
theorem LX.appF {n : Nat} {σ : GS} {s : DV} {raws : List DV} {cs : List (List Int)} (h : LX n σ s raws cs) (ys : List (List Int)) (hl : n ≤ σ.length) (hgo : (cs.length + ys.length) * 24 ≤ 140737488355328) :
    ∃ s' σ' raws', gimp (.append 1 24) [s, fcls ys] σ = some (s', σ') ∧ LX n σ' s' raws' (cs ++ ys) ∧ Fr n σ σ' ∧ σ.length ≤ σ'.length ∧ (∀ i, i < σ.length → ¬ s.has i → σ'[i]? = σ[i]?) := by
  have hfl : (ys.map fints).flatMap eone = ys.flatMap ecl := by
    induction ys with
    | nil => rfl
    | cons y ys ih =>
      have := ih (by simp at hgo; omega)
      rw [List.map_cons, List.flatMap_cons, this]; rfl
  obtain ⟨s', σ', q1, q2, q3, q4, q5, q6, q7⟩ := h.own.append (by_ := 24) (x := fcls ys) (ys := ys.map fints) (fun _ => rfl) (by simp [gread, hfl]; exact flatMap_flatten ecl ys) (by simp [glen]) (fun y hy => by obtain ⟨z, _, rfl⟩ := List.mem_map.1 hy; simp) hl (by rw [h.len, List.length_map]; exact hgo) (by decide)
  refine ⟨s', σ', raws ++ ys.map fints, q1, ⟨q2, by simp [h.len], fun i r b h1 h2 => ?_⟩, q3, q4, q5⟩
  by_cases hi : i < raws.length
  · rw [List.getElem?_append_left hi] at h1
    rw [List.getElem?_append_left (by rw [← h.len]; exact hi)] at h2
    rcases h.at_ i r b h1 h2 with c | ⟨c, d⟩
    · exact .inl c
    · exact .inr ⟨c.fit fun j hj => q5 j (c.has_lt hj) (d j hj), fun k hk hk' => by
        rcases q6 k hk' with h1 | h1
        · exact d k hk h1
        · have := c.has_lt hk; omega⟩
  · rw [List.getElem?_append_right (by omega)] at h1
    rw [List.getElem?_append_right (by rw [← h.len]; omega), ← h.len] at h2
    rw [List.getElem?_map, h2] at h1
    simp at h1
    exact .inl h1.symm
theorem LX.live {n : Nat} {σ : GS} {s : DV} {raws : List DV} {l : List (List Int)} {Post : DV → GS → Prop} (hX : LX n σ s raws l) (hl : l.length < 2 ^ 50) (hs : (l.map fun c => c.length).sum < 2 ^ 50) (h : Post (.bool (cnf5 l)) σ) : GCall Tryz.prog F_skolemref12_Cnf [s] σ Post := by
  refine GCall.borrow (args' := [fcls l]) (r := .bool (cnf5 l)) (.cons (hX.rd fun _ _ => trivial) .nil) (by simp) rfl ?_ h
  exact r12_Cnf_ok hl hs rfl
/-- Clauses of an And whose literals were just laid. -/
theorem cl_call {id : Nat} {x a b : Int} {σ : GS} {Post : DV → GS → Prop} (hr : σ[id]? = some (.row false [.int .i64 a, .int .i64 b])) (hx : Lt x) (ha : Lt a) (hb : Lt b) (k : ∀ σ', (∀ j, j ≠ id → σ'[j]? = σ[j]?) → σ'.length = σ.length → Post (fcls (gcl x 1 [a, b] true true)) σ') :
    GCall Tryz.prog F_skolemref12_Clauses [.agg [.int .i64 x, .int .u8 1, .slice id 0 2 1 (some 2)], .bool true, .bool true] σ Post := by
  have hO : Own 0 1 eint σ (.slice id 0 [a, b].length 1 (some 2)) [a, b] := .at_ (Nat.zero_le _) (by rw [hr]; rfl) (fun c hc => by cases hc; rfl)
  have hrd := hO.rdF (fun _ => rfl)
  refine GCall.frz (fun i => (some id == some i)) (args' := [GateP.enc ⟨x, 1, [a, b]⟩, .bool true, .bool true]) (.cons (.agg (.cons (.same _) (.cons (.same _) (.cons hrd .nil)))) (.cons (.same _) (.cons (.same _) .nil))) ?_
  refine r12_Clauses_ok rfl hx (lt2 ha hb) (by simp) (k _ (fun j hj => frz_off (by simp; exact fun e => hj e.symm)) (frz_len _ _))
theorem nm_skip_ins {g : AigP} {r : List Bool} {first : Int} : ∀ {j : Nat}, j ≤ g.ins.length → nmFold g r first (1 + j) = nmFold g r first 1
  | 0, _ => rfl
  | j + 1, h => by
    rw [show 1 + (j + 1) = (1 + j) + 1 by omega, nmFold, nm_skip_ins (by omega)]
    cases hf : nmFold g r first 1 with
    | none => rfl
    | some s =>
      rw [Option.bind_some, nmStep, if_pos]
      unfold nmSkip
      simp
      right; omega
end Go.Gh
namespace Go.Gh
set_option linter.unusedVariables false
set_option linter.unusedSimpArgs false
theorem normR_asc : ∀ {l : List Int} {last : Int}, AscA l → (∀ x ∈ l, Lt x ∧ last < ab x) → normR last l = true
  | [], _, _, _ => rfl
  | x :: l, last, ha, h => by
    have h1 := List.pairwise_cons.1 ha
    obtain ⟨hx, hl⟩ := h x (by simp)
    have hab := hx.ab
    rw [normR, hx.gabs]
    have hv : isVar (ab x) = true := by unfold isVar; simp only [Bool.and_eq_true, decide_eq_true_eq]; omega
    rw [hv, normR_asc h1.2 fun y hy => ⟨(h y (by simp [hy])).1, h1.1 y hy⟩]
    simpa using hl
theorem normL_normal {l r : List Int} (h : normL l = some r) (hl : ∀ x ∈ l, Lt x) : normal r = true := by
  obtain ⟨a, b⟩ := normL_some h
  rw [normal_eq]
  refine normR_asc a fun x hx => ?_
  have := hl x ((b x).1 hx)
  exact ⟨this, this.ab.1⟩
theorem rawP_lt {x k : Int} {i : List Int} {pl mi : Bool} (hx : Lt x) (hi : ∀ l ∈ i, Lt l) (hs : shpG k i.length = true) : ∀ c ∈ rawP x k i pl mi, ∀ y ∈ c, Lt y := by
  have app : ∀ {a b : List (List Int)}, (∀ c ∈ a, ∀ y ∈ c, Lt y) → (∀ c ∈ b, ∀ y ∈ c, Lt y) → ∀ c ∈ a ++ b, ∀ y ∈ c, Lt y := fun h1 h2 c hc => (List.mem_append.1 hc).elim (h1 c) (h2 c)
  have non : ∀ c ∈ ([] : List (List Int)), ∀ y ∈ c, Lt y := fun c hc => by cases hc
  have mp : ∀ (f : Int → List Int), (∀ z, Lt z → ∀ y ∈ f z, Lt y) → ∀ c ∈ i.map f, ∀ y ∈ c, Lt y := fun f hf c hc => by
    obtain ⟨z, hz, rfl⟩ := List.mem_map.1 hc; exact hf z (hi z hz)
  have one : ∀ (z : List Int), (∀ y ∈ z, Lt y) → ∀ c ∈ [z], ∀ y ∈ c, Lt y := fun z hz c hc => by
    rw [List.mem_singleton.1 hc]; exact hz
  have two : ∀ (u v : List Int), (∀ y ∈ u, Lt y) → (∀ y ∈ v, Lt y) → ∀ c ∈ [u, v], ∀ y ∈ c, Lt y := fun u v hu hv c hc => by
    rcases List.mem_cons.1 hc with rfl | hc
    · exact hu
    · rw [List.mem_singleton.1 hc]; exact hv
  have three : ∀ {a b c : Int}, Lt a → Lt b → Lt c → ∀ y ∈ [a, b, c], Lt y := fun ha hb hc y hy => by
    simp at hy; rcases hy with rfl | rfl | rfl <;> assumption
  have gd : ∀ j, j < i.length → Lt (i.getD j 0) := fun j hj => by
    rw [List.getD_eq_getElem?_getD, List.getElem?_eq_getElem hj]; exact hi _ (List.getElem_mem hj)
  have hcs := shpG_cases hs
  unfold rawP
  split
  · refine app ?_ ?_ <;> split
    · exact mp _ fun z hz y hy => by simp at hy; rcases hy with rfl | rfl; exact hx.neg; exact hz
    · exact non
    · refine one _ fun y hy => ?_
      rcases List.mem_append.1 hy with hy | hy
      · obtain ⟨z, hz, rfl⟩ := List.mem_map.1 hy; exact (hi z hz).neg
      · simp at hy; subst hy; exact hx
    · exact non
  split
  · refine app ?_ ?_ <;> split
    · refine one _ fun y hy => ?_
      rcases List.mem_append.1 hy with hy | hy
      · exact hi y hy
      · simp at hy; subst hy; exact hx.neg
    · exact non
    · exact mp _ fun z hz y hy => by simp at hy; rcases hy with rfl | rfl; exact hx; exact hz.neg
    · exact non
  split
  · have g0 := gd 0 (by omega)
    have g1 := gd 1 (by omega)
    refine app ?_ ?_ <;> split
    · exact two _ _ (three hx.neg g0 g1) (three hx.neg g0.neg g1.neg)
    · exact non
    · exact two _ _ (three hx g0.neg g1) (three hx g0 g1.neg)
    · exact non
  · have g0 := gd 0 (by omega)
    have g1 := gd 1 (by omega)
    have g2 := gd 2 (by omega)
    refine app ?_ ?_ <;> split
    · exact two _ _ (three hx.neg g0.neg g1) (three hx.neg g0 g2)
    · exact non
    · exact two _ _ (three hx g0.neg g1.neg) (three hx g0 g2.neg)
    · exact non
theorem gcl_normal {x k : Int} {i : List Int} {pl mi : Bool} (hx : Lt x) (hi : ∀ l ∈ i, Lt l) (hs : shpG k i.length = true) : ∀ c ∈ gcl x k i pl mi, normal c = true := fun c hc => by
  obtain ⟨r, hr, h⟩ := List.mem_filterMap.1 hc
  exact normL_normal h (rawP_lt hx hi hs r hr)
theorem nm_normal {g : AigP} {edges : List Int} {first : Int} (hm : g.may = true) (hf : 1 ≤ first) : ∀ {k : Nat} {s : Nm}, k ≤ g.nodes → nmFold g (g.reach edges) first k = some s → ∀ c ∈ s.cs, normal c = true
  | 0, s, _, h => by cases h; intro c hc; cases hc
  | k + 1, s, hk, h => by
    rw [nmFold] at h
    obtain ⟨s0, h1, h2⟩ := Option.bind_eq_some_iff.1 h
    have ih := nm_normal hm hf (by omega) h1
    have hok := NmOk.fold (edges := edges) hm hf (by omega) h1
    unfold nmStep at h2
    split at h2
    · cases h2; exact ih
    · rename_i hs
      split at h2
      · cases h2
      · rename_i hn
        cases h2
        have hs : nmSkip g (g.reach edges) k = false := by simpa using hs
        have hlo := hok.lo
        have hlt : Lt s0.next := by unfold Lt; omega
        intro c hc
        rcases List.mem_append.1 hc with hc | hc
        · exact ih c hc
        · unfold nmNew at hc
          split at hc
          · simp at hc
            subst hc
            exact normL_normal (l := [-s0.next]) rfl fun y hy => by simp at hy; subst hy; exact hlt.neg
          · rename_i hk0
            have hkb : 1 + g.ins.length ≤ k := by unfold nmSkip at hs; simp at hs; omega
            have hlen : k - (1 + g.ins.length) < g.ands.length := by have : g.nodes = 1 + g.ins.length + g.ands.length := rfl; omega
            obtain ⟨⟨_, _, a3⟩, _, _, b3⟩ := hok.lits hm (by omega) hkb hs (List.getElem?_eq_getElem hlen) s0.next
            have hgd : g.ands.getD (k - (1 + g.ins.length)) (0, 0) = g.ands[k - (1 + g.ins.length)] := by rw [List.getD_eq_getElem?_getD, List.getElem?_eq_getElem hlen]; rfl
            rw [hgd] at hc
            exact gcl_normal hlt (lt2 a3 b3) rfl c hc
end Go.Gh
namespace Go.Gh
open Go.RowKit Go.Proofs
set_option linter.unusedVariables false
set_option linter.unusedSimpArgs false
set_option maxRecDepth 100000
abbrev graphE (g : AigP) (edges : List Int) (first : Int) : DV := .tuple [fcls (graphZ g edges first).1, fints (graphZ g edges first).2.1, .int .i64 (graphZ g edges first).2.2.1, .int .i64 (graphZ g edges first).2.2.2]
theorem err_rdR {σ : GS} {ok : Nat → Prop} (e : Int) : Rd σ ok (.tuple [.nils, .nils, .int .i64 0, .int .i64 e]) (.tuple [fcls [], fints [], .int .i64 0, .int .i64 e]) := .tuple (.cons (.nils 1) (.cons (.nils 1) (.cons (.same _) (.cons (.same _) .nil))))
set_option maxHeartbeats 4000000 in
theorem r12_Graph_ok {g : AigP} {edges : List Int} {first : Int} {σ : GS} {Post : DV → GS → Prop} (hs : g.Sm) (ha : g.ands.length ≤ 600) (hel : edges.length < 2 ^ 30) (h : Post (graphE g edges first) σ) : GCall Tryz.prog F_skolemref12_Graph [g.enc, fints edges, .int .i64 first] σ Post := by
  refine GCall.pure (r := graphE g edges first) ?_ (by simp) h
  refine gc_skolemref12_Graph ?_
  have hins := hs.ins
  have hnod : g.nodes = 1 + g.ins.length + g.ands.length := rfl
  have e1 : IntKind.i64.wrap (1 + (g.ins.length : Int)) = 1 + g.ins.length := by rw [wrap_small] <;> omega
  simp [G_skolemref12_Graph, genv0, List.replicate]
  have hF1 : Fr σ.length σ (σ ++ [GObj.row false [fints g.ins, fands g.ands]]) := Fr.self _
  have no : ¬ (g.all edges && decide (1 ≤ first) && (decide (g.ins.length = 0) || decide (g.ins.getD (g.ins.length - 1) 0 < first))) = true → ∀ σ', Fr σ.length σ σ' → (Fr σ.length σ σ' ∧ Rd σ' (fun i => σ.length ≤ i ∨ RO σ' i) (.tuple [.nils, .nils, .int .i64 0, .int .i64 2]) (graphE g edges first)) := fun hn σ' hF' => by
    have : graphZ g edges first = ([], [], 0, 2) := if_neg hn
    unfold graphE
    rw [this]
    exact ⟨hF', err_rdR 2⟩
  refine ref_HasAll_ok hs (by omega) ?_
  cases hga : g.all edges with
  | false =>
    simp
    exact (no (by simp [hga]) _ hF1).2
  | true =>
  have hm := AigP.all_may hga
  have hnn := AigP.may_nodes hm
  have he : ∀ e ∈ edges, 0 ≤ e ∧ e < 2 * (g.nodes : Int) := fun e he => AigP.all_has hga he
  simp
  by_cases c1 : first < 1
  · simp [c1]
    exact (no (by simp; omega) _ hF1).2
  simp [c1]
  by_cases c2 : g.ins.length = 0
  · have c2' : ¬ (0 < g.ins.length) := by omega
    simp [c2']
    have hcond : (g.all edges && decide (1 ≤ first) && (decide (g.ins.length = 0) || decide (g.ins.getD (g.ins.length - 1) 0 < first))) = true := by rw [hga]; simp [c2]; omega
    obtain ⟨A, hA⟩ : ∃ A, GObj.row false [fints g.ins, fands g.ands] = A := ⟨_, rfl⟩
    have hld2 : ∀ τ, gload (.load 2 true) [.ptr σ.length 0] (σ ++ A :: τ) = some g.enc := fun τ => by simp [← hA]
    rw [hA]
    refine ref_Reached_ok hm (by omega) he ?_
    simp [hld2]
    refine ref_Nodes_ok hs ?_
    have hms := mslice_ints (n := g.nodes) (by omega) .i64 .i64
    obtain ⟨Z, hZ⟩ : ∃ Z : List Int, List.replicate g.nodes 0 = Z := ⟨_, rfl⟩
    have hZl : Z.length = g.nodes := by rw [← hZ]; simp
    rw [hZ] at hms
    obtain ⟨r, hr⟩ : ∃ r, g.reach edges = r := ⟨_, rfl⟩
    have hrl : r.length = g.nodes := by rw [← hr]; exact AigP.reach_len g edges
    obtain ⟨b, hb⟩ := nth_lt (l := r) (i := 0) (by omega)
    have hbd : r.getD 0 false = b := by rw [List.getD_eq_getElem?_getD, nth_get hb]; rfl
    simp [hms, hr, hb]
    have toolong : ∀ k, nmFold g r first k = none → k ≤ g.nodes → ∀ σ', Fr σ.length σ σ' → (Fr σ.length σ σ' ∧ Rd σ' (fun i => σ.length ≤ i ∨ RO σ' i) (.tuple [.nils, .nils, .int .i64 0, .int .i64 3]) (graphE g edges first)) := fun k hn hk σ' hF' => by
      have e : graphZ g edges first = ([], [], 0, 3) := by
        unfold graphZ
        rw [if_pos hcond, hr, nmFold_none hn _ hk]
      unfold graphE
      rw [e]
      exact ⟨hF', err_rdR 3⟩
    obtain ⟨S1, hS1⟩ : ∃ S, σ ++ [A, GObj.row false (ints Z)] = S := ⟨_, rfl⟩
    rw [hS1]
    have hl1 : S1.length = σ.length + 2 := by rw [← hS1]; simp
    have g0 : S1[σ.length]? = some (.row false [fints g.ins, fands g.ands]) := by rw [← hS1, hA]; simp
    have hZ0 : Own (σ.length + 1) 1 eint S1 (.slice (σ.length + 1) 0 g.nodes 1 (some g.nodes)) Z := by
      have := Own.at_ (n := σ.length + 1) (sz := 1) (enc := eint) (σ := S1) (id := σ.length + 1) (cap := some Z.length) (xs := Z) (Nat.le_refl _) (by rw [← hS1, flat_ei]; simp) (fun c hc => by cases hc; rfl)
      rwa [hZl] at this
    have hFr1 : Fr σ.length σ S1 := by rw [← hS1]; exact .self _
    have hF0 : Fr (σ.length + 1) S1 S1 := .refl (by omega)
    have nsh : ∀ j, j ≠ σ.length + 1 → ¬ (DV.slice (σ.length + 1) 0 g.nodes 1 (some g.nodes)).has j := fun j hj hh => by obtain ⟨_, _, _, _, e⟩ := hh; cases e; exact hj rfl
    have hZeq : Z = 0 :: List.replicate (g.ins.length + g.ands.length) 0 := by rw [← hZ, hnod, show 1 + g.ins.length + g.ands.length = (g.ins.length + g.ands.length) + 1 by omega, List.replicate_succ]
    cases b with
    | false =>
      have hn1 : nmFold g r first 1 = some ⟨0 :: g.ins ++ List.replicate g.ands.length 0, first, []⟩ := by
        show (some _).bind _ = _
        rw [Option.bind_some, nmStep, if_pos (by unfold nmSkip; rw [hbd]; rfl)]
      have hNa : Own (σ.length + 1) 1 eint S1 (.slice (σ.length + 1) 0 g.nodes 1 (some g.nodes)) (0 :: List.replicate (g.ins.length + g.ands.length) 0) := by rw [← hZeq]; exact hZ0
      have hXa : LX (σ.length + 2) S1 .nils [] [] := .nil
      simp [hb]
      refine gfor g.ins.length (fun j e σ' => Fr (σ.length + 1) S1 σ' ∧ Own (σ.length + 1) 1 eint σ' (.slice (σ.length + 1) 0 g.nodes 1 (some g.nodes)) ((0 : Int) :: (g.ins.take j ++ List.replicate (g.ins.length - j + g.ands.length) 0)) ∧ LX (σ.length + 2) σ' .nils [] [] ∧ e = mkEnv 165 [(1, fints edges), (3, .ptr σ.length 0), (10, fbools r), (11, .slice (σ.length + 1) 0 g.nodes 1 (some g.nodes)), (12, .int .i64 (first)), (13, .nils), (14, .int .i64 j)]) _ ?_ ⟨hF0, by simpa using hNa, hXa, rfl⟩ ?_
      · simp [mkEnv, List.replicate]
      rintro j _ σ2 hj ⟨hF2, hN2, hX2, rfl⟩
      have u0 : σ2[σ.length]? = some (.row false [fints g.ins, fands g.ands]) := (hF2.get _ (by omega)).trans g0
      have la0 : gload (.load 1 false) [.ptr σ.length 0] σ2 = some (fints g.ins) := by rw [ld_at u0]; rfl
      simp [mkEnv, List.replicate, la0]
      by_cases hlt : j < g.ins.length
      · obtain ⟨v, hv⟩ := nth_lt hlt
        have hv' := nth_get hv
        have es : IntKind.i64.wrap ((j : Int) + 1) = (j : Int) + 1 := by rw [wrap_small] <;> omega
        obtain ⟨d', σ7, x1, x2, x3, x4, x5, x6⟩ := hN2.set (f := fun x => DV.int .i64 x) (i := j + 1) (by simp; omega) v (by simp) (k := .i64)
        simp at x2
        simp [hlt, hv, es, x2, x3, la0]
        refine forK_go _ hlt (by simp [mkEnv, List.replicate]) ⟨⟨by have := hF2.len; omega, fun k hk => (x6 k (nsh k (by omega))).trans (hF2.get k hk)⟩, ?_, hX2.fit fun k hk => x6 k (nsh k (by have := (hX2.lt hk).1; omega)), rfl⟩
        have e : ((0 : Int) :: (g.ins.take j ++ List.replicate (g.ins.length - j + g.ands.length) 0)).set (j + 1) v = (0 : Int) :: (g.ins.take (j + 1) ++ List.replicate (g.ins.length - (j + 1) + g.ands.length) 0) := by
          have hjl : (g.ins.take j).length = j := by simp; omega
          rw [List.set_cons_succ, List.set_append_right _ _ (by omega), hjl, Nat.sub_self, take_get hv', show g.ins.length - j + g.ands.length = (g.ins.length - (j + 1) + g.ands.length) + 1 by omega, List.replicate_succ, List.set_cons_zero]
          simp
        rw [← e]; exact x4
      have : j = g.ins.length := by omega
      subst this
      rw [List.take_length, Nat.sub_self, Nat.zero_add] at hN2
      simp
      have hfb : nmFold g r first (1 + g.ins.length) = some ⟨(0 : Int) :: g.ins ++ List.replicate g.ands.length 0, first, []⟩ := by rw [nm_skip_ins (Nat.le_refl _)]; exact hn1
      refine gfor g.ands.length (fun i e σ' => Fr (σ.length + 1) S1 σ' ∧ ∃ s so raws, nmFold g r first (1 + g.ins.length + i) = some s ∧ Own (σ.length + 1) 1 eint σ' (.slice (σ.length + 1) 0 g.nodes 1 (some g.nodes)) s.name ∧ LX (σ.length + 2) σ' so raws s.cs ∧ e = mkEnv 165 [(1, fints edges), (3, .ptr σ.length 0), (10, fbools r), (11, .slice (σ.length + 1) 0 g.nodes 1 (some g.nodes)), (12, .int .i64 s.next), (13, so), (15, .int .i64 i)]) _ ?_ ⟨hF2, _, .nils, [], hfb, hN2, hX2, rfl⟩ ?_
      · simp [mkEnv, List.replicate]
      clear hF2 hN2 hX2 u0 la0
      rintro i _ σ3 hi ⟨hF3, s, so3, raws3, hfold, hN3, hX3, rfl⟩
      have hsn : NmOk g (g.reach edges) first (1 + g.ins.length + i) s := NmOk.fold (edges := edges) hm (by omega) (by omega) (by rw [hr]; exact hfold)
      have hcnt : s.cs.length ≤ 1803 := by have := hsn.cnt; split at this <;> omega
      have u3 : σ3[σ.length]? = some (.row false [fints g.ins, fands g.ands]) := (hF3.get _ (by omega)).trans g0
      have la0 : gload (.load 1 false) [.ptr σ.length 0] σ3 = some (fints g.ins) := by rw [ld_at u3]; rfl
      have la1 : gload (.load 1 false) [.ptr σ.length 1] σ3 = some (fands g.ands) := by rw [ld_at u3]; rfl
      have hlow3 := hF3.len
      have hlow3b : σ.length + 1 < σ3.length := hN3.has_lt ⟨_, _, _, _, rfl⟩
      have hFr3 : Fr σ.length σ σ3 := hFr1.trans (hF3.mono (by omega))
      simp [mkEnv, List.replicate, la1]
      by_cases hlt : i < g.ands.length
      · obtain ⟨k, hk⟩ : ∃ k, 1 + g.ins.length + i = k := ⟨_, rfl⟩
        have hkn : k < g.nodes := by omega
        obtain ⟨p, hp⟩ := nth_lt hlt
        have hp' := nth_get hp
        have hpk : g.ands[k - (1 + g.ins.length)]? = some p := by rw [show k - (1 + g.ins.length) = i by omega]; exact hp'
        obtain ⟨b, hb⟩ := nth_lt (l := r) (i := k) (by omega)
        have hbk : r.getD k false = b := by rw [List.getD_eq_getElem?_getD, nth_get hb]; rfl
        have es : IntKind.i64.wrap ((i : Int) + 1) = (i : Int) + 1 := by rw [wrap_small] <;> omega
        have ek : IntKind.i64.wrap (1 + (g.ins.length : Int) + i) = ((k : Nat) : Int) := by rw [wrap_small] <;> omega
        rw [hk] at hfold hsn
        have hk1 : 1 + g.ins.length + (i + 1) = k + 1 := by omega
        cases b with
        | false =>
          have hskip : nmFold g r first (k + 1) = some s := by rw [nmFold, hfold, Option.bind_some, nmStep, if_pos (by unfold nmSkip; rw [hbk]; rfl)]
          simp [hlt, la0, e1, ek, hb, es]
          exact forK_go _ hlt (by simp [mkEnv, List.replicate]) ⟨hF3, s, so3, raws3, by rw [hk1]; exact hskip, hN3, hX3, rfl⟩
        | true =>
        have hns : nmSkip g (g.reach edges) k = false := by rw [hr]; unfold nmSkip; rw [hbk]; simp; omega
        have step : nmFold g r first (k + 1) = if 65536 < s.next then none else some ⟨s.name.set k s.next, s.next + 1, s.cs ++ nmNew g s k⟩ := by
          rw [nmFold, hfold, Option.bind_some, nmStep, if_neg (by rw [← hr, hns]; simp)]
        obtain ⟨d', σ7, x1, x2, x3, x4, x5, x6⟩ := hN3.set (f := fun x => DV.int .i64 x) (i := k) (by rw [hsn.len]; exact hkn) s.next (by simp) (k := .i64)
        have hF7 : Fr (σ.length + 1) S1 σ7 := ⟨by omega, fun j hj => (x6 j (nsh j (by omega))).trans (hF3.get j hj)⟩
        have hX7 : LX (σ.length + 2) σ7 so3 raws3 s.cs := hX3.fit fun j hj => x6 j (nsh j (by have := (hX3.lt hj).1; omega))
        by_cases hbig2 : 65536 < s.next
        · simp [hlt, la0, e1, ek, hb, x2, x3, hbig2]
          exact toolong (k + 1) (by rw [step, if_pos hbig2]) (by omega) _ (hFr1.trans (hF7.mono (by omega)))
        have hlo := hsn.lo
        have hltn : Lt s.next := by unfold Lt; omega
        have ew : IntKind.i64.wrap (s.next + 1) = s.next + 1 := by rw [wrap_small] <;> omega
        obtain ⟨d3, w4, w5⟩ := x4.ix (i := k) (x := s.next) (by rw [List.getElem?_set_self (by rw [hsn.len]; exact hkn)])
        have hdd3 : d3 = d' := by have := w4.symm.trans x2; simpa using this
        rw [hdd3] at w5
        obtain ⟨⟨q1, q2, q3⟩, q4, q5, q6⟩ := hsn.lits hm hkn (by omega) hns hpk s.next
        obtain ⟨z1, z2, z3, z4⟩ := andsOk_get (AigP.may_ands hm) hp'
        have hls : (s.name.set k s.next).length = g.nodes := by rw [List.length_set]; exact hsn.len
        have u7 : σ7[σ.length]? = some (.row false [fints g.ins, fands g.ands]) := (hF7.get _ (by omega)).trans g0
        have la7 : ∀ τ, gload (.load 1 false) [.ptr σ.length 1] (σ7 ++ τ) = some (fands g.ands) := fun τ => by rw [ld_at (getE_append u7)]; rfl
        have la7' : gload (.load 1 false) [.ptr σ.length 1] σ7 = some (fands g.ands) := by rw [ld_at u7]; rfl
        have w5' : ∀ τ, gload (.load 1 false) [.ptr d' k] (σ7 ++ τ) = some (.int .i64 s.next) := fun τ => by
          rw [ld_app (by have := x1; have := hN3.has_lt x1; omega)]; exact w5
        have hx7 : ∀ τ, Own (σ.length + 1) 1 eint (σ7 ++ τ) (.slice (σ.length + 1) 0 g.nodes 1 (some g.nodes)) (s.name.set k s.next) := fun τ => x4.fr (Fr.rfl'.app τ)
        simp [hlt, la0, e1, ek, hb, x2, x3, hbig2, ew, w5, w5', la7, la7', hp]
        refine r12_signed_ok (hx7 _) q1 (by rw [hls]; omega) (by omega) q3 ?_
        simp
        refine r12_signed_ok (hx7 _) q4 (by rw [hls]; omega) (by omega) q6 ?_
        simp
        refine cl_call (id := σ7.length + 1) ?_ hltn q3 q6 fun σ8 k8 l8 => ?_
        · simp
        have l8' : σ8.length = σ7.length + 2 := by rw [l8]; simp
        have low8 : ∀ j, j < σ7.length → σ8[j]? = σ7[j]? := fun j hj => by rw [k8 j (by omega), List.getElem?_append_left hj]
        have hX8 : LX (σ.length + 2) σ8 so3 raws3 s.cs := hX7.fit fun j hj => low8 j (hX7.lt hj).2
        have hg3 := (gcl_and2 (v := s.next) (a := ofE (s.name.set k s.next) p.1) (b := ofE (s.name.set k s.next) p.2)).1
        obtain ⟨so9, σ9, raws9, y1, y2, y3, y4, y5⟩ := hX8.appF (gcl s.next 1 [ofE (s.name.set k s.next) p.1, ofE (s.name.set k s.next) p.2] true true) (by omega) (by omega)
        have low9 : ∀ j, j < σ.length + 2 → σ9[j]? = σ7[j]? := fun j hj => by
          rw [y5 j (by omega) (fun hh => by have := (hX8.lt (.inl hh)).1; omega)]; exact low8 j (by omega)
        have hnn1 : gcl s.next 1 [ofE (s.name.set k s.next) p.1, ofE (s.name.set k s.next) p.2] true true = nmNew g s k := by
          unfold nmNew
          rw [if_neg (by omega), show g.ands.getD (k - (1 + g.ins.length)) (0, 0) = p by rw [List.getD_eq_getElem?_getD, hpk]; rfl]
        rw [hnn1] at y1 y2
        simp [hnn1, y1, es]
        refine forK_go _ hlt (by simp [mkEnv, List.replicate]) ⟨⟨by omega, fun j hj => (low9 j (by omega)).trans (hF7.get j hj)⟩, ⟨s.name.set k s.next, s.next + 1, s.cs ++ nmNew g s k⟩, so9, raws9, by rw [hk1, step, if_neg hbig2], x4.fit fun j hj => ?_, y2, rfl⟩
        obtain ⟨_, _, _, _, ee⟩ := hj
        cases ee
        exact low9 _ (by omega)
      have : i = g.ands.length := by omega
      subst this
      have hfold' : nmFold g (g.reach edges) first g.nodes = some s := by rw [hr, hnod]; exact hfold
      have hz : graphZ g edges first = (s.cs, edges.map (ofE s.name), s.next, 0) := by unfold graphZ; rw [if_pos hcond, hfold']
      have hsum := cs_sum hsn.sz
      have hall := nm_normal hm (by omega) (Nat.le_refl _) hfold'
      have hfits : cnf5 s.cs = true := by
        unfold cnf5
        simp only [Bool.and_eq_true, decide_eq_true_eq, List.all_eq_true]
        exact ⟨⟨by omega, by omega⟩, hall⟩
      simp
      refine hX3.live (by omega) (by omega) ?_
      rw [hfits]
      simp
      refine gfor edges.length (fun j e σ' => Fr σ3.length σ3 σ' ∧ ∃ sl, Own σ3.length 1 eint σ' sl ((edges.take j).map (ofE s.name)) ∧ e = mkEnv 165 [(1, fints edges), (11, .slice (σ.length + 1) 0 g.nodes 1 (some g.nodes)), (12, .int .i64 s.next), (13, so3), (18, sl), (19, .int .i64 j)]) _ ?_ ⟨.rfl', .nils, .nil, rfl⟩ ?_
      · simp [mkEnv, List.replicate]
      rintro j _ σ6 hj ⟨hF6, sl, hO6, rfl⟩
      simp [mkEnv, List.replicate]
      by_cases hjt : j < edges.length
      · obtain ⟨y, hy⟩ := nth_lt hjt
        have hy' := nth_get hy
        obtain ⟨y0, y1⟩ := he y (List.mem_of_getElem? hy')
        have ej : IntKind.i64.wrap ((j : Int) + 1) = (j : Int) + 1 := by rw [wrap_small] <;> omega
        simp [hjt, hy]
        refine r12_signed_ok (hN3.fr hF6) y0 (by rw [hsn.len]; omega) (by omega) (ofE_lt (hsn.node hm (by omega) (AigP.reach_edge (List.mem_of_getElem? hy') y0 y1) (by omega))) ?_
        obtain ⟨s', σ7, q1, q2, q3, q4, q5, q6⟩ := hO6.push (by_ := 8) (ofE s.name y) (fun _ => rfl) (by simp) hF6.len (by simp; omega) (by decide)
        simp [q1, ej]
        exact forK_go _ hjt (by simp [mkEnv, List.replicate]) ⟨hF6.trans q3, s', by rw [take_get hy', List.map_append]; exact q2, rfl⟩
      · have : j = edges.length := by omega
        subst this
        rw [List.take_length] at hO6
        have hX6 : LX (σ.length + 2) σ6 so3 raws3 s.cs := hX3.fit fun j hj => hF6.get j (hX3.lt hj).2
        simp
        unfold graphE
        rw [hz]
        exact ⟨hFr3.trans (hF6.mono (by omega)), .tuple (.cons (hX6.rd fun j hj => .inl (by omega)) (.cons (hO6.rd (fun _ => rfl) fun j hj => .inl (by omega)) (.cons (.same _) (.cons (.same _) .nil))))⟩
    | true =>
      have hstep : nmFold g r first 1 = if 65536 < first then none else some ⟨(0 :: g.ins ++ List.replicate g.ands.length 0).set 0 first, first + 1, [[-first]]⟩ := by
        show (some _).bind _ = _
        rw [Option.bind_some, nmStep, if_neg (by unfold nmSkip; rw [hbd]; simp)]
        rfl
      by_cases hbig : 65536 < first
      · simp [hb, hbig]
        exact toolong 1 (by rw [hstep, if_pos hbig]) (by omega) _ hFr1
      have hn1 : nmFold g r first 1 = some ⟨first :: g.ins ++ List.replicate g.ands.length 0, first + 1, [[-first]]⟩ := by rw [hstep, if_neg hbig]; rfl
      obtain ⟨d, σ6, v1, v2, v3, v4, v5, v6⟩ := hZ0.set (f := fun x => DV.int .i64 x) (i := 0) (by omega) first (by simp) (k := .i64)
      rw [hZeq, List.set_cons_zero] at v4
      obtain ⟨d2, w4, w5⟩ := v4.ix (i := 0) (x := first) rfl
      have hdd : d2 = d := by have := w4.symm.trans v2; simpa using this
      rw [hdd] at w5
      simp at v2 w5
      have ew : IntKind.i64.wrap (first + 1) = first + 1 := by rw [wrap_small] <;> omega
      have ewn : IntKind.i64.wrap (-first) = -first := by rw [wrap_small] <;> omega
      have hba : galloc (.bslice 1 [.nils] 1 [(0, 1)]) [.slice σ6.length 0 1 1 (some 1)] = some (.row false [.slice σ6.length 0 1 1 (some 1)], fun id => .slice id 0 1 1 (some 1)) := ga_b1_flat rfl
      have hOl := own_laid (σ := σ6) [-first]
      obtain ⟨so, σa, p1, p2, p3, p4, p5, p6⟩ := (LX.nil (n := σ.length + 2) (σ := σ6 ++ [.row false [.int .i64 (-first)]])).push (r := .slice σ6.length 0 1 1 (some 1)) (c := [-first]) (.inr ⟨hOl.weaken (by omega), fun k hk hk' => by obtain ⟨_, _, _, _, e⟩ := hk'; cases e⟩) (by simp; omega) (by simp)
      have hka : ∀ j, j < σ6.length → σa[j]? = σ6[j]? := fun j hj => by
        rw [p5 j (by simp; omega) (fun hh => by obtain ⟨_, _, _, _, e⟩ := hh; cases e), List.getElem?_append_left hj]
      have p4' : σ6.length + 1 ≤ σa.length := by simpa using p4
      have hNa := v4.fr (σ' := σa) ⟨by omega, hka⟩
      have hFa : Fr (σ.length + 1) S1 σa := ⟨by omega, fun j hj => (hka j (by omega)).trans (v6 j (nsh j (by omega)))⟩
      simp at p1
      simp [hb, hbig, v2, v3, w5, ew, ewn, hba, p1]
      refine gfor g.ins.length (fun j e σ' => Fr (σ.length + 1) S1 σ' ∧ Own (σ.length + 1) 1 eint σ' (.slice (σ.length + 1) 0 g.nodes 1 (some g.nodes)) (first :: (g.ins.take j ++ List.replicate (g.ins.length - j + g.ands.length) 0)) ∧ LX (σ.length + 2) σ' so [.slice σ6.length 0 1 1 (some 1)] [[-first]] ∧ e = mkEnv 165 [(1, fints edges), (3, .ptr σ.length 0), (10, fbools r), (11, .slice (σ.length + 1) 0 g.nodes 1 (some g.nodes)), (12, .int .i64 (first + 1)), (13, so), (14, .int .i64 j)]) _ ?_ ⟨hFa, by simpa using hNa, by simpa using p2, rfl⟩ ?_
      · simp [mkEnv, List.replicate]
      rintro j _ σ2 hj ⟨hF2, hN2, hX2, rfl⟩
      have u0 : σ2[σ.length]? = some (.row false [fints g.ins, fands g.ands]) := (hF2.get _ (by omega)).trans g0
      have la0 : gload (.load 1 false) [.ptr σ.length 0] σ2 = some (fints g.ins) := by rw [ld_at u0]; rfl
      simp [mkEnv, List.replicate, la0]
      by_cases hlt : j < g.ins.length
      · obtain ⟨v, hv⟩ := nth_lt hlt
        have hv' := nth_get hv
        have es : IntKind.i64.wrap ((j : Int) + 1) = (j : Int) + 1 := by rw [wrap_small] <;> omega
        obtain ⟨d', σ7, x1, x2, x3, x4, x5, x6⟩ := hN2.set (f := fun x => DV.int .i64 x) (i := j + 1) (by simp; omega) v (by simp) (k := .i64)
        simp at x2
        simp [hlt, hv, es, x2, x3, la0]
        refine forK_go _ hlt (by simp [mkEnv, List.replicate]) ⟨⟨by have := hF2.len; omega, fun k hk => (x6 k (nsh k (by omega))).trans (hF2.get k hk)⟩, ?_, hX2.fit fun k hk => x6 k (nsh k (by have := (hX2.lt hk).1; omega)), rfl⟩
        have e : (first :: (g.ins.take j ++ List.replicate (g.ins.length - j + g.ands.length) 0)).set (j + 1) v = first :: (g.ins.take (j + 1) ++ List.replicate (g.ins.length - (j + 1) + g.ands.length) 0) := by
          have hjl : (g.ins.take j).length = j := by simp; omega
          rw [List.set_cons_succ, List.set_append_right _ _ (by omega), hjl, Nat.sub_self, take_get hv', show g.ins.length - j + g.ands.length = (g.ins.length - (j + 1) + g.ands.length) + 1 by omega, List.replicate_succ, List.set_cons_zero]
          simp
        rw [← e]; exact x4
      have : j = g.ins.length := by omega
      subst this
      rw [List.take_length, Nat.sub_self, Nat.zero_add] at hN2
      simp
      have hfb : nmFold g r first (1 + g.ins.length) = some ⟨first :: g.ins ++ List.replicate g.ands.length 0, first + 1, [[-first]]⟩ := by rw [nm_skip_ins (Nat.le_refl _)]; exact hn1
      refine gfor g.ands.length (fun i e σ' => Fr (σ.length + 1) S1 σ' ∧ ∃ s so raws, nmFold g r first (1 + g.ins.length + i) = some s ∧ Own (σ.length + 1) 1 eint σ' (.slice (σ.length + 1) 0 g.nodes 1 (some g.nodes)) s.name ∧ LX (σ.length + 2) σ' so raws s.cs ∧ e = mkEnv 165 [(1, fints edges), (3, .ptr σ.length 0), (10, fbools r), (11, .slice (σ.length + 1) 0 g.nodes 1 (some g.nodes)), (12, .int .i64 s.next), (13, so), (15, .int .i64 i)]) _ ?_ ⟨hF2, _, so, [.slice σ6.length 0 1 1 (some 1)], hfb, hN2, hX2, rfl⟩ ?_
      · simp [mkEnv, List.replicate]
      clear hF2 hN2 hX2 u0 la0
      rintro i _ σ3 hi ⟨hF3, s, so3, raws3, hfold, hN3, hX3, rfl⟩
      have hsn : NmOk g (g.reach edges) first (1 + g.ins.length + i) s := NmOk.fold (edges := edges) hm (by omega) (by omega) (by rw [hr]; exact hfold)
      have hcnt : s.cs.length ≤ 1803 := by have := hsn.cnt; split at this <;> omega
      have u3 : σ3[σ.length]? = some (.row false [fints g.ins, fands g.ands]) := (hF3.get _ (by omega)).trans g0
      have la0 : gload (.load 1 false) [.ptr σ.length 0] σ3 = some (fints g.ins) := by rw [ld_at u3]; rfl
      have la1 : gload (.load 1 false) [.ptr σ.length 1] σ3 = some (fands g.ands) := by rw [ld_at u3]; rfl
      have hlow3 := hF3.len
      have hlow3b : σ.length + 1 < σ3.length := hN3.has_lt ⟨_, _, _, _, rfl⟩
      have hFr3 : Fr σ.length σ σ3 := hFr1.trans (hF3.mono (by omega))
      simp [mkEnv, List.replicate, la1]
      by_cases hlt : i < g.ands.length
      · obtain ⟨k, hk⟩ : ∃ k, 1 + g.ins.length + i = k := ⟨_, rfl⟩
        have hkn : k < g.nodes := by omega
        obtain ⟨p, hp⟩ := nth_lt hlt
        have hp' := nth_get hp
        have hpk : g.ands[k - (1 + g.ins.length)]? = some p := by rw [show k - (1 + g.ins.length) = i by omega]; exact hp'
        obtain ⟨b, hb⟩ := nth_lt (l := r) (i := k) (by omega)
        have hbk : r.getD k false = b := by rw [List.getD_eq_getElem?_getD, nth_get hb]; rfl
        have es : IntKind.i64.wrap ((i : Int) + 1) = (i : Int) + 1 := by rw [wrap_small] <;> omega
        have ek : IntKind.i64.wrap (1 + (g.ins.length : Int) + i) = ((k : Nat) : Int) := by rw [wrap_small] <;> omega
        rw [hk] at hfold hsn
        have hk1 : 1 + g.ins.length + (i + 1) = k + 1 := by omega
        cases b with
        | false =>
          have hskip : nmFold g r first (k + 1) = some s := by rw [nmFold, hfold, Option.bind_some, nmStep, if_pos (by unfold nmSkip; rw [hbk]; rfl)]
          simp [hlt, la0, e1, ek, hb, es]
          exact forK_go _ hlt (by simp [mkEnv, List.replicate]) ⟨hF3, s, so3, raws3, by rw [hk1]; exact hskip, hN3, hX3, rfl⟩
        | true =>
        have hns : nmSkip g (g.reach edges) k = false := by rw [hr]; unfold nmSkip; rw [hbk]; simp; omega
        have step : nmFold g r first (k + 1) = if 65536 < s.next then none else some ⟨s.name.set k s.next, s.next + 1, s.cs ++ nmNew g s k⟩ := by
          rw [nmFold, hfold, Option.bind_some, nmStep, if_neg (by rw [← hr, hns]; simp)]
        obtain ⟨d', σ7, x1, x2, x3, x4, x5, x6⟩ := hN3.set (f := fun x => DV.int .i64 x) (i := k) (by rw [hsn.len]; exact hkn) s.next (by simp) (k := .i64)
        have hF7 : Fr (σ.length + 1) S1 σ7 := ⟨by omega, fun j hj => (x6 j (nsh j (by omega))).trans (hF3.get j hj)⟩
        have hX7 : LX (σ.length + 2) σ7 so3 raws3 s.cs := hX3.fit fun j hj => x6 j (nsh j (by have := (hX3.lt hj).1; omega))
        by_cases hbig2 : 65536 < s.next
        · simp [hlt, la0, e1, ek, hb, x2, x3, hbig2]
          exact toolong (k + 1) (by rw [step, if_pos hbig2]) (by omega) _ (hFr1.trans (hF7.mono (by omega)))
        have hlo := hsn.lo
        have hltn : Lt s.next := by unfold Lt; omega
        have ew : IntKind.i64.wrap (s.next + 1) = s.next + 1 := by rw [wrap_small] <;> omega
        obtain ⟨d3, w4, w5⟩ := x4.ix (i := k) (x := s.next) (by rw [List.getElem?_set_self (by rw [hsn.len]; exact hkn)])
        have hdd3 : d3 = d' := by have := w4.symm.trans x2; simpa using this
        rw [hdd3] at w5
        obtain ⟨⟨q1, q2, q3⟩, q4, q5, q6⟩ := hsn.lits hm hkn (by omega) hns hpk s.next
        obtain ⟨z1, z2, z3, z4⟩ := andsOk_get (AigP.may_ands hm) hp'
        have hls : (s.name.set k s.next).length = g.nodes := by rw [List.length_set]; exact hsn.len
        have u7 : σ7[σ.length]? = some (.row false [fints g.ins, fands g.ands]) := (hF7.get _ (by omega)).trans g0
        have la7 : ∀ τ, gload (.load 1 false) [.ptr σ.length 1] (σ7 ++ τ) = some (fands g.ands) := fun τ => by rw [ld_at (getE_append u7)]; rfl
        have la7' : gload (.load 1 false) [.ptr σ.length 1] σ7 = some (fands g.ands) := by rw [ld_at u7]; rfl
        have w5' : ∀ τ, gload (.load 1 false) [.ptr d' k] (σ7 ++ τ) = some (.int .i64 s.next) := fun τ => by
          rw [ld_app (by have := x1; have := hN3.has_lt x1; omega)]; exact w5
        have hx7 : ∀ τ, Own (σ.length + 1) 1 eint (σ7 ++ τ) (.slice (σ.length + 1) 0 g.nodes 1 (some g.nodes)) (s.name.set k s.next) := fun τ => x4.fr (Fr.rfl'.app τ)
        simp [hlt, la0, e1, ek, hb, x2, x3, hbig2, ew, w5, w5', la7, la7', hp]
        refine r12_signed_ok (hx7 _) q1 (by rw [hls]; omega) (by omega) q3 ?_
        simp
        refine r12_signed_ok (hx7 _) q4 (by rw [hls]; omega) (by omega) q6 ?_
        simp
        refine cl_call (id := σ7.length + 1) ?_ hltn q3 q6 fun σ8 k8 l8 => ?_
        · simp
        have l8' : σ8.length = σ7.length + 2 := by rw [l8]; simp
        have low8 : ∀ j, j < σ7.length → σ8[j]? = σ7[j]? := fun j hj => by rw [k8 j (by omega), List.getElem?_append_left hj]
        have hX8 : LX (σ.length + 2) σ8 so3 raws3 s.cs := hX7.fit fun j hj => low8 j (hX7.lt hj).2
        have hg3 := (gcl_and2 (v := s.next) (a := ofE (s.name.set k s.next) p.1) (b := ofE (s.name.set k s.next) p.2)).1
        obtain ⟨so9, σ9, raws9, y1, y2, y3, y4, y5⟩ := hX8.appF (gcl s.next 1 [ofE (s.name.set k s.next) p.1, ofE (s.name.set k s.next) p.2] true true) (by omega) (by omega)
        have low9 : ∀ j, j < σ.length + 2 → σ9[j]? = σ7[j]? := fun j hj => by
          rw [y5 j (by omega) (fun hh => by have := (hX8.lt (.inl hh)).1; omega)]; exact low8 j (by omega)
        have hnn1 : gcl s.next 1 [ofE (s.name.set k s.next) p.1, ofE (s.name.set k s.next) p.2] true true = nmNew g s k := by
          unfold nmNew
          rw [if_neg (by omega), show g.ands.getD (k - (1 + g.ins.length)) (0, 0) = p by rw [List.getD_eq_getElem?_getD, hpk]; rfl]
        rw [hnn1] at y1 y2
        simp [hnn1, y1, es]
        refine forK_go _ hlt (by simp [mkEnv, List.replicate]) ⟨⟨by omega, fun j hj => (low9 j (by omega)).trans (hF7.get j hj)⟩, ⟨s.name.set k s.next, s.next + 1, s.cs ++ nmNew g s k⟩, so9, raws9, by rw [hk1, step, if_neg hbig2], x4.fit fun j hj => ?_, y2, rfl⟩
        obtain ⟨_, _, _, _, ee⟩ := hj
        cases ee
        exact low9 _ (by omega)
      have : i = g.ands.length := by omega
      subst this
      have hfold' : nmFold g (g.reach edges) first g.nodes = some s := by rw [hr, hnod]; exact hfold
      have hz : graphZ g edges first = (s.cs, edges.map (ofE s.name), s.next, 0) := by unfold graphZ; rw [if_pos hcond, hfold']
      have hsum := cs_sum hsn.sz
      have hall := nm_normal hm (by omega) (Nat.le_refl _) hfold'
      have hfits : cnf5 s.cs = true := by
        unfold cnf5
        simp only [Bool.and_eq_true, decide_eq_true_eq, List.all_eq_true]
        exact ⟨⟨by omega, by omega⟩, hall⟩
      simp
      refine hX3.live (by omega) (by omega) ?_
      rw [hfits]
      simp
      refine gfor edges.length (fun j e σ' => Fr σ3.length σ3 σ' ∧ ∃ sl, Own σ3.length 1 eint σ' sl ((edges.take j).map (ofE s.name)) ∧ e = mkEnv 165 [(1, fints edges), (11, .slice (σ.length + 1) 0 g.nodes 1 (some g.nodes)), (12, .int .i64 s.next), (13, so3), (18, sl), (19, .int .i64 j)]) _ ?_ ⟨.rfl', .nils, .nil, rfl⟩ ?_
      · simp [mkEnv, List.replicate]
      rintro j _ σ6 hj ⟨hF6, sl, hO6, rfl⟩
      simp [mkEnv, List.replicate]
      by_cases hjt : j < edges.length
      · obtain ⟨y, hy⟩ := nth_lt hjt
        have hy' := nth_get hy
        obtain ⟨y0, y1⟩ := he y (List.mem_of_getElem? hy')
        have ej : IntKind.i64.wrap ((j : Int) + 1) = (j : Int) + 1 := by rw [wrap_small] <;> omega
        simp [hjt, hy]
        refine r12_signed_ok (hN3.fr hF6) y0 (by rw [hsn.len]; omega) (by omega) (ofE_lt (hsn.node hm (by omega) (AigP.reach_edge (List.mem_of_getElem? hy') y0 y1) (by omega))) ?_
        obtain ⟨s', σ7, q1, q2, q3, q4, q5, q6⟩ := hO6.push (by_ := 8) (ofE s.name y) (fun _ => rfl) (by simp) hF6.len (by simp; omega) (by decide)
        simp [q1, ej]
        exact forK_go _ hjt (by simp [mkEnv, List.replicate]) ⟨hF6.trans q3, s', by rw [take_get hy', List.map_append]; exact q2, rfl⟩
      · have : j = edges.length := by omega
        subst this
        rw [List.take_length] at hO6
        have hX6 : LX (σ.length + 2) σ6 so3 raws3 s.cs := hX3.fit fun j hj => hF6.get j (hX3.lt hj).2
        simp
        unfold graphE
        rw [hz]
        exact ⟨hFr3.trans (hF6.mono (by omega)), .tuple (.cons (hX6.rd fun j hj => .inl (by omega)) (.cons (hO6.rd (fun _ => rfl) fun j hj => .inl (by omega)) (.cons (.same _) (.cons (.same _) .nil))))⟩
  have c2' : 0 < g.ins.length := by omega
  have el : IntKind.i64.wrap ((g.ins.length : Int) - 1) = ((g.ins.length - 1 : Nat) : Int) := by rw [wrap_small] <;> omega
  obtain ⟨v, hv⟩ := nth_lt (l := g.ins) (i := g.ins.length - 1) (by omega)
  have hgd : g.ins.getD (g.ins.length - 1) 0 = v := by rw [List.getD_eq_getElem?_getD, nth_get hv]; rfl
  by_cases c3 : first ≤ v
  · simp [c2', el, hv, c3]
    exact (no (by rw [hgd]; simp; intro _ _; exact ⟨fun e => by rw [e] at c2'; simp at c2', by omega⟩) _ hF1).2
  simp [c2', el, hv, c3]
  have hcond : (g.all edges && decide (1 ≤ first) && (decide (g.ins.length = 0) || decide (g.ins.getD (g.ins.length - 1) 0 < first))) = true := by rw [hga, hgd]; simp; exact ⟨by omega, .inr (by omega)⟩
  obtain ⟨A, hA⟩ : ∃ A, GObj.row false [fints g.ins, fands g.ands] = A := ⟨_, rfl⟩
  have hld2 : ∀ τ, gload (.load 2 true) [.ptr σ.length 0] (σ ++ A :: τ) = some g.enc := fun τ => by simp [← hA]
  rw [hA]
  refine ref_Reached_ok hm (by omega) he ?_
  simp [hld2]
  refine ref_Nodes_ok hs ?_
  have hms := mslice_ints (n := g.nodes) (by omega) .i64 .i64
  obtain ⟨Z, hZ⟩ : ∃ Z : List Int, List.replicate g.nodes 0 = Z := ⟨_, rfl⟩
  have hZl : Z.length = g.nodes := by rw [← hZ]; simp
  rw [hZ] at hms
  obtain ⟨r, hr⟩ : ∃ r, g.reach edges = r := ⟨_, rfl⟩
  have hrl : r.length = g.nodes := by rw [← hr]; exact AigP.reach_len g edges
  obtain ⟨b, hb⟩ := nth_lt (l := r) (i := 0) (by omega)
  have hbd : r.getD 0 false = b := by rw [List.getD_eq_getElem?_getD, nth_get hb]; rfl
  simp [hms, hr, hb]
  have toolong : ∀ k, nmFold g r first k = none → k ≤ g.nodes → ∀ σ', Fr σ.length σ σ' → (Fr σ.length σ σ' ∧ Rd σ' (fun i => σ.length ≤ i ∨ RO σ' i) (.tuple [.nils, .nils, .int .i64 0, .int .i64 3]) (graphE g edges first)) := fun k hn hk σ' hF' => by
    have e : graphZ g edges first = ([], [], 0, 3) := by
      unfold graphZ
      rw [if_pos hcond, hr, nmFold_none hn _ hk]
    unfold graphE
    rw [e]
    exact ⟨hF', err_rdR 3⟩
  obtain ⟨S1, hS1⟩ : ∃ S, σ ++ [A, GObj.row false (ints Z)] = S := ⟨_, rfl⟩
  rw [hS1]
  have hl1 : S1.length = σ.length + 2 := by rw [← hS1]; simp
  have g0 : S1[σ.length]? = some (.row false [fints g.ins, fands g.ands]) := by rw [← hS1, hA]; simp
  have hZ0 : Own (σ.length + 1) 1 eint S1 (.slice (σ.length + 1) 0 g.nodes 1 (some g.nodes)) Z := by
    have := Own.at_ (n := σ.length + 1) (sz := 1) (enc := eint) (σ := S1) (id := σ.length + 1) (cap := some Z.length) (xs := Z) (Nat.le_refl _) (by rw [← hS1, flat_ei]; simp) (fun c hc => by cases hc; rfl)
    rwa [hZl] at this
  have hFr1 : Fr σ.length σ S1 := by rw [← hS1]; exact .self _
  have hF0 : Fr (σ.length + 1) S1 S1 := .refl (by omega)
  have nsh : ∀ j, j ≠ σ.length + 1 → ¬ (DV.slice (σ.length + 1) 0 g.nodes 1 (some g.nodes)).has j := fun j hj hh => by obtain ⟨_, _, _, _, e⟩ := hh; cases e; exact hj rfl
  have hZeq : Z = 0 :: List.replicate (g.ins.length + g.ands.length) 0 := by rw [← hZ, hnod, show 1 + g.ins.length + g.ands.length = (g.ins.length + g.ands.length) + 1 by omega, List.replicate_succ]
  cases b with
  | false =>
    have hn1 : nmFold g r first 1 = some ⟨0 :: g.ins ++ List.replicate g.ands.length 0, first, []⟩ := by
      show (some _).bind _ = _
      rw [Option.bind_some, nmStep, if_pos (by unfold nmSkip; rw [hbd]; rfl)]
    have hNa : Own (σ.length + 1) 1 eint S1 (.slice (σ.length + 1) 0 g.nodes 1 (some g.nodes)) (0 :: List.replicate (g.ins.length + g.ands.length) 0) := by rw [← hZeq]; exact hZ0
    have hXa : LX (σ.length + 2) S1 .nils [] [] := .nil
    simp [hb]
    refine gfor g.ins.length (fun j e σ' => Fr (σ.length + 1) S1 σ' ∧ Own (σ.length + 1) 1 eint σ' (.slice (σ.length + 1) 0 g.nodes 1 (some g.nodes)) ((0 : Int) :: (g.ins.take j ++ List.replicate (g.ins.length - j + g.ands.length) 0)) ∧ LX (σ.length + 2) σ' .nils [] [] ∧ e = mkEnv 165 [(1, fints edges), (3, .ptr σ.length 0), (10, fbools r), (11, .slice (σ.length + 1) 0 g.nodes 1 (some g.nodes)), (12, .int .i64 (first)), (13, .nils), (14, .int .i64 j)]) _ ?_ ⟨hF0, by simpa using hNa, hXa, rfl⟩ ?_
    · simp [mkEnv, List.replicate]
    rintro j _ σ2 hj ⟨hF2, hN2, hX2, rfl⟩
    have u0 : σ2[σ.length]? = some (.row false [fints g.ins, fands g.ands]) := (hF2.get _ (by omega)).trans g0
    have la0 : gload (.load 1 false) [.ptr σ.length 0] σ2 = some (fints g.ins) := by rw [ld_at u0]; rfl
    simp [mkEnv, List.replicate, la0]
    by_cases hlt : j < g.ins.length
    · obtain ⟨v, hv⟩ := nth_lt hlt
      have hv' := nth_get hv
      have es : IntKind.i64.wrap ((j : Int) + 1) = (j : Int) + 1 := by rw [wrap_small] <;> omega
      obtain ⟨d', σ7, x1, x2, x3, x4, x5, x6⟩ := hN2.set (f := fun x => DV.int .i64 x) (i := j + 1) (by simp; omega) v (by simp) (k := .i64)
      simp at x2
      simp [hlt, hv, es, x2, x3, la0]
      refine forK_go _ hlt (by simp [mkEnv, List.replicate]) ⟨⟨by have := hF2.len; omega, fun k hk => (x6 k (nsh k (by omega))).trans (hF2.get k hk)⟩, ?_, hX2.fit fun k hk => x6 k (nsh k (by have := (hX2.lt hk).1; omega)), rfl⟩
      have e : ((0 : Int) :: (g.ins.take j ++ List.replicate (g.ins.length - j + g.ands.length) 0)).set (j + 1) v = (0 : Int) :: (g.ins.take (j + 1) ++ List.replicate (g.ins.length - (j + 1) + g.ands.length) 0) := by
        have hjl : (g.ins.take j).length = j := by simp; omega
        rw [List.set_cons_succ, List.set_append_right _ _ (by omega), hjl, Nat.sub_self, take_get hv', show g.ins.length - j + g.ands.length = (g.ins.length - (j + 1) + g.ands.length) + 1 by omega, List.replicate_succ, List.set_cons_zero]
        simp
      rw [← e]; exact x4
    have : j = g.ins.length := by omega
    subst this
    rw [List.take_length, Nat.sub_self, Nat.zero_add] at hN2
    simp
    have hfb : nmFold g r first (1 + g.ins.length) = some ⟨(0 : Int) :: g.ins ++ List.replicate g.ands.length 0, first, []⟩ := by rw [nm_skip_ins (Nat.le_refl _)]; exact hn1
    refine gfor g.ands.length (fun i e σ' => Fr (σ.length + 1) S1 σ' ∧ ∃ s so raws, nmFold g r first (1 + g.ins.length + i) = some s ∧ Own (σ.length + 1) 1 eint σ' (.slice (σ.length + 1) 0 g.nodes 1 (some g.nodes)) s.name ∧ LX (σ.length + 2) σ' so raws s.cs ∧ e = mkEnv 165 [(1, fints edges), (3, .ptr σ.length 0), (10, fbools r), (11, .slice (σ.length + 1) 0 g.nodes 1 (some g.nodes)), (12, .int .i64 s.next), (13, so), (15, .int .i64 i)]) _ ?_ ⟨hF2, _, .nils, [], hfb, hN2, hX2, rfl⟩ ?_
    · simp [mkEnv, List.replicate]
    clear hF2 hN2 hX2 u0 la0
    rintro i _ σ3 hi ⟨hF3, s, so3, raws3, hfold, hN3, hX3, rfl⟩
    have hsn : NmOk g (g.reach edges) first (1 + g.ins.length + i) s := NmOk.fold (edges := edges) hm (by omega) (by omega) (by rw [hr]; exact hfold)
    have hcnt : s.cs.length ≤ 1803 := by have := hsn.cnt; split at this <;> omega
    have u3 : σ3[σ.length]? = some (.row false [fints g.ins, fands g.ands]) := (hF3.get _ (by omega)).trans g0
    have la0 : gload (.load 1 false) [.ptr σ.length 0] σ3 = some (fints g.ins) := by rw [ld_at u3]; rfl
    have la1 : gload (.load 1 false) [.ptr σ.length 1] σ3 = some (fands g.ands) := by rw [ld_at u3]; rfl
    have hlow3 := hF3.len
    have hlow3b : σ.length + 1 < σ3.length := hN3.has_lt ⟨_, _, _, _, rfl⟩
    have hFr3 : Fr σ.length σ σ3 := hFr1.trans (hF3.mono (by omega))
    simp [mkEnv, List.replicate, la1]
    by_cases hlt : i < g.ands.length
    · obtain ⟨k, hk⟩ : ∃ k, 1 + g.ins.length + i = k := ⟨_, rfl⟩
      have hkn : k < g.nodes := by omega
      obtain ⟨p, hp⟩ := nth_lt hlt
      have hp' := nth_get hp
      have hpk : g.ands[k - (1 + g.ins.length)]? = some p := by rw [show k - (1 + g.ins.length) = i by omega]; exact hp'
      obtain ⟨b, hb⟩ := nth_lt (l := r) (i := k) (by omega)
      have hbk : r.getD k false = b := by rw [List.getD_eq_getElem?_getD, nth_get hb]; rfl
      have es : IntKind.i64.wrap ((i : Int) + 1) = (i : Int) + 1 := by rw [wrap_small] <;> omega
      have ek : IntKind.i64.wrap (1 + (g.ins.length : Int) + i) = ((k : Nat) : Int) := by rw [wrap_small] <;> omega
      rw [hk] at hfold hsn
      have hk1 : 1 + g.ins.length + (i + 1) = k + 1 := by omega
      cases b with
      | false =>
        have hskip : nmFold g r first (k + 1) = some s := by rw [nmFold, hfold, Option.bind_some, nmStep, if_pos (by unfold nmSkip; rw [hbk]; rfl)]
        simp [hlt, la0, e1, ek, hb, es]
        exact forK_go _ hlt (by simp [mkEnv, List.replicate]) ⟨hF3, s, so3, raws3, by rw [hk1]; exact hskip, hN3, hX3, rfl⟩
      | true =>
      have hns : nmSkip g (g.reach edges) k = false := by rw [hr]; unfold nmSkip; rw [hbk]; simp; omega
      have step : nmFold g r first (k + 1) = if 65536 < s.next then none else some ⟨s.name.set k s.next, s.next + 1, s.cs ++ nmNew g s k⟩ := by
        rw [nmFold, hfold, Option.bind_some, nmStep, if_neg (by rw [← hr, hns]; simp)]
      obtain ⟨d', σ7, x1, x2, x3, x4, x5, x6⟩ := hN3.set (f := fun x => DV.int .i64 x) (i := k) (by rw [hsn.len]; exact hkn) s.next (by simp) (k := .i64)
      have hF7 : Fr (σ.length + 1) S1 σ7 := ⟨by omega, fun j hj => (x6 j (nsh j (by omega))).trans (hF3.get j hj)⟩
      have hX7 : LX (σ.length + 2) σ7 so3 raws3 s.cs := hX3.fit fun j hj => x6 j (nsh j (by have := (hX3.lt hj).1; omega))
      by_cases hbig2 : 65536 < s.next
      · simp [hlt, la0, e1, ek, hb, x2, x3, hbig2]
        exact toolong (k + 1) (by rw [step, if_pos hbig2]) (by omega) _ (hFr1.trans (hF7.mono (by omega)))
      have hlo := hsn.lo
      have hltn : Lt s.next := by unfold Lt; omega
      have ew : IntKind.i64.wrap (s.next + 1) = s.next + 1 := by rw [wrap_small] <;> omega
      obtain ⟨d3, w4, w5⟩ := x4.ix (i := k) (x := s.next) (by rw [List.getElem?_set_self (by rw [hsn.len]; exact hkn)])
      have hdd3 : d3 = d' := by have := w4.symm.trans x2; simpa using this
      rw [hdd3] at w5
      obtain ⟨⟨q1, q2, q3⟩, q4, q5, q6⟩ := hsn.lits hm hkn (by omega) hns hpk s.next
      obtain ⟨z1, z2, z3, z4⟩ := andsOk_get (AigP.may_ands hm) hp'
      have hls : (s.name.set k s.next).length = g.nodes := by rw [List.length_set]; exact hsn.len
      have u7 : σ7[σ.length]? = some (.row false [fints g.ins, fands g.ands]) := (hF7.get _ (by omega)).trans g0
      have la7 : ∀ τ, gload (.load 1 false) [.ptr σ.length 1] (σ7 ++ τ) = some (fands g.ands) := fun τ => by rw [ld_at (getE_append u7)]; rfl
      have la7' : gload (.load 1 false) [.ptr σ.length 1] σ7 = some (fands g.ands) := by rw [ld_at u7]; rfl
      have w5' : ∀ τ, gload (.load 1 false) [.ptr d' k] (σ7 ++ τ) = some (.int .i64 s.next) := fun τ => by
        rw [ld_app (by have := x1; have := hN3.has_lt x1; omega)]; exact w5
      have hx7 : ∀ τ, Own (σ.length + 1) 1 eint (σ7 ++ τ) (.slice (σ.length + 1) 0 g.nodes 1 (some g.nodes)) (s.name.set k s.next) := fun τ => x4.fr (Fr.rfl'.app τ)
      simp [hlt, la0, e1, ek, hb, x2, x3, hbig2, ew, w5, w5', la7, la7', hp]
      refine r12_signed_ok (hx7 _) q1 (by rw [hls]; omega) (by omega) q3 ?_
      simp
      refine r12_signed_ok (hx7 _) q4 (by rw [hls]; omega) (by omega) q6 ?_
      simp
      refine cl_call (id := σ7.length + 1) ?_ hltn q3 q6 fun σ8 k8 l8 => ?_
      · simp
      have l8' : σ8.length = σ7.length + 2 := by rw [l8]; simp
      have low8 : ∀ j, j < σ7.length → σ8[j]? = σ7[j]? := fun j hj => by rw [k8 j (by omega), List.getElem?_append_left hj]
      have hX8 : LX (σ.length + 2) σ8 so3 raws3 s.cs := hX7.fit fun j hj => low8 j (hX7.lt hj).2
      have hg3 := (gcl_and2 (v := s.next) (a := ofE (s.name.set k s.next) p.1) (b := ofE (s.name.set k s.next) p.2)).1
      obtain ⟨so9, σ9, raws9, y1, y2, y3, y4, y5⟩ := hX8.appF (gcl s.next 1 [ofE (s.name.set k s.next) p.1, ofE (s.name.set k s.next) p.2] true true) (by omega) (by omega)
      have low9 : ∀ j, j < σ.length + 2 → σ9[j]? = σ7[j]? := fun j hj => by
        rw [y5 j (by omega) (fun hh => by have := (hX8.lt (.inl hh)).1; omega)]; exact low8 j (by omega)
      have hnn1 : gcl s.next 1 [ofE (s.name.set k s.next) p.1, ofE (s.name.set k s.next) p.2] true true = nmNew g s k := by
        unfold nmNew
        rw [if_neg (by omega), show g.ands.getD (k - (1 + g.ins.length)) (0, 0) = p by rw [List.getD_eq_getElem?_getD, hpk]; rfl]
      rw [hnn1] at y1 y2
      simp [hnn1, y1, es]
      refine forK_go _ hlt (by simp [mkEnv, List.replicate]) ⟨⟨by omega, fun j hj => (low9 j (by omega)).trans (hF7.get j hj)⟩, ⟨s.name.set k s.next, s.next + 1, s.cs ++ nmNew g s k⟩, so9, raws9, by rw [hk1, step, if_neg hbig2], x4.fit fun j hj => ?_, y2, rfl⟩
      obtain ⟨_, _, _, _, ee⟩ := hj
      cases ee
      exact low9 _ (by omega)
    have : i = g.ands.length := by omega
    subst this
    have hfold' : nmFold g (g.reach edges) first g.nodes = some s := by rw [hr, hnod]; exact hfold
    have hz : graphZ g edges first = (s.cs, edges.map (ofE s.name), s.next, 0) := by unfold graphZ; rw [if_pos hcond, hfold']
    have hsum := cs_sum hsn.sz
    have hall := nm_normal hm (by omega) (Nat.le_refl _) hfold'
    have hfits : cnf5 s.cs = true := by
      unfold cnf5
      simp only [Bool.and_eq_true, decide_eq_true_eq, List.all_eq_true]
      exact ⟨⟨by omega, by omega⟩, hall⟩
    simp
    refine hX3.live (by omega) (by omega) ?_
    rw [hfits]
    simp
    refine gfor edges.length (fun j e σ' => Fr σ3.length σ3 σ' ∧ ∃ sl, Own σ3.length 1 eint σ' sl ((edges.take j).map (ofE s.name)) ∧ e = mkEnv 165 [(1, fints edges), (11, .slice (σ.length + 1) 0 g.nodes 1 (some g.nodes)), (12, .int .i64 s.next), (13, so3), (18, sl), (19, .int .i64 j)]) _ ?_ ⟨.rfl', .nils, .nil, rfl⟩ ?_
    · simp [mkEnv, List.replicate]
    rintro j _ σ6 hj ⟨hF6, sl, hO6, rfl⟩
    simp [mkEnv, List.replicate]
    by_cases hjt : j < edges.length
    · obtain ⟨y, hy⟩ := nth_lt hjt
      have hy' := nth_get hy
      obtain ⟨y0, y1⟩ := he y (List.mem_of_getElem? hy')
      have ej : IntKind.i64.wrap ((j : Int) + 1) = (j : Int) + 1 := by rw [wrap_small] <;> omega
      simp [hjt, hy]
      refine r12_signed_ok (hN3.fr hF6) y0 (by rw [hsn.len]; omega) (by omega) (ofE_lt (hsn.node hm (by omega) (AigP.reach_edge (List.mem_of_getElem? hy') y0 y1) (by omega))) ?_
      obtain ⟨s', σ7, q1, q2, q3, q4, q5, q6⟩ := hO6.push (by_ := 8) (ofE s.name y) (fun _ => rfl) (by simp) hF6.len (by simp; omega) (by decide)
      simp [q1, ej]
      exact forK_go _ hjt (by simp [mkEnv, List.replicate]) ⟨hF6.trans q3, s', by rw [take_get hy', List.map_append]; exact q2, rfl⟩
    · have : j = edges.length := by omega
      subst this
      rw [List.take_length] at hO6
      have hX6 : LX (σ.length + 2) σ6 so3 raws3 s.cs := hX3.fit fun j hj => hF6.get j (hX3.lt hj).2
      simp
      unfold graphE
      rw [hz]
      exact ⟨hFr3.trans (hF6.mono (by omega)), .tuple (.cons (hX6.rd fun j hj => .inl (by omega)) (.cons (hO6.rd (fun _ => rfl) fun j hj => .inl (by omega)) (.cons (.same _) (.cons (.same _) .nil))))⟩
  | true =>
    have hstep : nmFold g r first 1 = if 65536 < first then none else some ⟨(0 :: g.ins ++ List.replicate g.ands.length 0).set 0 first, first + 1, [[-first]]⟩ := by
      show (some _).bind _ = _
      rw [Option.bind_some, nmStep, if_neg (by unfold nmSkip; rw [hbd]; simp)]
      rfl
    by_cases hbig : 65536 < first
    · simp [hb, hbig]
      exact toolong 1 (by rw [hstep, if_pos hbig]) (by omega) _ hFr1
    have hn1 : nmFold g r first 1 = some ⟨first :: g.ins ++ List.replicate g.ands.length 0, first + 1, [[-first]]⟩ := by rw [hstep, if_neg hbig]; rfl
    obtain ⟨d, σ6, v1, v2, v3, v4, v5, v6⟩ := hZ0.set (f := fun x => DV.int .i64 x) (i := 0) (by omega) first (by simp) (k := .i64)
    rw [hZeq, List.set_cons_zero] at v4
    obtain ⟨d2, w4, w5⟩ := v4.ix (i := 0) (x := first) rfl
    have hdd : d2 = d := by have := w4.symm.trans v2; simpa using this
    rw [hdd] at w5
    simp at v2 w5
    have ew : IntKind.i64.wrap (first + 1) = first + 1 := by rw [wrap_small] <;> omega
    have ewn : IntKind.i64.wrap (-first) = -first := by rw [wrap_small] <;> omega
    have hba : galloc (.bslice 1 [.nils] 1 [(0, 1)]) [.slice σ6.length 0 1 1 (some 1)] = some (.row false [.slice σ6.length 0 1 1 (some 1)], fun id => .slice id 0 1 1 (some 1)) := ga_b1_flat rfl
    have hOl := own_laid (σ := σ6) [-first]
    obtain ⟨so, σa, p1, p2, p3, p4, p5, p6⟩ := (LX.nil (n := σ.length + 2) (σ := σ6 ++ [.row false [.int .i64 (-first)]])).push (r := .slice σ6.length 0 1 1 (some 1)) (c := [-first]) (.inr ⟨hOl.weaken (by omega), fun k hk hk' => by obtain ⟨_, _, _, _, e⟩ := hk'; cases e⟩) (by simp; omega) (by simp)
    have hka : ∀ j, j < σ6.length → σa[j]? = σ6[j]? := fun j hj => by
      rw [p5 j (by simp; omega) (fun hh => by obtain ⟨_, _, _, _, e⟩ := hh; cases e), List.getElem?_append_left hj]
    have p4' : σ6.length + 1 ≤ σa.length := by simpa using p4
    have hNa := v4.fr (σ' := σa) ⟨by omega, hka⟩
    have hFa : Fr (σ.length + 1) S1 σa := ⟨by omega, fun j hj => (hka j (by omega)).trans (v6 j (nsh j (by omega)))⟩
    simp at p1
    simp [hb, hbig, v2, v3, w5, ew, ewn, hba, p1]
    refine gfor g.ins.length (fun j e σ' => Fr (σ.length + 1) S1 σ' ∧ Own (σ.length + 1) 1 eint σ' (.slice (σ.length + 1) 0 g.nodes 1 (some g.nodes)) (first :: (g.ins.take j ++ List.replicate (g.ins.length - j + g.ands.length) 0)) ∧ LX (σ.length + 2) σ' so [.slice σ6.length 0 1 1 (some 1)] [[-first]] ∧ e = mkEnv 165 [(1, fints edges), (3, .ptr σ.length 0), (10, fbools r), (11, .slice (σ.length + 1) 0 g.nodes 1 (some g.nodes)), (12, .int .i64 (first + 1)), (13, so), (14, .int .i64 j)]) _ ?_ ⟨hFa, by simpa using hNa, by simpa using p2, rfl⟩ ?_
    · simp [mkEnv, List.replicate]
    rintro j _ σ2 hj ⟨hF2, hN2, hX2, rfl⟩
    have u0 : σ2[σ.length]? = some (.row false [fints g.ins, fands g.ands]) := (hF2.get _ (by omega)).trans g0
    have la0 : gload (.load 1 false) [.ptr σ.length 0] σ2 = some (fints g.ins) := by rw [ld_at u0]; rfl
    simp [mkEnv, List.replicate, la0]
    by_cases hlt : j < g.ins.length
    · obtain ⟨v, hv⟩ := nth_lt hlt
      have hv' := nth_get hv
      have es : IntKind.i64.wrap ((j : Int) + 1) = (j : Int) + 1 := by rw [wrap_small] <;> omega
      obtain ⟨d', σ7, x1, x2, x3, x4, x5, x6⟩ := hN2.set (f := fun x => DV.int .i64 x) (i := j + 1) (by simp; omega) v (by simp) (k := .i64)
      simp at x2
      simp [hlt, hv, es, x2, x3, la0]
      refine forK_go _ hlt (by simp [mkEnv, List.replicate]) ⟨⟨by have := hF2.len; omega, fun k hk => (x6 k (nsh k (by omega))).trans (hF2.get k hk)⟩, ?_, hX2.fit fun k hk => x6 k (nsh k (by have := (hX2.lt hk).1; omega)), rfl⟩
      have e : (first :: (g.ins.take j ++ List.replicate (g.ins.length - j + g.ands.length) 0)).set (j + 1) v = first :: (g.ins.take (j + 1) ++ List.replicate (g.ins.length - (j + 1) + g.ands.length) 0) := by
        have hjl : (g.ins.take j).length = j := by simp; omega
        rw [List.set_cons_succ, List.set_append_right _ _ (by omega), hjl, Nat.sub_self, take_get hv', show g.ins.length - j + g.ands.length = (g.ins.length - (j + 1) + g.ands.length) + 1 by omega, List.replicate_succ, List.set_cons_zero]
        simp
      rw [← e]; exact x4
    have : j = g.ins.length := by omega
    subst this
    rw [List.take_length, Nat.sub_self, Nat.zero_add] at hN2
    simp
    have hfb : nmFold g r first (1 + g.ins.length) = some ⟨first :: g.ins ++ List.replicate g.ands.length 0, first + 1, [[-first]]⟩ := by rw [nm_skip_ins (Nat.le_refl _)]; exact hn1
    refine gfor g.ands.length (fun i e σ' => Fr (σ.length + 1) S1 σ' ∧ ∃ s so raws, nmFold g r first (1 + g.ins.length + i) = some s ∧ Own (σ.length + 1) 1 eint σ' (.slice (σ.length + 1) 0 g.nodes 1 (some g.nodes)) s.name ∧ LX (σ.length + 2) σ' so raws s.cs ∧ e = mkEnv 165 [(1, fints edges), (3, .ptr σ.length 0), (10, fbools r), (11, .slice (σ.length + 1) 0 g.nodes 1 (some g.nodes)), (12, .int .i64 s.next), (13, so), (15, .int .i64 i)]) _ ?_ ⟨hF2, _, so, [.slice σ6.length 0 1 1 (some 1)], hfb, hN2, hX2, rfl⟩ ?_
    · simp [mkEnv, List.replicate]
    clear hF2 hN2 hX2 u0 la0
    rintro i _ σ3 hi ⟨hF3, s, so3, raws3, hfold, hN3, hX3, rfl⟩
    have hsn : NmOk g (g.reach edges) first (1 + g.ins.length + i) s := NmOk.fold (edges := edges) hm (by omega) (by omega) (by rw [hr]; exact hfold)
    have hcnt : s.cs.length ≤ 1803 := by have := hsn.cnt; split at this <;> omega
    have u3 : σ3[σ.length]? = some (.row false [fints g.ins, fands g.ands]) := (hF3.get _ (by omega)).trans g0
    have la0 : gload (.load 1 false) [.ptr σ.length 0] σ3 = some (fints g.ins) := by rw [ld_at u3]; rfl
    have la1 : gload (.load 1 false) [.ptr σ.length 1] σ3 = some (fands g.ands) := by rw [ld_at u3]; rfl
    have hlow3 := hF3.len
    have hlow3b : σ.length + 1 < σ3.length := hN3.has_lt ⟨_, _, _, _, rfl⟩
    have hFr3 : Fr σ.length σ σ3 := hFr1.trans (hF3.mono (by omega))
    simp [mkEnv, List.replicate, la1]
    by_cases hlt : i < g.ands.length
    · obtain ⟨k, hk⟩ : ∃ k, 1 + g.ins.length + i = k := ⟨_, rfl⟩
      have hkn : k < g.nodes := by omega
      obtain ⟨p, hp⟩ := nth_lt hlt
      have hp' := nth_get hp
      have hpk : g.ands[k - (1 + g.ins.length)]? = some p := by rw [show k - (1 + g.ins.length) = i by omega]; exact hp'
      obtain ⟨b, hb⟩ := nth_lt (l := r) (i := k) (by omega)
      have hbk : r.getD k false = b := by rw [List.getD_eq_getElem?_getD, nth_get hb]; rfl
      have es : IntKind.i64.wrap ((i : Int) + 1) = (i : Int) + 1 := by rw [wrap_small] <;> omega
      have ek : IntKind.i64.wrap (1 + (g.ins.length : Int) + i) = ((k : Nat) : Int) := by rw [wrap_small] <;> omega
      rw [hk] at hfold hsn
      have hk1 : 1 + g.ins.length + (i + 1) = k + 1 := by omega
      cases b with
      | false =>
        have hskip : nmFold g r first (k + 1) = some s := by rw [nmFold, hfold, Option.bind_some, nmStep, if_pos (by unfold nmSkip; rw [hbk]; rfl)]
        simp [hlt, la0, e1, ek, hb, es]
        exact forK_go _ hlt (by simp [mkEnv, List.replicate]) ⟨hF3, s, so3, raws3, by rw [hk1]; exact hskip, hN3, hX3, rfl⟩
      | true =>
      have hns : nmSkip g (g.reach edges) k = false := by rw [hr]; unfold nmSkip; rw [hbk]; simp; omega
      have step : nmFold g r first (k + 1) = if 65536 < s.next then none else some ⟨s.name.set k s.next, s.next + 1, s.cs ++ nmNew g s k⟩ := by
        rw [nmFold, hfold, Option.bind_some, nmStep, if_neg (by rw [← hr, hns]; simp)]
      obtain ⟨d', σ7, x1, x2, x3, x4, x5, x6⟩ := hN3.set (f := fun x => DV.int .i64 x) (i := k) (by rw [hsn.len]; exact hkn) s.next (by simp) (k := .i64)
      have hF7 : Fr (σ.length + 1) S1 σ7 := ⟨by omega, fun j hj => (x6 j (nsh j (by omega))).trans (hF3.get j hj)⟩
      have hX7 : LX (σ.length + 2) σ7 so3 raws3 s.cs := hX3.fit fun j hj => x6 j (nsh j (by have := (hX3.lt hj).1; omega))
      by_cases hbig2 : 65536 < s.next
      · simp [hlt, la0, e1, ek, hb, x2, x3, hbig2]
        exact toolong (k + 1) (by rw [step, if_pos hbig2]) (by omega) _ (hFr1.trans (hF7.mono (by omega)))
      have hlo := hsn.lo
      have hltn : Lt s.next := by unfold Lt; omega
      have ew : IntKind.i64.wrap (s.next + 1) = s.next + 1 := by rw [wrap_small] <;> omega
      obtain ⟨d3, w4, w5⟩ := x4.ix (i := k) (x := s.next) (by rw [List.getElem?_set_self (by rw [hsn.len]; exact hkn)])
      have hdd3 : d3 = d' := by have := w4.symm.trans x2; simpa using this
      rw [hdd3] at w5
      obtain ⟨⟨q1, q2, q3⟩, q4, q5, q6⟩ := hsn.lits hm hkn (by omega) hns hpk s.next
      obtain ⟨z1, z2, z3, z4⟩ := andsOk_get (AigP.may_ands hm) hp'
      have hls : (s.name.set k s.next).length = g.nodes := by rw [List.length_set]; exact hsn.len
      have u7 : σ7[σ.length]? = some (.row false [fints g.ins, fands g.ands]) := (hF7.get _ (by omega)).trans g0
      have la7 : ∀ τ, gload (.load 1 false) [.ptr σ.length 1] (σ7 ++ τ) = some (fands g.ands) := fun τ => by rw [ld_at (getE_append u7)]; rfl
      have la7' : gload (.load 1 false) [.ptr σ.length 1] σ7 = some (fands g.ands) := by rw [ld_at u7]; rfl
      have w5' : ∀ τ, gload (.load 1 false) [.ptr d' k] (σ7 ++ τ) = some (.int .i64 s.next) := fun τ => by
        rw [ld_app (by have := x1; have := hN3.has_lt x1; omega)]; exact w5
      have hx7 : ∀ τ, Own (σ.length + 1) 1 eint (σ7 ++ τ) (.slice (σ.length + 1) 0 g.nodes 1 (some g.nodes)) (s.name.set k s.next) := fun τ => x4.fr (Fr.rfl'.app τ)
      simp [hlt, la0, e1, ek, hb, x2, x3, hbig2, ew, w5, w5', la7, la7', hp]
      refine r12_signed_ok (hx7 _) q1 (by rw [hls]; omega) (by omega) q3 ?_
      simp
      refine r12_signed_ok (hx7 _) q4 (by rw [hls]; omega) (by omega) q6 ?_
      simp
      refine cl_call (id := σ7.length + 1) ?_ hltn q3 q6 fun σ8 k8 l8 => ?_
      · simp
      have l8' : σ8.length = σ7.length + 2 := by rw [l8]; simp
      have low8 : ∀ j, j < σ7.length → σ8[j]? = σ7[j]? := fun j hj => by rw [k8 j (by omega), List.getElem?_append_left hj]
      have hX8 : LX (σ.length + 2) σ8 so3 raws3 s.cs := hX7.fit fun j hj => low8 j (hX7.lt hj).2
      have hg3 := (gcl_and2 (v := s.next) (a := ofE (s.name.set k s.next) p.1) (b := ofE (s.name.set k s.next) p.2)).1
      obtain ⟨so9, σ9, raws9, y1, y2, y3, y4, y5⟩ := hX8.appF (gcl s.next 1 [ofE (s.name.set k s.next) p.1, ofE (s.name.set k s.next) p.2] true true) (by omega) (by omega)
      have low9 : ∀ j, j < σ.length + 2 → σ9[j]? = σ7[j]? := fun j hj => by
        rw [y5 j (by omega) (fun hh => by have := (hX8.lt (.inl hh)).1; omega)]; exact low8 j (by omega)
      have hnn1 : gcl s.next 1 [ofE (s.name.set k s.next) p.1, ofE (s.name.set k s.next) p.2] true true = nmNew g s k := by
        unfold nmNew
        rw [if_neg (by omega), show g.ands.getD (k - (1 + g.ins.length)) (0, 0) = p by rw [List.getD_eq_getElem?_getD, hpk]; rfl]
      rw [hnn1] at y1 y2
      simp [hnn1, y1, es]
      refine forK_go _ hlt (by simp [mkEnv, List.replicate]) ⟨⟨by omega, fun j hj => (low9 j (by omega)).trans (hF7.get j hj)⟩, ⟨s.name.set k s.next, s.next + 1, s.cs ++ nmNew g s k⟩, so9, raws9, by rw [hk1, step, if_neg hbig2], x4.fit fun j hj => ?_, y2, rfl⟩
      obtain ⟨_, _, _, _, ee⟩ := hj
      cases ee
      exact low9 _ (by omega)
    have : i = g.ands.length := by omega
    subst this
    have hfold' : nmFold g (g.reach edges) first g.nodes = some s := by rw [hr, hnod]; exact hfold
    have hz : graphZ g edges first = (s.cs, edges.map (ofE s.name), s.next, 0) := by unfold graphZ; rw [if_pos hcond, hfold']
    have hsum := cs_sum hsn.sz
    have hall := nm_normal hm (by omega) (Nat.le_refl _) hfold'
    have hfits : cnf5 s.cs = true := by
      unfold cnf5
      simp only [Bool.and_eq_true, decide_eq_true_eq, List.all_eq_true]
      exact ⟨⟨by omega, by omega⟩, hall⟩
    simp
    refine hX3.live (by omega) (by omega) ?_
    rw [hfits]
    simp
    refine gfor edges.length (fun j e σ' => Fr σ3.length σ3 σ' ∧ ∃ sl, Own σ3.length 1 eint σ' sl ((edges.take j).map (ofE s.name)) ∧ e = mkEnv 165 [(1, fints edges), (11, .slice (σ.length + 1) 0 g.nodes 1 (some g.nodes)), (12, .int .i64 s.next), (13, so3), (18, sl), (19, .int .i64 j)]) _ ?_ ⟨.rfl', .nils, .nil, rfl⟩ ?_
    · simp [mkEnv, List.replicate]
    rintro j _ σ6 hj ⟨hF6, sl, hO6, rfl⟩
    simp [mkEnv, List.replicate]
    by_cases hjt : j < edges.length
    · obtain ⟨y, hy⟩ := nth_lt hjt
      have hy' := nth_get hy
      obtain ⟨y0, y1⟩ := he y (List.mem_of_getElem? hy')
      have ej : IntKind.i64.wrap ((j : Int) + 1) = (j : Int) + 1 := by rw [wrap_small] <;> omega
      simp [hjt, hy]
      refine r12_signed_ok (hN3.fr hF6) y0 (by rw [hsn.len]; omega) (by omega) (ofE_lt (hsn.node hm (by omega) (AigP.reach_edge (List.mem_of_getElem? hy') y0 y1) (by omega))) ?_
      obtain ⟨s', σ7, q1, q2, q3, q4, q5, q6⟩ := hO6.push (by_ := 8) (ofE s.name y) (fun _ => rfl) (by simp) hF6.len (by simp; omega) (by decide)
      simp [q1, ej]
      exact forK_go _ hjt (by simp [mkEnv, List.replicate]) ⟨hF6.trans q3, s', by rw [take_get hy', List.map_append]; exact q2, rfl⟩
    · have : j = edges.length := by omega
      subst this
      rw [List.take_length] at hO6
      have hX6 : LX (σ.length + 2) σ6 so3 raws3 s.cs := hX3.fit fun j hj => hF6.get j (hX3.lt hj).2
      simp
      unfold graphE
      rw [hz]
      exact ⟨hFr3.trans (hF6.mono (by omega)), .tuple (.cons (hX6.rd fun j hj => .inl (by omega)) (.cons (hO6.rd (fun _ => rfl) fun j hj => .inl (by omega)) (.cons (.same _) (.cons (.same _) .nil))))⟩
end Go.Gh
namespace Go.Gh
open Go.Proofs
set_option maxRecDepth 100000
theorem works_run : sayTrueL Tryz.prog [(F_circ_May, G_circ_May), (F_enc_Half, G_enc_Half)] 60 20 [] = true := by kernel_rfl
end Go.Gh
namespace Go.Gh
open Go.Proofs
set_option maxRecDepth 100000
theorem works_ok {σ : GS} {Post : DV → GS → Prop} (k : Post (.bool true) σ) : GCall Tryz.prog F_skolemlaw12_works [] σ Post := by
  refine GCall.closed (sayTrueL_ok seatfollows (fun p hp => ?_) works_run) k
  simp only [List.mem_cons, List.not_mem_nil, or_false] at hp
  rcases hp with rfl | rfl
  · exact ⟨_, Tryz.func96, by kernel_rfl, c_circ_May⟩
  · exact ⟨_, Tryz.func36, by kernel_rfl, c_enc_Half⟩
end Go.Gh
namespace Go.Gh
open Go.RowKit Go.Proofs
set_option linter.unusedVariables false
set_option linter.unusedSimpArgs false
set_option maxRecDepth 100000
theorem graphZ_sm {g : AigP} {edges : List Int} {first : Int} (ha : g.ands.length ≤ 600) : ClsSm (graphZ g edges first).1 ∧ (graphZ g edges first).2.1.length ≤ edges.length := by
  unfold graphZ
  split
  · rename_i hc
    have hga : g.all edges = true := by simp only [Bool.and_eq_true] at hc; exact hc.1.1
    have hf : 1 ≤ first := by simp only [Bool.and_eq_true, decide_eq_true_eq] at hc; exact hc.1.2
    have hm := AigP.all_may hga
    cases hn : nmFold g (g.reach edges) first g.nodes with
    | none => exact ⟨⟨by simp, fun c hc => by cases hc⟩, by simp⟩
    | some s =>
      have hok := NmOk.fold (edges := edges) hm hf (Nat.le_refl _) hn
      have h1 := hok.cnt
      have h2 : g.nodes = 1 + g.ins.length + g.ands.length := rfl
      refine ⟨⟨?_, fun c hc => ?_⟩, by simp⟩
      · simp only; split at h1 <;> omega
      · have := hok.sz c hc; omega
  · exact ⟨⟨by simp, fun c hc => by cases hc⟩, by simp⟩
theorem graphs_ok {g : AigP} {edges : List Int} {first : Int} (hs : g.Sm) (hel : edges.length < 2 ^ 50) {σ : GS} {Post : DV → GS → Prop} (h : Post (.bool true) σ) : GCall Tryz.prog F_skolemlaw12_EncGraphs [g.enc, fints edges, .int .i64 first] σ Post := by
  have hins := hs.ins
  have hands := hs.ands
  refine GCall.say (r := .bool true) ?_ rfl h
  refine gc_skolemlaw12_EncGraphs ?_
  simp [G_skolemlaw12_EncGraphs, genv0, List.replicate]
  by_cases h1 : (600 : Int) < g.ands.length
  · simp [h1]
    refine works_ok ?_
    simp
  by_cases h2 : (100 : Int) < g.ins.length
  · simp [h1, h2]
    refine works_ok ?_
    simp
  by_cases h3 : (100 : Int) < edges.length
  · simp [h1, h2, h3]
    refine works_ok ?_
    simp
  simp [h1, h2, h3]
  obtain ⟨sm1, sm2⟩ := graphZ_sm (g := g) (edges := edges) (first := first) (by omega)
  refine enc_Graph_ok hs (by omega) (by omega) ?_
  simp
  refine r12_Graph_ok hs (by omega) (by omega) ?_
  simp
  refine r12_SameClauses_ok sm1 ?_
  simp
  refine ref_Ints_ok (by omega) ?_
  simp
  refine works_ok ?_
  simp
end Go.Gh
