/-
  Proved: enc's formulas of nets.
  Part 7 of 10. Conditions: none. A verified frame that runs compiled texts over a ghost heap, the contracts of the functions that the statement reaches, and the plain law.
-/
import Derived.Test.YtdpbcckkdccmlaaGreatXN6
import Derived.Test.YtdpbcckkdccmlaaGreatProg
import Derived.KernelRfl
namespace Go.Gh
open Go.RowKit Go.Proofs
set_option linter.unusedVariables false
set_option linter.unusedSimpArgs false
set_option maxRecDepth 100000
theorem Own.ix {n : Nat} {σ : GS} {s : DV} {xs : List Int} (h : Own n 1 eint σ s xs) {i : Nat} {x : Int} (hi : xs[i]? = some x) : ∃ id, gpure (.iaddr 1) [s, .int .i64 (i : Int)] = some (.ptr id i) ∧ gload (.load 1 false) [.ptr id i] σ = some (.int .i64 x) := by
  obtain ⟨id, _, h2, _, h4⟩ := h.get (fun _ => rfl) hi (k := .i64)
  refine ⟨id, by simpa using h2, ?_⟩
  have := h4 0 (by omega)
  simpa using this
theorem Lt.gabs {x : Int} (h : Lt x) : Go.Gh.gabs x = ab x := by
  unfold Lt at h
  unfold Go.Gh.gabs ab
  split
  · rw [wrap_small (by omega) (by omega)]; omega
  · rfl
theorem Lt.ab {x : Int} (h : Lt x) : 0 < Go.Gh.ab x ∧ Go.Gh.ab x ≤ 65536 := by
  unfold Lt at h
  unfold Go.Gh.ab; split <;> omega
theorem insA_len : ∀ {r : List Int} {x : Int} {r' : List Int}, insA r x = some r' → r'.length ≤ r.length + 1
  | [], x, r', h => by cases h; simp
  | y :: l, x, r', h => by
    rw [insA] at h
    split at h
    · obtain ⟨m, hm, rfl⟩ := Option.map_eq_some_iff.1 h
      have := insA_len hm; simp; omega
    · split at h
      · split at h
        · cases h; simp
        · cases h
      · cases h; simp
/-- The fold so far. -/
def nrmF (l : List Int) : Option (List Int) := l.foldl (fun o x => o.bind fun r => insA r x) (some [])
theorem nrmF_snoc {l : List Int} {i : Nat} {x : Int} {r : List Int} (hx : l[i]? = some x) (h : nrmF (l.take i) = some r) : nrmF (l.take (i + 1)) = insA r x := by
  unfold nrmF at h ⊢
  rw [take_get hx, List.foldl_append, h]; rfl
theorem nrmF_none {l : List Int} {i : Nat} (h : nrmF (l.take i) = none) : normL l = none := by
  have e : normL l = normL (l.take i ++ l.drop i) := by rw [List.take_append_drop]
  rw [e]
  unfold normL
  unfold nrmF at h
  rw [List.foldl_append, h, normL_none_fold]
theorem pw_get {r : List Int} (h : AscA r) {i j : Nat} {x y : Int} (hi : r[i]? = some x) (hj : r[j]? = some y) (hij : i < j) : ab x < ab y := by
  obtain ⟨h1, rfl⟩ := List.getElem?_eq_some_iff.1 hi
  obtain ⟨h2, rfl⟩ := List.getElem?_eq_some_iff.1 hj
  exact (List.pairwise_iff_getElem.1 h) i j h1 h2 hij
theorem mem_take_lt {r : List Int} {k : Nat} {z : Int} (h : z ∈ r.take k) : ∃ i, i < k ∧ r[i]? = some z := by
  obtain ⟨i, hi⟩ := List.mem_iff_getElem?.1 h
  rw [List.getElem?_take] at hi
  split at hi
  · exact ⟨i, by assumption, hi⟩
  · cases hi
theorem mem_drop_ge {r : List Int} {k : Nat} {z : Int} (h : z ∈ r.drop k) : ∃ i, k ≤ i ∧ r[i]? = some z := by
  obtain ⟨i, hi⟩ := List.mem_iff_getElem?.1 h
  rw [List.getElem?_drop] at hi
  exact ⟨k + i, by omega, hi⟩
set_option maxHeartbeats 1000000 in
theorem r12_sorted_ok {m : Nat} {t : DV} {l : List Int} {σ : GS} {Post : DV → GS → Prop} (hT : Own m 1 eint σ t l) (hl : l.length < 2 ^ 30) (hlit : ∀ x ∈ l, Lt x) (h : Post (.tuple [fints ((normL l).getD []), .bool (normL l).isSome]) σ) : GCall Tryz.prog F_skolemref12_sorted [t] σ Post := by
  refine GCall.pure (r := .tuple [fints ((normL l).getD []), .bool (normL l).isSome]) ?_ (by simp) h
  refine gc_skolemref12_sorted ?_
  simp [G_skolemref12_sorted, genv0, List.replicate]
  have htl := hT.len
  refine gfor l.length (fun i e σ' => Fr σ.length σ σ' ∧ ∃ s r, nrmF (l.take i) = some r ∧ r.length ≤ i ∧ Own σ.length 1 eint σ' s r ∧ e = mkEnv 85 [(0, t), (4, s), (5, .int .i64 i)]) _ ?_ ⟨.rfl', .nils, [], rfl, by simp, .nil, rfl⟩ ?_
  · simp [mkEnv, List.replicate]
  rintro i _ σ1 hi ⟨hF, s, r, hr, hrl, hO, rfl⟩
  have hT1 : Own m 1 eint σ1 t l := hT.fr hF
  simp [mkEnv, List.replicate, htl]
  by_cases hlt : i < l.length
  rotate_left
  · have : i = l.length := by omega
    subst this
    rw [List.take_length] at hr
    have hn : normL l = some r := hr
    simp
    rw [hn]
    exact ⟨hF, .tuple (.cons (hO.rd (fun _ => rfl) fun i hi => .inl hi) (.cons (.same _) .nil))⟩
  obtain ⟨x, hx⟩ := get_lt hlt
  have hxl := hlit x (List.mem_of_getElem? hx)
  have hxa := hxl.ab
  obtain ⟨tid, t1, t2⟩ := hT1.ix hx
  have es : IntKind.i64.wrap ((i : Int) + 1) = (i : Int) + 1 := by rw [wrap_small] <;> omega
  obtain ⟨hasc, hmem⟩ := normF_some .nil (show (l.take i).foldl (fun o x => Option.bind o fun r => insA r x) (some []) = some r from hr)
  have hrlit : ∀ z ∈ r, Lt z := fun z hz => by
    rcases (hmem z).1 hz with hz | hz
    · cases hz
    · exact hlit z (List.mem_of_mem_take hz)
  have hsl := hO.len
  simp [hlt, t1, t2]
  refine ref_Abs_ok ?_
  rw [hxl.gabs]
  simp [hsl]
  refine gfor r.length (fun c e σ' => σ' = σ1 ∧ c ≤ r.length ∧ (∀ (j : Nat) z, r.length - c ≤ j → r[j]? = some z → ab x < ab z) ∧ e = mkEnv 85 [(0, t), (4, s), (5, .int .i64 i), (6, .int .i64 (ab x)), (7, .int .i64 ((r.length - c : Nat) : Int))]) _ ?_ ⟨rfl, Nat.zero_le _, fun j z hj hz => by have := get_dom hz; omega, rfl⟩ ?_
  · simp [mkEnv, List.replicate]
  rintro c _ _ hc ⟨rfl, hc2, hbig, rfl⟩
  simp [mkEnv, List.replicate]
  obtain ⟨k, hk⟩ : ∃ k, r.length - c = k := ⟨_, rfl⟩
  rw [hk] at hbig ⊢
  have hkr : k ≤ r.length := by omega
  have hB : ∀ y ∈ r.drop k, ab x < ab y := fun y hy => by
    obtain ⟨j, h1, h2⟩ := mem_drop_ge hy
    exact hbig j y h1 h2
  rcases Nat.eq_zero_or_pos k with rfl | hkp
  · have hins : insA r x = some (r.take 0 ++ x :: r.drop 0) := by
      have := insA_cut (A := r.take 0) (B := r.drop 0) (x := x) (by simp) hB
      rwa [List.take_append_drop] at this
    have k0 : (0 : Nat) = 0 := rfl
    simp
    obtain ⟨k, hk0⟩ : ∃ k : Nat, k = 0 := ⟨0, rfl⟩
    rw [← hk0] at hins hkr hk
    obtain ⟨s', σ2, q1, q2, q3, q4, q5, q6⟩ := hO.push (by_ := 8) 0 (fun _ => rfl) (by simp) hF.len (by omega) (by decide)
    have q2l := q2.len
    have hs2 : ((r ++ [(0 : Int)]).length : Int) = r.length + 1 := by simp
    rw [hs2] at q2l
    have ewr : IntKind.i64.wrap (r.length : Int) = r.length := by rw [wrap_small] <;> omega
    simp [q1, q2l, ewr]
    refine gfor (r.length - k) (fun c e σ' => Fr σ.length σ σ' ∧ Own σ.length 1 eint σ' s' ((r ++ [0]).take (r.length - c + 1) ++ r.drop (r.length - c)) ∧ c ≤ r.length - k ∧ e = mkEnv 85 [(0, t), (4, s'), (5, .int .i64 i), (7, .int .i64 (k : Int)), (8, .int .i64 ((r.length - c : Nat) : Int))]) _ ?_ ⟨hF.trans q3, ?_, Nat.zero_le _, rfl⟩ ?_
    · simp [mkEnv, List.replicate] <;> omega
    · have e : (r ++ [(0 : Int)]).take (r.length - 0 + 1) ++ r.drop (r.length - 0) = r ++ [0] := by rw [Nat.sub_zero, List.drop_length, List.append_nil, List.take_of_length_le (by simp)]
      rw [e]; exact q2
    clear q1 q2 q3 q4 q5 q6 q2l
    rintro c' _ σ3 hc' ⟨hF3, hO3, hck, rfl⟩
    have hT3 : Own m 1 eint σ3 t l := hT.fr hF3
    simp [mkEnv, List.replicate]
    have hl3 : ((r ++ [(0 : Int)]).take (r.length - c' + 1) ++ r.drop (r.length - c')).length = r.length + 1 := by simp; omega
    by_cases hgt : k < r.length - c'
    · obtain ⟨z, hz⟩ := get_lt (xs := r) (i := r.length - c' - 1) (by omega)
      have hz' : ((r ++ [(0 : Int)]).take (r.length - c' + 1) ++ r.drop (r.length - c'))[r.length - c' - 1]? = some z := by
        rw [List.getElem?_append_left (by simp; omega), List.getElem?_take, if_pos (by omega), List.getElem?_append_left (by omega)]; exact hz
      obtain ⟨d1, u1, u2⟩ := hO3.ix hz'
      obtain ⟨d2, σ4, v1, v2, v3, v4, v5, v6⟩ := hO3.set (f := fun x => DV.int .i64 x) (i := r.length - c') (by rw [hl3]; omega) z (by simp) (k := .i64)
      have ez : IntKind.i64.wrap (((r.length - c' : Nat) : Int) - 1) = ((r.length - c' - 1 : Nat) : Int) := by rw [wrap_small] <;> omega
      simp [hgt, ez, u1, u2, v2, v3]
      refine forK_go _ (by omega) (by simp [mkEnv, List.replicate]; omega) ⟨⟨by rw [v5]; exact hF3.len, fun j hj => (v6 j fun hh => by have := hO3.has_ge hh; omega).trans (hF3.get j hj)⟩, ?_, by omega, rfl⟩
      have e : (((r ++ [(0 : Int)]).take (r.length - c' + 1) ++ r.drop (r.length - c')).set (r.length - c') z) = (r ++ [(0 : Int)]).take (r.length - (c' + 1) + 1) ++ r.drop (r.length - (c' + 1)) := by
        have h1 : r.length - (c' + 1) + 1 = r.length - c' := by omega
        have h2 : r.length - (c' + 1) = r.length - c' - 1 := by omega
        rw [h1, h2, drop_get hz, show r.length - c' - 1 + 1 = r.length - c' by omega]
        rw [List.set_append_left _ _ (by simp <;> omega)]
        have h3 : ((r ++ [(0 : Int)]).take (r.length - c' + 1)) = (r ++ [(0 : Int)]).take (r.length - c') ++ [((r ++ [(0 : Int)])[r.length - c']'(by simp; omega))] := List.take_succ_eq_append_getElem (by simp; omega)
        rw [h3, List.set_append_right _ _ (by simp; omega)]
        have h4 : r.length - c' - ((r ++ [(0 : Int)]).take (r.length - c')).length = 0 := by simp; omega
        rw [h4]
        simp
      rw [← e]; exact v4
    · have hkc : r.length - c' = k := by omega
      rw [hkc] at hO3 hl3
      obtain ⟨tid3, t31, t32⟩ := hT3.ix hx
      obtain ⟨d2, σ4, v1, v2, v3, v4, v5, v6⟩ := hO3.set (f := fun x => DV.int .i64 x) (i := k) (by rw [hl3]; omega) x (by simp) (k := .i64)
      simp [hgt, t31, t32, v2, v3, es]
      have e : (((r ++ [(0 : Int)]).take (k + 1) ++ r.drop k).set k x) = r.take k ++ x :: r.drop k := by
        rw [List.set_append_left _ _ (by simp <;> omega)]
        have h3 : ((r ++ [(0 : Int)]).take (k + 1)) = (r ++ [(0 : Int)]).take k ++ [((r ++ [(0 : Int)])[k]'(by simp; omega))] := List.take_succ_eq_append_getElem (by simp; omega)
        rw [h3, List.set_append_right _ _ (by simp; omega)]
        have h4 : k - ((r ++ [(0 : Int)]).take k).length = 0 := by simp; omega
        rw [h4, List.take_append_of_le_length (by omega)]
        simp
      rw [e] at v4
      refine forK_go _ hlt (by simp [mkEnv, List.replicate]) ⟨⟨by rw [v5]; exact hF3.len, fun j hj => (v6 j fun hh => by have := hO3.has_ge hh; omega).trans (hF3.get j hj)⟩, s', _, (nrmF_snoc hx hr).trans hins, by simp; omega, v4, rfl⟩
  · obtain ⟨y, hy⟩ := get_lt (xs := r) (i := k - 1) (by omega)
    have hyl := hrlit y (List.mem_of_getElem? hy)
    obtain ⟨sid, s1, s2⟩ := hO.ix hy
    have ek : IntKind.i64.wrap ((k : Int) - 1) = ((k - 1 : Nat) : Int) := by rw [wrap_small] <;> omega
    simp [hkp, ek, s1, s2]
    refine ref_Abs_ok ?_
    rw [hyl.gabs]
    by_cases c1 : ab x < ab y
    · simp [c1, ek]
      refine forK_go _ (by omega) (by simp [mkEnv, List.replicate]; omega) ⟨rfl, by omega, fun j z hj hz => ?_, rfl⟩
      by_cases hjk : k ≤ j
      · exact hbig j z hjk hz
      · have : j = k - 1 := by omega
        subst this
        rw [hy] at hz; cases hz; exact c1
    simp [c1, hkp, ek, s1, s2]
    refine ref_Abs_ok ?_
    rw [hyl.gabs]
    have hsplit : r.take (k - 1) ++ y :: r.drop k = r := by
      have := drop_get hy
      rw [show k - 1 + 1 = k by omega] at this
      rw [← this, List.take_append_drop]
    by_cases c2 : ab y = ab x
    · have hsame := insA_same (A := r.take (k - 1)) (B := r.drop k) (y := y) (x := x) (fun z hz => by
        obtain ⟨j, h1, h2⟩ := mem_take_lt hz
        have := pw_get hasc h2 hy h1; omega) c2
      rw [hsplit] at hsame
      by_cases c3 : y = x
      · rw [if_pos c3] at hsame
        simp [c2, ek, s1, s2, t1, t2, c3, es]
        exact forK_go _ hlt (by simp [mkEnv, List.replicate]) ⟨hF, s, r, (nrmF_snoc hx hr).trans hsame, by omega, hO, rfl⟩
      · rw [if_neg c3] at hsame
        have hnone : normL l = none := nrmF_none (i := i + 1) ((nrmF_snoc hx hr).trans hsame)
        simp [c2, ek, s1, s2, t1, t2, c3]
        rw [hnone]
        exact ⟨hF, .tuple (.cons (.nils 1) (.cons (.same _) .nil))⟩
    have hins : insA r x = some (r.take k ++ x :: r.drop k) := by
      have := insA_cut (A := r.take k) (B := r.drop k) (x := x) (fun z hz => by
        obtain ⟨j, h1, h2⟩ := mem_take_lt hz
        by_cases hj : j = k - 1
        · subst hj; rw [hy] at h2; cases h2; omega
        · have := pw_get hasc h2 hy (by omega); omega) hB
      rwa [List.take_append_drop] at this
    simp [c2]
    obtain ⟨s', σ2, q1, q2, q3, q4, q5, q6⟩ := hO.push (by_ := 8) 0 (fun _ => rfl) (by simp) hF.len (by omega) (by decide)
    have q2l := q2.len
    have hs2 : ((r ++ [(0 : Int)]).length : Int) = r.length + 1 := by simp
    rw [hs2] at q2l
    have ewr : IntKind.i64.wrap (r.length : Int) = r.length := by rw [wrap_small] <;> omega
    simp [q1, q2l, ewr]
    refine gfor (r.length - k) (fun c e σ' => Fr σ.length σ σ' ∧ Own σ.length 1 eint σ' s' ((r ++ [0]).take (r.length - c + 1) ++ r.drop (r.length - c)) ∧ c ≤ r.length - k ∧ e = mkEnv 85 [(0, t), (4, s'), (5, .int .i64 i), (7, .int .i64 (k : Int)), (8, .int .i64 ((r.length - c : Nat) : Int))]) _ ?_ ⟨hF.trans q3, ?_, Nat.zero_le _, rfl⟩ ?_
    · simp [mkEnv, List.replicate] <;> omega
    · have e : (r ++ [(0 : Int)]).take (r.length - 0 + 1) ++ r.drop (r.length - 0) = r ++ [0] := by rw [Nat.sub_zero, List.drop_length, List.append_nil, List.take_of_length_le (by simp)]
      rw [e]; exact q2
    clear q1 q2 q3 q4 q5 q6 q2l
    rintro c' _ σ3 hc' ⟨hF3, hO3, hck, rfl⟩
    have hT3 : Own m 1 eint σ3 t l := hT.fr hF3
    simp [mkEnv, List.replicate]
    have hl3 : ((r ++ [(0 : Int)]).take (r.length - c' + 1) ++ r.drop (r.length - c')).length = r.length + 1 := by simp; omega
    by_cases hgt : k < r.length - c'
    · obtain ⟨z, hz⟩ := get_lt (xs := r) (i := r.length - c' - 1) (by omega)
      have hz' : ((r ++ [(0 : Int)]).take (r.length - c' + 1) ++ r.drop (r.length - c'))[r.length - c' - 1]? = some z := by
        rw [List.getElem?_append_left (by simp; omega), List.getElem?_take, if_pos (by omega), List.getElem?_append_left (by omega)]; exact hz
      obtain ⟨d1, u1, u2⟩ := hO3.ix hz'
      obtain ⟨d2, σ4, v1, v2, v3, v4, v5, v6⟩ := hO3.set (f := fun x => DV.int .i64 x) (i := r.length - c') (by rw [hl3]; omega) z (by simp) (k := .i64)
      have ez : IntKind.i64.wrap (((r.length - c' : Nat) : Int) - 1) = ((r.length - c' - 1 : Nat) : Int) := by rw [wrap_small] <;> omega
      simp [hgt, ez, u1, u2, v2, v3]
      refine forK_go _ (by omega) (by simp [mkEnv, List.replicate]; omega) ⟨⟨by rw [v5]; exact hF3.len, fun j hj => (v6 j fun hh => by have := hO3.has_ge hh; omega).trans (hF3.get j hj)⟩, ?_, by omega, rfl⟩
      have e : (((r ++ [(0 : Int)]).take (r.length - c' + 1) ++ r.drop (r.length - c')).set (r.length - c') z) = (r ++ [(0 : Int)]).take (r.length - (c' + 1) + 1) ++ r.drop (r.length - (c' + 1)) := by
        have h1 : r.length - (c' + 1) + 1 = r.length - c' := by omega
        have h2 : r.length - (c' + 1) = r.length - c' - 1 := by omega
        rw [h1, h2, drop_get hz, show r.length - c' - 1 + 1 = r.length - c' by omega]
        rw [List.set_append_left _ _ (by simp <;> omega)]
        have h3 : ((r ++ [(0 : Int)]).take (r.length - c' + 1)) = (r ++ [(0 : Int)]).take (r.length - c') ++ [((r ++ [(0 : Int)])[r.length - c']'(by simp; omega))] := List.take_succ_eq_append_getElem (by simp; omega)
        rw [h3, List.set_append_right _ _ (by simp; omega)]
        have h4 : r.length - c' - ((r ++ [(0 : Int)]).take (r.length - c')).length = 0 := by simp; omega
        rw [h4]
        simp
      rw [← e]; exact v4
    · have hkc : r.length - c' = k := by omega
      rw [hkc] at hO3 hl3
      obtain ⟨tid3, t31, t32⟩ := hT3.ix hx
      obtain ⟨d2, σ4, v1, v2, v3, v4, v5, v6⟩ := hO3.set (f := fun x => DV.int .i64 x) (i := k) (by rw [hl3]; omega) x (by simp) (k := .i64)
      simp [hgt, t31, t32, v2, v3, es]
      have e : (((r ++ [(0 : Int)]).take (k + 1) ++ r.drop k).set k x) = r.take k ++ x :: r.drop k := by
        rw [List.set_append_left _ _ (by simp <;> omega)]
        have h3 : ((r ++ [(0 : Int)]).take (k + 1)) = (r ++ [(0 : Int)]).take k ++ [((r ++ [(0 : Int)])[k]'(by simp; omega))] := List.take_succ_eq_append_getElem (by simp; omega)
        rw [h3, List.set_append_right _ _ (by simp; omega)]
        have h4 : k - ((r ++ [(0 : Int)]).take k).length = 0 := by simp; omega
        rw [h4, List.take_append_of_le_length (by omega)]
        simp
      rw [e] at v4
      refine forK_go _ hlt (by simp [mkEnv, List.replicate]) ⟨⟨by rw [v5]; exact hF3.len, fun j hj => (v6 j fun hh => by have := hO3.has_ge hh; omega).trans (hF3.get j hj)⟩, s', _, (nrmF_snoc hx hr).trans hins, by simp; omega, v4, rfl⟩
end Go.Gh
namespace Go.Gh
set_option linter.unusedVariables false
set_option linter.unusedSimpArgs false
theorem normR_asc : ∀ {l : List Int} {last : Int}, AscA l → (∀ x ∈ l, Lt x ∧ last < ab x) → normR last l = true
  | [], _, _, _ => rfl
  | x :: l, last, ha, h => by
    have h1 := List.pairwise_cons.1 ha
    obtain ⟨hx, hl⟩ := h x (by simp)
    have hab := hx.ab
    rw [normR, hx.gabs]
    have hv : isVar (ab x) = true := by unfold isVar; simp only [Bool.and_eq_true, decide_eq_true_eq]; omega
    rw [hv, normR_asc h1.2 fun y hy => ⟨(h y (by simp [hy])).1, h1.1 y hy⟩]
    simpa using hl
theorem normL_normal {l r : List Int} (h : normL l = some r) (hl : ∀ x ∈ l, Lt x) : normal r = true := by
  obtain ⟨a, b⟩ := normL_some h
  rw [normal_eq]
  refine normR_asc a fun x hx => ?_
  have := hl x ((b x).1 hx)
  exact ⟨this, this.ab.1⟩
theorem rawP_lt {x k : Int} {i : List Int} {pl mi : Bool} (hx : Lt x) (hi : ∀ l ∈ i, Lt l) (hs : shpG k i.length = true) : ∀ c ∈ rawP x k i pl mi, ∀ y ∈ c, Lt y := by
  have app : ∀ {a b : List (List Int)}, (∀ c ∈ a, ∀ y ∈ c, Lt y) → (∀ c ∈ b, ∀ y ∈ c, Lt y) → ∀ c ∈ a ++ b, ∀ y ∈ c, Lt y := fun h1 h2 c hc => (List.mem_append.1 hc).elim (h1 c) (h2 c)
  have non : ∀ c ∈ ([] : List (List Int)), ∀ y ∈ c, Lt y := fun c hc => by cases hc
  have mp : ∀ (f : Int → List Int), (∀ z, Lt z → ∀ y ∈ f z, Lt y) → ∀ c ∈ i.map f, ∀ y ∈ c, Lt y := fun f hf c hc => by
    obtain ⟨z, hz, rfl⟩ := List.mem_map.1 hc; exact hf z (hi z hz)
  have one : ∀ (z : List Int), (∀ y ∈ z, Lt y) → ∀ c ∈ [z], ∀ y ∈ c, Lt y := fun z hz c hc => by
    rw [List.mem_singleton.1 hc]; exact hz
  have two : ∀ (u v : List Int), (∀ y ∈ u, Lt y) → (∀ y ∈ v, Lt y) → ∀ c ∈ [u, v], ∀ y ∈ c, Lt y := fun u v hu hv c hc => by
    rcases List.mem_cons.1 hc with rfl | hc
    · exact hu
    · rw [List.mem_singleton.1 hc]; exact hv
  have three : ∀ {a b c : Int}, Lt a → Lt b → Lt c → ∀ y ∈ [a, b, c], Lt y := fun ha hb hc y hy => by
    simp at hy; rcases hy with rfl | rfl | rfl <;> assumption
  have gd : ∀ j, j < i.length → Lt (i.getD j 0) := fun j hj => by
    rw [List.getD_eq_getElem?_getD, List.getElem?_eq_getElem hj]; exact hi _ (List.getElem_mem hj)
  have hcs := shpG_cases hs
  unfold rawP
  split
  · refine app ?_ ?_ <;> split
    · exact mp _ fun z hz y hy => by simp at hy; rcases hy with rfl | rfl; exact hx.neg; exact hz
    · exact non
    · refine one _ fun y hy => ?_
      rcases List.mem_append.1 hy with hy | hy
      · obtain ⟨z, hz, rfl⟩ := List.mem_map.1 hy; exact (hi z hz).neg
      · simp at hy; subst hy; exact hx
    · exact non
  split
  · refine app ?_ ?_ <;> split
    · refine one _ fun y hy => ?_
      rcases List.mem_append.1 hy with hy | hy
      · exact hi y hy
      · simp at hy; subst hy; exact hx.neg
    · exact non
    · exact mp _ fun z hz y hy => by simp at hy; rcases hy with rfl | rfl; exact hx; exact hz.neg
    · exact non
  split
  · have g0 := gd 0 (by omega)
    have g1 := gd 1 (by omega)
    refine app ?_ ?_ <;> split
    · exact two _ _ (three hx.neg g0 g1) (three hx.neg g0.neg g1.neg)
    · exact non
    · exact two _ _ (three hx g0.neg g1) (three hx g0 g1.neg)
    · exact non
  · have g0 := gd 0 (by omega)
    have g1 := gd 1 (by omega)
    have g2 := gd 2 (by omega)
    refine app ?_ ?_ <;> split
    · exact two _ _ (three hx.neg g0.neg g1) (three hx.neg g0 g2)
    · exact non
    · exact two _ _ (three hx g0.neg g1.neg) (three hx g0 g2.neg)
    · exact non
theorem gcl_normal {x k : Int} {i : List Int} {pl mi : Bool} (hx : Lt x) (hi : ∀ l ∈ i, Lt l) (hs : shpG k i.length = true) : ∀ c ∈ gcl x k i pl mi, normal c = true := fun c hc => by
  obtain ⟨r, hr, h⟩ := List.mem_filterMap.1 hc
  exact normL_normal h (rawP_lt hx hi hs r hr)
end Go.Gh
namespace Go.Gh
set_option linter.unusedVariables false
set_option linter.unusedSimpArgs false
/-- Which variables are marked: truths of 65537 numbers. -/
structure SetV (vs : List Bool) (seen : List Int) : Prop where
  len : vs.length = 65537
  get : ∀ i : Nat, i < 65537 → vs[i]? = some (seen.contains (i : Int))
theorem SetV.nil : SetV (List.replicate 65537 false) [] := ⟨by rw [List.length_replicate], fun i hi => by rw [List.getElem?_replicate, if_pos hi]; simp⟩
theorem SetV.put {vs : List Bool} {seen : List Int} (h : SetV vs seen) {k : Nat} (hk : k < 65537) : SetV (vs.set k true) (seen ++ [(k : Int)]) := by
  refine ⟨by rw [List.length_set, h.len], fun i hi => ?_⟩
  have h1 := h.len
  by_cases e : k = i
  · subst e
    rw [List.getElem?_set_self (by omega)]
    simp
  · rw [List.getElem?_set_ne e, h.get i hi]
    congr 1
    rw [Bool.eq_iff_iff]
    simp
    intro e'; omega
/-- The blocks of a prefix, one after the other. -/
def blkOk (prev : Option Bool) (b : Blk) : Bool := !b.2.isEmpty && decide (prev ≠ some b.1)
theorem isVar_range {v : Int} (h : isVar v = true) : ∃ k : Nat, v = (k : Int) ∧ 1 ≤ k ∧ k ≤ 65536 := by
  simp only [isVar, Bool.and_eq_true, decide_eq_true_eq] at h
  exact ⟨v.toNat, by omega, by omega, by omega⟩
theorem singleS_append : ∀ (a b seen : List Int), singleS seen (a ++ b) = (singleS seen a && singleS (seen ++ a) b)
  | [], b, seen => by simp [singleS]
  | x :: a, b, seen => by
    rw [List.cons_append, singleS, singleS, singleS_append a b (seen ++ [x])]
    simp [Bool.and_assoc]
/-- Variables that are new, as long as there is room. -/
def varR (seen : List Int) : List Int → Bool
  | [] => true
  | x :: l => decide (seen.length < 1024) && (isVar x && !seen.contains x) && varR (seen ++ [x]) l
theorem varR_eq : ∀ (l seen : List Int), seen.length ≤ 1024 → varR seen l = (decide (seen.length + l.length ≤ 1024) && singleS seen l)
  | [], seen, h => by simp [varR, singleS, h]
  | x :: l, seen, h => by
    rw [varR, singleS]
    by_cases c : seen.length < 1024
    · rw [varR_eq l (seen ++ [x]) (by simp; omega)]
      have e : (seen ++ [x]).length + l.length = seen.length + (x :: l).length := by simp; omega
      rw [e]
      simp only [c, decide_true, Bool.true_and]
      cases isVar x <;> cases seen.contains x <;> simp
    · have e : ¬ (seen.length + (x :: l).length ≤ 1024) := by simp; omega
      simp [c, e]
      intro hh; simp at e; omega
def preR (prev : Option Bool) (seen : List Int) : List Blk → Bool
  | [] => true
  | b :: p => blkOk prev b && varR seen b.2 && preR (some b.1) (seen ++ b.2) p
theorem preR_eq : ∀ (p : List Blk) (prev : Option Bool) (seen : List Int), seen.length ≤ 1024 → preR prev seen p = (altB prev p && (decide (seen.length + (flatB p).length ≤ 1024) && singleS seen (flatB p)))
  | [], prev, seen, h => by simp [preR, altB, flatB, singleS, h]
  | b :: p, prev, seen, h => by
    have hf : flatB (b :: p) = b.2 ++ flatB p := by simp [flatB]
    rw [preR, altB, varR_eq _ _ h, hf, singleS_append, List.length_append]
    unfold blkOk
    by_cases c : seen.length + b.2.length ≤ 1024
    · rw [preR_eq p (some b.1) (seen ++ b.2) (by simp; omega)]
      rw [List.length_append, show seen.length + b.2.length + (flatB p).length = seen.length + (b.2.length + (flatB p).length) by omega]
      simp only [c, decide_true, Bool.true_and]
      cases (!b.2.isEmpty && decide (prev ≠ some b.1)) <;> cases singleS seen b.2 <;> cases altB (some b.1) p <;> simp
    · have e : ¬ (seen.length + (b.2.length + (flatB p).length) ≤ 1024) := by omega
      simp [c, e]
/-- The quantifier of the block before. -/
def prevQ (p : List Blk) : Nat → Option Bool
  | 0 => none
  | i + 1 => (p[i]?).map (·.1)
theorem mayB_preR (p : List Blk) : mayB p = preR none [] p := by
  rw [preR_eq p none [] (by simp)]
  simp [mayB]
/-- Gates, each of variables that are known, and new. -/
def gsOk (seen : List Int) : List GateP → Bool
  | [] => true
  | g :: l => (shpG g.k g.ins.length && g.ins.all (fun x => seen.contains (absE x)) && (isVar g.v && !seen.contains g.v)) && gsOk (seen ++ [g.v]) l
/-- A net. -/
structure NetQ where
  pre : List Blk
  gates : List GateP
  out : Int
abbrev fgates (l : List GateP) : DV := .fsl 3 (l.map egate)
abbrev enet (n : NetQ) : List DV := [fblks n.pre, fgates n.gates, .int .i64 n.out]
abbrev NetQ.enc (n : NetQ) : DV := .agg (enet n)
def NetQ.all (n : NetQ) : List Int := flatB n.pre ++ n.gates.map (·.v)
def NetQ.lits (n : NetQ) : Nat := (n.gates.map fun g => g.ins.length).sum
/-- Is a net valid? (Its literals are few enough.) -/
def mayN (n : NetQ) : Bool := mayB n.pre && gsOk (flatB n.pre) n.gates && n.all.contains (absE n.out)
@[simp] theorem closed_fgates (p : List GateP) : (fgates p).closed = true := closedss_map fun x _ => by have := closed_fints x.ins; simp [DV.closed, closeds] at this ⊢; exact this
theorem sum_take {α : Type} (f : α → Nat) : ∀ (l : List α) (i : Nat), ((l.map f).take i).sum ≤ (l.map f).sum
  | [], i => by simp
  | x :: l, 0 => by simp
  | x :: l, i + 1 => by
    have := sum_take f l i
    simp only [List.map_cons, List.take_succ_cons, List.sum_cons]; omega
theorem sum_snoc {α : Type} {f : α → Nat} {l : List α} {i : Nat} {x : α} (h : l[i]? = some x) : ((l.map f).take (i + 1)).sum = ((l.map f).take i).sum + f x := by
  rw [take_get (show (l.map f)[i]? = some (f x) by simp [h])]; simp
end Go.Gh
namespace Go.Gh
open Go.Proofs
abbrev F_skolemlaw12_EncNets : Nat := 7
abbrev F_skolemlaw12_great : Nat := 33
abbrev F_enc_Net : Nat := 34
abbrev F_skolemref12_Net : Nat := 35
abbrev F_enc_Half : Nat := 36
abbrev F_skolemref12_Half : Nat := 37
abbrev F_skolemref12_Same : Nat := 38
abbrev F_skolemref05_May : Nat := 48
abbrev F_skolemref05_Vars : Nat := 49
abbrev F_skolemref05_SamePrefix : Nat := 74
abbrev F_skolemref12_Cnf : Nat := 93
abbrev F_prefix_MayQbf : Nat := 94
abbrev F_circ_May : Nat := 96
abbrev F_enc_formula : Nat := 111
abbrev F_skolemref12_formula : Nat := 112
abbrev F_enc_signs_add : Nat := 113
abbrev F_slices_Backward_api_Gate_api_Gate : Nat := 114
abbrev F_skolemref12_mark : Nat := 115
abbrev F_skolemref05_Prefix : Nat := 127
abbrev F_skolemref05_marks : Nat := 128
abbrev F_skolemref05_shape : Nat := 129
abbrev F_skolemref05_known : Nat := 130
abbrev F_circ_set_prefix : Nat := 164
abbrev F_circ_literals : Nat := 165
abbrev F_circ_May_1 : Nat := 166
abbrev F_circ_set_has : Nat := 167
abbrev F_circ_shaped : Nat := 168
abbrev F_circ_set_add : Nat := 169
abbrev F_skolemref12_behind : Nat := 184
abbrev F_slices_Backward_api_Gate_api_Gate_1 : Nat := 185
abbrev F_circ_abs : Nat := 190
noncomputable abbrev G_enc_Net : GFun := ⟨20, [(.cell 2 2 true), (.tmp 3)], (.seq (.region [⟨0, ⟨(some 1), none, (.new .box), [(.tmp 0)]⟩, []⟩, ⟨0, ⟨(some 2), none, (.new (.alloc [.nils, .nils])), []⟩, []⟩, ⟨0, ⟨(some 3), none, (.pure .id), [(.const (.int .i64 0))]⟩, []⟩]) (.seq (.seq (.region [⟨0, ⟨(some 6), none, (.load (.load 3 true)), [(.tmp 1)]⟩, []⟩, ⟨0, ⟨(some 7), none, (.call F_circ_May), [(.tmp 6)]⟩, []⟩, ⟨0, ⟨(some 8), none, (.pure (.un .not)), [(.tmp 7)]⟩, []⟩]) (.cond (.tmp 8) (.seq (.region [⟨0, ⟨(some 9), none, (.pure (.build [.nils, .nils] [])), []⟩, []⟩, ⟨0, ⟨none, none, (.imp (.store 2)), [(.tmp 2), (.tmp 9)]⟩, []⟩, ⟨0, ⟨(some 3), none, (.pure .id), [(.const (.int .i64 2))]⟩, []⟩]) .ret) .skip)) (.seq (.region [⟨0, ⟨(some 4), none, (.new (.abig 65537 (.int .u8 0))), []⟩, []⟩]) (.seq (.seq (.region [⟨0, ⟨(some 10), none, (.pure .id), [(.const (.int .i64 0))]⟩, []⟩]) (.block 0 (.loop (.seq (.region [⟨0, ⟨(some 11), none, (.pure (.bin .lss .none)), [(.tmp 10), (.const (.int .i64 65537))]⟩, []⟩]) (.seq (.cond (.tmp 11) .skip (.exit 0)) (.seq (.block 1 (.seq (.region [⟨0, ⟨(some 12), none, (.pure .id), [(.tmp 10)]⟩, []⟩, ⟨0, ⟨(some 5), none, (.pure .id), [(.tmp 12)]⟩, []⟩]) (.region [⟨0, ⟨(some 13), none, (.pure .id), [(.tmp 5)]⟩, []⟩, ⟨0, ⟨(some 14), none, (.pure (.iarr 65537 1)), [(.tmp 4), (.tmp 13)]⟩, []⟩, ⟨0, ⟨none, none, (.imp (.store 1)), [(.tmp 14), (.const (.int .u8 3))]⟩, []⟩]))) (.region [⟨0, ⟨(some 15), none, (.pure (.bin .add .none)), [(.tmp 10), (.const (.int .i64 1))]⟩, []⟩, ⟨0, ⟨(some 10), none, (.pure .id), [(.tmp 15)]⟩, []⟩]))))))) (.seq (.region [⟨0, ⟨(some 16), none, (.load (.load 3 true)), [(.tmp 1)]⟩, []⟩, ⟨0, ⟨(some 17), none, (.call F_enc_formula), [(.tmp 16), (.tmp 4)]⟩, []⟩, ⟨0, ⟨(some 18), none, (.pure (.extract 0)), [(.tmp 17)]⟩, []⟩, ⟨0, ⟨(some 19), none, (.pure (.extract 1)), [(.tmp 17)]⟩, []⟩, ⟨0, ⟨none, none, (.imp (.store 2)), [(.tmp 2), (.tmp 18)]⟩, []⟩, ⟨0, ⟨(some 3), none, (.pure .id), [(.tmp 19)]⟩, []⟩]) .ret)))))⟩
theorem c_enc_Net : compF Tryz.prog Tryz.f34 = some G_enc_Net := by kernel_rfl
theorem gc_enc_Net {args : List DV} {σ : GS} {Post : DV → GS → Prop} (h : @exB Tryz.prog ⟨G_enc_Net.body⟩ (genv0 args G_enc_Net.ntmps) σ ⟨@gretB G_enc_Net.results ⟨Post⟩⟩) : GCall Tryz.prog F_enc_Net args σ Post := gcall_ofB seatfollows Tryz.func34 (by kernel_rfl) c_enc_Net h
noncomputable abbrev G_enc_Half : GFun := ⟨60, [(.cell 2 2 true), (.tmp 3)], (.seq (.region [⟨0, ⟨(some 1), none, (.new .box), [(.tmp 0)]⟩, []⟩, ⟨0, ⟨(some 2), none, (.new (.alloc [.nils, .nils])), []⟩, []⟩, ⟨0, ⟨(some 3), none, (.pure .id), [(.const (.int .i64 0))]⟩, []⟩]) (.seq (.seq (.region [⟨0, ⟨(some 10), none, (.load (.load 3 true)), [(.tmp 1)]⟩, []⟩, ⟨0, ⟨(some 11), none, (.call F_circ_May), [(.tmp 10)]⟩, []⟩, ⟨0, ⟨(some 12), none, (.pure (.un .not)), [(.tmp 11)]⟩, []⟩]) (.cond (.tmp 12) (.seq (.region [⟨0, ⟨(some 13), none, (.pure (.build [.nils, .nils] [])), []⟩, []⟩, ⟨0, ⟨none, none, (.imp (.store 2)), [(.tmp 2), (.tmp 13)]⟩, []⟩, ⟨0, ⟨(some 3), none, (.pure .id), [(.const (.int .i64 2))]⟩, []⟩]) .ret) .skip)) (.seq (.region [⟨0, ⟨(some 4), none, (.new (.abig 65537 (.int .u8 0))), []⟩, []⟩]) (.seq (.region [⟨0, ⟨(some 14), none, (.pure (.faddr 2)), [(.tmp 1)]⟩, []⟩, ⟨0, ⟨(some 15), none, (.load (.load 1 false)), [(.tmp 14)]⟩, []⟩, ⟨0, ⟨(some 16), none, (.call F_enc_signs_add), [(.tmp 4), (.tmp 15), (.const (.int .u8 1))]⟩, []⟩]) (.seq (.seq (.region [⟨0, ⟨(some 17), none, (.pure (.faddr 1)), [(.tmp 1)]⟩, []⟩, ⟨0, ⟨(some 18), none, (.load (.load 1 false)), [(.tmp 17)]⟩, []⟩, ⟨0, ⟨(some 19), none, (.call F_slices_Backward_api_Gate_api_Gate), [(.tmp 18)]⟩, []⟩]) (.block 0 (.rangeF (.tmp 19) [20, 21] (rngA Tryz.f36 0) (rngB Tryz.f36 0)))) (.seq (.region [⟨0, ⟨(some 56), none, (.load (.load 3 true)), [(.tmp 1)]⟩, []⟩, ⟨0, ⟨(some 57), none, (.call F_enc_formula), [(.tmp 56), (.tmp 4)]⟩, []⟩, ⟨0, ⟨(some 58), none, (.pure (.extract 0)), [(.tmp 57)]⟩, []⟩, ⟨0, ⟨(some 59), none, (.pure (.extract 1)), [(.tmp 57)]⟩, []⟩, ⟨0, ⟨none, none, (.imp (.store 2)), [(.tmp 2), (.tmp 58)]⟩, []⟩, ⟨0, ⟨(some 3), none, (.pure .id), [(.tmp 59)]⟩, []⟩]) .ret))))))⟩
theorem c_enc_Half : compF Tryz.prog Tryz.f36 = some G_enc_Half := by kernel_rfl
theorem gc_enc_Half {args : List DV} {σ : GS} {Post : DV → GS → Prop} (h : @exB Tryz.prog ⟨G_enc_Half.body⟩ (genv0 args G_enc_Half.ntmps) σ ⟨@gretB G_enc_Half.results ⟨Post⟩⟩) : GCall Tryz.prog F_enc_Half args σ Post := gcall_ofB seatfollows Tryz.func36 (by kernel_rfl) c_enc_Half h
noncomputable abbrev GA_enc_Half_0 : GCode := (.region [⟨0, ⟨(some 6), none, (.new (.alloc [(.int .i64 0), (.int .u8 0), .nils])), []⟩, []⟩, ⟨0, ⟨none, none, (.imp (.store 3)), [(.tmp 6), (.tmp 21)]⟩, []⟩])
theorem ca_enc_Half_0 : comp Tryz.prog (rngA Tryz.f36 0) = some GA_enc_Half_0 := by kernel_rfl
noncomputable abbrev GB_enc_Half_0 : GCode := (.block 1 (.seq (.region [⟨0, ⟨(some 22), none, (.pure (.faddr 0)), [(.tmp 6)]⟩, []⟩, ⟨0, ⟨(some 23), none, (.load (.load 1 false)), [(.tmp 22)]⟩, []⟩, ⟨0, ⟨(some 24), none, (.pure (.iarr 65537 1)), [(.tmp 4), (.tmp 23)]⟩, []⟩, ⟨0, ⟨(some 25), none, (.load (.load 1 false)), [(.tmp 24)]⟩, []⟩, ⟨0, ⟨(some 7), none, (.pure .id), [(.tmp 25)]⟩, []⟩]) (.seq (.region [⟨0, ⟨(some 26), none, (.pure (.faddr 2)), [(.tmp 6)]⟩, []⟩, ⟨0, ⟨(some 27), none, (.load (.load 1 false)), [(.tmp 26)]⟩, []⟩, ⟨0, ⟨(some 28), none, (.pure .len), [(.tmp 27)]⟩, []⟩, ⟨0, ⟨(some 29), none, (.pure .id), [(.const (.int .i64 0))]⟩, []⟩]) (.block 2 (.loop (.seq (.region [⟨0, ⟨(some 30), none, (.pure (.bin .lss .none)), [(.tmp 29), (.tmp 28)]⟩, []⟩]) (.seq (.cond (.tmp 30) .skip (.exit 2)) (.seq (.block 3 (.seq (.region [⟨0, ⟨(some 31), none, (.pure .id), [(.tmp 29)]⟩, []⟩, ⟨0, ⟨(some 32), none, (.pure (.iaddr 1)), [(.tmp 27), (.tmp 29)]⟩, []⟩, ⟨0, ⟨(some 33), none, (.load (.load 1 false)), [(.tmp 32)]⟩, []⟩, ⟨0, ⟨(some 8), none, (.pure .id), [(.tmp 31)]⟩, []⟩, ⟨0, ⟨(some 9), none, (.pure .id), [(.tmp 33)]⟩, []⟩]) (.seq (.region [⟨0, ⟨(some 34), none, (.pure .id), [(.tmp 7)]⟩, []⟩, ⟨0, ⟨(some 35), none, (.pure (.bin .neq .none)), [(.tmp 34), (.const (.int .u8 0))]⟩, []⟩, ⟨0, ⟨(some 36), none, (.pure .id), [(.tmp 35)]⟩, []⟩, ⟨0, ⟨(some 37), (some (36, true)), (.pure (.faddr 1)), [(.tmp 6)]⟩, []⟩, ⟨0, ⟨(some 38), (some (36, true)), (.load (.load 1 false)), [(.tmp 37)]⟩, []⟩, ⟨0, ⟨(some 39), (some (36, true)), (.pure (.bin .eql .none)), [(.tmp 38), (.const (.int .u8 3))]⟩, []⟩, ⟨0, ⟨(some 40), (some (36, true)), (.pure .id), [(.tmp 39)]⟩, []⟩, ⟨0, ⟨(some 41), (some (40, false)), (.pure (.faddr 1)), [(.tmp 6)]⟩, []⟩, ⟨0, ⟨(some 42), (some (40, false)), (.load (.load 1 false)), [(.tmp 41)]⟩, []⟩, ⟨0, ⟨(some 43), (some (40, false)), (.pure (.bin .eql .none)), [(.tmp 42), (.const (.int .u8 4))]⟩, []⟩, ⟨0, ⟨(some 44), (some (40, false)), (.pure .id), [(.tmp 43)]⟩, []⟩, ⟨0, ⟨(some 45), (some (44, true)), (.pure .id), [(.tmp 8)]⟩, []⟩, ⟨0, ⟨(some 46), (some (44, true)), (.pure (.bin .eql .none)), [(.tmp 45), (.const (.int .i64 0))]⟩, []⟩, ⟨0, ⟨(some 47), (some (40, false)), (.pure .pick), [(.tmp 44), (.tmp 46), (.const (.bool false))]⟩, []⟩, ⟨0, ⟨(some 48), (some (36, true)), (.pure .pick), [(.tmp 40), (.const (.bool true)), (.tmp 47)]⟩, []⟩, ⟨0, ⟨(some 49), none, (.pure .pick), [(.tmp 36), (.tmp 48), (.const (.bool false))]⟩, []⟩]) (.cond (.tmp 49) (.region [⟨0, ⟨(some 50), none, (.pure .id), [(.tmp 9)]⟩, []⟩, ⟨0, ⟨(some 51), none, (.call F_enc_signs_add), [(.tmp 4), (.tmp 50), (.const (.int .u8 3))]⟩, []⟩]) (.region [⟨0, ⟨(some 52), none, (.pure .id), [(.tmp 9)]⟩, []⟩, ⟨0, ⟨(some 53), none, (.pure .id), [(.tmp 7)]⟩, []⟩, ⟨0, ⟨(some 54), none, (.call F_enc_signs_add), [(.tmp 4), (.tmp 52), (.tmp 53)]⟩, []⟩]))))) (.region [⟨0, ⟨(some 55), none, (.pure (.bin .add .none)), [(.tmp 29), (.const (.int .i64 1))]⟩, []⟩, ⟨0, ⟨(some 29), none, (.pure .id), [(.tmp 55)]⟩, []⟩])))))))))
theorem cb_enc_Half_0 : comp Tryz.prog (rngB Tryz.f36 0) = some GB_enc_Half_0 := by kernel_rfl
noncomputable abbrev G_enc_formula : GFun := ⟨120, [(.cell 4 2 true), (.tmp 5)], (.seq (.region [⟨0, ⟨(some 2), none, (.new .box), [(.tmp 0)]⟩, []⟩, ⟨0, ⟨(some 4), none, (.new (.alloc [.nils, .nils])), []⟩, []⟩, ⟨0, ⟨(some 5), none, (.pure .id), [(.const (.int .i64 0))]⟩, []⟩]) (.seq (.region [⟨0, ⟨(some 6), none, (.new (.alloc [.nils])), []⟩, []⟩]) (.seq (.region [⟨0, ⟨(some 7), none, (.pure .id), [(.const .nils)]⟩, []⟩]) (.seq (.region [⟨0, ⟨(some 16), none, (.call F_enc_writers), []⟩, []⟩, ⟨0, ⟨(some 8), none, (.pure .id), [(.tmp 16)]⟩, []⟩]) (.seq (.seq (.region [⟨0, ⟨(some 17), none, (.pure (.faddr 1)), [(.tmp 2)]⟩, []⟩, ⟨0, ⟨(some 18), none, (.load (.load 1 false)), [(.tmp 17)]⟩, []⟩, ⟨0, ⟨(some 19), none, (.pure .len), [(.tmp 18)]⟩, []⟩, ⟨0, ⟨(some 20), none, (.pure .id), [(.const (.int .i64 0))]⟩, []⟩]) (.block 0 (.loop (.seq (.region [⟨0, ⟨(some 21), none, (.pure (.bin .lss .none)), [(.tmp 20), (.tmp 19)]⟩, []⟩]) (.seq (.cond (.tmp 21) .skip (.exit 0)) (.seq (.block 1 (.seq (.region [⟨0, ⟨(some 22), none, (.pure (.iaddr 3)), [(.tmp 18), (.tmp 20)]⟩, []⟩, ⟨0, ⟨(some 23), none, (.load (.load 3 true)), [(.tmp 22)]⟩, []⟩, ⟨0, ⟨(some 10), none, (.new (.alloc [(.int .i64 0), (.int .u8 0), .nils])), []⟩, []⟩, ⟨0, ⟨none, none, (.imp (.store 3)), [(.tmp 10), (.tmp 23)]⟩, []⟩]) (.seq (.region [⟨0, ⟨(some 24), none, (.pure .id), [(.tmp 1)]⟩, []⟩, ⟨1, ⟨(some 25), none, (.pure (.faddr 0)), [(.tmp 10)]⟩, []⟩, ⟨2, ⟨(some 26), none, (.load (.load 1 false)), [(.tmp 25)]⟩, []⟩, ⟨3, ⟨(some 27), none, (.pure .nilck), [(.tmp 24)]⟩, []⟩, ⟨4, ⟨(some 28), none, (.pure (.iarr 65537 1)), [(.tmp 27), (.tmp 26)]⟩, []⟩, ⟨5, ⟨(some 29), none, (.load (.load 1 false)), [(.tmp 28)]⟩, []⟩, ⟨6, ⟨(some 11), none, (.pure .id), [(.tmp 29)]⟩, []⟩]) (.seq (.region [⟨0, ⟨(some 30), none, (.pure .id), [(.tmp 11)]⟩, []⟩, ⟨0, ⟨(some 31), none, (.pure (.bin .neq .none)), [(.tmp 30), (.const (.int .u8 0))]⟩, []⟩]) (.cond (.tmp 31) (.seq (.region [⟨0, ⟨(some 32), none, (.pure .id), [(.tmp 7)]⟩, []⟩, ⟨0, ⟨(some 33), none, (.pure (.faddr 0)), [(.tmp 10)]⟩, []⟩, ⟨0, ⟨(some 34), none, (.load (.load 1 false)), [(.tmp 33)]⟩, []⟩, ⟨0, ⟨(some 35), none, (.new (.bslice 1 [(.int .i64 0)] 1 [(0, 1)])), [(.tmp 34)]⟩, []⟩, ⟨0, ⟨(some 36), none, (.imp (.append 1 8)), [(.tmp 32), (.tmp 35)]⟩, []⟩, ⟨0, ⟨(some 7), none, (.pure .id), [(.tmp 36)]⟩, []⟩]) (.region [⟨0, ⟨(some 37), none, (.pure .id), [(.tmp 8)]⟩, []⟩, ⟨0, ⟨(some 38), none, (.pure (.faddr 1)), [(.tmp 10)]⟩, []⟩, ⟨0, ⟨(some 39), none, (.load (.load 1 false)), [(.tmp 38)]⟩, []⟩, ⟨0, ⟨(some 40), none, (.load (.lookup (.int .u8) .nilf false)), [(.tmp 37), (.tmp 39)]⟩, []⟩, ⟨0, ⟨(some 41), none, (.pure (.faddr 0)), [(.tmp 10)]⟩, []⟩, ⟨0, ⟨(some 42), none, (.load (.load 1 false)), [(.tmp 41)]⟩, []⟩, ⟨0, ⟨(some 43), none, (.pure (.faddr 2)), [(.tmp 10)]⟩, []⟩, ⟨0, ⟨(some 44), none, (.load (.load 1 false)), [(.tmp 43)]⟩, []⟩, ⟨0, ⟨(some 45), none, (.pure .id), [(.tmp 11)]⟩, []⟩, ⟨0, ⟨(some 46), none, (.pure (.bin .and .none)), [(.tmp 45), (.const (.int .u8 1))]⟩, []⟩, ⟨0, ⟨(some 47), none, (.pure (.bin .gtr .none)), [(.tmp 46), (.const (.int .u8 0))]⟩, []⟩, ⟨0, ⟨(some 48), none, (.pure .id), [(.tmp 11)]⟩, []⟩, ⟨0, ⟨(some 49), none, (.pure (.bin .and .none)), [(.tmp 48), (.const (.int .u8 2))]⟩, []⟩, ⟨0, ⟨(some 50), none, (.pure (.bin .gtr .none)), [(.tmp 49), (.const (.int .u8 0))]⟩, []⟩, ⟨0, ⟨(some 51), none, .callv, [(.tmp 40), (.tmp 6), (.tmp 42), (.tmp 44), (.tmp 47), (.tmp 50)]⟩, []⟩])) .skip))))) (.region [⟨0, ⟨(some 52), none, (.pure (.bin .add .none)), [(.tmp 20), (.const (.int .i64 1))]⟩, []⟩, ⟨0, ⟨(some 20), none, (.pure .id), [(.tmp 52)]⟩, []⟩]))))))) (.seq (.region [⟨0, ⟨(some 53), none, (.pure (.faddr 2)), [(.tmp 2)]⟩, []⟩, ⟨0, ⟨(some 54), none, (.load (.load 1 false)), [(.tmp 53)]⟩, []⟩, ⟨0, ⟨(some 55), none, (.new (.bslice 1 [(.int .i64 0)] 1 [(0, 1)])), [(.tmp 54)]⟩, []⟩, ⟨0, ⟨(some 56), none, (.call F_enc_clauses_put), [(.tmp 6), (.tmp 55)]⟩, []⟩]) (.seq (.region [⟨0, ⟨(some 57), none, (.load (.load 1 false)), [(.tmp 6)]⟩, []⟩, ⟨0, ⟨(some 58), none, (.pure (.build [.nils, .nils] [(1, 1)])), [(.tmp 57)]⟩, []⟩, ⟨0, ⟨(some 12), none, (.new (.alloc [.nils, .nils])), []⟩, []⟩, ⟨0, ⟨none, none, (.imp (.store 2)), [(.tmp 12), (.tmp 58)]⟩, []⟩]) (.seq (.seq (.region [⟨0, ⟨(some 59), none, (.pure (.faddr 0)), [(.tmp 2)]⟩, []⟩, ⟨0, ⟨(some 60), none, (.load (.load 1 false)), [(.tmp 59)]⟩, []⟩, ⟨0, ⟨(some 61), none, (.pure .len), [(.tmp 60)]⟩, []⟩, ⟨0, ⟨(some 62), none, (.pure .id), [(.const (.int .i64 0))]⟩, []⟩]) (.block 2 (.loop (.seq (.region [⟨0, ⟨(some 63), none, (.pure (.bin .lss .none)), [(.tmp 62), (.tmp 61)]⟩, []⟩]) (.seq (.cond (.tmp 63) .skip (.exit 2)) (.seq (.block 3 (.seq (.region [⟨0, ⟨(some 64), none, (.pure (.iaddr 2)), [(.tmp 60), (.tmp 62)]⟩, []⟩, ⟨0, ⟨(some 65), none, (.load (.load 2 true)), [(.tmp 64)]⟩, []⟩, ⟨0, ⟨(some 14), none, (.new (.alloc [(.bool false), .nils])), []⟩, []⟩, ⟨0, ⟨none, none, (.imp (.store 2)), [(.tmp 14), (.tmp 65)]⟩, []⟩]) (.region [⟨0, ⟨(some 66), none, (.pure (.faddr 0)), [(.tmp 12)]⟩, []⟩, ⟨1, ⟨(some 67), none, (.load (.load 1 false)), [(.tmp 66)]⟩, []⟩, ⟨2, ⟨(some 68), none, (.pure (.faddr 0)), [(.tmp 14)]⟩, []⟩, ⟨3, ⟨(some 69), none, (.load (.load 1 false)), [(.tmp 68)]⟩, []⟩, ⟨4, ⟨(some 70), none, (.pure (.faddr 1)), [(.tmp 14)]⟩, []⟩, ⟨5, ⟨(some 71), none, (.load (.load 1 false)), [(.tmp 70)]⟩, []⟩, ⟨6, ⟨(some 72), none, (.call F_slices_Clone_int_int), [(.tmp 71)]⟩, [⟨(some 67), none, (.load (.load 1 false)), [(.tmp 66)]⟩, ⟨(some 69), none, (.load (.load 1 false)), [(.tmp 68)]⟩]⟩, ⟨7, ⟨(some 73), none, (.pure (.build [(.bool false), .nils] [(0, 1), (1, 1)])), [(.tmp 69), (.tmp 72)]⟩, []⟩, ⟨8, ⟨(some 74), none, (.new (.bslice 2 [(.bool false), .nils] 1 [(0, 2)])), [(.tmp 73)]⟩, []⟩, ⟨9, ⟨(some 75), none, (.imp (.append 2 32)), [(.tmp 67), (.tmp 74)]⟩, []⟩, ⟨10, ⟨(some 76), none, (.pure (.faddr 0)), [(.tmp 12)]⟩, []⟩, ⟨11, ⟨none, none, (.imp (.store 1)), [(.tmp 76), (.tmp 75)]⟩, []⟩]))) (.region [⟨0, ⟨(some 77), none, (.pure (.bin .add .none)), [(.tmp 62), (.const (.int .i64 1))]⟩, []⟩, ⟨0, ⟨(some 62), none, (.pure .id), [(.tmp 77)]⟩, []⟩]))))))) (.seq (.seq (.region [⟨0, ⟨(some 78), none, (.pure (.faddr 0)), [(.tmp 12)]⟩, []⟩, ⟨0, ⟨(some 79), none, (.load (.load 1 false)), [(.tmp 78)]⟩, []⟩, ⟨0, ⟨(some 80), none, (.pure .len), [(.tmp 79)]⟩, []⟩, ⟨0, ⟨(some 81), none, (.pure (.bin .sub .none)), [(.tmp 80), (.const (.int .i64 1))]⟩, []⟩, ⟨0, ⟨(some 15), none, (.pure .id), [(.tmp 81)]⟩, []⟩]) (.seq (.region [⟨0, ⟨(some 82), none, (.pure .id), [(.tmp 15)]⟩, []⟩, ⟨0, ⟨(some 83), none, (.pure (.bin .geq .none)), [(.tmp 82), (.const (.int .i64 0))]⟩, []⟩, ⟨0, ⟨(some 84), none, (.pure .id), [(.tmp 83)]⟩, []⟩, ⟨0, ⟨(some 85), (some (84, true)), (.pure (.faddr 0)), [(.tmp 12)]⟩, []⟩, ⟨0, ⟨(some 86), (some (84, true)), (.load (.load 1 false)), [(.tmp 85)]⟩, []⟩, ⟨0, ⟨(some 87), (some (84, true)), (.pure .id), [(.tmp 15)]⟩, []⟩, ⟨0, ⟨(some 88), (some (84, true)), (.pure (.iaddr 2)), [(.tmp 86), (.tmp 87)]⟩, []⟩, ⟨0, ⟨(some 89), (some (84, true)), (.pure (.faddr 0)), [(.tmp 88)]⟩, []⟩, ⟨0, ⟨(some 90), (some (84, true)), (.load (.load 1 false)), [(.tmp 89)]⟩, []⟩, ⟨0, ⟨(some 91), none, (.pure .pick), [(.tmp 84), (.tmp 90), (.const (.bool false))]⟩, []⟩]) (.cond (.tmp 91) (.region [⟨0, ⟨(some 92), none, (.pure (.faddr 0)), [(.tmp 12)]⟩, []⟩, ⟨1, ⟨(some 93), none, (.load (.load 1 false)), [(.tmp 92)]⟩, []⟩, ⟨2, ⟨(some 94), none, (.pure .id), [(.tmp 15)]⟩, []⟩, ⟨3, ⟨(some 95), none, (.pure (.faddr 0)), [(.tmp 12)]⟩, []⟩, ⟨4, ⟨(some 96), none, (.load (.load 1 false)), [(.tmp 95)]⟩, []⟩, ⟨5, ⟨(some 97), none, (.pure .id), [(.tmp 15)]⟩, []⟩, ⟨6, ⟨(some 98), none, (.pure (.iaddr 2)), [(.tmp 96), (.tmp 97)]⟩, []⟩, ⟨7, ⟨(some 99), none, (.pure (.faddr 1)), [(.tmp 98)]⟩, []⟩, ⟨8, ⟨(some 100), none, (.load (.load 1 false)), [(.tmp 99)]⟩, []⟩, ⟨9, ⟨(some 101), none, (.pure .id), [(.tmp 7)]⟩, []⟩, ⟨10, ⟨(some 102), none, (.imp (.append 1 8)), [(.tmp 100), (.tmp 101)]⟩, [⟨(some 93), none, (.load (.load 1 false)), [(.tmp 92)]⟩]⟩, ⟨11, ⟨(some 103), none, (.pure (.iaddr 2)), [(.tmp 93), (.tmp 94)]⟩, []⟩, ⟨12, ⟨(some 104), none, (.pure (.faddr 1)), [(.tmp 103)]⟩, []⟩, ⟨13, ⟨none, none, (.imp (.store 1)), [(.tmp 104), (.tmp 102)]⟩, []⟩]) (.seq (.region [⟨0, ⟨(some 105), none, (.pure .id), [(.tmp 7)]⟩, []⟩, ⟨0, ⟨(some 106), none, (.pure .len), [(.tmp 105)]⟩, []⟩, ⟨0, ⟨(some 107), none, (.pure (.bin .gtr .none)), [(.tmp 106), (.const (.int .i64 0))]⟩, []⟩]) (.cond (.tmp 107) (.region [⟨0, ⟨(some 108), none, (.pure (.faddr 0)), [(.tmp 12)]⟩, []⟩, ⟨0, ⟨(some 109), none, (.load (.load 1 false)), [(.tmp 108)]⟩, []⟩, ⟨0, ⟨(some 110), none, (.pure .id), [(.tmp 7)]⟩, []⟩, ⟨0, ⟨(some 111), none, (.pure (.build [(.bool false), .nils] [(0, 1), (1, 1)])), [(.const (.bool true)), (.tmp 110)]⟩, []⟩, ⟨0, ⟨(some 112), none, (.new (.bslice 2 [(.bool false), .nils] 1 [(0, 2)])), [(.tmp 111)]⟩, []⟩, ⟨0, ⟨(some 113), none, (.imp (.append 2 32)), [(.tmp 109), (.tmp 112)]⟩, []⟩, ⟨0, ⟨(some 114), none, (.pure (.faddr 0)), [(.tmp 12)]⟩, []⟩, ⟨0, ⟨none, none, (.imp (.store 1)), [(.tmp 114), (.tmp 113)]⟩, []⟩]) .skip))))) (.seq (.seq (.region [⟨0, ⟨(some 115), none, (.load (.load 2 true)), [(.tmp 12)]⟩, []⟩, ⟨0, ⟨(some 116), none, (.call F_prefix_MayQbf), [(.tmp 115)]⟩, []⟩, ⟨0, ⟨(some 117), none, (.pure (.un .not)), [(.tmp 116)]⟩, []⟩]) (.cond (.tmp 117) (.seq (.region [⟨0, ⟨(some 118), none, (.pure (.build [.nils, .nils] [])), []⟩, []⟩, ⟨0, ⟨none, none, (.imp (.store 2)), [(.tmp 4), (.tmp 118)]⟩, []⟩, ⟨0, ⟨(some 5), none, (.pure .id), [(.const (.int .i64 3))]⟩, []⟩]) .ret) .skip)) (.seq (.region [⟨0, ⟨(some 119), none, (.load (.load 2 true)), [(.tmp 12)]⟩, []⟩, ⟨0, ⟨none, none, (.imp (.store 2)), [(.tmp 4), (.tmp 119)]⟩, []⟩, ⟨0, ⟨(some 5), none, (.pure .id), [(.const (.int .i64 0))]⟩, []⟩]) .ret)))))))))))⟩
theorem c_enc_formula : compF Tryz.prog Tryz.f111 = some G_enc_formula := by kernel_rfl
theorem gc_enc_formula {args : List DV} {σ : GS} {Post : DV → GS → Prop} (h : @exB Tryz.prog ⟨G_enc_formula.body⟩ (genv0 args G_enc_formula.ntmps) σ ⟨@gretB G_enc_formula.results ⟨Post⟩⟩) : GCall Tryz.prog F_enc_formula args σ Post := gcall_ofB seatfollows Tryz.func111 (by kernel_rfl) c_enc_formula h
noncomputable abbrev G_enc_signs_add : GFun := ⟨24, [], (.seq (.seq (.region [⟨0, ⟨(some 6), none, (.pure .id), [(.tmp 1)]⟩, []⟩, ⟨0, ⟨(some 7), none, (.pure (.bin .lss .none)), [(.tmp 6), (.const (.int .i64 0))]⟩, []⟩]) (.cond (.tmp 7) (.region [⟨0, ⟨(some 8), none, (.pure .id), [(.tmp 2)]⟩, []⟩, ⟨0, ⟨(some 9), none, (.pure (.bin .shr .none)), [(.tmp 8), (.const (.int .u64 1))]⟩, []⟩, ⟨0, ⟨(some 10), none, (.pure .id), [(.tmp 2)]⟩, []⟩, ⟨0, ⟨(some 11), none, (.pure (.bin .and .none)), [(.tmp 10), (.const (.int .u8 1))]⟩, []⟩, ⟨0, ⟨(some 12), none, (.pure (.bin .shl .none)), [(.tmp 11), (.const (.int .u64 1))]⟩, []⟩, ⟨0, ⟨(some 13), none, (.pure (.bin .or .none)), [(.tmp 9), (.tmp 12)]⟩, []⟩, ⟨0, ⟨(some 2), none, (.pure .id), [(.tmp 13)]⟩, []⟩]) .skip)) (.region [⟨0, ⟨(some 14), none, (.pure .id), [(.tmp 0)]⟩, []⟩, ⟨1, ⟨(some 15), none, (.pure .id), [(.tmp 1)]⟩, []⟩, ⟨3, ⟨(some 17), none, (.pure .nilck), [(.tmp 14)]⟩, []⟩, ⟨6, ⟨(some 20), none, (.pure .id), [(.tmp 2)]⟩, []⟩, ⟨8, ⟨(some 22), none, (.pure .nilck), [(.tmp 14)]⟩, []⟩, ⟨2, ⟨(some 16), none, (.call F_enc_abs), [(.tmp 15)]⟩, []⟩, ⟨4, ⟨(some 18), none, (.pure (.iarr 65537 1)), [(.tmp 17), (.tmp 16)]⟩, []⟩, ⟨5, ⟨(some 19), none, (.load (.load 1 false)), [(.tmp 18)]⟩, []⟩, ⟨7, ⟨(some 21), none, (.pure (.bin .or .none)), [(.tmp 19), (.tmp 20)]⟩, []⟩, ⟨9, ⟨(some 23), none, (.pure (.iarr 65537 1)), [(.tmp 22), (.tmp 16)]⟩, []⟩, ⟨10, ⟨none, none, (.imp (.store 1)), [(.tmp 23), (.tmp 21)]⟩, []⟩]))⟩
theorem c_enc_signs_add : compF Tryz.prog Tryz.f113 = some G_enc_signs_add := by kernel_rfl
theorem gc_enc_signs_add {args : List DV} {σ : GS} {Post : DV → GS → Prop} (h : @exB Tryz.prog ⟨G_enc_signs_add.body⟩ (genv0 args G_enc_signs_add.ntmps) σ ⟨@gretB G_enc_signs_add.results ⟨Post⟩⟩) : GCall Tryz.prog F_enc_signs_add args σ Post := gcall_ofB seatfollows Tryz.func113 (by kernel_rfl) c_enc_signs_add h
noncomputable abbrev G_slices_Backward_api_Gate_api_Gate : GFun := ⟨4, [(.tmp 2)], (.seq (.region [⟨0, ⟨(some 1), none, (.new .box), [(.tmp 0)]⟩, []⟩, ⟨0, ⟨(some 2), none, (.pure .id), [(.const .nilf)]⟩, []⟩]) (.seq (.region [⟨0, ⟨(some 3), none, (.pure (.mkfunc F_slices_Backward_api_Gate_api_Gate_1 0)), [(.tmp 1)]⟩, []⟩, ⟨0, ⟨(some 2), none, (.pure .id), [(.tmp 3)]⟩, []⟩]) .ret))⟩
theorem c_slices_Backward_api_Gate_api_Gate : compF Tryz.prog Tryz.f114 = some G_slices_Backward_api_Gate_api_Gate := by kernel_rfl
theorem gc_slices_Backward_api_Gate_api_Gate {args : List DV} {σ : GS} {Post : DV → GS → Prop} (h : @exB Tryz.prog ⟨G_slices_Backward_api_Gate_api_Gate.body⟩ (genv0 args G_slices_Backward_api_Gate_api_Gate.ntmps) σ ⟨@gretB G_slices_Backward_api_Gate_api_Gate.results ⟨Post⟩⟩) : GCall Tryz.prog F_slices_Backward_api_Gate_api_Gate args σ Post := gcall_ofB seatfollows Tryz.func114 (by kernel_rfl) c_slices_Backward_api_Gate_api_Gate h
noncomputable abbrev G_slices_Backward_api_Gate_api_Gate_1 : GFun := ⟨19, [], (.seq (.region [⟨0, ⟨(some 4), none, (.load (.load 1 false)), [(.tmp 1)]⟩, []⟩, ⟨0, ⟨(some 5), none, (.pure .len), [(.tmp 4)]⟩, []⟩, ⟨0, ⟨(some 6), none, (.pure (.bin .sub .none)), [(.tmp 5), (.const (.int .i64 1))]⟩, []⟩, ⟨0, ⟨(some 3), none, (.pure .id), [(.tmp 6)]⟩, []⟩]) (.block 0 (.loop (.seq (.seq (.region [⟨0, ⟨(some 7), none, (.pure .id), [(.tmp 3)]⟩, []⟩, ⟨0, ⟨(some 8), none, (.pure (.bin .geq .none)), [(.tmp 7), (.const (.int .i64 0))]⟩, []⟩]) (.cond (.tmp 8) .skip (.exit 0))) (.seq (.block 1 (.seq (.region [⟨0, ⟨(some 11), none, (.pure .id), [(.tmp 0)]⟩, []⟩, ⟨0, ⟨(some 12), none, (.pure .id), [(.tmp 3)]⟩, []⟩, ⟨0, ⟨(some 13), none, (.load (.load 1 false)), [(.tmp 1)]⟩, []⟩, ⟨0, ⟨(some 14), none, (.pure .id), [(.tmp 3)]⟩, []⟩, ⟨0, ⟨(some 15), none, (.pure (.iaddr 3)), [(.tmp 13), (.tmp 14)]⟩, []⟩, ⟨0, ⟨(some 16), none, (.load (.load 3 true)), [(.tmp 15)]⟩, []⟩, ⟨0, ⟨(some 17), none, .callv, [(.tmp 11), (.tmp 12), (.tmp 16)]⟩, []⟩, ⟨0, ⟨(some 18), none, (.pure (.un .not)), [(.tmp 17)]⟩, []⟩]) (.cond (.tmp 18) .ret .skip))) (.region [⟨0, ⟨(some 9), none, (.pure .id), [(.tmp 3)]⟩, []⟩, ⟨0, ⟨(some 10), none, (.pure (.bin .sub .none)), [(.tmp 9), (.const (.int .i64 1))]⟩, []⟩, ⟨0, ⟨(some 3), none, (.pure .id), [(.tmp 10)]⟩, []⟩]))))))⟩
theorem c_slices_Backward_api_Gate_api_Gate_1 : compF Tryz.prog Tryz.f185 = some G_slices_Backward_api_Gate_api_Gate_1 := by kernel_rfl
theorem gc_slices_Backward_api_Gate_api_Gate_1 {args : List DV} {σ : GS} {Post : DV → GS → Prop} (h : @exB Tryz.prog ⟨G_slices_Backward_api_Gate_api_Gate_1.body⟩ (genv0 args G_slices_Backward_api_Gate_api_Gate_1.ntmps) σ ⟨@gretB G_slices_Backward_api_Gate_api_Gate_1.results ⟨Post⟩⟩) : GCall Tryz.prog F_slices_Backward_api_Gate_api_Gate_1 args σ Post := gcall_ofB seatfollows Tryz.func185 (by kernel_rfl) c_slices_Backward_api_Gate_api_Gate_1 h
noncomputable abbrev G_skolemref12_Net : GFun := ⟨26, [(.cell 2 2 true), (.tmp 3)], (.seq (.region [⟨0, ⟨(some 1), none, (.new .box), [(.tmp 0)]⟩, []⟩, ⟨0, ⟨(some 2), none, (.new (.alloc [.nils, .nils])), []⟩, []⟩, ⟨0, ⟨(some 3), none, (.pure .id), [(.const (.int .i64 0))]⟩, []⟩]) (.seq (.seq (.region [⟨0, ⟨(some 6), none, (.load (.load 3 true)), [(.tmp 1)]⟩, []⟩, ⟨0, ⟨(some 7), none, (.call F_skolemref05_May), [(.tmp 6)]⟩, []⟩, ⟨0, ⟨(some 8), none, (.pure (.un .not)), [(.tmp 7)]⟩, []⟩]) (.cond (.tmp 8) (.seq (.region [⟨0, ⟨(some 9), none, (.pure (.build [.nils, .nils] [])), []⟩, []⟩, ⟨0, ⟨none, none, (.imp (.store 2)), [(.tmp 2), (.tmp 9)]⟩, []⟩, ⟨0, ⟨(some 3), none, (.pure .id), [(.const (.int .i64 2))]⟩, []⟩]) .ret) .skip)) (.seq (.region [⟨0, ⟨(some 10), none, (.new (.mslice 1 1 [(.bool false)])), [(.const (.int .i64 65537)), (.const (.int .i64 65537))]⟩, []⟩, ⟨0, ⟨(some 4), none, (.pure .id), [(.tmp 10)]⟩, []⟩]) (.seq (.seq (.region [⟨0, ⟨(some 5), none, (.pure .id), [(.const (.int .i64 0))]⟩, []⟩]) (.block 0 (.loop (.seq (.seq (.region [⟨0, ⟨(some 11), none, (.pure .id), [(.tmp 5)]⟩, []⟩, ⟨0, ⟨(some 12), none, (.pure .id), [(.tmp 4)]⟩, []⟩, ⟨0, ⟨(some 13), none, (.pure .len), [(.tmp 12)]⟩, []⟩, ⟨0, ⟨(some 14), none, (.pure (.bin .lss .none)), [(.tmp 11), (.tmp 13)]⟩, []⟩]) (.cond (.tmp 14) .skip (.exit 0))) (.seq (.block 1 (.region [⟨0, ⟨(some 17), none, (.pure .id), [(.tmp 4)]⟩, []⟩, ⟨0, ⟨(some 18), none, (.pure .id), [(.tmp 5)]⟩, []⟩, ⟨0, ⟨(some 19), none, (.pure (.iaddr 1)), [(.tmp 17), (.tmp 18)]⟩, []⟩, ⟨0, ⟨none, none, (.imp (.store 1)), [(.tmp 19), (.const (.bool true))]⟩, []⟩])) (.region [⟨0, ⟨(some 15), none, (.pure .id), [(.tmp 5)]⟩, []⟩, ⟨0, ⟨(some 16), none, (.pure (.bin .add .none)), [(.tmp 15), (.const (.int .i64 1))]⟩, []⟩, ⟨0, ⟨(some 5), none, (.pure .id), [(.tmp 16)]⟩, []⟩])))))) (.seq (.region [⟨0, ⟨(some 20), none, (.load (.load 3 true)), [(.tmp 1)]⟩, []⟩, ⟨0, ⟨(some 21), none, (.pure .id), [(.tmp 4)]⟩, []⟩, ⟨0, ⟨(some 22), none, (.pure .id), [(.tmp 4)]⟩, []⟩, ⟨0, ⟨(some 23), none, (.call F_skolemref12_formula), [(.tmp 20), (.tmp 21), (.tmp 22)]⟩, []⟩, ⟨0, ⟨(some 24), none, (.pure (.extract 0)), [(.tmp 23)]⟩, []⟩, ⟨0, ⟨(some 25), none, (.pure (.extract 1)), [(.tmp 23)]⟩, []⟩, ⟨0, ⟨none, none, (.imp (.store 2)), [(.tmp 2), (.tmp 24)]⟩, []⟩, ⟨0, ⟨(some 3), none, (.pure .id), [(.tmp 25)]⟩, []⟩]) .ret)))))⟩
theorem c_skolemref12_Net : compF Tryz.prog Tryz.f35 = some G_skolemref12_Net := by kernel_rfl
theorem gc_skolemref12_Net {args : List DV} {σ : GS} {Post : DV → GS → Prop} (h : @exB Tryz.prog ⟨G_skolemref12_Net.body⟩ (genv0 args G_skolemref12_Net.ntmps) σ ⟨@gretB G_skolemref12_Net.results ⟨Post⟩⟩) : GCall Tryz.prog F_skolemref12_Net args σ Post := gcall_ofB seatfollows Tryz.func35 (by kernel_rfl) c_skolemref12_Net h
noncomputable abbrev G_skolemref12_Half : GFun := ⟨96, [(.cell 2 2 true), (.tmp 3)], (.seq (.region [⟨0, ⟨(some 1), none, (.new .box), [(.tmp 0)]⟩, []⟩, ⟨0, ⟨(some 2), none, (.new (.alloc [.nils, .nils])), []⟩, []⟩, ⟨0, ⟨(some 3), none, (.pure .id), [(.const (.int .i64 0))]⟩, []⟩]) (.seq (.seq (.region [⟨0, ⟨(some 11), none, (.load (.load 3 true)), [(.tmp 1)]⟩, []⟩, ⟨0, ⟨(some 12), none, (.call F_skolemref05_May), [(.tmp 11)]⟩, []⟩, ⟨0, ⟨(some 13), none, (.pure (.un .not)), [(.tmp 12)]⟩, []⟩]) (.cond (.tmp 13) (.seq (.region [⟨0, ⟨(some 14), none, (.pure (.build [.nils, .nils] [])), []⟩, []⟩, ⟨0, ⟨none, none, (.imp (.store 2)), [(.tmp 2), (.tmp 14)]⟩, []⟩, ⟨0, ⟨(some 3), none, (.pure .id), [(.const (.int .i64 2))]⟩, []⟩]) .ret) .skip)) (.seq (.region [⟨0, ⟨(some 15), none, (.new (.mslice 1 1 [(.bool false)])), [(.const (.int .i64 65537)), (.const (.int .i64 65537))]⟩, []⟩, ⟨0, ⟨(some 4), none, (.pure .id), [(.tmp 15)]⟩, []⟩]) (.seq (.region [⟨0, ⟨(some 16), none, (.new (.mslice 1 1 [(.bool false)])), [(.const (.int .i64 65537)), (.const (.int .i64 65537))]⟩, []⟩, ⟨0, ⟨(some 5), none, (.pure .id), [(.tmp 16)]⟩, []⟩]) (.seq (.region [⟨0, ⟨(some 17), none, (.pure .id), [(.tmp 4)]⟩, []⟩, ⟨0, ⟨(some 18), none, (.pure .id), [(.tmp 5)]⟩, []⟩, ⟨0, ⟨(some 19), none, (.pure (.faddr 2)), [(.tmp 1)]⟩, []⟩, ⟨0, ⟨(some 20), none, (.load (.load 1 false)), [(.tmp 19)]⟩, []⟩, ⟨0, ⟨(some 21), none, (.call F_skolemref12_mark), [(.tmp 17), (.tmp 18), (.tmp 20), (.const (.bool true)), (.const (.bool false))]⟩, []⟩]) (.seq (.seq (.region [⟨0, ⟨(some 22), none, (.pure (.faddr 1)), [(.tmp 1)]⟩, []⟩, ⟨0, ⟨(some 23), none, (.load (.load 1 false)), [(.tmp 22)]⟩, []⟩, ⟨0, ⟨(some 24), none, (.pure .len), [(.tmp 23)]⟩, []⟩, ⟨0, ⟨(some 25), none, (.pure (.bin .sub .none)), [(.tmp 24), (.const (.int .i64 1))]⟩, []⟩, ⟨0, ⟨(some 6), none, (.pure .id), [(.tmp 25)]⟩, []⟩]) (.block 0 (.loop (.seq (.seq (.region [⟨0, ⟨(some 26), none, (.pure .id), [(.tmp 6)]⟩, []⟩, ⟨0, ⟨(some 27), none, (.pure (.bin .geq .none)), [(.tmp 26), (.const (.int .i64 0))]⟩, []⟩]) (.cond (.tmp 27) .skip (.exit 0))) (.seq (.block 1 (.seq (.region [⟨0, ⟨(some 30), none, (.pure (.faddr 1)), [(.tmp 1)]⟩, []⟩, ⟨0, ⟨(some 31), none, (.load (.load 1 false)), [(.tmp 30)]⟩, []⟩, ⟨0, ⟨(some 32), none, (.pure .id), [(.tmp 6)]⟩, []⟩, ⟨0, ⟨(some 33), none, (.pure (.iaddr 3)), [(.tmp 31), (.tmp 32)]⟩, []⟩, ⟨0, ⟨(some 34), none, (.load (.load 3 true)), [(.tmp 33)]⟩, []⟩, ⟨0, ⟨(some 7), none, (.new (.alloc [(.int .i64 0), (.int .u8 0), .nils])), []⟩, []⟩, ⟨0, ⟨none, none, (.imp (.store 3)), [(.tmp 7), (.tmp 34)]⟩, []⟩]) (.seq (.region [⟨0, ⟨(some 35), none, (.pure .id), [(.tmp 4)]⟩, []⟩, ⟨1, ⟨(some 36), none, (.pure (.faddr 0)), [(.tmp 7)]⟩, []⟩, ⟨2, ⟨(some 37), none, (.load (.load 1 false)), [(.tmp 36)]⟩, []⟩, ⟨3, ⟨(some 38), none, (.pure (.iaddr 1)), [(.tmp 35), (.tmp 37)]⟩, []⟩, ⟨4, ⟨(some 39), none, (.load (.load 1 false)), [(.tmp 38)]⟩, []⟩, ⟨5, ⟨(some 40), none, (.pure .id), [(.tmp 5)]⟩, []⟩, ⟨6, ⟨(some 41), none, (.pure (.faddr 0)), [(.tmp 7)]⟩, []⟩, ⟨7, ⟨(some 42), none, (.load (.load 1 false)), [(.tmp 41)]⟩, []⟩, ⟨8, ⟨(some 43), none, (.pure (.iaddr 1)), [(.tmp 40), (.tmp 42)]⟩, []⟩, ⟨9, ⟨(some 44), none, (.load (.load 1 false)), [(.tmp 43)]⟩, []⟩, ⟨10, ⟨(some 8), none, (.pure .id), [(.tmp 39)]⟩, []⟩, ⟨11, ⟨(some 9), none, (.pure .id), [(.tmp 44)]⟩, []⟩]) (.seq (.region [⟨0, ⟨(some 10), none, (.pure .id), [(.const (.int .i64 0))]⟩, []⟩]) (.block 2 (.loop (.seq (.seq (.region [⟨0, ⟨(some 45), none, (.pure .id), [(.tmp 10)]⟩, []⟩, ⟨0, ⟨(some 46), none, (.pure (.faddr 2)), [(.tmp 7)]⟩, []⟩, ⟨0, ⟨(some 47), none, (.load (.load 1 false)), [(.tmp 46)]⟩, []⟩, ⟨0, ⟨(some 48), none, (.pure .len), [(.tmp 47)]⟩, []⟩, ⟨0, ⟨(some 49), none, (.pure (.bin .lss .none)), [(.tmp 45), (.tmp 48)]⟩, []⟩]) (.cond (.tmp 49) .skip (.exit 2))) (.seq (.block 3 (.seq (.region [⟨0, ⟨(some 52), none, (.pure (.faddr 1)), [(.tmp 7)]⟩, []⟩, ⟨0, ⟨(some 53), none, (.load (.load 1 false)), [(.tmp 52)]⟩, []⟩, ⟨0, ⟨(some 54), none, (.pure (.bin .eql .none)), [(.tmp 53), (.const (.int .u8 3))]⟩, []⟩, ⟨0, ⟨(some 55), none, (.pure .id), [(.tmp 54)]⟩, []⟩, ⟨0, ⟨(some 56), (some (55, false)), (.pure (.faddr 1)), [(.tmp 7)]⟩, []⟩, ⟨0, ⟨(some 57), (some (55, false)), (.load (.load 1 false)), [(.tmp 56)]⟩, []⟩, ⟨0, ⟨(some 58), (some (55, false)), (.pure (.bin .eql .none)), [(.tmp 57), (.const (.int .u8 4))]⟩, []⟩, ⟨0, ⟨(some 59), (some (55, false)), (.pure .id), [(.tmp 58)]⟩, []⟩, ⟨0, ⟨(some 60), (some (59, true)), (.pure .id), [(.tmp 10)]⟩, []⟩, ⟨0, ⟨(some 61), (some (59, true)), (.pure (.bin .eql .none)), [(.tmp 60), (.const (.int .i64 0))]⟩, []⟩, ⟨0, ⟨(some 62), (some (55, false)), (.pure .pick), [(.tmp 59), (.tmp 61), (.const (.bool false))]⟩, []⟩, ⟨0, ⟨(some 63), none, (.pure .pick), [(.tmp 55), (.const (.bool true)), (.tmp 62)]⟩, []⟩]) (.cond (.tmp 63) (.region [⟨0, ⟨(some 64), none, (.pure .id), [(.tmp 4)]⟩, []⟩, ⟨0, ⟨(some 65), none, (.pure .id), [(.tmp 5)]⟩, []⟩, ⟨0, ⟨(some 66), none, (.pure (.faddr 2)), [(.tmp 7)]⟩, []⟩, ⟨0, ⟨(some 67), none, (.load (.load 1 false)), [(.tmp 66)]⟩, []⟩, ⟨0, ⟨(some 68), none, (.pure .id), [(.tmp 10)]⟩, []⟩, ⟨0, ⟨(some 69), none, (.pure (.iaddr 1)), [(.tmp 67), (.tmp 68)]⟩, []⟩, ⟨0, ⟨(some 70), none, (.load (.load 1 false)), [(.tmp 69)]⟩, []⟩, ⟨0, ⟨(some 71), none, (.pure .id), [(.tmp 8)]⟩, []⟩, ⟨0, ⟨(some 72), none, (.pure .id), [(.tmp 71)]⟩, []⟩, ⟨0, ⟨(some 73), (some (72, false)), (.pure .id), [(.tmp 9)]⟩, []⟩, ⟨0, ⟨(some 74), none, (.pure .pick), [(.tmp 72), (.const (.bool true)), (.tmp 73)]⟩, []⟩, ⟨0, ⟨(some 75), none, (.pure .id), [(.tmp 8)]⟩, []⟩, ⟨0, ⟨(some 76), none, (.pure .id), [(.tmp 75)]⟩, []⟩, ⟨0, ⟨(some 77), (some (76, false)), (.pure .id), [(.tmp 9)]⟩, []⟩, ⟨0, ⟨(some 78), none, (.pure .pick), [(.tmp 76), (.const (.bool true)), (.tmp 77)]⟩, []⟩, ⟨0, ⟨(some 79), none, (.call F_skolemref12_mark), [(.tmp 64), (.tmp 65), (.tmp 70), (.tmp 74), (.tmp 78)]⟩, []⟩]) (.region [⟨0, ⟨(some 80), none, (.pure .id), [(.tmp 4)]⟩, []⟩, ⟨0, ⟨(some 81), none, (.pure .id), [(.tmp 5)]⟩, []⟩, ⟨0, ⟨(some 82), none, (.pure (.faddr 2)), [(.tmp 7)]⟩, []⟩, ⟨0, ⟨(some 83), none, (.load (.load 1 false)), [(.tmp 82)]⟩, []⟩, ⟨0, ⟨(some 84), none, (.pure .id), [(.tmp 10)]⟩, []⟩, ⟨0, ⟨(some 85), none, (.pure (.iaddr 1)), [(.tmp 83), (.tmp 84)]⟩, []⟩, ⟨0, ⟨(some 86), none, (.load (.load 1 false)), [(.tmp 85)]⟩, []⟩, ⟨0, ⟨(some 87), none, (.pure .id), [(.tmp 8)]⟩, []⟩, ⟨0, ⟨(some 88), none, (.pure .id), [(.tmp 9)]⟩, []⟩, ⟨0, ⟨(some 89), none, (.call F_skolemref12_mark), [(.tmp 80), (.tmp 81), (.tmp 86), (.tmp 87), (.tmp 88)]⟩, []⟩])))) (.region [⟨0, ⟨(some 50), none, (.pure .id), [(.tmp 10)]⟩, []⟩, ⟨0, ⟨(some 51), none, (.pure (.bin .add .none)), [(.tmp 50), (.const (.int .i64 1))]⟩, []⟩, ⟨0, ⟨(some 10), none, (.pure .id), [(.tmp 51)]⟩, []⟩]))))))))) (.region [⟨0, ⟨(some 28), none, (.pure .id), [(.tmp 6)]⟩, []⟩, ⟨0, ⟨(some 29), none, (.pure (.bin .sub .none)), [(.tmp 28), (.const (.int .i64 1))]⟩, []⟩, ⟨0, ⟨(some 6), none, (.pure .id), [(.tmp 29)]⟩, []⟩])))))) (.seq (.region [⟨0, ⟨(some 90), none, (.load (.load 3 true)), [(.tmp 1)]⟩, []⟩, ⟨0, ⟨(some 91), none, (.pure .id), [(.tmp 4)]⟩, []⟩, ⟨0, ⟨(some 92), none, (.pure .id), [(.tmp 5)]⟩, []⟩, ⟨0, ⟨(some 93), none, (.call F_skolemref12_formula), [(.tmp 90), (.tmp 91), (.tmp 92)]⟩, []⟩, ⟨0, ⟨(some 94), none, (.pure (.extract 0)), [(.tmp 93)]⟩, []⟩, ⟨0, ⟨(some 95), none, (.pure (.extract 1)), [(.tmp 93)]⟩, []⟩, ⟨0, ⟨none, none, (.imp (.store 2)), [(.tmp 2), (.tmp 94)]⟩, []⟩, ⟨0, ⟨(some 3), none, (.pure .id), [(.tmp 95)]⟩, []⟩]) .ret)))))))⟩
theorem c_skolemref12_Half : compF Tryz.prog Tryz.f37 = some G_skolemref12_Half := by kernel_rfl
theorem gc_skolemref12_Half {args : List DV} {σ : GS} {Post : DV → GS → Prop} (h : @exB Tryz.prog ⟨G_skolemref12_Half.body⟩ (genv0 args G_skolemref12_Half.ntmps) σ ⟨@gretB G_skolemref12_Half.results ⟨Post⟩⟩) : GCall Tryz.prog F_skolemref12_Half args σ Post := gcall_ofB seatfollows Tryz.func37 (by kernel_rfl) c_skolemref12_Half h
noncomputable abbrev G_skolemref12_formula : GFun := ⟨82, [(.cell 6 2 true), (.tmp 7)], (.seq (.region [⟨0, ⟨(some 3), none, (.new .box), [(.tmp 0)]⟩, []⟩, ⟨0, ⟨(some 6), none, (.new (.alloc [.nils, .nils])), []⟩, []⟩, ⟨0, ⟨(some 7), none, (.pure .id), [(.const (.int .i64 0))]⟩, []⟩]) (.seq (.region [⟨0, ⟨(some 8), none, (.new (.alloc [.nils, .nils])), []⟩, []⟩]) (.seq (.region [⟨0, ⟨(some 9), none, (.pure .id), [(.const .nils)]⟩, []⟩]) (.seq (.seq (.region [⟨0, ⟨(some 10), none, (.pure .id), [(.const (.int .i64 0))]⟩, []⟩]) (.block 0 (.loop (.seq (.seq (.region [⟨0, ⟨(some 12), none, (.pure .id), [(.tmp 10)]⟩, []⟩, ⟨0, ⟨(some 13), none, (.pure (.faddr 1)), [(.tmp 3)]⟩, []⟩, ⟨0, ⟨(some 14), none, (.load (.load 1 false)), [(.tmp 13)]⟩, []⟩, ⟨0, ⟨(some 15), none, (.pure .len), [(.tmp 14)]⟩, []⟩, ⟨0, ⟨(some 16), none, (.pure (.bin .lss .none)), [(.tmp 12), (.tmp 15)]⟩, []⟩]) (.cond (.tmp 16) .skip (.exit 0))) (.seq (.block 1 (.seq (.region [⟨0, ⟨(some 19), none, (.pure (.faddr 1)), [(.tmp 3)]⟩, []⟩, ⟨0, ⟨(some 20), none, (.load (.load 1 false)), [(.tmp 19)]⟩, []⟩, ⟨0, ⟨(some 21), none, (.pure .id), [(.tmp 10)]⟩, []⟩, ⟨0, ⟨(some 22), none, (.pure (.iaddr 3)), [(.tmp 20), (.tmp 21)]⟩, []⟩, ⟨0, ⟨(some 23), none, (.pure (.faddr 0)), [(.tmp 22)]⟩, []⟩, ⟨0, ⟨(some 24), none, (.load (.load 1 false)), [(.tmp 23)]⟩, []⟩, ⟨0, ⟨(some 11), none, (.pure .id), [(.tmp 24)]⟩, []⟩]) (.seq (.region [⟨0, ⟨(some 25), none, (.pure .id), [(.tmp 1)]⟩, []⟩, ⟨0, ⟨(some 26), none, (.pure .id), [(.tmp 11)]⟩, []⟩, ⟨0, ⟨(some 27), none, (.pure (.iaddr 1)), [(.tmp 25), (.tmp 26)]⟩, []⟩, ⟨0, ⟨(some 28), none, (.load (.load 1 false)), [(.tmp 27)]⟩, []⟩, ⟨0, ⟨(some 29), none, (.pure .id), [(.tmp 28)]⟩, []⟩, ⟨0, ⟨(some 30), (some (29, false)), (.pure .id), [(.tmp 2)]⟩, []⟩, ⟨0, ⟨(some 31), (some (29, false)), (.pure .id), [(.tmp 11)]⟩, []⟩, ⟨0, ⟨(some 32), (some (29, false)), (.pure (.iaddr 1)), [(.tmp 30), (.tmp 31)]⟩, []⟩, ⟨0, ⟨(some 33), (some (29, false)), (.load (.load 1 false)), [(.tmp 32)]⟩, []⟩, ⟨0, ⟨(some 34), none, (.pure .pick), [(.tmp 29), (.const (.bool true)), (.tmp 33)]⟩, []⟩]) (.cond (.tmp 34) (.seq (.region [⟨0, ⟨(some 35), none, (.pure .id), [(.tmp 9)]⟩, []⟩, ⟨0, ⟨(some 36), none, (.pure .id), [(.tmp 11)]⟩, []⟩, ⟨0, ⟨(some 37), none, (.new (.bslice 1 [(.int .i64 0)] 1 [(0, 1)])), [(.tmp 36)]⟩, []⟩, ⟨0, ⟨(some 38), none, (.imp (.append 1 8)), [(.tmp 35), (.tmp 37)]⟩, []⟩, ⟨0, ⟨(some 9), none, (.pure .id), [(.tmp 38)]⟩, []⟩]) (.region [⟨0, ⟨(some 39), none, (.pure (.faddr 1)), [(.tmp 8)]⟩, []⟩, ⟨1, ⟨(some 40), none, (.load (.load 1 false)), [(.tmp 39)]⟩, []⟩, ⟨2, ⟨(some 41), none, (.pure (.faddr 1)), [(.tmp 3)]⟩, []⟩, ⟨3, ⟨(some 42), none, (.load (.load 1 false)), [(.tmp 41)]⟩, []⟩, ⟨4, ⟨(some 43), none, (.pure .id), [(.tmp 10)]⟩, []⟩, ⟨5, ⟨(some 44), none, (.pure (.iaddr 3)), [(.tmp 42), (.tmp 43)]⟩, []⟩, ⟨6, ⟨(some 45), none, (.load (.load 3 true)), [(.tmp 44)]⟩, []⟩, ⟨7, ⟨(some 46), none, (.pure .id), [(.tmp 1)]⟩, []⟩, ⟨8, ⟨(some 47), none, (.pure .id), [(.tmp 11)]⟩, []⟩, ⟨9, ⟨(some 48), none, (.pure (.iaddr 1)), [(.tmp 46), (.tmp 47)]⟩, []⟩, ⟨10, ⟨(some 49), none, (.load (.load 1 false)), [(.tmp 48)]⟩, []⟩, ⟨11, ⟨(some 50), none, (.pure .id), [(.tmp 2)]⟩, []⟩, ⟨12, ⟨(some 51), none, (.pure .id), [(.tmp 11)]⟩, []⟩, ⟨13, ⟨(some 52), none, (.pure (.iaddr 1)), [(.tmp 50), (.tmp 51)]⟩, []⟩, ⟨14, ⟨(some 53), none, (.load (.load 1 false)), [(.tmp 52)]⟩, []⟩, ⟨15, ⟨(some 54), none, (.call F_skolemref12_Clauses), [(.tmp 45), (.tmp 49), (.tmp 53)]⟩, [⟨(some 40), none, (.load (.load 1 false)), [(.tmp 39)]⟩]⟩, ⟨16, ⟨(some 55), none, (.imp (.append 1 24)), [(.tmp 40), (.tmp 54)]⟩, []⟩, ⟨17, ⟨(some 56), none, (.pure (.faddr 1)), [(.tmp 8)]⟩, []⟩, ⟨18, ⟨none, none, (.imp (.store 1)), [(.tmp 56), (.tmp 55)]⟩, []⟩])) .skip)))) (.region [⟨0, ⟨(some 17), none, (.pure .id), [(.tmp 10)]⟩, []⟩, ⟨0, ⟨(some 18), none, (.pure (.bin .add .none)), [(.tmp 17), (.const (.int .i64 1))]⟩, []⟩, ⟨0, ⟨(some 10), none, (.pure .id), [(.tmp 18)]⟩, []⟩])))))) (.seq (.region [⟨0, ⟨(some 57), none, (.pure (.faddr 1)), [(.tmp 8)]⟩, []⟩, ⟨0, ⟨(some 58), none, (.load (.load 1 false)), [(.tmp 57)]⟩, []⟩, ⟨0, ⟨(some 59), none, (.pure (.faddr 2)), [(.tmp 3)]⟩, []⟩, ⟨0, ⟨(some 60), none, (.load (.load 1 false)), [(.tmp 59)]⟩, []⟩, ⟨0, ⟨(some 61), none, (.new (.bslice 1 [(.int .i64 0)] 1 [(0, 1)])), [(.tmp 60)]⟩, []⟩, ⟨0, ⟨(some 62), none, (.new (.bslice 1 [.nils] 1 [(0, 1)])), [(.tmp 61)]⟩, []⟩, ⟨0, ⟨(some 63), none, (.imp (.append 1 24)), [(.tmp 58), (.tmp 62)]⟩, []⟩, ⟨0, ⟨(some 64), none, (.pure (.faddr 1)), [(.tmp 8)]⟩, []⟩, ⟨0, ⟨none, none, (.imp (.store 1)), [(.tmp 64), (.tmp 63)]⟩, []⟩]) (.seq (.region [⟨0, ⟨(some 65), none, (.pure (.faddr 0)), [(.tmp 3)]⟩, []⟩, ⟨0, ⟨(some 66), none, (.load (.load 1 false)), [(.tmp 65)]⟩, []⟩, ⟨0, ⟨(some 67), none, (.pure .id), [(.tmp 9)]⟩, []⟩, ⟨0, ⟨(some 68), none, (.call F_skolemref12_behind), [(.tmp 66), (.tmp 67)]⟩, []⟩, ⟨0, ⟨(some 69), none, (.pure (.faddr 0)), [(.tmp 8)]⟩, []⟩, ⟨0, ⟨none, none, (.imp (.store 1)), [(.tmp 69), (.tmp 68)]⟩, []⟩]) (.seq (.seq (.region [⟨0, ⟨(some 70), none, (.pure (.faddr 0)), [(.tmp 8)]⟩, []⟩, ⟨0, ⟨(some 71), none, (.load (.load 1 false)), [(.tmp 70)]⟩, []⟩, ⟨0, ⟨(some 72), none, (.call F_skolemref05_Prefix), [(.tmp 71)]⟩, []⟩, ⟨0, ⟨(some 73), none, (.pure (.un .not)), [(.tmp 72)]⟩, []⟩, ⟨0, ⟨(some 74), none, (.pure .id), [(.tmp 73)]⟩, []⟩, ⟨0, ⟨(some 75), (some (74, false)), (.pure (.faddr 1)), [(.tmp 8)]⟩, []⟩, ⟨0, ⟨(some 76), (some (74, false)), (.load (.load 1 false)), [(.tmp 75)]⟩, []⟩, ⟨0, ⟨(some 77), (some (74, false)), (.call F_skolemref12_Cnf), [(.tmp 76)]⟩, []⟩, ⟨0, ⟨(some 78), (some (74, false)), (.pure (.un .not)), [(.tmp 77)]⟩, []⟩, ⟨0, ⟨(some 79), none, (.pure .pick), [(.tmp 74), (.const (.bool true)), (.tmp 78)]⟩, []⟩]) (.cond (.tmp 79) (.seq (.region [⟨0, ⟨(some 80), none, (.pure (.build [.nils, .nils] [])), []⟩, []⟩, ⟨0, ⟨none, none, (.imp (.store 2)), [(.tmp 6), (.tmp 80)]⟩, []⟩, ⟨0, ⟨(some 7), none, (.pure .id), [(.const (.int .i64 3))]⟩, []⟩]) .ret) .skip)) (.seq (.region [⟨0, ⟨(some 81), none, (.load (.load 2 true)), [(.tmp 8)]⟩, []⟩, ⟨0, ⟨none, none, (.imp (.store 2)), [(.tmp 6), (.tmp 81)]⟩, []⟩, ⟨0, ⟨(some 7), none, (.pure .id), [(.const (.int .i64 0))]⟩, []⟩]) .ret))))))))⟩
theorem c_skolemref12_formula : compF Tryz.prog Tryz.f112 = some G_skolemref12_formula := by kernel_rfl
theorem gc_skolemref12_formula {args : List DV} {σ : GS} {Post : DV → GS → Prop} (h : @exB Tryz.prog ⟨G_skolemref12_formula.body⟩ (genv0 args G_skolemref12_formula.ntmps) σ ⟨@gretB G_skolemref12_formula.results ⟨Post⟩⟩) : GCall Tryz.prog F_skolemref12_formula args σ Post := gcall_ofB seatfollows Tryz.func112 (by kernel_rfl) c_skolemref12_formula h
noncomputable abbrev G_skolemref12_mark : GFun := ⟨37, [], (.seq (.region [⟨0, ⟨(some 11), none, (.pure .id), [(.tmp 2)]⟩, []⟩, ⟨0, ⟨(some 12), none, (.call F_skolemref05_Abs), [(.tmp 11)]⟩, []⟩, ⟨0, ⟨(some 10), none, (.pure .id), [(.tmp 12)]⟩, []⟩]) (.seq (.seq (.region [⟨0, ⟨(some 13), none, (.pure .id), [(.tmp 2)]⟩, []⟩, ⟨0, ⟨(some 14), none, (.pure (.bin .lss .none)), [(.tmp 13), (.const (.int .i64 0))]⟩, []⟩]) (.cond (.tmp 14) (.region [⟨0, ⟨(some 15), none, (.pure .id), [(.tmp 4)]⟩, []⟩, ⟨0, ⟨(some 16), none, (.pure .id), [(.tmp 3)]⟩, []⟩, ⟨0, ⟨(some 3), none, (.pure .id), [(.tmp 15)]⟩, []⟩, ⟨0, ⟨(some 4), none, (.pure .id), [(.tmp 16)]⟩, []⟩]) .skip)) (.seq (.region [⟨0, ⟨(some 17), none, (.pure .id), [(.tmp 0)]⟩, []⟩, ⟨0, ⟨(some 18), none, (.pure .id), [(.tmp 10)]⟩, []⟩, ⟨0, ⟨(some 19), none, (.pure .id), [(.tmp 0)]⟩, []⟩, ⟨0, ⟨(some 20), none, (.pure .id), [(.tmp 10)]⟩, []⟩, ⟨0, ⟨(some 21), none, (.pure (.iaddr 1)), [(.tmp 19), (.tmp 20)]⟩, []⟩, ⟨0, ⟨(some 22), none, (.load (.load 1 false)), [(.tmp 21)]⟩, []⟩, ⟨0, ⟨(some 23), none, (.pure .id), [(.tmp 22)]⟩, []⟩, ⟨0, ⟨(some 24), (some (23, false)), (.pure .id), [(.tmp 3)]⟩, []⟩, ⟨0, ⟨(some 25), none, (.pure .pick), [(.tmp 23), (.const (.bool true)), (.tmp 24)]⟩, []⟩, ⟨0, ⟨(some 26), none, (.pure (.iaddr 1)), [(.tmp 17), (.tmp 18)]⟩, []⟩, ⟨0, ⟨none, none, (.imp (.store 1)), [(.tmp 26), (.tmp 25)]⟩, []⟩]) (.region [⟨0, ⟨(some 27), none, (.pure .id), [(.tmp 1)]⟩, []⟩, ⟨0, ⟨(some 28), none, (.pure .id), [(.tmp 10)]⟩, []⟩, ⟨0, ⟨(some 29), none, (.pure .id), [(.tmp 1)]⟩, []⟩, ⟨0, ⟨(some 30), none, (.pure .id), [(.tmp 10)]⟩, []⟩, ⟨0, ⟨(some 31), none, (.pure (.iaddr 1)), [(.tmp 29), (.tmp 30)]⟩, []⟩, ⟨0, ⟨(some 32), none, (.load (.load 1 false)), [(.tmp 31)]⟩, []⟩, ⟨0, ⟨(some 33), none, (.pure .id), [(.tmp 32)]⟩, []⟩, ⟨0, ⟨(some 34), (some (33, false)), (.pure .id), [(.tmp 4)]⟩, []⟩, ⟨0, ⟨(some 35), none, (.pure .pick), [(.tmp 33), (.const (.bool true)), (.tmp 34)]⟩, []⟩, ⟨0, ⟨(some 36), none, (.pure (.iaddr 1)), [(.tmp 27), (.tmp 28)]⟩, []⟩, ⟨0, ⟨none, none, (.imp (.store 1)), [(.tmp 36), (.tmp 35)]⟩, []⟩]))))⟩
theorem c_skolemref12_mark : compF Tryz.prog Tryz.f115 = some G_skolemref12_mark := by kernel_rfl
theorem gc_skolemref12_mark {args : List DV} {σ : GS} {Post : DV → GS → Prop} (h : @exB Tryz.prog ⟨G_skolemref12_mark.body⟩ (genv0 args G_skolemref12_mark.ntmps) σ ⟨@gretB G_skolemref12_mark.results ⟨Post⟩⟩) : GCall Tryz.prog F_skolemref12_mark args σ Post := gcall_ofB seatfollows Tryz.func115 (by kernel_rfl) c_skolemref12_mark h
noncomputable abbrev G_skolemref12_behind : GFun := ⟨66, [(.tmp 4)], (.seq (.region [⟨0, ⟨(some 4), none, (.pure .id), [(.const .nils)]⟩, []⟩]) (.seq (.region [⟨0, ⟨(some 5), none, (.pure .id), [(.const .nils)]⟩, []⟩]) (.seq (.seq (.region [⟨0, ⟨(some 6), none, (.pure .id), [(.const (.int .i64 0))]⟩, []⟩]) (.block 0 (.loop (.seq (.seq (.region [⟨0, ⟨(some 9), none, (.pure .id), [(.tmp 6)]⟩, []⟩, ⟨0, ⟨(some 10), none, (.pure .id), [(.tmp 0)]⟩, []⟩, ⟨0, ⟨(some 11), none, (.pure .len), [(.tmp 10)]⟩, []⟩, ⟨0, ⟨(some 12), none, (.pure (.bin .lss .none)), [(.tmp 9), (.tmp 11)]⟩, []⟩]) (.cond (.tmp 12) .skip (.exit 0))) (.seq (.block 1 (.seq (.region [⟨0, ⟨(some 7), none, (.pure .id), [(.const .nils)]⟩, []⟩]) (.seq (.region [⟨0, ⟨(some 15), none, (.pure .id), [(.tmp 7)]⟩, []⟩, ⟨0, ⟨(some 16), none, (.pure .id), [(.tmp 0)]⟩, []⟩, ⟨0, ⟨(some 17), none, (.pure .id), [(.tmp 6)]⟩, []⟩, ⟨0, ⟨(some 18), none, (.pure (.iaddr 2)), [(.tmp 16), (.tmp 17)]⟩, []⟩, ⟨0, ⟨(some 19), none, (.pure (.faddr 1)), [(.tmp 18)]⟩, []⟩, ⟨0, ⟨(some 20), none, (.load (.load 1 false)), [(.tmp 19)]⟩, []⟩, ⟨0, ⟨(some 21), none, (.imp (.append 1 8)), [(.tmp 15), (.tmp 20)]⟩, []⟩, ⟨0, ⟨(some 7), none, (.pure .id), [(.tmp 21)]⟩, []⟩]) (.region [⟨0, ⟨(some 22), none, (.pure .id), [(.tmp 5)]⟩, []⟩, ⟨0, ⟨(some 23), none, (.pure .id), [(.tmp 0)]⟩, []⟩, ⟨0, ⟨(some 24), none, (.pure .id), [(.tmp 6)]⟩, []⟩, ⟨0, ⟨(some 25), none, (.pure (.iaddr 2)), [(.tmp 23), (.tmp 24)]⟩, []⟩, ⟨0, ⟨(some 26), none, (.pure (.faddr 0)), [(.tmp 25)]⟩, []⟩, ⟨0, ⟨(some 27), none, (.load (.load 1 false)), [(.tmp 26)]⟩, []⟩, ⟨0, ⟨(some 28), none, (.pure .id), [(.tmp 7)]⟩, []⟩, ⟨0, ⟨(some 29), none, (.pure (.build [(.bool false), .nils] [(0, 1), (1, 1)])), [(.tmp 27), (.tmp 28)]⟩, []⟩, ⟨0, ⟨(some 30), none, (.new (.bslice 2 [(.bool false), .nils] 1 [(0, 2)])), [(.tmp 29)]⟩, []⟩, ⟨0, ⟨(some 31), none, (.imp (.append 2 32)), [(.tmp 22), (.tmp 30)]⟩, []⟩, ⟨0, ⟨(some 5), none, (.pure .id), [(.tmp 31)]⟩, []⟩])))) (.region [⟨0, ⟨(some 13), none, (.pure .id), [(.tmp 6)]⟩, []⟩, ⟨0, ⟨(some 14), none, (.pure (.bin .add .none)), [(.tmp 13), (.const (.int .i64 1))]⟩, []⟩, ⟨0, ⟨(some 6), none, (.pure .id), [(.tmp 14)]⟩, []⟩])))))) (.seq (.region [⟨0, ⟨(some 32), none, (.pure .id), [(.tmp 5)]⟩, []⟩, ⟨0, ⟨(some 33), none, (.pure .len), [(.tmp 32)]⟩, []⟩, ⟨0, ⟨(some 34), none, (.pure (.bin .sub .none)), [(.tmp 33), (.const (.int .i64 1))]⟩, []⟩, ⟨0, ⟨(some 8), none, (.pure .id), [(.tmp 34)]⟩, []⟩]) (.seq (.block 2 (.seq (.region [⟨0, ⟨(some 41), none, (.pure .id), [(.tmp 1)]⟩, []⟩, ⟨0, ⟨(some 42), none, (.pure .len), [(.tmp 41)]⟩, []⟩, ⟨0, ⟨(some 43), none, (.pure (.bin .eql .none)), [(.tmp 42), (.const (.int .i64 0))]⟩, []⟩, ⟨0, ⟨(some 40), none, (.pure .id), [(.tmp 43)]⟩, []⟩]) (.cond (.tmp 40) .skip (.seq (.region [⟨0, ⟨(some 45), none, (.pure .id), [(.tmp 8)]⟩, []⟩, ⟨0, ⟨(some 46), none, (.pure (.bin .geq .none)), [(.tmp 45), (.const (.int .i64 0))]⟩, []⟩, ⟨0, ⟨(some 47), none, (.pure .id), [(.tmp 46)]⟩, []⟩, ⟨0, ⟨(some 48), (some (47, true)), (.pure .id), [(.tmp 5)]⟩, []⟩, ⟨0, ⟨(some 49), (some (47, true)), (.pure .id), [(.tmp 8)]⟩, []⟩, ⟨0, ⟨(some 50), (some (47, true)), (.pure (.iaddr 2)), [(.tmp 48), (.tmp 49)]⟩, []⟩, ⟨0, ⟨(some 51), (some (47, true)), (.pure (.faddr 0)), [(.tmp 50)]⟩, []⟩, ⟨0, ⟨(some 52), (some (47, true)), (.load (.load 1 false)), [(.tmp 51)]⟩, []⟩, ⟨0, ⟨(some 53), none, (.pure .pick), [(.tmp 47), (.tmp 52), (.const (.bool false))]⟩, []⟩, ⟨0, ⟨(some 44), none, (.pure .id), [(.tmp 53)]⟩, []⟩]) (.cond (.tmp 44) (.region [⟨0, ⟨(some 54), none, (.pure .id), [(.tmp 5)]⟩, []⟩, ⟨0, ⟨(some 55), none, (.pure .id), [(.tmp 8)]⟩, []⟩, ⟨0, ⟨(some 56), none, (.pure .id), [(.tmp 5)]⟩, []⟩, ⟨0, ⟨(some 57), none, (.pure .id), [(.tmp 8)]⟩, []⟩, ⟨0, ⟨(some 58), none, (.pure (.iaddr 2)), [(.tmp 56), (.tmp 57)]⟩, []⟩, ⟨0, ⟨(some 59), none, (.pure (.faddr 1)), [(.tmp 58)]⟩, []⟩, ⟨0, ⟨(some 60), none, (.load (.load 1 false)), [(.tmp 59)]⟩, []⟩, ⟨0, ⟨(some 61), none, (.pure .id), [(.tmp 1)]⟩, []⟩, ⟨0, ⟨(some 62), none, (.imp (.append 1 8)), [(.tmp 60), (.tmp 61)]⟩, []⟩, ⟨0, ⟨(some 63), none, (.pure (.iaddr 2)), [(.tmp 54), (.tmp 55)]⟩, []⟩, ⟨0, ⟨(some 64), none, (.pure (.faddr 1)), [(.tmp 63)]⟩, []⟩, ⟨0, ⟨none, none, (.imp (.store 1)), [(.tmp 64), (.tmp 62)]⟩, []⟩]) (.region [⟨0, ⟨(some 35), none, (.pure .id), [(.tmp 5)]⟩, []⟩, ⟨0, ⟨(some 36), none, (.pure .id), [(.tmp 1)]⟩, []⟩, ⟨0, ⟨(some 37), none, (.pure (.build [(.bool false), .nils] [(0, 1), (1, 1)])), [(.const (.bool true)), (.tmp 36)]⟩, []⟩, ⟨0, ⟨(some 38), none, (.new (.bslice 2 [(.bool false), .nils] 1 [(0, 2)])), [(.tmp 37)]⟩, []⟩, ⟨0, ⟨(some 39), none, (.imp (.append 2 32)), [(.tmp 35), (.tmp 38)]⟩, []⟩, ⟨0, ⟨(some 5), none, (.pure .id), [(.tmp 39)]⟩, []⟩])))))) (.seq (.region [⟨0, ⟨(some 65), none, (.pure .id), [(.tmp 5)]⟩, []⟩, ⟨0, ⟨(some 4), none, (.pure .id), [(.tmp 65)]⟩, []⟩]) .ret))))))⟩
theorem c_skolemref12_behind : compF Tryz.prog Tryz.f184 = some G_skolemref12_behind := by kernel_rfl
theorem gc_skolemref12_behind {args : List DV} {σ : GS} {Post : DV → GS → Prop} (h : @exB Tryz.prog ⟨G_skolemref12_behind.body⟩ (genv0 args G_skolemref12_behind.ntmps) σ ⟨@gretB G_skolemref12_behind.results ⟨Post⟩⟩) : GCall Tryz.prog F_skolemref12_behind args σ Post := gcall_ofB seatfollows Tryz.func184 (by kernel_rfl) c_skolemref12_behind h
noncomputable abbrev G_skolemref12_Cnf : GFun := ⟨32, [(.tmp 2)], (.seq (.region [⟨0, ⟨(some 2), none, (.pure .id), [(.const (.bool false))]⟩, []⟩]) (.seq (.region [⟨0, ⟨(some 3), none, (.pure .id), [(.const (.int .i64 0))]⟩, []⟩]) (.seq (.seq (.region [⟨0, ⟨(some 4), none, (.pure .id), [(.const (.int .i64 0))]⟩, []⟩]) (.block 0 (.loop (.seq (.seq (.region [⟨0, ⟨(some 5), none, (.pure .id), [(.tmp 4)]⟩, []⟩, ⟨0, ⟨(some 6), none, (.pure .id), [(.tmp 0)]⟩, []⟩, ⟨0, ⟨(some 7), none, (.pure .len), [(.tmp 6)]⟩, []⟩, ⟨0, ⟨(some 8), none, (.pure (.bin .lss .none)), [(.tmp 5), (.tmp 7)]⟩, []⟩]) (.cond (.tmp 8) .skip (.exit 0))) (.seq (.block 1 (.seq (.region [⟨0, ⟨(some 11), none, (.pure .id), [(.tmp 3)]⟩, []⟩, ⟨0, ⟨(some 12), none, (.pure .id), [(.tmp 0)]⟩, []⟩, ⟨0, ⟨(some 13), none, (.pure .id), [(.tmp 4)]⟩, []⟩, ⟨0, ⟨(some 14), none, (.pure (.iaddr 1)), [(.tmp 12), (.tmp 13)]⟩, []⟩, ⟨0, ⟨(some 15), none, (.load (.load 1 false)), [(.tmp 14)]⟩, []⟩, ⟨0, ⟨(some 16), none, (.pure .len), [(.tmp 15)]⟩, []⟩, ⟨0, ⟨(some 17), none, (.pure (.bin .add .none)), [(.tmp 11), (.tmp 16)]⟩, []⟩, ⟨0, ⟨(some 3), none, (.pure .id), [(.tmp 17)]⟩, []⟩]) (.seq (.region [⟨0, ⟨(some 18), none, (.pure .id), [(.tmp 4)]⟩, []⟩, ⟨0, ⟨(some 19), none, (.pure (.bin .geq .none)), [(.tmp 18), (.const (.int .i64 20000))]⟩, []⟩, ⟨0, ⟨(some 20), none, (.pure .id), [(.tmp 19)]⟩, []⟩, ⟨0, ⟨(some 21), (some (20, false)), (.pure .id), [(.tmp 3)]⟩, []⟩, ⟨0, ⟨(some 22), (some (20, false)), (.pure (.bin .gtr .none)), [(.tmp 21), (.const (.int .i64 200000))]⟩, []⟩, ⟨0, ⟨(some 23), none, (.pure .pick), [(.tmp 20), (.const (.bool true)), (.tmp 22)]⟩, []⟩, ⟨0, ⟨(some 24), none, (.pure .id), [(.tmp 23)]⟩, []⟩, ⟨0, ⟨(some 25), (some (24, false)), (.pure .id), [(.tmp 0)]⟩, []⟩, ⟨0, ⟨(some 26), (some (24, false)), (.pure .id), [(.tmp 4)]⟩, []⟩, ⟨0, ⟨(some 27), (some (24, false)), (.pure (.iaddr 1)), [(.tmp 25), (.tmp 26)]⟩, []⟩, ⟨0, ⟨(some 28), (some (24, false)), (.load (.load 1 false)), [(.tmp 27)]⟩, []⟩, ⟨0, ⟨(some 29), (some (24, false)), (.call F_skolemref05_Normal), [(.tmp 28)]⟩, []⟩, ⟨0, ⟨(some 30), (some (24, false)), (.pure (.un .not)), [(.tmp 29)]⟩, []⟩, ⟨0, ⟨(some 31), none, (.pure .pick), [(.tmp 24), (.const (.bool true)), (.tmp 30)]⟩, []⟩]) (.cond (.tmp 31) (.seq (.region [⟨0, ⟨(some 2), none, (.pure .id), [(.const (.bool false))]⟩, []⟩]) .ret) .skip)))) (.region [⟨0, ⟨(some 9), none, (.pure .id), [(.tmp 4)]⟩, []⟩, ⟨0, ⟨(some 10), none, (.pure (.bin .add .none)), [(.tmp 9), (.const (.int .i64 1))]⟩, []⟩, ⟨0, ⟨(some 4), none, (.pure .id), [(.tmp 10)]⟩, []⟩])))))) (.seq (.region [⟨0, ⟨(some 2), none, (.pure .id), [(.const (.bool true))]⟩, []⟩]) .ret))))⟩
theorem c_skolemref12_Cnf : compF Tryz.prog Tryz.f93 = some G_skolemref12_Cnf := by kernel_rfl
theorem gc_skolemref12_Cnf {args : List DV} {σ : GS} {Post : DV → GS → Prop} (h : @exB Tryz.prog ⟨G_skolemref12_Cnf.body⟩ (genv0 args G_skolemref12_Cnf.ntmps) σ ⟨@gretB G_skolemref12_Cnf.results ⟨Post⟩⟩) : GCall Tryz.prog F_skolemref12_Cnf args σ Post := gcall_ofB seatfollows Tryz.func93 (by kernel_rfl) c_skolemref12_Cnf h
noncomputable abbrev G_skolemref12_Same : GFun := ⟨17, [(.tmp 4)], (.seq (.region [⟨0, ⟨(some 2), none, (.new .box), [(.tmp 0)]⟩, []⟩, ⟨0, ⟨(some 3), none, (.new .box), [(.tmp 1)]⟩, []⟩, ⟨0, ⟨(some 4), none, (.pure .id), [(.const (.bool false))]⟩, []⟩]) (.seq (.region [⟨0, ⟨(some 5), none, (.pure (.faddr 0)), [(.tmp 2)]⟩, []⟩, ⟨0, ⟨(some 6), none, (.load (.load 1 false)), [(.tmp 5)]⟩, []⟩, ⟨0, ⟨(some 7), none, (.pure (.faddr 0)), [(.tmp 3)]⟩, []⟩, ⟨0, ⟨(some 8), none, (.load (.load 1 false)), [(.tmp 7)]⟩, []⟩, ⟨0, ⟨(some 9), none, (.call F_skolemref05_SamePrefix), [(.tmp 6), (.tmp 8)]⟩, []⟩, ⟨0, ⟨(some 10), none, (.pure .id), [(.tmp 9)]⟩, []⟩, ⟨0, ⟨(some 11), (some (10, true)), (.pure (.faddr 1)), [(.tmp 2)]⟩, []⟩, ⟨0, ⟨(some 12), (some (10, true)), (.load (.load 1 false)), [(.tmp 11)]⟩, []⟩, ⟨0, ⟨(some 13), (some (10, true)), (.pure (.faddr 1)), [(.tmp 3)]⟩, []⟩, ⟨0, ⟨(some 14), (some (10, true)), (.load (.load 1 false)), [(.tmp 13)]⟩, []⟩, ⟨0, ⟨(some 15), (some (10, true)), (.call F_skolemref12_SameClauses), [(.tmp 12), (.tmp 14)]⟩, []⟩, ⟨0, ⟨(some 16), none, (.pure .pick), [(.tmp 10), (.tmp 15), (.const (.bool false))]⟩, []⟩, ⟨0, ⟨(some 4), none, (.pure .id), [(.tmp 16)]⟩, []⟩]) .ret))⟩
theorem c_skolemref12_Same : compF Tryz.prog Tryz.f38 = some G_skolemref12_Same := by kernel_rfl
theorem gc_skolemref12_Same {args : List DV} {σ : GS} {Post : DV → GS → Prop} (h : @exB Tryz.prog ⟨G_skolemref12_Same.body⟩ (genv0 args G_skolemref12_Same.ntmps) σ ⟨@gretB G_skolemref12_Same.results ⟨Post⟩⟩) : GCall Tryz.prog F_skolemref12_Same args σ Post := gcall_ofB seatfollows Tryz.func38 (by kernel_rfl) c_skolemref12_Same h
noncomputable abbrev G_skolemref05_SamePrefix : GFun := ⟨42, [(.tmp 4)], (.seq (.region [⟨0, ⟨(some 4), none, (.pure .id), [(.const (.bool false))]⟩, []⟩]) (.seq (.seq (.region [⟨0, ⟨(some 6), none, (.pure .id), [(.tmp 0)]⟩, []⟩, ⟨0, ⟨(some 7), none, (.pure .len), [(.tmp 6)]⟩, []⟩, ⟨0, ⟨(some 8), none, (.pure .id), [(.tmp 1)]⟩, []⟩, ⟨0, ⟨(some 9), none, (.pure .len), [(.tmp 8)]⟩, []⟩, ⟨0, ⟨(some 10), none, (.pure (.bin .neq .none)), [(.tmp 7), (.tmp 9)]⟩, []⟩]) (.cond (.tmp 10) (.seq (.region [⟨0, ⟨(some 4), none, (.pure .id), [(.const (.bool false))]⟩, []⟩]) .ret) .skip)) (.seq (.seq (.region [⟨0, ⟨(some 5), none, (.pure .id), [(.const (.int .i64 0))]⟩, []⟩]) (.block 0 (.loop (.seq (.seq (.region [⟨0, ⟨(some 11), none, (.pure .id), [(.tmp 5)]⟩, []⟩, ⟨0, ⟨(some 12), none, (.pure .id), [(.tmp 0)]⟩, []⟩, ⟨0, ⟨(some 13), none, (.pure .len), [(.tmp 12)]⟩, []⟩, ⟨0, ⟨(some 14), none, (.pure (.bin .lss .none)), [(.tmp 11), (.tmp 13)]⟩, []⟩]) (.cond (.tmp 14) .skip (.exit 0))) (.seq (.block 1 (.seq (.region [⟨0, ⟨(some 17), none, (.pure .id), [(.tmp 0)]⟩, []⟩, ⟨1, ⟨(some 18), none, (.pure .id), [(.tmp 5)]⟩, []⟩, ⟨2, ⟨(some 19), none, (.pure (.iaddr 2)), [(.tmp 17), (.tmp 18)]⟩, []⟩, ⟨3, ⟨(some 20), none, (.pure (.faddr 0)), [(.tmp 19)]⟩, []⟩, ⟨4, ⟨(some 21), none, (.load (.load 1 false)), [(.tmp 20)]⟩, []⟩, ⟨5, ⟨(some 22), none, (.pure .id), [(.tmp 1)]⟩, []⟩, ⟨6, ⟨(some 23), none, (.pure .id), [(.tmp 5)]⟩, []⟩, ⟨7, ⟨(some 24), none, (.pure (.iaddr 2)), [(.tmp 22), (.tmp 23)]⟩, []⟩, ⟨8, ⟨(some 25), none, (.pure (.faddr 0)), [(.tmp 24)]⟩, []⟩, ⟨9, ⟨(some 26), none, (.load (.load 1 false)), [(.tmp 25)]⟩, []⟩, ⟨10, ⟨(some 27), none, (.pure (.bin .neq .bool)), [(.tmp 21), (.tmp 26)]⟩, []⟩, ⟨11, ⟨(some 28), none, (.pure .id), [(.tmp 27)]⟩, []⟩, ⟨12, ⟨(some 29), (some (28, false)), (.pure .id), [(.tmp 0)]⟩, []⟩, ⟨13, ⟨(some 30), (some (28, false)), (.pure .id), [(.tmp 5)]⟩, []⟩, ⟨14, ⟨(some 31), (some (28, false)), (.pure (.iaddr 2)), [(.tmp 29), (.tmp 30)]⟩, []⟩, ⟨15, ⟨(some 32), (some (28, false)), (.pure (.faddr 1)), [(.tmp 31)]⟩, []⟩, ⟨16, ⟨(some 33), (some (28, false)), (.load (.load 1 false)), [(.tmp 32)]⟩, []⟩, ⟨17, ⟨(some 34), (some (28, false)), (.pure .id), [(.tmp 1)]⟩, []⟩, ⟨18, ⟨(some 35), (some (28, false)), (.pure .id), [(.tmp 5)]⟩, []⟩, ⟨19, ⟨(some 36), (some (28, false)), (.pure (.iaddr 2)), [(.tmp 34), (.tmp 35)]⟩, []⟩, ⟨20, ⟨(some 37), (some (28, false)), (.pure (.faddr 1)), [(.tmp 36)]⟩, []⟩, ⟨21, ⟨(some 38), (some (28, false)), (.load (.load 1 false)), [(.tmp 37)]⟩, []⟩, ⟨22, ⟨(some 39), (some (28, false)), (.call F_skolemref05_Ints), [(.tmp 33), (.tmp 38)]⟩, []⟩, ⟨23, ⟨(some 40), (some (28, false)), (.pure (.un .not)), [(.tmp 39)]⟩, []⟩, ⟨24, ⟨(some 41), none, (.pure .pick), [(.tmp 28), (.const (.bool true)), (.tmp 40)]⟩, []⟩]) (.cond (.tmp 41) (.seq (.region [⟨0, ⟨(some 4), none, (.pure .id), [(.const (.bool false))]⟩, []⟩]) .ret) .skip))) (.region [⟨0, ⟨(some 15), none, (.pure .id), [(.tmp 5)]⟩, []⟩, ⟨0, ⟨(some 16), none, (.pure (.bin .add .none)), [(.tmp 15), (.const (.int .i64 1))]⟩, []⟩, ⟨0, ⟨(some 5), none, (.pure .id), [(.tmp 16)]⟩, []⟩])))))) (.seq (.region [⟨0, ⟨(some 4), none, (.pure .id), [(.const (.bool true))]⟩, []⟩]) .ret))))⟩
theorem c_skolemref05_SamePrefix : compF Tryz.prog Tryz.f74 = some G_skolemref05_SamePrefix := by kernel_rfl
theorem gc_skolemref05_SamePrefix {args : List DV} {σ : GS} {Post : DV → GS → Prop} (h : @exB Tryz.prog ⟨G_skolemref05_SamePrefix.body⟩ (genv0 args G_skolemref05_SamePrefix.ntmps) σ ⟨@gretB G_skolemref05_SamePrefix.results ⟨Post⟩⟩) : GCall Tryz.prog F_skolemref05_SamePrefix args σ Post := gcall_ofB seatfollows Tryz.func74 (by kernel_rfl) c_skolemref05_SamePrefix h
noncomputable abbrev G_skolemref05_May : GFun := ⟨76, [(.tmp 2)], (.seq (.region [⟨0, ⟨(some 1), none, (.new .box), [(.tmp 0)]⟩, []⟩, ⟨0, ⟨(some 2), none, (.pure .id), [(.const (.bool false))]⟩, []⟩]) (.seq (.seq (.region [⟨0, ⟨(some 8), none, (.pure (.faddr 0)), [(.tmp 1)]⟩, []⟩, ⟨0, ⟨(some 9), none, (.load (.load 1 false)), [(.tmp 8)]⟩, []⟩, ⟨0, ⟨(some 10), none, (.call F_skolemref05_Prefix), [(.tmp 9)]⟩, []⟩, ⟨0, ⟨(some 11), none, (.pure (.un .not)), [(.tmp 10)]⟩, []⟩]) (.cond (.tmp 11) (.seq (.region [⟨0, ⟨(some 2), none, (.pure .id), [(.const (.bool false))]⟩, []⟩]) .ret) .skip)) (.seq (.region [⟨0, ⟨(some 12), none, (.pure (.faddr 0)), [(.tmp 1)]⟩, []⟩, ⟨0, ⟨(some 13), none, (.load (.load 1 false)), [(.tmp 12)]⟩, []⟩, ⟨0, ⟨(some 14), none, (.call F_skolemref05_Vars), [(.tmp 13)]⟩, []⟩, ⟨0, ⟨(some 15), none, (.call F_skolemref05_marks), [(.tmp 14)]⟩, []⟩, ⟨0, ⟨(some 3), none, (.pure .id), [(.tmp 15)]⟩, []⟩]) (.seq (.region [⟨0, ⟨(some 4), none, (.pure .id), [(.const (.int .i64 0))]⟩, []⟩]) (.seq (.seq (.region [⟨0, ⟨(some 5), none, (.pure .id), [(.const (.int .i64 0))]⟩, []⟩]) (.block 0 (.loop (.seq (.seq (.region [⟨0, ⟨(some 16), none, (.pure .id), [(.tmp 5)]⟩, []⟩, ⟨0, ⟨(some 17), none, (.pure (.faddr 1)), [(.tmp 1)]⟩, []⟩, ⟨0, ⟨(some 18), none, (.load (.load 1 false)), [(.tmp 17)]⟩, []⟩, ⟨0, ⟨(some 19), none, (.pure .len), [(.tmp 18)]⟩, []⟩, ⟨0, ⟨(some 20), none, (.pure (.bin .lss .none)), [(.tmp 16), (.tmp 19)]⟩, []⟩]) (.cond (.tmp 20) .skip (.exit 0))) (.seq (.block 1 (.seq (.region [⟨0, ⟨(some 23), none, (.pure (.faddr 1)), [(.tmp 1)]⟩, []⟩, ⟨0, ⟨(some 24), none, (.load (.load 1 false)), [(.tmp 23)]⟩, []⟩, ⟨0, ⟨(some 25), none, (.pure .id), [(.tmp 5)]⟩, []⟩, ⟨0, ⟨(some 26), none, (.pure (.iaddr 3)), [(.tmp 24), (.tmp 25)]⟩, []⟩, ⟨0, ⟨(some 27), none, (.load (.load 3 true)), [(.tmp 26)]⟩, []⟩, ⟨0, ⟨(some 6), none, (.new (.alloc [(.int .i64 0), (.int .u8 0), .nils])), []⟩, []⟩, ⟨0, ⟨none, none, (.imp (.store 3)), [(.tmp 6), (.tmp 27)]⟩, []⟩]) (.seq (.region [⟨0, ⟨(some 28), none, (.pure .id), [(.tmp 4)]⟩, []⟩, ⟨0, ⟨(some 29), none, (.pure (.faddr 2)), [(.tmp 6)]⟩, []⟩, ⟨0, ⟨(some 30), none, (.load (.load 1 false)), [(.tmp 29)]⟩, []⟩, ⟨0, ⟨(some 31), none, (.pure .len), [(.tmp 30)]⟩, []⟩, ⟨0, ⟨(some 32), none, (.pure (.bin .add .none)), [(.tmp 28), (.tmp 31)]⟩, []⟩, ⟨0, ⟨(some 4), none, (.pure .id), [(.tmp 32)]⟩, []⟩]) (.seq (.seq (.region [⟨0, ⟨(some 33), none, (.pure (.faddr 0)), [(.tmp 6)]⟩, []⟩, ⟨0, ⟨(some 34), none, (.load (.load 1 false)), [(.tmp 33)]⟩, []⟩, ⟨0, ⟨(some 35), none, (.call F_skolemref05_variable), [(.tmp 34)]⟩, []⟩, ⟨0, ⟨(some 36), none, (.pure (.un .not)), [(.tmp 35)]⟩, []⟩, ⟨0, ⟨(some 37), none, (.pure .id), [(.tmp 36)]⟩, []⟩, ⟨0, ⟨(some 38), (some (37, false)), (.pure .id), [(.tmp 3)]⟩, []⟩, ⟨0, ⟨(some 39), (some (37, false)), (.pure (.faddr 0)), [(.tmp 6)]⟩, []⟩, ⟨0, ⟨(some 40), (some (37, false)), (.load (.load 1 false)), [(.tmp 39)]⟩, []⟩, ⟨0, ⟨(some 41), (some (37, false)), (.pure (.iaddr 1)), [(.tmp 38), (.tmp 40)]⟩, []⟩, ⟨0, ⟨(some 42), (some (37, false)), (.load (.load 1 false)), [(.tmp 41)]⟩, []⟩, ⟨0, ⟨(some 43), none, (.pure .pick), [(.tmp 37), (.const (.bool true)), (.tmp 42)]⟩, []⟩, ⟨0, ⟨(some 44), none, (.pure .id), [(.tmp 43)]⟩, []⟩, ⟨0, ⟨(some 45), (some (44, false)), (.load (.load 3 true)), [(.tmp 6)]⟩, []⟩, ⟨0, ⟨(some 46), (some (44, false)), (.call F_skolemref05_shape), [(.tmp 45)]⟩, []⟩, ⟨0, ⟨(some 47), (some (44, false)), (.pure (.un .not)), [(.tmp 46)]⟩, []⟩, ⟨0, ⟨(some 48), none, (.pure .pick), [(.tmp 44), (.const (.bool true)), (.tmp 47)]⟩, []⟩, ⟨0, ⟨(some 49), none, (.pure .id), [(.tmp 48)]⟩, []⟩, ⟨0, ⟨(some 50), (some (49, false)), (.pure .id), [(.tmp 4)]⟩, []⟩, ⟨0, ⟨(some 51), (some (49, false)), (.pure (.bin .gtr .none)), [(.tmp 50), (.const (.int .i64 200000))]⟩, []⟩, ⟨0, ⟨(some 52), none, (.pure .pick), [(.tmp 49), (.const (.bool true)), (.tmp 51)]⟩, []⟩]) (.cond (.tmp 52) (.seq (.region [⟨0, ⟨(some 2), none, (.pure .id), [(.const (.bool false))]⟩, []⟩]) .ret) .skip)) (.seq (.seq (.region [⟨0, ⟨(some 7), none, (.pure .id), [(.const (.int .i64 0))]⟩, []⟩]) (.block 2 (.loop (.seq (.seq (.region [⟨0, ⟨(some 53), none, (.pure .id), [(.tmp 7)]⟩, []⟩, ⟨0, ⟨(some 54), none, (.pure (.faddr 2)), [(.tmp 6)]⟩, []⟩, ⟨0, ⟨(some 55), none, (.load (.load 1 false)), [(.tmp 54)]⟩, []⟩, ⟨0, ⟨(some 56), none, (.pure .len), [(.tmp 55)]⟩, []⟩, ⟨0, ⟨(some 57), none, (.pure (.bin .lss .none)), [(.tmp 53), (.tmp 56)]⟩, []⟩]) (.cond (.tmp 57) .skip (.exit 2))) (.seq (.block 3 (.seq (.region [⟨0, ⟨(some 60), none, (.pure .id), [(.tmp 3)]⟩, []⟩, ⟨0, ⟨(some 61), none, (.pure (.faddr 2)), [(.tmp 6)]⟩, []⟩, ⟨0, ⟨(some 62), none, (.load (.load 1 false)), [(.tmp 61)]⟩, []⟩, ⟨0, ⟨(some 63), none, (.pure .id), [(.tmp 7)]⟩, []⟩, ⟨0, ⟨(some 64), none, (.pure (.iaddr 1)), [(.tmp 62), (.tmp 63)]⟩, []⟩, ⟨0, ⟨(some 65), none, (.load (.load 1 false)), [(.tmp 64)]⟩, []⟩, ⟨0, ⟨(some 66), none, (.call F_skolemref05_known), [(.tmp 60), (.tmp 65)]⟩, []⟩, ⟨0, ⟨(some 67), none, (.pure (.un .not)), [(.tmp 66)]⟩, []⟩]) (.cond (.tmp 67) (.seq (.region [⟨0, ⟨(some 2), none, (.pure .id), [(.const (.bool false))]⟩, []⟩]) .ret) .skip))) (.region [⟨0, ⟨(some 58), none, (.pure .id), [(.tmp 7)]⟩, []⟩, ⟨0, ⟨(some 59), none, (.pure (.bin .add .none)), [(.tmp 58), (.const (.int .i64 1))]⟩, []⟩, ⟨0, ⟨(some 7), none, (.pure .id), [(.tmp 59)]⟩, []⟩])))))) (.region [⟨0, ⟨(some 68), none, (.pure .id), [(.tmp 3)]⟩, []⟩, ⟨0, ⟨(some 69), none, (.pure (.faddr 0)), [(.tmp 6)]⟩, []⟩, ⟨0, ⟨(some 70), none, (.load (.load 1 false)), [(.tmp 69)]⟩, []⟩, ⟨0, ⟨(some 71), none, (.pure (.iaddr 1)), [(.tmp 68), (.tmp 70)]⟩, []⟩, ⟨0, ⟨none, none, (.imp (.store 1)), [(.tmp 71), (.const (.bool true))]⟩, []⟩])))))) (.region [⟨0, ⟨(some 21), none, (.pure .id), [(.tmp 5)]⟩, []⟩, ⟨0, ⟨(some 22), none, (.pure (.bin .add .none)), [(.tmp 21), (.const (.int .i64 1))]⟩, []⟩, ⟨0, ⟨(some 5), none, (.pure .id), [(.tmp 22)]⟩, []⟩])))))) (.seq (.region [⟨0, ⟨(some 72), none, (.pure .id), [(.tmp 3)]⟩, []⟩, ⟨0, ⟨(some 73), none, (.pure (.faddr 2)), [(.tmp 1)]⟩, []⟩, ⟨0, ⟨(some 74), none, (.load (.load 1 false)), [(.tmp 73)]⟩, []⟩, ⟨0, ⟨(some 75), none, (.call F_skolemref05_known), [(.tmp 72), (.tmp 74)]⟩, []⟩, ⟨0, ⟨(some 2), none, (.pure .id), [(.tmp 75)]⟩, []⟩]) .ret))))))⟩
theorem c_skolemref05_May : compF Tryz.prog Tryz.f48 = some G_skolemref05_May := by kernel_rfl
theorem gc_skolemref05_May {args : List DV} {σ : GS} {Post : DV → GS → Prop} (h : @exB Tryz.prog ⟨G_skolemref05_May.body⟩ (genv0 args G_skolemref05_May.ntmps) σ ⟨@gretB G_skolemref05_May.results ⟨Post⟩⟩) : GCall Tryz.prog F_skolemref05_May args σ Post := gcall_ofB seatfollows Tryz.func48 (by kernel_rfl) c_skolemref05_May h
noncomputable abbrev G_skolemref05_Prefix : GFun := ⟨85, [(.tmp 2)], (.seq (.region [⟨0, ⟨(some 2), none, (.pure .id), [(.const (.bool false))]⟩, []⟩]) (.seq (.region [⟨0, ⟨(some 3), none, (.pure .id), [(.const .nils)]⟩, []⟩]) (.seq (.seq (.region [⟨0, ⟨(some 4), none, (.pure .id), [(.const (.int .i64 0))]⟩, []⟩]) (.block 0 (.loop (.seq (.seq (.region [⟨0, ⟨(some 6), none, (.pure .id), [(.tmp 4)]⟩, []⟩, ⟨0, ⟨(some 7), none, (.pure .id), [(.tmp 0)]⟩, []⟩, ⟨0, ⟨(some 8), none, (.pure .len), [(.tmp 7)]⟩, []⟩, ⟨0, ⟨(some 9), none, (.pure (.bin .lss .none)), [(.tmp 6), (.tmp 8)]⟩, []⟩]) (.cond (.tmp 9) .skip (.exit 0))) (.seq (.block 1 (.seq (.seq (.region [⟨0, ⟨(some 12), none, (.pure .id), [(.tmp 0)]⟩, []⟩, ⟨1, ⟨(some 13), none, (.pure .id), [(.tmp 4)]⟩, []⟩, ⟨2, ⟨(some 14), none, (.pure (.iaddr 2)), [(.tmp 12), (.tmp 13)]⟩, []⟩, ⟨3, ⟨(some 15), none, (.pure (.faddr 1)), [(.tmp 14)]⟩, []⟩, ⟨4, ⟨(some 16), none, (.load (.load 1 false)), [(.tmp 15)]⟩, []⟩, ⟨5, ⟨(some 17), none, (.pure .len), [(.tmp 16)]⟩, []⟩, ⟨6, ⟨(some 18), none, (.pure (.bin .eql .none)), [(.tmp 17), (.const (.int .i64 0))]⟩, []⟩, ⟨7, ⟨(some 19), none, (.pure .id), [(.tmp 18)]⟩, []⟩, ⟨8, ⟨(some 20), (some (19, false)), (.pure .id), [(.tmp 4)]⟩, []⟩, ⟨9, ⟨(some 21), (some (19, false)), (.pure (.bin .gtr .none)), [(.tmp 20), (.const (.int .i64 0))]⟩, []⟩, ⟨10, ⟨(some 22), (some (19, false)), (.pure .id), [(.tmp 21)]⟩, []⟩, ⟨11, ⟨(some 23), (some (22, true)), (.pure .id), [(.tmp 0)]⟩, []⟩, ⟨12, ⟨(some 24), (some (22, true)), (.pure .id), [(.tmp 4)]⟩, []⟩, ⟨13, ⟨(some 25), (some (22, true)), (.pure (.iaddr 2)), [(.tmp 23), (.tmp 24)]⟩, []⟩, ⟨14, ⟨(some 26), (some (22, true)), (.pure (.faddr 0)), [(.tmp 25)]⟩, []⟩, ⟨15, ⟨(some 27), (some (22, true)), (.load (.load 1 false)), [(.tmp 26)]⟩, []⟩, ⟨16, ⟨(some 28), (some (22, true)), (.pure .id), [(.tmp 0)]⟩, []⟩, ⟨17, ⟨(some 29), (some (22, true)), (.pure .id), [(.tmp 4)]⟩, []⟩, ⟨18, ⟨(some 30), (some (22, true)), (.pure (.bin .sub .none)), [(.tmp 29), (.const (.int .i64 1))]⟩, []⟩, ⟨19, ⟨(some 31), (some (22, true)), (.pure (.iaddr 2)), [(.tmp 28), (.tmp 30)]⟩, []⟩, ⟨20, ⟨(some 32), (some (22, true)), (.pure (.faddr 0)), [(.tmp 31)]⟩, []⟩, ⟨21, ⟨(some 33), (some (22, true)), (.load (.load 1 false)), [(.tmp 32)]⟩, []⟩, ⟨22, ⟨(some 34), (some (22, true)), (.pure (.bin .eql .bool)), [(.tmp 27), (.tmp 33)]⟩, []⟩, ⟨23, ⟨(some 35), (some (19, false)), (.pure .pick), [(.tmp 22), (.tmp 34), (.const (.bool false))]⟩, []⟩, ⟨24, ⟨(some 36), none, (.pure .pick), [(.tmp 19), (.const (.bool true)), (.tmp 35)]⟩, []⟩]) (.cond (.tmp 36) (.seq (.region [⟨0, ⟨(some 2), none, (.pure .id), [(.const (.bool false))]⟩, []⟩]) .ret) .skip)) (.seq (.region [⟨0, ⟨(some 5), none, (.pure .id), [(.const (.int .i64 0))]⟩, []⟩]) (.block 2 (.loop (.seq (.seq (.region [⟨0, ⟨(some 37), none, (.pure .id), [(.tmp 5)]⟩, []⟩, ⟨0, ⟨(some 38), none, (.pure .id), [(.tmp 0)]⟩, []⟩, ⟨0, ⟨(some 39), none, (.pure .id), [(.tmp 4)]⟩, []⟩, ⟨0, ⟨(some 40), none, (.pure (.iaddr 2)), [(.tmp 38), (.tmp 39)]⟩, []⟩, ⟨0, ⟨(some 41), none, (.pure (.faddr 1)), [(.tmp 40)]⟩, []⟩, ⟨0, ⟨(some 42), none, (.load (.load 1 false)), [(.tmp 41)]⟩, []⟩, ⟨0, ⟨(some 43), none, (.pure .len), [(.tmp 42)]⟩, []⟩, ⟨0, ⟨(some 44), none, (.pure (.bin .lss .none)), [(.tmp 37), (.tmp 43)]⟩, []⟩]) (.cond (.tmp 44) .skip (.exit 2))) (.seq (.block 3 (.seq (.seq (.region [⟨0, ⟨(some 47), none, (.pure .id), [(.tmp 0)]⟩, []⟩, ⟨0, ⟨(some 48), none, (.pure .id), [(.tmp 4)]⟩, []⟩, ⟨0, ⟨(some 49), none, (.pure (.iaddr 2)), [(.tmp 47), (.tmp 48)]⟩, []⟩, ⟨0, ⟨(some 50), none, (.pure (.faddr 1)), [(.tmp 49)]⟩, []⟩, ⟨0, ⟨(some 51), none, (.load (.load 1 false)), [(.tmp 50)]⟩, []⟩, ⟨0, ⟨(some 52), none, (.pure .id), [(.tmp 5)]⟩, []⟩, ⟨0, ⟨(some 53), none, (.pure (.iaddr 1)), [(.tmp 51), (.tmp 52)]⟩, []⟩, ⟨0, ⟨(some 54), none, (.load (.load 1 false)), [(.tmp 53)]⟩, []⟩, ⟨0, ⟨(some 55), none, (.call F_skolemref05_variable), [(.tmp 54)]⟩, []⟩, ⟨0, ⟨(some 56), none, (.pure (.un .not)), [(.tmp 55)]⟩, []⟩, ⟨0, ⟨(some 57), none, (.pure .id), [(.tmp 56)]⟩, []⟩, ⟨0, ⟨(some 58), (some (57, false)), (.pure .id), [(.tmp 3)]⟩, []⟩, ⟨0, ⟨(some 59), (some (57, false)), (.pure .id), [(.tmp 0)]⟩, []⟩, ⟨0, ⟨(some 60), (some (57, false)), (.pure .id), [(.tmp 4)]⟩, []⟩, ⟨0, ⟨(some 61), (some (57, false)), (.pure (.iaddr 2)), [(.tmp 59), (.tmp 60)]⟩, []⟩, ⟨0, ⟨(some 62), (some (57, false)), (.pure (.faddr 1)), [(.tmp 61)]⟩, []⟩, ⟨0, ⟨(some 63), (some (57, false)), (.load (.load 1 false)), [(.tmp 62)]⟩, []⟩, ⟨0, ⟨(some 64), (some (57, false)), (.pure .id), [(.tmp 5)]⟩, []⟩, ⟨0, ⟨(some 65), (some (57, false)), (.pure (.iaddr 1)), [(.tmp 63), (.tmp 64)]⟩, []⟩, ⟨0, ⟨(some 66), (some (57, false)), (.load (.load 1 false)), [(.tmp 65)]⟩, []⟩, ⟨0, ⟨(some 67), (some (57, false)), (.call F_skolemref05_In), [(.tmp 58), (.tmp 66)]⟩, []⟩, ⟨0, ⟨(some 68), none, (.pure .pick), [(.tmp 57), (.const (.bool true)), (.tmp 67)]⟩, []⟩, ⟨0, ⟨(some 69), none, (.pure .id), [(.tmp 68)]⟩, []⟩, ⟨0, ⟨(some 70), (some (69, false)), (.pure .id), [(.tmp 3)]⟩, []⟩, ⟨0, ⟨(some 71), (some (69, false)), (.pure .len), [(.tmp 70)]⟩, []⟩, ⟨0, ⟨(some 72), (some (69, false)), (.pure (.bin .eql .none)), [(.tmp 71), (.const (.int .i64 1024))]⟩, []⟩, ⟨0, ⟨(some 73), none, (.pure .pick), [(.tmp 69), (.const (.bool true)), (.tmp 72)]⟩, []⟩]) (.cond (.tmp 73) (.seq (.region [⟨0, ⟨(some 2), none, (.pure .id), [(.const (.bool false))]⟩, []⟩]) .ret) .skip)) (.region [⟨0, ⟨(some 74), none, (.pure .id), [(.tmp 3)]⟩, []⟩, ⟨0, ⟨(some 75), none, (.pure .id), [(.tmp 0)]⟩, []⟩, ⟨0, ⟨(some 76), none, (.pure .id), [(.tmp 4)]⟩, []⟩, ⟨0, ⟨(some 77), none, (.pure (.iaddr 2)), [(.tmp 75), (.tmp 76)]⟩, []⟩, ⟨0, ⟨(some 78), none, (.pure (.faddr 1)), [(.tmp 77)]⟩, []⟩, ⟨0, ⟨(some 79), none, (.load (.load 1 false)), [(.tmp 78)]⟩, []⟩, ⟨0, ⟨(some 80), none, (.pure .id), [(.tmp 5)]⟩, []⟩, ⟨0, ⟨(some 81), none, (.pure (.iaddr 1)), [(.tmp 79), (.tmp 80)]⟩, []⟩, ⟨0, ⟨(some 82), none, (.load (.load 1 false)), [(.tmp 81)]⟩, []⟩, ⟨0, ⟨(some 83), none, (.new (.bslice 1 [(.int .i64 0)] 1 [(0, 1)])), [(.tmp 82)]⟩, []⟩, ⟨0, ⟨(some 84), none, (.imp (.append 1 8)), [(.tmp 74), (.tmp 83)]⟩, []⟩, ⟨0, ⟨(some 3), none, (.pure .id), [(.tmp 84)]⟩, []⟩]))) (.region [⟨0, ⟨(some 45), none, (.pure .id), [(.tmp 5)]⟩, []⟩, ⟨0, ⟨(some 46), none, (.pure (.bin .add .none)), [(.tmp 45), (.const (.int .i64 1))]⟩, []⟩, ⟨0, ⟨(some 5), none, (.pure .id), [(.tmp 46)]⟩, []⟩])))))))) (.region [⟨0, ⟨(some 10), none, (.pure .id), [(.tmp 4)]⟩, []⟩, ⟨0, ⟨(some 11), none, (.pure (.bin .add .none)), [(.tmp 10), (.const (.int .i64 1))]⟩, []⟩, ⟨0, ⟨(some 4), none, (.pure .id), [(.tmp 11)]⟩, []⟩])))))) (.seq (.region [⟨0, ⟨(some 2), none, (.pure .id), [(.const (.bool true))]⟩, []⟩]) .ret))))⟩
theorem c_skolemref05_Prefix : compF Tryz.prog Tryz.f127 = some G_skolemref05_Prefix := by kernel_rfl
theorem gc_skolemref05_Prefix {args : List DV} {σ : GS} {Post : DV → GS → Prop} (h : @exB Tryz.prog ⟨G_skolemref05_Prefix.body⟩ (genv0 args G_skolemref05_Prefix.ntmps) σ ⟨@gretB G_skolemref05_Prefix.results ⟨Post⟩⟩) : GCall Tryz.prog F_skolemref05_Prefix args σ Post := gcall_ofB seatfollows Tryz.func127 (by kernel_rfl) c_skolemref05_Prefix h
noncomputable abbrev G_skolemref05_marks : GFun := ⟨19, [(.tmp 2)], (.seq (.region [⟨0, ⟨(some 2), none, (.pure .id), [(.const .nils)]⟩, []⟩]) (.seq (.region [⟨0, ⟨(some 5), none, (.new (.mslice 1 1 [(.bool false)])), [(.const (.int .i64 65537)), (.const (.int .i64 65537))]⟩, []⟩, ⟨0, ⟨(some 3), none, (.pure .id), [(.tmp 5)]⟩, []⟩]) (.seq (.seq (.region [⟨0, ⟨(some 4), none, (.pure .id), [(.const (.int .i64 0))]⟩, []⟩]) (.block 0 (.loop (.seq (.seq (.region [⟨0, ⟨(some 6), none, (.pure .id), [(.tmp 4)]⟩, []⟩, ⟨0, ⟨(some 7), none, (.pure .id), [(.tmp 0)]⟩, []⟩, ⟨0, ⟨(some 8), none, (.pure .len), [(.tmp 7)]⟩, []⟩, ⟨0, ⟨(some 9), none, (.pure (.bin .lss .none)), [(.tmp 6), (.tmp 8)]⟩, []⟩]) (.cond (.tmp 9) .skip (.exit 0))) (.seq (.block 1 (.region [⟨0, ⟨(some 12), none, (.pure .id), [(.tmp 3)]⟩, []⟩, ⟨0, ⟨(some 13), none, (.pure .id), [(.tmp 0)]⟩, []⟩, ⟨0, ⟨(some 14), none, (.pure .id), [(.tmp 4)]⟩, []⟩, ⟨0, ⟨(some 15), none, (.pure (.iaddr 1)), [(.tmp 13), (.tmp 14)]⟩, []⟩, ⟨0, ⟨(some 16), none, (.load (.load 1 false)), [(.tmp 15)]⟩, []⟩, ⟨0, ⟨(some 17), none, (.pure (.iaddr 1)), [(.tmp 12), (.tmp 16)]⟩, []⟩, ⟨0, ⟨none, none, (.imp (.store 1)), [(.tmp 17), (.const (.bool true))]⟩, []⟩])) (.region [⟨0, ⟨(some 10), none, (.pure .id), [(.tmp 4)]⟩, []⟩, ⟨0, ⟨(some 11), none, (.pure (.bin .add .none)), [(.tmp 10), (.const (.int .i64 1))]⟩, []⟩, ⟨0, ⟨(some 4), none, (.pure .id), [(.tmp 11)]⟩, []⟩])))))) (.seq (.region [⟨0, ⟨(some 18), none, (.pure .id), [(.tmp 3)]⟩, []⟩, ⟨0, ⟨(some 2), none, (.pure .id), [(.tmp 18)]⟩, []⟩]) .ret))))⟩
theorem c_skolemref05_marks : compF Tryz.prog Tryz.f128 = some G_skolemref05_marks := by kernel_rfl
theorem gc_skolemref05_marks {args : List DV} {σ : GS} {Post : DV → GS → Prop} (h : @exB Tryz.prog ⟨G_skolemref05_marks.body⟩ (genv0 args G_skolemref05_marks.ntmps) σ ⟨@gretB G_skolemref05_marks.results ⟨Post⟩⟩) : GCall Tryz.prog F_skolemref05_marks args σ Post := gcall_ofB seatfollows Tryz.func128 (by kernel_rfl) c_skolemref05_marks h
noncomputable abbrev G_skolemref05_shape : GFun := ⟨20, [(.tmp 2)], (.seq (.region [⟨0, ⟨(some 1), none, (.new .box), [(.tmp 0)]⟩, []⟩, ⟨0, ⟨(some 2), none, (.pure .id), [(.const (.bool false))]⟩, []⟩]) (.seq (.seq (.region [⟨0, ⟨(some 3), none, (.pure (.faddr 1)), [(.tmp 1)]⟩, []⟩, ⟨0, ⟨(some 4), none, (.load (.load 1 false)), [(.tmp 3)]⟩, []⟩]) (.block 0 (.seq (.seq (.region [⟨0, ⟨(some 6), none, (.pure (.bin .eql .none)), [(.tmp 4), (.const (.int .u8 1))]⟩, []⟩, ⟨0, ⟨(some 5), none, (.pure .id), [(.tmp 6)]⟩, []⟩]) (.cond (.tmp 5) .skip (.region [⟨0, ⟨(some 7), none, (.pure (.bin .eql .none)), [(.tmp 4), (.const (.int .u8 2))]⟩, []⟩, ⟨0, ⟨(some 5), none, (.pure .id), [(.tmp 7)]⟩, []⟩]))) (.cond (.tmp 5) (.seq (.region [⟨0, ⟨(some 2), none, (.pure .id), [(.const (.bool true))]⟩, []⟩]) .ret) (.seq (.region [⟨0, ⟨(some 9), none, (.pure (.bin .eql .none)), [(.tmp 4), (.const (.int .u8 3))]⟩, []⟩, ⟨0, ⟨(some 8), none, (.pure .id), [(.tmp 9)]⟩, []⟩]) (.cond (.tmp 8) (.seq (.region [⟨0, ⟨(some 10), none, (.pure (.faddr 2)), [(.tmp 1)]⟩, []⟩, ⟨0, ⟨(some 11), none, (.load (.load 1 false)), [(.tmp 10)]⟩, []⟩, ⟨0, ⟨(some 12), none, (.pure .len), [(.tmp 11)]⟩, []⟩, ⟨0, ⟨(some 13), none, (.pure (.bin .eql .none)), [(.tmp 12), (.const (.int .i64 2))]⟩, []⟩, ⟨0, ⟨(some 2), none, (.pure .id), [(.tmp 13)]⟩, []⟩]) .ret) (.seq (.region [⟨0, ⟨(some 15), none, (.pure (.bin .eql .none)), [(.tmp 4), (.const (.int .u8 4))]⟩, []⟩, ⟨0, ⟨(some 14), none, (.pure .id), [(.tmp 15)]⟩, []⟩]) (.cond (.tmp 14) (.seq (.region [⟨0, ⟨(some 16), none, (.pure (.faddr 2)), [(.tmp 1)]⟩, []⟩, ⟨0, ⟨(some 17), none, (.load (.load 1 false)), [(.tmp 16)]⟩, []⟩, ⟨0, ⟨(some 18), none, (.pure .len), [(.tmp 17)]⟩, []⟩, ⟨0, ⟨(some 19), none, (.pure (.bin .eql .none)), [(.tmp 18), (.const (.int .i64 3))]⟩, []⟩, ⟨0, ⟨(some 2), none, (.pure .id), [(.tmp 19)]⟩, []⟩]) .ret) .skip)))))))) (.seq (.region [⟨0, ⟨(some 2), none, (.pure .id), [(.const (.bool false))]⟩, []⟩]) .ret)))⟩
theorem c_skolemref05_shape : compF Tryz.prog Tryz.f129 = some G_skolemref05_shape := by kernel_rfl
theorem gc_skolemref05_shape {args : List DV} {σ : GS} {Post : DV → GS → Prop} (h : @exB Tryz.prog ⟨G_skolemref05_shape.body⟩ (genv0 args G_skolemref05_shape.ntmps) σ ⟨@gretB G_skolemref05_shape.results ⟨Post⟩⟩) : GCall Tryz.prog F_skolemref05_shape args σ Post := gcall_ofB seatfollows Tryz.func129 (by kernel_rfl) c_skolemref05_shape h
noncomputable abbrev G_skolemref05_known : GFun := ⟨15, [(.tmp 4)], (.seq (.region [⟨0, ⟨(some 4), none, (.pure .id), [(.const (.bool false))]⟩, []⟩]) (.seq (.region [⟨0, ⟨(some 5), none, (.pure .id), [(.tmp 1)]⟩, []⟩, ⟨0, ⟨(some 6), none, (.call F_skolemref05_Abs), [(.tmp 5)]⟩, []⟩, ⟨0, ⟨(some 7), none, (.call F_skolemref05_variable), [(.tmp 6)]⟩, []⟩, ⟨0, ⟨(some 8), none, (.pure .id), [(.tmp 7)]⟩, []⟩, ⟨0, ⟨(some 9), (some (8, true)), (.pure .id), [(.tmp 0)]⟩, []⟩, ⟨0, ⟨(some 10), (some (8, true)), (.pure .id), [(.tmp 1)]⟩, []⟩, ⟨0, ⟨(some 11), (some (8, true)), (.call F_skolemref05_Abs), [(.tmp 10)]⟩, []⟩, ⟨0, ⟨(some 12), (some (8, true)), (.pure (.iaddr 1)), [(.tmp 9), (.tmp 11)]⟩, []⟩, ⟨0, ⟨(some 13), (some (8, true)), (.load (.load 1 false)), [(.tmp 12)]⟩, []⟩, ⟨0, ⟨(some 14), none, (.pure .pick), [(.tmp 8), (.tmp 13), (.const (.bool false))]⟩, []⟩, ⟨0, ⟨(some 4), none, (.pure .id), [(.tmp 14)]⟩, []⟩]) .ret))⟩
theorem c_skolemref05_known : compF Tryz.prog Tryz.f130 = some G_skolemref05_known := by kernel_rfl
theorem gc_skolemref05_known {args : List DV} {σ : GS} {Post : DV → GS → Prop} (h : @exB Tryz.prog ⟨G_skolemref05_known.body⟩ (genv0 args G_skolemref05_known.ntmps) σ ⟨@gretB G_skolemref05_known.results ⟨Post⟩⟩) : GCall Tryz.prog F_skolemref05_known args σ Post := gcall_ofB seatfollows Tryz.func130 (by kernel_rfl) c_skolemref05_known h
noncomputable abbrev G_skolemref05_Vars : GFun := ⟨19, [(.tmp 2)], (.seq (.region [⟨0, ⟨(some 2), none, (.pure .id), [(.const .nils)]⟩, []⟩]) (.seq (.region [⟨0, ⟨(some 3), none, (.pure .id), [(.const .nils)]⟩, []⟩]) (.seq (.seq (.region [⟨0, ⟨(some 4), none, (.pure .id), [(.const (.int .i64 0))]⟩, []⟩]) (.block 0 (.loop (.seq (.seq (.region [⟨0, ⟨(some 5), none, (.pure .id), [(.tmp 4)]⟩, []⟩, ⟨0, ⟨(some 6), none, (.pure .id), [(.tmp 0)]⟩, []⟩, ⟨0, ⟨(some 7), none, (.pure .len), [(.tmp 6)]⟩, []⟩, ⟨0, ⟨(some 8), none, (.pure (.bin .lss .none)), [(.tmp 5), (.tmp 7)]⟩, []⟩]) (.cond (.tmp 8) .skip (.exit 0))) (.seq (.block 1 (.region [⟨0, ⟨(some 11), none, (.pure .id), [(.tmp 3)]⟩, []⟩, ⟨0, ⟨(some 12), none, (.pure .id), [(.tmp 0)]⟩, []⟩, ⟨0, ⟨(some 13), none, (.pure .id), [(.tmp 4)]⟩, []⟩, ⟨0, ⟨(some 14), none, (.pure (.iaddr 2)), [(.tmp 12), (.tmp 13)]⟩, []⟩, ⟨0, ⟨(some 15), none, (.pure (.faddr 1)), [(.tmp 14)]⟩, []⟩, ⟨0, ⟨(some 16), none, (.load (.load 1 false)), [(.tmp 15)]⟩, []⟩, ⟨0, ⟨(some 17), none, (.imp (.append 1 8)), [(.tmp 11), (.tmp 16)]⟩, []⟩, ⟨0, ⟨(some 3), none, (.pure .id), [(.tmp 17)]⟩, []⟩])) (.region [⟨0, ⟨(some 9), none, (.pure .id), [(.tmp 4)]⟩, []⟩, ⟨0, ⟨(some 10), none, (.pure (.bin .add .none)), [(.tmp 9), (.const (.int .i64 1))]⟩, []⟩, ⟨0, ⟨(some 4), none, (.pure .id), [(.tmp 10)]⟩, []⟩])))))) (.seq (.region [⟨0, ⟨(some 18), none, (.pure .id), [(.tmp 3)]⟩, []⟩, ⟨0, ⟨(some 2), none, (.pure .id), [(.tmp 18)]⟩, []⟩]) .ret))))⟩
theorem c_skolemref05_Vars : compF Tryz.prog Tryz.f49 = some G_skolemref05_Vars := by kernel_rfl
theorem gc_skolemref05_Vars {args : List DV} {σ : GS} {Post : DV → GS → Prop} (h : @exB Tryz.prog ⟨G_skolemref05_Vars.body⟩ (genv0 args G_skolemref05_Vars.ntmps) σ ⟨@gretB G_skolemref05_Vars.results ⟨Post⟩⟩) : GCall Tryz.prog F_skolemref05_Vars args σ Post := gcall_ofB seatfollows Tryz.func49 (by kernel_rfl) c_skolemref05_Vars h
noncomputable abbrev G_skolemlaw12_EncNets : GFun := ⟨55, [(.tmp 2)], (.seq (.region [⟨0, ⟨(some 1), none, (.new .box), [(.tmp 0)]⟩, []⟩, ⟨0, ⟨(some 2), none, (.pure .id), [(.const (.bool false))]⟩, []⟩]) (.seq (.seq (.region [⟨0, ⟨(some 11), none, (.load (.load 3 true)), [(.tmp 1)]⟩, []⟩, ⟨0, ⟨(some 12), none, (.call F_skolemlaw12_great), [(.tmp 11)]⟩, []⟩]) (.cond (.tmp 12) (.seq (.region [⟨0, ⟨(some 13), none, (.call F_skolemlaw12_works), []⟩, []⟩, ⟨0, ⟨(some 2), none, (.pure .id), [(.tmp 13)]⟩, []⟩]) .ret) .skip)) (.seq (.region [⟨0, ⟨(some 15), none, (.load (.load 3 true)), [(.tmp 1)]⟩, []⟩, ⟨0, ⟨(some 16), none, (.call F_enc_Net), [(.tmp 15)]⟩, []⟩, ⟨0, ⟨(some 14), none, (.pure .id), [(.tmp 16)]⟩, []⟩, ⟨0, ⟨(some 17), none, (.pure (.extract 0)), [(.tmp 14)]⟩, []⟩, ⟨0, ⟨(some 18), none, (.pure (.extract 1)), [(.tmp 14)]⟩, []⟩, ⟨0, ⟨(some 3), none, (.new (.alloc [.nils, .nils])), []⟩, []⟩, ⟨0, ⟨none, none, (.imp (.store 2)), [(.tmp 3), (.tmp 17)]⟩, []⟩, ⟨0, ⟨(some 4), none, (.pure .id), [(.tmp 18)]⟩, []⟩]) (.seq (.region [⟨0, ⟨(some 20), none, (.load (.load 3 true)), [(.tmp 1)]⟩, []⟩, ⟨0, ⟨(some 21), none, (.call F_skolemref12_Net), [(.tmp 20)]⟩, []⟩, ⟨0, ⟨(some 19), none, (.pure .id), [(.tmp 21)]⟩, []⟩, ⟨0, ⟨(some 22), none, (.pure (.extract 0)), [(.tmp 19)]⟩, []⟩, ⟨0, ⟨(some 23), none, (.pure (.extract 1)), [(.tmp 19)]⟩, []⟩, ⟨0, ⟨(some 5), none, (.new (.alloc [.nils, .nils])), []⟩, []⟩, ⟨0, ⟨none, none, (.imp (.store 2)), [(.tmp 5), (.tmp 22)]⟩, []⟩, ⟨0, ⟨(some 6), none, (.pure .id), [(.tmp 23)]⟩, []⟩]) (.seq (.region [⟨0, ⟨(some 25), none, (.load (.load 3 true)), [(.tmp 1)]⟩, []⟩, ⟨0, ⟨(some 26), none, (.call F_enc_Half), [(.tmp 25)]⟩, []⟩, ⟨0, ⟨(some 24), none, (.pure .id), [(.tmp 26)]⟩, []⟩, ⟨0, ⟨(some 27), none, (.pure (.extract 0)), [(.tmp 24)]⟩, []⟩, ⟨0, ⟨(some 28), none, (.pure (.extract 1)), [(.tmp 24)]⟩, []⟩, ⟨0, ⟨(some 7), none, (.new (.alloc [.nils, .nils])), []⟩, []⟩, ⟨0, ⟨none, none, (.imp (.store 2)), [(.tmp 7), (.tmp 27)]⟩, []⟩, ⟨0, ⟨(some 8), none, (.pure .id), [(.tmp 28)]⟩, []⟩]) (.seq (.region [⟨0, ⟨(some 30), none, (.load (.load 3 true)), [(.tmp 1)]⟩, []⟩, ⟨0, ⟨(some 31), none, (.call F_skolemref12_Half), [(.tmp 30)]⟩, []⟩, ⟨0, ⟨(some 29), none, (.pure .id), [(.tmp 31)]⟩, []⟩, ⟨0, ⟨(some 32), none, (.pure (.extract 0)), [(.tmp 29)]⟩, []⟩, ⟨0, ⟨(some 33), none, (.pure (.extract 1)), [(.tmp 29)]⟩, []⟩, ⟨0, ⟨(some 9), none, (.new (.alloc [.nils, .nils])), []⟩, []⟩, ⟨0, ⟨none, none, (.imp (.store 2)), [(.tmp 9), (.tmp 32)]⟩, []⟩, ⟨0, ⟨(some 10), none, (.pure .id), [(.tmp 33)]⟩, []⟩]) (.seq (.region [⟨0, ⟨(some 34), none, (.load (.load 2 true)), [(.tmp 3)]⟩, []⟩, ⟨0, ⟨(some 35), none, (.load (.load 2 true)), [(.tmp 5)]⟩, []⟩, ⟨0, ⟨(some 36), none, (.call F_skolemref12_Same), [(.tmp 34), (.tmp 35)]⟩, []⟩, ⟨0, ⟨(some 37), none, (.pure .id), [(.tmp 36)]⟩, []⟩, ⟨0, ⟨(some 38), (some (37, true)), (.pure .id), [(.tmp 4)]⟩, []⟩, ⟨0, ⟨(some 39), (some (37, true)), (.pure .id), [(.tmp 6)]⟩, []⟩, ⟨0, ⟨(some 40), (some (37, true)), (.pure (.bin .eql .none)), [(.tmp 38), (.tmp 39)]⟩, []⟩, ⟨0, ⟨(some 41), none, (.pure .pick), [(.tmp 37), (.tmp 40), (.const (.bool false))]⟩, []⟩, ⟨0, ⟨(some 42), none, (.pure .id), [(.tmp 41)]⟩, []⟩, ⟨0, ⟨(some 43), (some (42, true)), (.load (.load 2 true)), [(.tmp 7)]⟩, []⟩, ⟨0, ⟨(some 44), (some (42, true)), (.load (.load 2 true)), [(.tmp 9)]⟩, []⟩, ⟨0, ⟨(some 45), (some (42, true)), (.call F_skolemref12_Same), [(.tmp 43), (.tmp 44)]⟩, []⟩, ⟨0, ⟨(some 46), none, (.pure .pick), [(.tmp 42), (.tmp 45), (.const (.bool false))]⟩, []⟩, ⟨0, ⟨(some 47), none, (.pure .id), [(.tmp 46)]⟩, []⟩, ⟨0, ⟨(some 48), (some (47, true)), (.pure .id), [(.tmp 8)]⟩, []⟩, ⟨0, ⟨(some 49), (some (47, true)), (.pure .id), [(.tmp 10)]⟩, []⟩, ⟨0, ⟨(some 50), (some (47, true)), (.pure (.bin .eql .none)), [(.tmp 48), (.tmp 49)]⟩, []⟩, ⟨0, ⟨(some 51), none, (.pure .pick), [(.tmp 47), (.tmp 50), (.const (.bool false))]⟩, []⟩, ⟨0, ⟨(some 52), none, (.pure .id), [(.tmp 51)]⟩, []⟩, ⟨0, ⟨(some 53), (some (52, true)), (.call F_skolemlaw12_works), []⟩, []⟩, ⟨0, ⟨(some 54), none, (.pure .pick), [(.tmp 52), (.tmp 53), (.const (.bool false))]⟩, []⟩, ⟨0, ⟨(some 2), none, (.pure .id), [(.tmp 54)]⟩, []⟩]) .ret)))))))⟩
theorem c_skolemlaw12_EncNets : compF Tryz.prog Tryz.f7 = some G_skolemlaw12_EncNets := by kernel_rfl
theorem gc_skolemlaw12_EncNets {args : List DV} {σ : GS} {Post : DV → GS → Prop} (h : @exB Tryz.prog ⟨G_skolemlaw12_EncNets.body⟩ (genv0 args G_skolemlaw12_EncNets.ntmps) σ ⟨@gretB G_skolemlaw12_EncNets.results ⟨Post⟩⟩) : GCall Tryz.prog F_skolemlaw12_EncNets args σ Post := gcall_ofB seatfollows Tryz.func7 (by kernel_rfl) c_skolemlaw12_EncNets h
noncomputable abbrev G_skolemlaw12_great : GFun := ⟨27, [(.tmp 2)], (.seq (.region [⟨0, ⟨(some 1), none, (.new .box), [(.tmp 0)]⟩, []⟩, ⟨0, ⟨(some 2), none, (.pure .id), [(.const (.bool false))]⟩, []⟩]) (.seq (.region [⟨0, ⟨(some 3), none, (.pure .id), [(.const (.int .i64 0))]⟩, []⟩]) (.seq (.seq (.region [⟨0, ⟨(some 6), none, (.pure (.faddr 1)), [(.tmp 1)]⟩, []⟩, ⟨0, ⟨(some 7), none, (.load (.load 1 false)), [(.tmp 6)]⟩, []⟩, ⟨0, ⟨(some 8), none, (.pure .len), [(.tmp 7)]⟩, []⟩, ⟨0, ⟨(some 9), none, (.pure .id), [(.const (.int .i64 0))]⟩, []⟩]) (.block 0 (.loop (.seq (.region [⟨0, ⟨(some 10), none, (.pure (.bin .lss .none)), [(.tmp 9), (.tmp 8)]⟩, []⟩]) (.seq (.cond (.tmp 10) .skip (.exit 0)) (.seq (.block 1 (.seq (.region [⟨0, ⟨(some 11), none, (.pure (.iaddr 3)), [(.tmp 7), (.tmp 9)]⟩, []⟩, ⟨0, ⟨(some 12), none, (.load (.load 3 true)), [(.tmp 11)]⟩, []⟩, ⟨0, ⟨(some 5), none, (.new (.alloc [(.int .i64 0), (.int .u8 0), .nils])), []⟩, []⟩, ⟨0, ⟨none, none, (.imp (.store 3)), [(.tmp 5), (.tmp 12)]⟩, []⟩]) (.region [⟨0, ⟨(some 13), none, (.pure .id), [(.tmp 3)]⟩, []⟩, ⟨0, ⟨(some 14), none, (.pure (.faddr 2)), [(.tmp 5)]⟩, []⟩, ⟨0, ⟨(some 15), none, (.load (.load 1 false)), [(.tmp 14)]⟩, []⟩, ⟨0, ⟨(some 16), none, (.pure .len), [(.tmp 15)]⟩, []⟩, ⟨0, ⟨(some 17), none, (.pure (.bin .add .none)), [(.tmp 13), (.tmp 16)]⟩, []⟩, ⟨0, ⟨(some 3), none, (.pure .id), [(.tmp 17)]⟩, []⟩]))) (.region [⟨0, ⟨(some 18), none, (.pure (.bin .add .none)), [(.tmp 9), (.const (.int .i64 1))]⟩, []⟩, ⟨0, ⟨(some 9), none, (.pure .id), [(.tmp 18)]⟩, []⟩]))))))) (.seq (.region [⟨0, ⟨(some 19), none, (.pure (.faddr 1)), [(.tmp 1)]⟩, []⟩, ⟨0, ⟨(some 20), none, (.load (.load 1 false)), [(.tmp 19)]⟩, []⟩, ⟨0, ⟨(some 21), none, (.pure .len), [(.tmp 20)]⟩, []⟩, ⟨0, ⟨(some 22), none, (.pure (.bin .gtr .none)), [(.tmp 21), (.const (.int .i64 300))]⟩, []⟩, ⟨0, ⟨(some 23), none, (.pure .id), [(.tmp 22)]⟩, []⟩, ⟨0, ⟨(some 24), (some (23, false)), (.pure .id), [(.tmp 3)]⟩, []⟩, ⟨0, ⟨(some 25), (some (23, false)), (.pure (.bin .gtr .none)), [(.tmp 24), (.const (.int .i64 1500))]⟩, []⟩, ⟨0, ⟨(some 26), none, (.pure .pick), [(.tmp 23), (.const (.bool true)), (.tmp 25)]⟩, []⟩, ⟨0, ⟨(some 2), none, (.pure .id), [(.tmp 26)]⟩, []⟩]) .ret))))⟩
theorem c_skolemlaw12_great : compF Tryz.prog Tryz.f33 = some G_skolemlaw12_great := by kernel_rfl
theorem gc_skolemlaw12_great {args : List DV} {σ : GS} {Post : DV → GS → Prop} (h : @exB Tryz.prog ⟨G_skolemlaw12_great.body⟩ (genv0 args G_skolemlaw12_great.ntmps) σ ⟨@gretB G_skolemlaw12_great.results ⟨Post⟩⟩) : GCall Tryz.prog F_skolemlaw12_great args σ Post := gcall_ofB seatfollows Tryz.func33 (by kernel_rfl) c_skolemlaw12_great h
noncomputable abbrev G_circ_May : GFun := ⟨44, [(.tmp 2)], (.seq (.region [⟨0, ⟨(some 1), none, (.new .box), [(.tmp 0)]⟩, []⟩, ⟨0, ⟨(some 2), none, (.pure .id), [(.const (.bool false))]⟩, []⟩]) (.seq (.region [⟨0, ⟨(some 3), none, (.new (.abig 65537 (.bool false))), []⟩, []⟩]) (.seq (.seq (.region [⟨0, ⟨(some 7), none, (.pure (.faddr 0)), [(.tmp 1)]⟩, []⟩, ⟨0, ⟨(some 8), none, (.load (.load 1 false)), [(.tmp 7)]⟩, []⟩, ⟨0, ⟨(some 9), none, (.call F_circ_set_prefix), [(.tmp 3), (.tmp 8)]⟩, []⟩, ⟨0, ⟨(some 10), none, (.pure (.un .not)), [(.tmp 9)]⟩, []⟩, ⟨0, ⟨(some 11), none, (.pure .id), [(.tmp 10)]⟩, []⟩, ⟨0, ⟨(some 12), (some (11, false)), (.pure (.faddr 1)), [(.tmp 1)]⟩, []⟩, ⟨0, ⟨(some 13), (some (11, false)), (.load (.load 1 false)), [(.tmp 12)]⟩, []⟩, ⟨0, ⟨(some 14), (some (11, false)), (.call F_circ_literals), [(.tmp 13)]⟩, []⟩, ⟨0, ⟨(some 15), (some (11, false)), (.pure (.bin .gtr .none)), [(.tmp 14), (.const (.int .i64 200000))]⟩, []⟩, ⟨0, ⟨(some 16), none, (.pure .pick), [(.tmp 11), (.const (.bool true)), (.tmp 15)]⟩, []⟩]) (.cond (.tmp 16) (.seq (.region [⟨0, ⟨(some 2), none, (.pure .id), [(.const (.bool false))]⟩, []⟩]) .ret) .skip)) (.seq (.region [⟨0, ⟨(some 17), none, (.pure (.mkfunc F_circ_May_1 0)), [(.tmp 3)]⟩, []⟩, ⟨0, ⟨(some 4), none, (.pure .id), [(.tmp 17)]⟩, []⟩]) (.seq (.seq (.region [⟨0, ⟨(some 18), none, (.pure (.faddr 1)), [(.tmp 1)]⟩, []⟩, ⟨0, ⟨(some 19), none, (.load (.load 1 false)), [(.tmp 18)]⟩, []⟩, ⟨0, ⟨(some 20), none, (.pure .len), [(.tmp 19)]⟩, []⟩, ⟨0, ⟨(some 21), none, (.pure .id), [(.const (.int .i64 0))]⟩, []⟩]) (.block 0 (.loop (.seq (.region [⟨0, ⟨(some 22), none, (.pure (.bin .lss .none)), [(.tmp 21), (.tmp 20)]⟩, []⟩]) (.seq (.cond (.tmp 22) .skip (.exit 0)) (.seq (.block 1 (.seq (.region [⟨0, ⟨(some 23), none, (.pure (.iaddr 3)), [(.tmp 19), (.tmp 21)]⟩, []⟩, ⟨0, ⟨(some 24), none, (.load (.load 3 true)), [(.tmp 23)]⟩, []⟩, ⟨0, ⟨(some 6), none, (.new (.alloc [(.int .i64 0), (.int .u8 0), .nils])), []⟩, []⟩, ⟨0, ⟨none, none, (.imp (.store 3)), [(.tmp 6), (.tmp 24)]⟩, []⟩]) (.seq (.region [⟨0, ⟨(some 25), none, (.load (.load 3 true)), [(.tmp 6)]⟩, []⟩, ⟨0, ⟨(some 26), none, (.call F_circ_shaped), [(.tmp 25)]⟩, []⟩, ⟨0, ⟨(some 27), none, (.pure (.un .not)), [(.tmp 26)]⟩, []⟩, ⟨0, ⟨(some 28), none, (.pure .id), [(.tmp 27)]⟩, []⟩, ⟨0, ⟨(some 29), (some (28, false)), (.pure (.faddr 2)), [(.tmp 6)]⟩, []⟩, ⟨0, ⟨(some 30), (some (28, false)), (.load (.load 1 false)), [(.tmp 29)]⟩, []⟩, ⟨0, ⟨(some 31), (some (28, false)), (.pure .id), [(.tmp 4)]⟩, []⟩, ⟨0, ⟨(some 32), (some (28, false)), (.call F_slices_ContainsFunc_int_int), [(.tmp 30), (.tmp 31)]⟩, []⟩, ⟨0, ⟨(some 33), none, (.pure .pick), [(.tmp 28), (.const (.bool true)), (.tmp 32)]⟩, []⟩, ⟨0, ⟨(some 34), none, (.pure .id), [(.tmp 33)]⟩, []⟩, ⟨0, ⟨(some 35), (some (34, false)), (.pure (.faddr 0)), [(.tmp 6)]⟩, []⟩, ⟨0, ⟨(some 36), (some (34, false)), (.load (.load 1 false)), [(.tmp 35)]⟩, []⟩, ⟨0, ⟨(some 37), (some (34, false)), (.call F_circ_set_add), [(.tmp 3), (.tmp 36)]⟩, []⟩, ⟨0, ⟨(some 38), (some (34, false)), (.pure (.un .not)), [(.tmp 37)]⟩, []⟩, ⟨0, ⟨(some 39), none, (.pure .pick), [(.tmp 34), (.const (.bool true)), (.tmp 38)]⟩, []⟩]) (.cond (.tmp 39) (.seq (.region [⟨0, ⟨(some 2), none, (.pure .id), [(.const (.bool false))]⟩, []⟩]) .ret) .skip)))) (.region [⟨0, ⟨(some 40), none, (.pure (.bin .add .none)), [(.tmp 21), (.const (.int .i64 1))]⟩, []⟩, ⟨0, ⟨(some 21), none, (.pure .id), [(.tmp 40)]⟩, []⟩]))))))) (.seq (.region [⟨0, ⟨(some 41), none, (.pure (.faddr 2)), [(.tmp 1)]⟩, []⟩, ⟨0, ⟨(some 42), none, (.load (.load 1 false)), [(.tmp 41)]⟩, []⟩, ⟨0, ⟨(some 43), none, (.call F_circ_set_has), [(.tmp 3), (.tmp 42)]⟩, []⟩, ⟨0, ⟨(some 2), none, (.pure .id), [(.tmp 43)]⟩, []⟩]) .ret))))))⟩
theorem c_circ_May : compF Tryz.prog Tryz.f96 = some G_circ_May := by kernel_rfl
theorem gc_circ_May {args : List DV} {σ : GS} {Post : DV → GS → Prop} (h : @exB Tryz.prog ⟨G_circ_May.body⟩ (genv0 args G_circ_May.ntmps) σ ⟨@gretB G_circ_May.results ⟨Post⟩⟩) : GCall Tryz.prog F_circ_May args σ Post := gcall_ofB seatfollows Tryz.func96 (by kernel_rfl) c_circ_May h
noncomputable abbrev G_circ_May_1 : GFun := ⟨7, [(.tmp 3)], (.seq (.region [⟨0, ⟨(some 3), none, (.pure .id), [(.const (.bool false))]⟩, []⟩]) (.seq (.region [⟨0, ⟨(some 4), none, (.pure .id), [(.tmp 0)]⟩, []⟩, ⟨0, ⟨(some 5), none, (.call F_circ_set_has), [(.tmp 1), (.tmp 4)]⟩, []⟩, ⟨0, ⟨(some 6), none, (.pure (.un .not)), [(.tmp 5)]⟩, []⟩, ⟨0, ⟨(some 3), none, (.pure .id), [(.tmp 6)]⟩, []⟩]) .ret))⟩
theorem c_circ_May_1 : compF Tryz.prog Tryz.f166 = some G_circ_May_1 := by kernel_rfl
theorem gc_circ_May_1 {args : List DV} {σ : GS} {Post : DV → GS → Prop} (h : @exB Tryz.prog ⟨G_circ_May_1.body⟩ (genv0 args G_circ_May_1.ntmps) σ ⟨@gretB G_circ_May_1.results ⟨Post⟩⟩) : GCall Tryz.prog F_circ_May_1 args σ Post := gcall_ofB seatfollows Tryz.func166 (by kernel_rfl) c_circ_May_1 h
noncomputable abbrev G_circ_set_prefix : GFun := ⟨55, [(.tmp 4)], (.seq (.region [⟨0, ⟨(some 4), none, (.pure .id), [(.const (.bool false))]⟩, []⟩]) (.seq (.region [⟨0, ⟨(some 5), none, (.pure .id), [(.const (.int .i64 0))]⟩, []⟩]) (.seq (.seq (.region [⟨0, ⟨(some 10), none, (.pure .id), [(.tmp 1)]⟩, []⟩, ⟨0, ⟨(some 11), none, (.pure .len), [(.tmp 10)]⟩, []⟩, ⟨0, ⟨(some 12), none, (.pure .id), [(.const (.int .i64 0))]⟩, []⟩]) (.block 0 (.loop (.seq (.region [⟨0, ⟨(some 13), none, (.pure (.bin .lss .none)), [(.tmp 12), (.tmp 11)]⟩, []⟩]) (.seq (.cond (.tmp 13) .skip (.exit 0)) (.seq (.block 1 (.seq (.region [⟨0, ⟨(some 14), none, (.pure .id), [(.tmp 12)]⟩, []⟩, ⟨0, ⟨(some 15), none, (.pure (.iaddr 2)), [(.tmp 10), (.tmp 12)]⟩, []⟩, ⟨0, ⟨(some 16), none, (.load (.load 2 true)), [(.tmp 15)]⟩, []⟩, ⟨0, ⟨(some 7), none, (.new (.alloc [(.bool false), .nils])), []⟩, []⟩, ⟨0, ⟨(some 6), none, (.pure .id), [(.tmp 14)]⟩, []⟩, ⟨0, ⟨none, none, (.imp (.store 2)), [(.tmp 7), (.tmp 16)]⟩, []⟩]) (.seq (.seq (.region [⟨0, ⟨(some 17), none, (.pure (.faddr 1)), [(.tmp 7)]⟩, []⟩, ⟨1, ⟨(some 18), none, (.load (.load 1 false)), [(.tmp 17)]⟩, []⟩, ⟨2, ⟨(some 19), none, (.pure .len), [(.tmp 18)]⟩, []⟩, ⟨3, ⟨(some 20), none, (.pure (.bin .eql .none)), [(.tmp 19), (.const (.int .i64 0))]⟩, []⟩, ⟨4, ⟨(some 21), none, (.pure .id), [(.tmp 20)]⟩, []⟩, ⟨5, ⟨(some 22), (some (21, false)), (.pure .id), [(.tmp 6)]⟩, []⟩, ⟨6, ⟨(some 23), (some (21, false)), (.pure (.bin .gtr .none)), [(.tmp 22), (.const (.int .i64 0))]⟩, []⟩, ⟨7, ⟨(some 24), (some (21, false)), (.pure .id), [(.tmp 23)]⟩, []⟩, ⟨8, ⟨(some 25), (some (24, true)), (.pure (.faddr 0)), [(.tmp 7)]⟩, []⟩, ⟨9, ⟨(some 26), (some (24, true)), (.load (.load 1 false)), [(.tmp 25)]⟩, []⟩, ⟨10, ⟨(some 27), (some (24, true)), (.pure .id), [(.tmp 1)]⟩, []⟩, ⟨11, ⟨(some 28), (some (24, true)), (.pure .id), [(.tmp 6)]⟩, []⟩, ⟨12, ⟨(some 29), (some (24, true)), (.pure (.bin .sub .none)), [(.tmp 28), (.const (.int .i64 1))]⟩, []⟩, ⟨13, ⟨(some 30), (some (24, true)), (.pure (.iaddr 2)), [(.tmp 27), (.tmp 29)]⟩, []⟩, ⟨14, ⟨(some 31), (some (24, true)), (.pure (.faddr 0)), [(.tmp 30)]⟩, []⟩, ⟨15, ⟨(some 32), (some (24, true)), (.load (.load 1 false)), [(.tmp 31)]⟩, []⟩, ⟨16, ⟨(some 33), (some (24, true)), (.pure (.bin .eql .bool)), [(.tmp 26), (.tmp 32)]⟩, []⟩, ⟨17, ⟨(some 34), (some (21, false)), (.pure .pick), [(.tmp 24), (.tmp 33), (.const (.bool false))]⟩, []⟩, ⟨18, ⟨(some 35), none, (.pure .pick), [(.tmp 21), (.const (.bool true)), (.tmp 34)]⟩, []⟩]) (.cond (.tmp 35) (.seq (.region [⟨0, ⟨(some 4), none, (.pure .id), [(.const (.bool false))]⟩, []⟩]) .ret) .skip)) (.seq (.region [⟨0, ⟨(some 36), none, (.pure (.faddr 1)), [(.tmp 7)]⟩, []⟩, ⟨0, ⟨(some 37), none, (.load (.load 1 false)), [(.tmp 36)]⟩, []⟩, ⟨0, ⟨(some 38), none, (.pure .len), [(.tmp 37)]⟩, []⟩, ⟨0, ⟨(some 39), none, (.pure .id), [(.const (.int .i64 0))]⟩, []⟩]) (.block 2 (.loop (.seq (.region [⟨0, ⟨(some 40), none, (.pure (.bin .lss .none)), [(.tmp 39), (.tmp 38)]⟩, []⟩]) (.seq (.cond (.tmp 40) .skip (.exit 2)) (.seq (.block 3 (.seq (.region [⟨0, ⟨(some 41), none, (.pure (.iaddr 1)), [(.tmp 37), (.tmp 39)]⟩, []⟩, ⟨0, ⟨(some 42), none, (.load (.load 1 false)), [(.tmp 41)]⟩, []⟩, ⟨0, ⟨(some 9), none, (.pure .id), [(.tmp 42)]⟩, []⟩]) (.seq (.region [⟨0, ⟨(some 43), none, (.pure .id), [(.tmp 5)]⟩, []⟩, ⟨0, ⟨(some 44), none, (.pure (.bin .add .none)), [(.tmp 43), (.const (.int .i64 1))]⟩, []⟩, ⟨0, ⟨(some 5), none, (.pure .id), [(.tmp 44)]⟩, []⟩]) (.seq (.region [⟨0, ⟨(some 45), none, (.pure .id), [(.tmp 5)]⟩, []⟩, ⟨0, ⟨(some 46), none, (.pure (.bin .gtr .none)), [(.tmp 45), (.const (.int .i64 1024))]⟩, []⟩, ⟨0, ⟨(some 47), none, (.pure .id), [(.tmp 46)]⟩, []⟩, ⟨0, ⟨(some 48), (some (47, false)), (.pure .id), [(.tmp 0)]⟩, []⟩, ⟨0, ⟨(some 49), (some (47, false)), (.pure .id), [(.tmp 9)]⟩, []⟩, ⟨0, ⟨(some 50), (some (47, false)), (.call F_circ_set_add), [(.tmp 48), (.tmp 49)]⟩, []⟩, ⟨0, ⟨(some 51), (some (47, false)), (.pure (.un .not)), [(.tmp 50)]⟩, []⟩, ⟨0, ⟨(some 52), none, (.pure .pick), [(.tmp 47), (.const (.bool true)), (.tmp 51)]⟩, []⟩]) (.cond (.tmp 52) (.seq (.region [⟨0, ⟨(some 4), none, (.pure .id), [(.const (.bool false))]⟩, []⟩]) .ret) .skip))))) (.region [⟨0, ⟨(some 53), none, (.pure (.bin .add .none)), [(.tmp 39), (.const (.int .i64 1))]⟩, []⟩, ⟨0, ⟨(some 39), none, (.pure .id), [(.tmp 53)]⟩, []⟩])))))))))) (.region [⟨0, ⟨(some 54), none, (.pure (.bin .add .none)), [(.tmp 12), (.const (.int .i64 1))]⟩, []⟩, ⟨0, ⟨(some 12), none, (.pure .id), [(.tmp 54)]⟩, []⟩]))))))) (.seq (.region [⟨0, ⟨(some 4), none, (.pure .id), [(.const (.bool true))]⟩, []⟩]) .ret))))⟩
theorem c_circ_set_prefix : compF Tryz.prog Tryz.f164 = some G_circ_set_prefix := by kernel_rfl
theorem gc_circ_set_prefix {args : List DV} {σ : GS} {Post : DV → GS → Prop} (h : @exB Tryz.prog ⟨G_circ_set_prefix.body⟩ (genv0 args G_circ_set_prefix.ntmps) σ ⟨@gretB G_circ_set_prefix.results ⟨Post⟩⟩) : GCall Tryz.prog F_circ_set_prefix args σ Post := gcall_ofB seatfollows Tryz.func164 (by kernel_rfl) c_circ_set_prefix h
noncomputable abbrev G_circ_set_has : GFun := ⟨11, [(.tmp 4)], (.seq (.region [⟨0, ⟨(some 4), none, (.pure .id), [(.const (.bool false))]⟩, []⟩]) (.seq (.region [⟨0, ⟨(some 5), none, (.pure .id), [(.tmp 0)]⟩, []⟩, ⟨1, ⟨(some 6), none, (.pure .id), [(.tmp 1)]⟩, []⟩, ⟨3, ⟨(some 8), none, (.pure .nilck), [(.tmp 5)]⟩, []⟩, ⟨2, ⟨(some 7), none, (.call F_circ_abs), [(.tmp 6)]⟩, []⟩, ⟨4, ⟨(some 9), none, (.pure (.iarr 65537 1)), [(.tmp 8), (.tmp 7)]⟩, []⟩, ⟨5, ⟨(some 10), none, (.load (.load 1 false)), [(.tmp 9)]⟩, []⟩, ⟨6, ⟨(some 4), none, (.pure .id), [(.tmp 10)]⟩, []⟩]) .ret))⟩
theorem c_circ_set_has : compF Tryz.prog Tryz.f167 = some G_circ_set_has := by kernel_rfl
theorem gc_circ_set_has {args : List DV} {σ : GS} {Post : DV → GS → Prop} (h : @exB Tryz.prog ⟨G_circ_set_has.body⟩ (genv0 args G_circ_set_has.ntmps) σ ⟨@gretB G_circ_set_has.results ⟨Post⟩⟩) : GCall Tryz.prog F_circ_set_has args σ Post := gcall_ofB seatfollows Tryz.func167 (by kernel_rfl) c_circ_set_has h
noncomputable abbrev G_circ_set_add : GFun := ⟨22, [(.tmp 4)], (.seq (.region [⟨0, ⟨(some 4), none, (.pure .id), [(.const (.bool false))]⟩, []⟩]) (.seq (.seq (.region [⟨0, ⟨(some 5), none, (.pure .id), [(.tmp 1)]⟩, []⟩, ⟨0, ⟨(some 6), none, (.pure (.bin .lss .none)), [(.tmp 5), (.const (.int .i64 1))]⟩, []⟩, ⟨0, ⟨(some 7), none, (.pure .id), [(.tmp 6)]⟩, []⟩, ⟨0, ⟨(some 8), (some (7, false)), (.pure .id), [(.tmp 1)]⟩, []⟩, ⟨0, ⟨(some 9), (some (7, false)), (.pure (.bin .gtr .none)), [(.tmp 8), (.const (.int .i64 65536))]⟩, []⟩, ⟨0, ⟨(some 10), none, (.pure .pick), [(.tmp 7), (.const (.bool true)), (.tmp 9)]⟩, []⟩, ⟨0, ⟨(some 11), none, (.pure .id), [(.tmp 10)]⟩, []⟩, ⟨0, ⟨(some 12), (some (11, false)), (.pure .id), [(.tmp 0)]⟩, []⟩, ⟨0, ⟨(some 13), (some (11, false)), (.pure .id), [(.tmp 1)]⟩, []⟩, ⟨0, ⟨(some 14), (some (11, false)), (.pure .nilck), [(.tmp 12)]⟩, []⟩, ⟨0, ⟨(some 15), (some (11, false)), (.pure (.iarr 65537 1)), [(.tmp 14), (.tmp 13)]⟩, []⟩, ⟨0, ⟨(some 16), (some (11, false)), (.load (.load 1 false)), [(.tmp 15)]⟩, []⟩, ⟨0, ⟨(some 17), none, (.pure .pick), [(.tmp 11), (.const (.bool true)), (.tmp 16)]⟩, []⟩]) (.cond (.tmp 17) (.seq (.region [⟨0, ⟨(some 4), none, (.pure .id), [(.const (.bool false))]⟩, []⟩]) .ret) .skip)) (.seq (.region [⟨0, ⟨(some 18), none, (.pure .id), [(.tmp 0)]⟩, []⟩, ⟨0, ⟨(some 19), none, (.pure .id), [(.tmp 1)]⟩, []⟩, ⟨0, ⟨(some 20), none, (.pure .nilck), [(.tmp 18)]⟩, []⟩, ⟨0, ⟨(some 21), none, (.pure (.iarr 65537 1)), [(.tmp 20), (.tmp 19)]⟩, []⟩, ⟨0, ⟨none, none, (.imp (.store 1)), [(.tmp 21), (.const (.bool true))]⟩, []⟩]) (.seq (.region [⟨0, ⟨(some 4), none, (.pure .id), [(.const (.bool true))]⟩, []⟩]) .ret))))⟩
theorem c_circ_set_add : compF Tryz.prog Tryz.f169 = some G_circ_set_add := by kernel_rfl
theorem gc_circ_set_add {args : List DV} {σ : GS} {Post : DV → GS → Prop} (h : @exB Tryz.prog ⟨G_circ_set_add.body⟩ (genv0 args G_circ_set_add.ntmps) σ ⟨@gretB G_circ_set_add.results ⟨Post⟩⟩) : GCall Tryz.prog F_circ_set_add args σ Post := gcall_ofB seatfollows Tryz.func169 (by kernel_rfl) c_circ_set_add h
noncomputable abbrev G_circ_literals : GFun := ⟨18, [(.tmp 2)], (.seq (.region [⟨0, ⟨(some 2), none, (.pure .id), [(.const (.int .i64 0))]⟩, []⟩]) (.seq (.seq (.region [⟨0, ⟨(some 5), none, (.pure .id), [(.tmp 0)]⟩, []⟩, ⟨0, ⟨(some 6), none, (.pure .len), [(.tmp 5)]⟩, []⟩, ⟨0, ⟨(some 7), none, (.pure .id), [(.const (.int .i64 0))]⟩, []⟩]) (.block 0 (.loop (.seq (.region [⟨0, ⟨(some 8), none, (.pure (.bin .lss .none)), [(.tmp 7), (.tmp 6)]⟩, []⟩]) (.seq (.cond (.tmp 8) .skip (.exit 0)) (.seq (.block 1 (.seq (.region [⟨0, ⟨(some 9), none, (.pure (.iaddr 3)), [(.tmp 5), (.tmp 7)]⟩, []⟩, ⟨0, ⟨(some 10), none, (.load (.load 3 true)), [(.tmp 9)]⟩, []⟩, ⟨0, ⟨(some 4), none, (.new (.alloc [(.int .i64 0), (.int .u8 0), .nils])), []⟩, []⟩, ⟨0, ⟨none, none, (.imp (.store 3)), [(.tmp 4), (.tmp 10)]⟩, []⟩]) (.region [⟨0, ⟨(some 11), none, (.pure .id), [(.tmp 2)]⟩, []⟩, ⟨0, ⟨(some 12), none, (.pure (.faddr 2)), [(.tmp 4)]⟩, []⟩, ⟨0, ⟨(some 13), none, (.load (.load 1 false)), [(.tmp 12)]⟩, []⟩, ⟨0, ⟨(some 14), none, (.pure .len), [(.tmp 13)]⟩, []⟩, ⟨0, ⟨(some 15), none, (.pure (.bin .add .none)), [(.tmp 11), (.tmp 14)]⟩, []⟩, ⟨0, ⟨(some 2), none, (.pure .id), [(.tmp 15)]⟩, []⟩]))) (.region [⟨0, ⟨(some 16), none, (.pure (.bin .add .none)), [(.tmp 7), (.const (.int .i64 1))]⟩, []⟩, ⟨0, ⟨(some 7), none, (.pure .id), [(.tmp 16)]⟩, []⟩]))))))) (.seq (.region [⟨0, ⟨(some 17), none, (.pure .id), [(.tmp 2)]⟩, []⟩, ⟨0, ⟨(some 2), none, (.pure .id), [(.tmp 17)]⟩, []⟩]) .ret)))⟩
theorem c_circ_literals : compF Tryz.prog Tryz.f165 = some G_circ_literals := by kernel_rfl
theorem gc_circ_literals {args : List DV} {σ : GS} {Post : DV → GS → Prop} (h : @exB Tryz.prog ⟨G_circ_literals.body⟩ (genv0 args G_circ_literals.ntmps) σ ⟨@gretB G_circ_literals.results ⟨Post⟩⟩) : GCall Tryz.prog F_circ_literals args σ Post := gcall_ofB seatfollows Tryz.func165 (by kernel_rfl) c_circ_literals h
noncomputable abbrev G_circ_shaped : GFun := ⟨20, [(.tmp 2)], (.seq (.region [⟨0, ⟨(some 1), none, (.new .box), [(.tmp 0)]⟩, []⟩, ⟨0, ⟨(some 2), none, (.pure .id), [(.const (.bool false))]⟩, []⟩]) (.seq (.seq (.region [⟨0, ⟨(some 4), none, (.pure (.faddr 2)), [(.tmp 1)]⟩, []⟩, ⟨0, ⟨(some 5), none, (.load (.load 1 false)), [(.tmp 4)]⟩, []⟩, ⟨0, ⟨(some 6), none, (.pure .len), [(.tmp 5)]⟩, []⟩, ⟨0, ⟨(some 3), none, (.pure .id), [(.tmp 6)]⟩, []⟩]) (.seq (.region [⟨0, ⟨(some 7), none, (.pure (.faddr 1)), [(.tmp 1)]⟩, []⟩, ⟨0, ⟨(some 8), none, (.load (.load 1 false)), [(.tmp 7)]⟩, []⟩]) (.block 0 (.seq (.seq (.region [⟨0, ⟨(some 10), none, (.pure (.bin .eql .none)), [(.tmp 8), (.const (.int .u8 1))]⟩, []⟩, ⟨0, ⟨(some 9), none, (.pure .id), [(.tmp 10)]⟩, []⟩]) (.cond (.tmp 9) .skip (.region [⟨0, ⟨(some 11), none, (.pure (.bin .eql .none)), [(.tmp 8), (.const (.int .u8 2))]⟩, []⟩, ⟨0, ⟨(some 9), none, (.pure .id), [(.tmp 11)]⟩, []⟩]))) (.cond (.tmp 9) (.seq (.region [⟨0, ⟨(some 2), none, (.pure .id), [(.const (.bool true))]⟩, []⟩]) .ret) (.seq (.region [⟨0, ⟨(some 13), none, (.pure (.bin .eql .none)), [(.tmp 8), (.const (.int .u8 3))]⟩, []⟩, ⟨0, ⟨(some 12), none, (.pure .id), [(.tmp 13)]⟩, []⟩]) (.cond (.tmp 12) (.seq (.region [⟨0, ⟨(some 14), none, (.pure .id), [(.tmp 3)]⟩, []⟩, ⟨0, ⟨(some 15), none, (.pure (.bin .eql .none)), [(.tmp 14), (.const (.int .i64 2))]⟩, []⟩, ⟨0, ⟨(some 2), none, (.pure .id), [(.tmp 15)]⟩, []⟩]) .ret) (.seq (.region [⟨0, ⟨(some 17), none, (.pure (.bin .eql .none)), [(.tmp 8), (.const (.int .u8 4))]⟩, []⟩, ⟨0, ⟨(some 16), none, (.pure .id), [(.tmp 17)]⟩, []⟩]) (.cond (.tmp 16) (.seq (.region [⟨0, ⟨(some 18), none, (.pure .id), [(.tmp 3)]⟩, []⟩, ⟨0, ⟨(some 19), none, (.pure (.bin .eql .none)), [(.tmp 18), (.const (.int .i64 3))]⟩, []⟩, ⟨0, ⟨(some 2), none, (.pure .id), [(.tmp 19)]⟩, []⟩]) .ret) .skip))))))))) (.seq (.region [⟨0, ⟨(some 2), none, (.pure .id), [(.const (.bool false))]⟩, []⟩]) .ret)))⟩
theorem c_circ_shaped : compF Tryz.prog Tryz.f168 = some G_circ_shaped := by kernel_rfl
theorem gc_circ_shaped {args : List DV} {σ : GS} {Post : DV → GS → Prop} (h : @exB Tryz.prog ⟨G_circ_shaped.body⟩ (genv0 args G_circ_shaped.ntmps) σ ⟨@gretB G_circ_shaped.results ⟨Post⟩⟩) : GCall Tryz.prog F_circ_shaped args σ Post := gcall_ofB seatfollows Tryz.func168 (by kernel_rfl) c_circ_shaped h
end Go.Gh
namespace Go.Gh
open Go.Proofs
end Go.Gh
namespace Go.Gh
open Go.RowKit Go.Proofs
set_option linter.unusedVariables false
set_option linter.unusedSimpArgs false
set_option maxRecDepth 100000
end Go.Gh
namespace Go.Gh
open Go.RowKit Go.Proofs
set_option linter.unusedVariables false
set_option linter.unusedSimpArgs false
set_option maxRecDepth 100000
end Go.Gh
namespace Go.Gh
open Go.RowKit Go.Proofs
set_option linter.unusedVariables false
set_option linter.unusedSimpArgs false
set_option maxRecDepth 100000
theorem fm_take0 {i : List Int} {j : Nat} {y : Int} (h : i[j]? = some y) (f : Int → List Int) : ((i.take (j + 1)).map f).filterMap normL = ((i.take j).map f).filterMap normL ++ (normL (f y)).toList := by simpa using fm_take (f := f) h []
/-- One slice of one's own turns into another. -/
structure SS (σ : GS) (s : DV) (σ' : GS) (s' : DV) : Prop where
  len : σ.length ≤ σ'.length
  get : ∀ i, i < σ.length → ¬ s.has i → σ'[i]? = σ[i]?
  has : ∀ i, s'.has i → s.has i ∨ σ.length ≤ i
theorem SS.refl (σ : GS) (s : DV) : SS σ s σ s := ⟨Nat.le_refl _, fun _ _ _ => rfl, fun _ h => .inl h⟩
theorem SS.trans {a b c : GS} {s t u : DV} (h : SS a s b t) (k : SS b t c u) : SS a s c u :=
  ⟨Nat.le_trans h.len k.len, fun i hi hn => (k.get i (by have := h.len; omega) fun ht => by rcases h.has i ht with h1 | h1; exact hn h1; omega).trans (h.get i hi hn), fun i hi => by
    rcases k.has i hi with h1 | h1
    · exact h.has i h1
    · exact .inr (by have := h.len; omega)⟩
theorem SS.fr {n : Nat} {α : Type} {sz : Nat} {enc : α → List DV} {σ σ' : GS} {s s' : DV} {xs : List α} (h : SS σ s σ' s') (hO : Own n sz enc σ s xs) (hn : n ≤ σ.length) : Fr n σ σ' :=
  ⟨by have := h.len; omega, fun i hi => h.get i (by omega) fun hh => by have := hO.has_ge hh; omega⟩
theorem SS.app {σ : GS} {s : DV} (τ : GS) : SS σ s (σ ++ τ) s := ⟨by simp, fun i hi _ => List.getElem?_append_left hi, fun i h => .inl h⟩
theorem r12_Put_ok {n m : Nat} {s t : DV} {cs : List (List Int)} {raw : List Int} {σ : GS} {Post : DV → GS → Prop} (hS : Own n 1 ecl σ s cs) (hT : Own m 1 eint σ t raw) (hn : n ≤ σ.length) (hl : raw.length < 2 ^ 30) (hlit : ∀ x ∈ raw, Lt x) (hcs : cs.length < 2 ^ 40)
    (k : ∀ s' σ', Own n 1 ecl σ' s' (cs ++ (normL raw).toList) → SS σ s σ' s' → Post s' σ') : GCall Tryz.prog F_skolemref12_Put [s, t] σ Post := by
  refine gc_skolemref12_Put ?_
  simp [G_skolemref12_Put, genv0, List.replicate]
  refine r12_sorted_ok hT hl hlit ?_
  cases h : normL raw with
  | none =>
    rw [h] at k
    simp
    exact k _ _ (by simpa using hS) (.refl _ _)
  | some r =>
    rw [h] at k
    obtain ⟨s', σ', q1, q2, q3, q4, q5, q6⟩ := hS.push (by_ := 24) r (fun _ => rfl) (by simp) hn (by omega) (by decide)
    have hba : galloc (.bslice 1 [.nils] 1 [(0, 1)]) [fints r] = some (.row false (ecl r), fun id => .slice id 0 1 1 (some 1)) := ga_b1_flat rfl
    simp [hba, q1]
    exact k _ _ q2 ⟨q4, q5, q6⟩
theorem row_ld {σ σ1 : GS} {g : GateP} (hF : Fr (σ.length + 1) (σ ++ [.row false (egate g)]) σ1) : gload (.load 1 false) [.ptr σ.length 0] σ1 = some (.int .i64 g.v) ∧ gload (.load 1 false) [.ptr σ.length 1] σ1 = some (.int .u8 g.k) ∧ gload (.load 1 false) [.ptr σ.length 2] σ1 = some (fints g.ins) := by
  have hrow : σ1[σ.length]? = some (.row false (egate g)) := by
    have := hF.get σ.length (by omega)
    rw [this, getE_tail0]; rfl
  exact ⟨ld_at hrow, ld_at hrow, ld_at hrow⟩
theorem gcl_1r (x : Int) (i : List Int) (pl mi : Bool) (hx : x ≠ 0) (hi : ∀ l ∈ i, l ≠ 0) : gcl x 1 i pl mi = (if pl = true then (i.map fun l => [-x, l]).filterMap normL else []) ++ (if mi = true then (normL (x :: i.map fun l => -l)).toList else []) := by
  rw [gcl_1, gcl_wideA hx hi]
  cases mi
  · rfl
  · have := fm_snoc [] ((i.map fun l => -l) ++ [x])
    simp only [List.nil_append, List.filterMap_nil] at this
    rw [if_pos rfl, if_pos rfl, this]
theorem gcl_2r (x : Int) (i : List Int) (pl mi : Bool) (hx : x ≠ 0) (hi : ∀ l ∈ i, l ≠ 0) : gcl x 2 i pl mi = (if pl = true then (normL (-x :: i)).toList else []) ++ (if mi = true then (i.map fun l => [x, -l]).filterMap normL else []) := by
  rw [gcl_2, gcl_wideO hx hi]
  cases pl
  · rfl
  · have := fm_snoc [] (i ++ [-x])
    simp only [List.nil_append, List.filterMap_nil] at this
    rw [if_pos rfl, if_pos rfl, this]
@[simp] theorem wrap_m1 : IntKind.i64.wrap (-1) = -1 := by decide
theorem Lt.wrapI {x : Int} (h : Lt x) : IntKind.i64.wrap x = x := by unfold Lt at h; rw [wrap_small] <;> omega
set_option maxHeartbeats 1000000 in
theorem r12_cl1_ok {x : Int} {i : List Int} {pl mi : Bool} {σ : GS} {Post : DV → GS → Prop} (hx : Lt x) (hi : ∀ l ∈ i, Lt l) (hil : i.length < 2 ^ 29) (h : Post (fcls (gcl x 1 i pl mi)) σ) : GCall Tryz.prog F_skolemref12_Clauses [GateP.enc ⟨x, 1, i⟩, .bool pl, .bool mi] σ Post := by
  refine GCall.pure (r := fcls (gcl x 1 i pl mi)) ?_ (by simp) h
  rw [gcl_1r x i pl mi hx.1 fun l hl => (hi l hl).1]
  refine gc_skolemref12_Clauses ?_
  simp [G_skolemref12_Clauses, genv0, List.replicate, hx.wrapI, hx.wrapN]
  obtain ⟨g, hg⟩ : ∃ g, g = GateP.mk x 1 i := ⟨_, rfl⟩
  have hgr : [DV.int .i64 x, .int .u8 1, fints i] = egate g := by rw [hg]
  have ld : ∀ {σ1 : GS}, Fr (σ.length + 1) (σ ++ [.row false (egate g)]) σ1 → gload (.load 1 false) [.ptr σ.length 0] σ1 = some (.int .i64 x) ∧ gload (.load 1 false) [.ptr σ.length 1] σ1 = some (.int .u8 1) ∧ gload (.load 1 false) [.ptr σ.length 2] σ1 = some (fints i) := fun hF => by have := row_ld hF; rw [hg] at this; exact this
  refine gfor i.length (fun j e σ' => Fr (σ.length + 1) (σ ++ [.row false (egate g)]) σ' ∧ ∃ w, Own (σ.length + 1) 1 eint σ' w (x :: (i.take j).map (fun l => -l)) ∧ e = mkEnv 186 [(1, .bool pl), (2, .bool mi), (3, .ptr σ.length 0), (7, .int .i64 x), (8, .nils), (9, .int .i64 1), (10, w), (11, .int .i64 j)]) _ ?_ ⟨?_, .slice (σ.length + 1) 0 1 1 (some 1), ?_, rfl⟩ ?_
  · simp [mkEnv, List.replicate]
  · rw [← hgr]; exact (Fr.refl (by simp)).app [.row false [.int .i64 (x)]] |>.trans (by simpa using Fr.refl (by simp)) 
  · have := own_laid (σ := σ ++ [.row false (egate g)]) [x]
    rw [← hgr] at this
    simpa using this
  rintro j _ σ1 hj ⟨hF1, w, hW, rfl⟩
  obtain ⟨d0, d1, d2⟩ := ld hF1
  have hWf : ∀ y ∈ (x :: (i.take j).map (fun l => -l)), Lt y := fun y hy => by
    rcases List.mem_cons.1 hy with rfl | hy
    · exact hx
    · obtain ⟨z, hz, rfl⟩ := List.mem_map.1 hy
      exact (hi z (List.mem_of_mem_take hz)).neg
  simp [mkEnv, List.replicate, d2]
  by_cases hlt : j < i.length
  · obtain ⟨y, hy⟩ := nth_lt hlt
    have hy' := nth_get hy
    have hyl := hi y (List.mem_of_getElem? hy')
    have es : IntKind.i64.wrap ((j : Int) + 1) = (j : Int) + 1 := by rw [wrap_small] <;> omega
    have hgl := hF1.len
    obtain ⟨w', σ2, q1, q2, q3, q4, q5, q6⟩ := hW.push (by_ := 8) (-y) (fun _ => rfl) (by simp) (by omega) (by simp; omega) (by decide)
    simp [hlt, hy, d2, hyl.wrapN, hyl.wrapI, q1, es]
    refine forK_go _ hlt (by simp [mkEnv, List.replicate]) ⟨hF1.trans (q3.mono (by simp)), w', ?_, rfl⟩
    rw [take_get hy']
    simpa using q2
  have : j = i.length := by omega
  subst this
  rw [List.take_length] at hW hWf
  have hgl := hF1.len
  simp
  simp [d1]
  refine gfor i.length (fun j e σ' => Fr (σ.length + 1) (σ ++ [.row false (egate g)]) σ' ∧ ∃ s, Own (σ.length + 1) 1 eint σ' w (x :: i.map (fun l => -l)) ∧ Own (σ.length + 1) 1 ecl σ' s (if pl = true then ((i.take j).map (fun l => [-x, l])).filterMap normL else []) ∧ (∀ k, s.has k → ¬ w.has k) ∧ e = mkEnv 186 [(1, .bool pl), (2, .bool mi), (3, .ptr σ.length 0), (7, .int .i64 x), (8, s), (9, .int .i64 1), (10, w), (12, .int .i64 j)]) _ ?_ ⟨hF1, .nils, hW, by simpa using Own.nil, (fun k h => by obtain ⟨_, _, _, _, e⟩ := h; cases e), rfl⟩ ?_
  · simp [mkEnv, List.replicate]
  rintro j _ σ2 hj ⟨hF2, s, hW2, hS2, hsw, rfl⟩
  obtain ⟨d0, d1, d2⟩ := ld hF2
  have hgl2 := hF2.len
  simp [mkEnv, List.replicate, d2]
  by_cases hlt : j < i.length
  · obtain ⟨y, hy⟩ := nth_lt hlt
    have hy' := nth_get hy
    have hyl := hi y (List.mem_of_getElem? hy')
    have es : IntKind.i64.wrap ((j : Int) + 1) = (j : Int) + 1 := by rw [wrap_small] <;> omega
    have hln := fm_len ((i.take j).map (fun l => [-x, l]))
    simp only [List.length_map, List.length_take] at hln
    cases pl with
    | false =>
      simp [hlt, d1, es]
      exact forK_go _ hlt (by simp [mkEnv, List.replicate]) ⟨hF2, s, hW2, by simpa using hS2, hsw, rfl⟩
    | true =>
      simp only [if_true] at hS2
      simp [hlt, hy, d1, d2, hx.wrapN, hx.wrapI, hyl.wrapN, hyl.wrapI]
      have hap : Own (σ.length + 1) 1 ecl (σ2 ++ [.row false ([-x, y].map fun x => DV.int .i64 x)]) s _ := hS2.fr (Fr.rfl'.app _)
      refine r12_Put_ok hap (own_laid [-x, y]) (by simp; omega) (by simp) (lt2 hx.neg hyl) (by  omega) fun s' σ4 hS4 hss => ?_
      have hss2 := (SS.app (σ := σ2) (s := s) [.row false ([-x, y].map fun x => DV.int .i64 x)]).trans hss
      simp [es]
      refine forK_go _ hlt (by simp [mkEnv, List.replicate]) ⟨hF2.trans (hss2.fr hS2 hgl2), s', hW2.fit fun k hk => hss2.get k (hW2.has_lt hk) fun hh => hsw k hh hk, ?_, fun k hk hk' => ?_, rfl⟩
      · rw [if_pos rfl, fm_take0 hy' (fun l => [-x, l])]; first | exact hS4 | (rw [← List.append_assoc]; exact hS4)
      · rcases hss2.has k hk with h1 | h1
        · exact hsw k h1 hk'
        · have := hW2.has_lt hk'; omega
  have : j = i.length := by omega
  subst this
  rw [List.take_length] at hS2
  simp [d1]
  have hln := fm_len (i.map (fun l => [-x, l]))
  rw [List.length_map] at hln
  cases mi with
  | false =>
    simp
    exact ⟨⟨by omega, fun k hk => by rw [hF2.get k (by omega), List.getElem?_append_left hk]⟩, by simp only [fcls]; simpa using hS2.rd (ok := OkN σ.length σ2) (fun _ => rfl) fun k hk => .inl (by omega)⟩
  | true =>
    simp
    refine r12_Put_ok hS2 hW2 (by omega) (by simp; omega) hWf (by split <;> first | omega | (simp only [List.length_nil]; omega)) fun s' σ4 hS4 hss => ?_
    simp
    have hF4 := hF2.trans (hss.fr hS2 hgl2)
    exact ⟨⟨by have := hF4.len; omega, fun k hk => by rw [hF4.get k (by omega), List.getElem?_append_left hk]⟩, by simp only [fcls]; simpa using hS4.rd (ok := OkN σ.length σ4) (fun _ => rfl) fun k hk => .inl (by omega)⟩
set_option maxHeartbeats 1000000 in
theorem r12_cl2_ok {x : Int} {i : List Int} {pl mi : Bool} {σ : GS} {Post : DV → GS → Prop} (hx : Lt x) (hi : ∀ l ∈ i, Lt l) (hil : i.length < 2 ^ 29) (h : Post (fcls (gcl x 2 i pl mi)) σ) : GCall Tryz.prog F_skolemref12_Clauses [GateP.enc ⟨x, 2, i⟩, .bool pl, .bool mi] σ Post := by
  refine GCall.pure (r := fcls (gcl x 2 i pl mi)) ?_ (by simp) h
  rw [gcl_2r x i pl mi hx.1 fun l hl => (hi l hl).1]
  refine gc_skolemref12_Clauses ?_
  simp [G_skolemref12_Clauses, genv0, List.replicate, hx.wrapI, hx.wrapN]
  obtain ⟨g, hg⟩ : ∃ g, g = GateP.mk x 2 i := ⟨_, rfl⟩
  have hgr : [DV.int .i64 x, .int .u8 2, fints i] = egate g := by rw [hg]
  have ld : ∀ {σ1 : GS}, Fr (σ.length + 1) (σ ++ [.row false (egate g)]) σ1 → gload (.load 1 false) [.ptr σ.length 0] σ1 = some (.int .i64 x) ∧ gload (.load 1 false) [.ptr σ.length 1] σ1 = some (.int .u8 2) ∧ gload (.load 1 false) [.ptr σ.length 2] σ1 = some (fints i) := fun hF => by have := row_ld hF; rw [hg] at this; exact this
  refine gfor i.length (fun j e σ' => Fr (σ.length + 1) (σ ++ [.row false (egate g)]) σ' ∧ ∃ w, Own (σ.length + 1) 1 eint σ' w (-x :: (i.take j).map (fun l => l)) ∧ e = mkEnv 186 [(1, .bool pl), (2, .bool mi), (3, .ptr σ.length 0), (7, .int .i64 x), (8, .nils), (9, .int .i64 (-1)), (10, w), (11, .int .i64 j)]) _ ?_ ⟨?_, .slice (σ.length + 1) 0 1 1 (some 1), ?_, rfl⟩ ?_
  · simp [mkEnv, List.replicate]
  · rw [← hgr]; exact (Fr.refl (by simp)).app [.row false [.int .i64 (-x)]] |>.trans (by simpa using Fr.refl (by simp)) 
  · have := own_laid (σ := σ ++ [.row false (egate g)]) [-x]
    rw [← hgr] at this
    simpa using this
  rintro j _ σ1 hj ⟨hF1, w, hW, rfl⟩
  obtain ⟨d0, d1, d2⟩ := ld hF1
  have hWf : ∀ y ∈ (-x :: (i.take j).map (fun l => l)), Lt y := fun y hy => by
    rcases List.mem_cons.1 hy with rfl | hy
    · exact hx.neg
    · obtain ⟨z, hz, rfl⟩ := List.mem_map.1 hy
      exact hi z (List.mem_of_mem_take hz)
  simp [mkEnv, List.replicate, d2]
  by_cases hlt : j < i.length
  · obtain ⟨y, hy⟩ := nth_lt hlt
    have hy' := nth_get hy
    have hyl := hi y (List.mem_of_getElem? hy')
    have es : IntKind.i64.wrap ((j : Int) + 1) = (j : Int) + 1 := by rw [wrap_small] <;> omega
    have hgl := hF1.len
    obtain ⟨w', σ2, q1, q2, q3, q4, q5, q6⟩ := hW.push (by_ := 8) (y) (fun _ => rfl) (by simp) (by omega) (by simp; omega) (by decide)
    simp [hlt, hy, d2, hyl.wrapN, hyl.wrapI, q1, es]
    refine forK_go _ hlt (by simp [mkEnv, List.replicate]) ⟨hF1.trans (q3.mono (by simp)), w', ?_, rfl⟩
    rw [take_get hy']
    simpa using q2
  have : j = i.length := by omega
  subst this
  rw [List.take_length] at hW hWf
  have hgl := hF1.len
  simp
  simp [d1]
  cases pl with
  | false =>
    simp
    refine gfor i.length (fun j e σ' => Fr (σ.length + 1) (σ ++ [.row false (egate g)]) σ' ∧ ∃ s, Own (σ.length + 1) 1 eint σ' w (-x :: i.map (fun l => l)) ∧ Own (σ.length + 1) 1 ecl σ' s (if mi = true then ((i.take j).map (fun l => [x, -l])).filterMap normL else []) ∧ (∀ k, s.has k → ¬ w.has k) ∧ e = mkEnv 186 [(1, .bool false), (2, .bool mi), (3, .ptr σ.length 0), (7, .int .i64 x), (8, s), (9, .int .i64 (-1)), (10, w), (12, .int .i64 j)]) _ ?_ ⟨hF1, .nils, hW, by simpa using Own.nil, (fun k h => by obtain ⟨_, _, _, _, e⟩ := h; cases e), rfl⟩ ?_
    · simp [mkEnv, List.replicate]
    rintro j _ σ2 hj ⟨hF2, s, hW2, hS2, hsw, rfl⟩
    obtain ⟨d0, d1, d2⟩ := ld hF2
    have hgl2 := hF2.len
    simp [mkEnv, List.replicate, d2]
    by_cases hlt : j < i.length
    · obtain ⟨y, hy⟩ := nth_lt hlt
      have hy' := nth_get hy
      have hyl := hi y (List.mem_of_getElem? hy')
      have es : IntKind.i64.wrap ((j : Int) + 1) = (j : Int) + 1 := by rw [wrap_small] <;> omega
      have hln := fm_len ((i.take j).map (fun l => [x, -l]))
      simp only [List.length_map, List.length_take] at hln
      cases mi with
      | false =>
        simp [hlt, d1, es]
        exact forK_go _ hlt (by simp [mkEnv, List.replicate]) ⟨hF2, s, hW2, by simpa using hS2, hsw, rfl⟩
      | true =>
        simp only [if_true] at hS2
        simp [hlt, hy, d1, d2, hx.wrapN, hx.wrapI, hyl.wrapN, hyl.wrapI]
        have hap : Own (σ.length + 1) 1 ecl (σ2 ++ [.row false ([x, -y].map fun x => DV.int .i64 x)]) s _ := hS2.fr (Fr.rfl'.app _)
        refine r12_Put_ok hap (own_laid [x, -y]) (by simp; omega) (by simp) (lt2 hx hyl.neg) (by  omega) fun s' σ4 hS4 hss => ?_
        have hss2 := (SS.app (σ := σ2) (s := s) [.row false ([x, -y].map fun x => DV.int .i64 x)]).trans hss
        simp [es]
        refine forK_go _ hlt (by simp [mkEnv, List.replicate]) ⟨hF2.trans (hss2.fr hS2 hgl2), s', hW2.fit fun k hk => hss2.get k (hW2.has_lt hk) fun hh => hsw k hh hk, ?_, fun k hk hk' => ?_, rfl⟩
        · rw [if_pos rfl, fm_take0 hy' (fun l => [x, -l])]; first | exact hS4 | (rw [← List.append_assoc]; exact hS4)
        · rcases hss2.has k hk with h1 | h1
          · exact hsw k h1 hk'
          · have := hW2.has_lt hk'; omega
    have : j = i.length := by omega
    subst this
    rw [List.take_length] at hS2
    simp [d1]
    exact ⟨⟨by omega, fun k hk => by rw [hF2.get k (by omega), List.getElem?_append_left hk]⟩, by simp only [fcls]; simpa using hS2.rd (ok := OkN σ.length σ2) (fun _ => rfl) fun k hk => .inl (by omega)⟩
  | true =>
    simp
    refine r12_Put_ok (n := σ.length + 1) (cs := []) .nil hW (by omega) (by simp; omega) hWf (by simp) fun s0 σ4 hS4 hss => ?_
    have hF4 := hF1.trans (hss.fr (n := σ.length + 1) (xs := ([] : List (List Int))) (enc := ecl) (sz := 1) .nil (by omega))
    have hW4 : Own (σ.length + 1) 1 eint σ4 w _ := hW.fit fun k hk => hss.get k (hW.has_lt hk) fun hh => by obtain ⟨_, _, _, _, e⟩ := hh; cases e
    have hd4 : ∀ k, s0.has k → ¬ w.has k := fun k hk hk' => by
      rcases hss.has k hk with h1 | h1
      · obtain ⟨_, _, _, _, e⟩ := h1; cases e
      · have := hW.has_lt hk'; omega
    simp only [List.nil_append] at hS4
    simp
    have hl0 : ((normL (-x :: i)).toList).length ≤ 1 := by cases normL (-x :: i) <;> simp
    refine gfor i.length (fun j e σ' => Fr (σ.length + 1) (σ ++ [.row false (egate g)]) σ' ∧ ∃ s, Own (σ.length + 1) 1 eint σ' w (-x :: i.map (fun l => l)) ∧ Own (σ.length + 1) 1 ecl σ' s ((normL (-x :: i)).toList ++ if mi = true then ((i.take j).map (fun l => [x, -l])).filterMap normL else []) ∧ (∀ k, s.has k → ¬ w.has k) ∧ e = mkEnv 186 [(1, .bool true), (2, .bool mi), (3, .ptr σ.length 0), (7, .int .i64 x), (8, s), (9, .int .i64 (-1)), (10, w), (12, .int .i64 j)]) _ ?_ ⟨hF4, s0, hW4, by simpa using hS4, hd4, rfl⟩ ?_
    · simp [mkEnv, List.replicate]
    rintro j _ σ2 hj ⟨hF2, s, hW2, hS2, hsw, rfl⟩
    obtain ⟨d0, d1, d2⟩ := ld hF2
    have hgl2 := hF2.len
    simp [mkEnv, List.replicate, d2]
    by_cases hlt : j < i.length
    · obtain ⟨y, hy⟩ := nth_lt hlt
      have hy' := nth_get hy
      have hyl := hi y (List.mem_of_getElem? hy')
      have es : IntKind.i64.wrap ((j : Int) + 1) = (j : Int) + 1 := by rw [wrap_small] <;> omega
      have hln := fm_len ((i.take j).map (fun l => [x, -l]))
      simp only [List.length_map, List.length_take] at hln
      cases mi with
      | false =>
        simp [hlt, d1, es]
        exact forK_go _ hlt (by simp [mkEnv, List.replicate]) ⟨hF2, s, hW2, by simpa using hS2, hsw, rfl⟩
      | true =>
        simp only [if_true] at hS2
        simp [hlt, hy, d1, d2, hx.wrapN, hx.wrapI, hyl.wrapN, hyl.wrapI]
        have hap : Own (σ.length + 1) 1 ecl (σ2 ++ [.row false ([x, -y].map fun x => DV.int .i64 x)]) s _ := hS2.fr (Fr.rfl'.app _)
        refine r12_Put_ok hap (own_laid [x, -y]) (by simp; omega) (by simp) (lt2 hx hyl.neg) (by rw [List.length_append]; omega) fun s' σ4 hS4 hss => ?_
        have hss2 := (SS.app (σ := σ2) (s := s) [.row false ([x, -y].map fun x => DV.int .i64 x)]).trans hss
        simp [es]
        refine forK_go _ hlt (by simp [mkEnv, List.replicate]) ⟨hF2.trans (hss2.fr hS2 hgl2), s', hW2.fit fun k hk => hss2.get k (hW2.has_lt hk) fun hh => hsw k hh hk, ?_, fun k hk hk' => ?_, rfl⟩
        · rw [if_pos rfl, fm_take0 hy' (fun l => [x, -l])]; first | exact hS4 | (rw [← List.append_assoc]; exact hS4)
        · rcases hss2.has k hk with h1 | h1
          · exact hsw k h1 hk'
          · have := hW2.has_lt hk'; omega
    have : j = i.length := by omega
    subst this
    rw [List.take_length] at hS2
    simp [d1]
    exact ⟨⟨by omega, fun k hk => by rw [hF2.get k (by omega), List.getElem?_append_left hk]⟩, by simp only [fcls]; simpa using hS2.rd (ok := OkN σ.length σ2) (fun _ => rfl) fun k hk => .inl (by omega)⟩

end Go.Gh
namespace Go.Gh
open Go.RowKit Go.Proofs
set_option linter.unusedVariables false
set_option linter.unusedSimpArgs false
set_option maxRecDepth 100000
theorem fm2 (a b : List Int) : [a, b].filterMap normL = (normL a).toList ++ (normL b).toList := by
  have e1 := fm_snoc [] a
  have e2 := fm_snoc [a] b
  simp only [List.nil_append, List.filterMap_nil] at e1
  rw [e1] at e2
  exact e2
theorem tl_len (l : List Int) : ((normL l).toList).length ≤ 1 := by cases normL l <;> simp
theorem put3 {n : Nat} {σ0 σ1 : GS} {s : DV} {cs : List (List Int)} {p q r : Int} {K : DV → GS → Prop} (hS : Own n 1 ecl σ1 s cs) (hF : Fr n σ0 σ1) (hp : Lt p) (hq : Lt q) (hr : Lt r) (hcs : cs.length < 100) (k : ∀ s' σ2, Own n 1 ecl σ2 s' (cs ++ (normL [p, q, r]).toList) → (cs ++ (normL [p, q, r]).toList).length ≤ cs.length + 1 → Fr n σ0 σ2 → K s' σ2) :
    GCall Tryz.prog F_skolemref12_Put [s, .slice σ1.length 0 3 1 (some 3)] (σ1 ++ [.row false [.int .i64 p, .int .i64 q, .int .i64 r]]) K := by
  have hl := hF.len
  have hS1 : Own n 1 ecl (σ1 ++ [.row false [.int .i64 p, .int .i64 q, .int .i64 r]]) s cs := hS.fr (Fr.rfl'.app _)
  refine r12_Put_ok hS1 (own_laid [p, q, r]) (by simp; omega) (by simp) (lt3 hp hq hr) (by omega) fun s' σ2 h2 ss => k s' σ2 h2 (by have := tl_len [p, q, r]; rw [List.length_append]; omega) ?_
  exact (hF.app _).trans (ss.fr hS1 (by simp; omega))
theorem fin3 {n : Nat} {σ0 σ1 : GS} {s : DV} {cs : List (List Int)} (hS : Own n 1 ecl σ1 s cs) (hF : Fr n σ0 σ1) (hn : n = σ0.length) : Fr σ0.length σ0 σ1 ∧ Rd σ1 (fun i => σ0.length ≤ i ∨ RO σ1 i) s (fcls cs) := by
  subst hn
  exact ⟨hF, hS.rd (fun _ => rfl) fun k hk => .inl hk⟩
theorem r12_cl3_ok {x a b : Int} {pl mi : Bool} {σ : GS} {Post : DV → GS → Prop} (hx : Lt x) (ha : Lt a) (hb : Lt b) (h : Post (fcls (gcl x 3 [a, b] pl mi)) σ) : GCall Tryz.prog F_skolemref12_Clauses [GateP.enc ⟨x, 3, [a, b]⟩, .bool pl, .bool mi] σ Post := by
  refine GCall.pure (r := fcls (gcl x 3 [a, b] pl mi)) ?_ (by simp) h
  rw [gcl_3, fm2, fm2]
  simp only [List.getD_cons_zero, List.getD_cons_succ]
  refine gc_skolemref12_Clauses ?_
  simp [G_skolemref12_Clauses, genv0, List.replicate, hx.wrapN, ha.wrapN, hb.wrapN]
  have F0 : Fr σ.length σ (σ ++ [GObj.row false (egate ⟨x, 3, [a, b]⟩)]) := Fr.self _
  obtain ⟨τ, hτ⟩ : ∃ τ, σ ++ [GObj.row false (egate ⟨x, 3, [a, b]⟩)] = τ := ⟨_, rfl⟩
  rw [hτ] at F0 ⊢
  cases pl with
  | false =>
    cases mi with
    | false =>
      simp
      exact fin3 (cs := []) .nil F0 rfl
    | true =>
      simp [hx.wrapN, ha.wrapN, hb.wrapN]
      refine put3 (cs := []) .nil F0 hx ha.neg hb (by first | (simp; done) | (simp only [List.length_nil] at l1; omega)) fun s1 σ1 h1 l1 f1 => ?_
      simp [hx.wrapN, ha.wrapN, hb.wrapN]
      refine put3 h1 f1 hx ha hb.neg (by first | (simp; done) | (simp only [List.length_nil] at l1; omega)) fun s2 σ2 h2 l2 f2 => ?_
      simp
      exact fin3 (by simpa using h2) f2 rfl
  | true =>
    simp [hx.wrapN, ha.wrapN, hb.wrapN]
    refine put3 (cs := []) .nil F0 hx.neg ha hb (by first | (simp; done) | (simp only [List.length_nil] at l1; omega)) fun s1 σ1 h1 l1 f1 => ?_
    simp [hx.wrapN, ha.wrapN, hb.wrapN]
    refine put3 h1 f1 hx.neg ha.neg hb.neg (by first | (simp; done) | (simp only [List.length_nil] at l1; omega)) fun s2 σ2 h2 l2 f2 => ?_
    cases mi with
    | false =>
      simp
      exact fin3 (by simpa using h2) f2 rfl
    | true =>
      simp [hx.wrapN, ha.wrapN, hb.wrapN]
      refine put3 h2 f2 hx ha.neg hb (by first | (simp; done) | (simp only [List.length_nil] at l1; omega)) fun s3 σ3 h3 l3 f3 => ?_
      simp [hx.wrapN, ha.wrapN, hb.wrapN]
      refine put3 h3 f3 hx ha hb.neg (by first | (simp; done) | (simp only [List.length_nil] at l1; omega)) fun s4 σ4 h4 l4 f4 => ?_
      simp
      exact fin3 (by simpa using h4) f4 rfl
theorem r12_cl4_ok {x c a b : Int} {pl mi : Bool} {σ : GS} {Post : DV → GS → Prop} (hx : Lt x) (hc : Lt c) (ha : Lt a) (hb : Lt b) (h : Post (fcls (gcl x 4 [c, a, b] pl mi)) σ) : GCall Tryz.prog F_skolemref12_Clauses [GateP.enc ⟨x, 4, [c, a, b]⟩, .bool pl, .bool mi] σ Post := by
  refine GCall.pure (r := fcls (gcl x 4 [c, a, b] pl mi)) ?_ (by simp) h
  rw [gcl_4, fm2, fm2]
  simp only [List.getD_cons_zero, List.getD_cons_succ]
  refine gc_skolemref12_Clauses ?_
  simp [G_skolemref12_Clauses, genv0, List.replicate, hx.wrapN, hc.wrapN, ha.wrapN, hb.wrapN]
  have F0 : Fr σ.length σ (σ ++ [GObj.row false (egate ⟨x, 4, [c, a, b]⟩)]) := Fr.self _
  obtain ⟨τ, hτ⟩ : ∃ τ, σ ++ [GObj.row false (egate ⟨x, 4, [c, a, b]⟩)] = τ := ⟨_, rfl⟩
  rw [hτ] at F0 ⊢
  cases pl with
  | false =>
    cases mi with
    | false =>
      simp
      exact fin3 (cs := []) .nil F0 rfl
    | true =>
      simp [hx.wrapN, hc.wrapN, ha.wrapN, hb.wrapN]
      refine put3 (cs := []) .nil F0 hx hc.neg ha.neg (by first | (simp; done) | (simp only [List.length_nil] at l1; omega)) fun s1 σ1 h1 l1 f1 => ?_
      simp [hx.wrapN, hc.wrapN, ha.wrapN, hb.wrapN]
      refine put3 h1 f1 hx hc hb.neg (by first | (simp; done) | (simp only [List.length_nil] at l1; omega)) fun s2 σ2 h2 l2 f2 => ?_
      simp
      exact fin3 (by simpa using h2) f2 rfl
  | true =>
    simp [hx.wrapN, hc.wrapN, ha.wrapN, hb.wrapN]
    refine put3 (cs := []) .nil F0 hx.neg hc.neg ha (by first | (simp; done) | (simp only [List.length_nil] at l1; omega)) fun s1 σ1 h1 l1 f1 => ?_
    simp [hx.wrapN, hc.wrapN, ha.wrapN, hb.wrapN]
    refine put3 h1 f1 hx.neg hc hb (by first | (simp; done) | (simp only [List.length_nil] at l1; omega)) fun s2 σ2 h2 l2 f2 => ?_
    cases mi with
    | false =>
      simp
      exact fin3 (by simpa using h2) f2 rfl
    | true =>
      simp [hx.wrapN, hc.wrapN, ha.wrapN, hb.wrapN]
      refine put3 h2 f2 hx hc.neg ha.neg (by first | (simp; done) | (simp only [List.length_nil] at l1; omega)) fun s3 σ3 h3 l3 f3 => ?_
      simp [hx.wrapN, hc.wrapN, ha.wrapN, hb.wrapN]
      refine put3 h3 f3 hx hc hb.neg (by first | (simp; done) | (simp only [List.length_nil] at l1; omega)) fun s4 σ4 h4 l4 f4 => ?_
      simp
      exact fin3 (by simpa using h4) f4 rfl
theorem r12_Clauses_ok {g : GateP} {pl mi : Bool} {σ : GS} {Post : DV → GS → Prop} (hs : shpG g.k g.ins.length = true) (hx : Lt g.v) (hi : ∀ l ∈ g.ins, Lt l) (hil : g.ins.length < 2 ^ 29) (h : Post (fcls (gcl g.v g.k g.ins pl mi)) σ) : GCall Tryz.prog F_skolemref12_Clauses [g.enc, .bool pl, .bool mi] σ Post := by
  obtain ⟨v, k, ins⟩ := g
  rcases shpG_cases hs with e | e | ⟨e, h2⟩ | ⟨e, h2⟩ <;> simp only at e <;> subst e
  · exact r12_cl1_ok hx hi hil h
  · exact r12_cl2_ok hx hi hil h
  · match ins, h2 with
    | [a, b], _ => exact r12_cl3_ok hx (hi a (by simp)) (hi b (by simp)) h
  · match ins, h2 with
    | [c, a, b], _ => exact r12_cl4_ok hx (hi c (by simp)) (hi a (by simp)) (hi b (by simp)) h
theorem r12_SameClauses_ok {xs ys : List (List Int)} {σ : GS} {Post : DV → GS → Prop} (hl : ClsSm xs) (h : Post (.bool (decide (xs = ys))) σ) : GCall Tryz.prog F_skolemref12_SameClauses [fcls xs, fcls ys] σ Post := by
  obtain ⟨h1, h3⟩ := hl
  refine gc_skolemref12_SameClauses ?_
  by_cases hlen : xs.length = ys.length
  rotate_left
  · have hne : xs ≠ ys := fun e => hlen (by rw [e])
    have hlen' : ¬ ((xs.length : Int) = ys.length) := by omega
    simp [G_skolemref12_SameClauses, genv0, List.replicate, hlen']
    simpa [hne] using h
  simp [G_skolemref12_SameClauses, genv0, List.replicate, hlen]
  refine gfor xs.length (fun i e σ' => σ' = σ ∧ (xs = ys ↔ xs.drop i = ys.drop i) ∧ e = mkEnv 27 [(0, fcls xs), (1, fcls ys), (5, .int .i64 i)]) _ ?_ ⟨rfl, by simp, rfl⟩ ?_
  · simp [mkEnv, List.replicate]
  rintro i _ _ hi ⟨rfl, hI, rfl⟩
  simp [mkEnv, List.replicate]
  by_cases hlt : i < xs.length
  · obtain ⟨x, hx⟩ := nth_lt hlt
    obtain ⟨y, hy⟩ := nth_lt (l := ys) (i := i) (by omega)
    have hxl := h3 x (List.mem_of_getElem? (nth_get hx))
    rw [drop_get hx, drop_get hy, List.cons.injEq] at hI
    have es : IntKind.i64.wrap ((i : Int) + 1) = (i : Int) + 1 := by rw [wrap_small] <;> omega
    simp [hlt, hx, hy]
    refine ref_Ints_ok (by omega) ?_
    by_cases c : x = y
    · simp [c, es]
      exact forK_go _ hlt (by simp [mkEnv, List.replicate]) ⟨rfl, by rw [hI]; simp [c], rfl⟩
    · have hne : xs ≠ ys := fun e => c (hI.1 e).1
      simp [c]
      simpa [hne] using h
  · have : i = xs.length := by omega
    subst this
    have he : xs = ys := hI.2 (by rw [List.drop_length, hlen, List.drop_length])
    simp
    simpa [he] using h
end Go.Gh
namespace Go.Gh
open Go.RowKit Go.Proofs
set_option linter.unusedVariables false
set_option linter.unusedSimpArgs false
set_option maxRecDepth 100000
end Go.Gh
namespace Go.Gh
open Go.RowKit Go.Proofs
set_option linter.unusedVariables false
set_option linter.unusedSimpArgs false
set_option maxRecDepth 100000
/-- A CNF by the reference. -/
def cnf5 (l : List (List Int)) : Bool := decide (l.length ≤ 20000) && decide ((l.map fun c => c.length).sum ≤ 200000) && l.all normal
theorem r12_Cnf_ok {l : List (List Int)} {σ : GS} {Post : DV → GS → Prop} (hl : l.length < 2 ^ 50) (hs : (l.map fun c => c.length).sum < 2 ^ 50) (h : Post (.bool (cnf5 l)) σ) : GCall Tryz.prog F_skolemref12_Cnf [fcls l] σ Post := by
  refine gc_skolemref12_Cnf ?_
  simp [G_skolemref12_Cnf, genv0, List.replicate]
  refine gfor l.length (fun i e σ' => σ' = σ ∧ i ≤ 20000 ∧ ((l.map fun c => c.length).take i).sum ≤ 200000 ∧ (∀ (j : Nat) c, j < i → l[j]? = some c → normal c = true) ∧ e = mkEnv 32 [(0, fcls l), (3, .int .i64 (((l.map fun c => c.length).take i).sum : Nat)), (4, .int .i64 i)]) _ ?_ ⟨rfl, by omega, by simp, fun j c hj => by omega, rfl⟩ ?_
  · simp [mkEnv, List.replicate]
  rintro i _ _ hi ⟨rfl, hi2, hsm, hnm, rfl⟩
  simp [mkEnv, List.replicate]
  by_cases hlt : i < l.length
  · obtain ⟨c, hc⟩ := nth_lt hlt
    have hc' := nth_get hc
    have es : IntKind.i64.wrap ((i : Int) + 1) = (i : Int) + 1 := by rw [wrap_small] <;> omega
    have h1 := sum_snoc (f := fun c : List Int => c.length) hc'
    have h2 := sum_take (fun c : List Int => c.length) l (i + 1)
    obtain ⟨q, hq⟩ : ∃ q, ((l.map fun c => c.length).take i).sum = q := ⟨_, rfl⟩
    obtain ⟨q2, hq2⟩ : ∃ q, ((l.map fun c => c.length).take (i + 1)).sum = q := ⟨_, rfl⟩
    obtain ⟨q3, hq3⟩ : ∃ q, (l.map fun c => c.length).sum = q := ⟨_, rfl⟩
    rw [hq, hq2] at h1
    rw [hq2, hq3] at h2
    rw [hq] at hsm
    rw [hq3] at hs
    have ew : IntKind.i64.wrap ((q : Int) + c.length) = (q2 : Int) := by rw [wrap_small] <;> omega
    by_cases c1 : 20000 ≤ i
    · have c1' : (20000 : Int) ≤ i := by omega
      simp [hlt, hc, hq, ew, c1']
      have : cnf5 l = false := by unfold cnf5; simp; intro hh; omega
      rw [this] at h; exact h
    have c1' : ¬ (20000 : Int) ≤ i := by omega
    by_cases c2 : 200000 < q2
    · have c2' : (200000 : Int) < q2 := by omega
      simp [hlt, hc, hq, ew, c1', c2']
      have : cnf5 l = false := by unfold cnf5; rw [hq3]; simp; intro _ hh; omega
      rw [this] at h; exact h
    have c2' : ¬ (200000 : Int) < q2 := by omega
    simp [hlt, hc, hq, ew, c1', c2']
    refine ref_Normal_ok (by omega) ?_
    cases hn : normal c with
    | false =>
      simp
      have : cnf5 l = false := by
        have : l.all normal = false := by rw [List.all_eq_false]; exact ⟨c, List.mem_of_getElem? hc', by rw [hn]; simp⟩
        unfold cnf5; rw [this]; simp
      rw [this] at h; exact h
    | true =>
      simp [es]
      refine forK_go _ hlt (by simp [mkEnv, List.replicate, hq2]) ⟨rfl, by omega, by omega, fun j c' hj hc2 => ?_, rfl⟩
      by_cases hji : j = i
      · subst hji; rw [hc'] at hc2; cases hc2; exact hn
      · exact hnm j c' (by omega) hc2
  · have : i = l.length := by omega
    subst this
    simp
    have e1 : (l.map fun c => c.length).take l.length = l.map fun c => c.length := List.take_of_length_le (by simp)
    rw [e1] at hsm
    have : cnf5 l = true := by
      unfold cnf5
      simp only [Bool.and_eq_true, decide_eq_true_eq, List.all_eq_true]
      refine ⟨⟨by omega, hsm⟩, fun c hc => ?_⟩
      obtain ⟨j, hj⟩ := List.mem_iff_getElem?.1 hc
      exact hnm j c (get_dom hj) hj
    rw [this] at h; exact h
end Go.Gh
namespace Go.Gh
set_option linter.unusedVariables false
set_option linter.unusedSimpArgs false
abbrev Sg := Int → Bool × Bool
def hasS (p : Bool × Bool) : Bool := p.1 || p.2
/-- The variables of gates that are wanted, and their clauses. -/
def fmV (sg : Sg) (gs : List GateP) : List Int := (gs.filter fun g => hasS (sg g.v)).map (·.v)
def fmC (sg : Sg) (gs : List GateP) : List (List Int) := gs.flatMap fun g => if hasS (sg g.v) = true then gcl g.v g.k g.ins (sg g.v).1 (sg g.v).2 else []
/-- A prefix with variables as an innermost existential block. -/
def behindB (p : List Blk) (vars : List Int) : List Blk :=
  if vars = [] then p else match p[p.length - 1]? with
    | some b => if b.1 = true then p.set (p.length - 1) (true, b.2 ++ vars) else p ++ [(true, vars)]
    | none => p ++ [(true, vars)]
def fmlQ (n : NetQ) (sg : Sg) : QbfP := ⟨behindB n.pre (fmV sg n.gates), fmC sg n.gates ++ [[n.out]]⟩
def fmlZ (n : NetQ) (sg : Sg) : QbfP × Int := if (mayB (fmlQ n sg).pre && cnf5 (fmlQ n sg).cls) = true then (fmlQ n sg, 0) else (⟨[], []⟩, 3)
theorem fmV_snoc {sg : Sg} {gs : List GateP} {i : Nat} {g : GateP} (h : gs[i]? = some g) : fmV sg (gs.take (i + 1)) = fmV sg (gs.take i) ++ if hasS (sg g.v) = true then [g.v] else [] := by
  unfold fmV
  rw [take_get h, List.filter_append, List.map_append]
  congr 1
  cases hc : hasS (sg g.v) <;> simp [hc]
theorem fmC_snoc {sg : Sg} {gs : List GateP} {i : Nat} {g : GateP} (h : gs[i]? = some g) : fmC sg (gs.take (i + 1)) = fmC sg (gs.take i) ++ if hasS (sg g.v) = true then gcl g.v g.k g.ins (sg g.v).1 (sg g.v).2 else [] := by
  unfold fmC
  rw [take_get h, List.flatMap_append]; simp
theorem fmV_len (sg : Sg) (gs : List GateP) : (fmV sg gs).length ≤ gs.length := by
  unfold fmV; rw [List.length_map]; exact List.length_filter_le _ _
theorem gcl_cnt {v k : Int} {i : List Int} {pl mi : Bool} : (gcl v k i pl mi).length ≤ i.length + 4 := by
  refine Nat.le_trans (List.length_filterMap_le _ _) ?_
  unfold rawP
  repeat' split
  all_goals simp
theorem fmC_len (sg : Sg) : ∀ (gs : List GateP), (fmC sg gs).length ≤ (gs.map fun g => g.ins.length + 4).sum
  | [] => by simp [fmC]
  | g :: gs => by
    have ih := fmC_len sg gs
    unfold fmC at ih ⊢
    rw [List.flatMap_cons, List.length_append, List.map_cons, List.sum_cons]
    split
    · have := gcl_cnt (v := g.v) (k := g.k) (i := g.ins) (pl := (sg g.v).1) (mi := (sg g.v).2); omega
    · simp only [List.length_nil, Nat.zero_add]; omega
theorem fmC_lenT (sg : Sg) (gs : List GateP) : (fmC sg gs).length ≤ (gs.map fun g => g.ins.length).sum + 4 * gs.length := by
  have h1 := fmC_len sg gs
  have : ∀ l : List GateP, (l.map fun g => g.ins.length + 4).sum = (l.map fun g => g.ins.length).sum + 4 * l.length := by
    intro l
    induction l with
    | nil => simp
    | cons g l ih => simp only [List.map_cons, List.sum_cons, List.length_cons, ih]; omega
  rw [this] at h1; exact h1
end Go.Gh
namespace Go.Gh
set_option linter.unusedVariables false
set_option linter.unusedSimpArgs false
theorem rawP_all {P : Int → Prop} (hn : ∀ z, P z → P (-z)) {x k : Int} {i : List Int} {pl mi : Bool} (hx : P x) (hi : ∀ l ∈ i, P l) (hs : shpG k i.length = true) : ∀ c ∈ rawP x k i pl mi, ∀ y ∈ c, P y := by
  have app : ∀ {a b : List (List Int)}, (∀ c ∈ a, ∀ y ∈ c, P y) → (∀ c ∈ b, ∀ y ∈ c, P y) → ∀ c ∈ a ++ b, ∀ y ∈ c, P y := fun h1 h2 c hc => (List.mem_append.1 hc).elim (h1 c) (h2 c)
  have non : ∀ c ∈ ([] : List (List Int)), ∀ y ∈ c, P y := fun c hc => by cases hc
  have mp : ∀ (f : Int → List Int), (∀ z, P z → ∀ y ∈ f z, P y) → ∀ c ∈ i.map f, ∀ y ∈ c, P y := fun f hf c hc => by
    obtain ⟨z, hz, rfl⟩ := List.mem_map.1 hc; exact hf z (hi z hz)
  have one : ∀ (z : List Int), (∀ y ∈ z, P y) → ∀ c ∈ [z], ∀ y ∈ c, P y := fun z hz c hc => by
    rw [List.mem_singleton.1 hc]; exact hz
  have two : ∀ (u v : List Int), (∀ y ∈ u, P y) → (∀ y ∈ v, P y) → ∀ c ∈ [u, v], ∀ y ∈ c, P y := fun u v hu hv c hc => by
    rcases List.mem_cons.1 hc with rfl | hc
    · exact hu
    · rw [List.mem_singleton.1 hc]; exact hv
  have three : ∀ {a b c : Int}, P a → P b → P c → ∀ y ∈ [a, b, c], P y := fun ha hb hc y hy => by
    simp at hy; rcases hy with rfl | rfl | rfl <;> assumption
  have gd : ∀ j, j < i.length → P (i.getD j 0) := fun j hj => by
    rw [List.getD_eq_getElem?_getD, List.getElem?_eq_getElem hj]; exact hi _ (List.getElem_mem hj)
  have hcs := shpG_cases hs
  unfold rawP
  split
  · refine app ?_ ?_ <;> split
    · exact mp _ fun z hz y hy => by simp at hy; rcases hy with rfl | rfl; exact hn _ hx; exact hz
    · exact non
    · refine one _ fun y hy => ?_
      rcases List.mem_append.1 hy with hy | hy
      · obtain ⟨z, hz, rfl⟩ := List.mem_map.1 hy; exact hn _ (hi z hz)
      · simp at hy; subst hy; exact hx
    · exact non
  split
  · refine app ?_ ?_ <;> split
    · refine one _ fun y hy => ?_
      rcases List.mem_append.1 hy with hy | hy
      · exact hi y hy
      · simp at hy; subst hy; exact hn _ hx
    · exact non
    · exact mp _ fun z hz y hy => by simp at hy; rcases hy with rfl | rfl; exact hx; exact hn _ hz
    · exact non
  split
  · have g0 := gd 0 (by omega)
    have g1 := gd 1 (by omega)
    refine app ?_ ?_ <;> split
    · exact two _ _ (three (hn _ hx) g0 g1) (three (hn _ hx) (hn _ g0) (hn _ g1))
    · exact non
    · exact two _ _ (three hx (hn _ g0) g1) (three hx g0 (hn _ g1))
    · exact non
  · have g0 := gd 0 (by omega)
    have g1 := gd 1 (by omega)
    have g2 := gd 2 (by omega)
    refine app ?_ ?_ <;> split
    · exact two _ _ (three (hn _ hx) (hn _ g0) g1) (three (hn _ hx) g0 g2)
    · exact non
    · exact two _ _ (three hx (hn _ g0) (hn _ g1)) (three hx g0 (hn _ g2))
    · exact non
theorem gcl_all {P : Int → Prop} (hn : ∀ z, P z → P (-z)) {x k : Int} {i : List Int} {pl mi : Bool} (hx : P x) (hi : ∀ l ∈ i, P l) (hs : shpG k i.length = true) : ∀ c ∈ gcl x k i pl mi, ∀ y ∈ c, P y := fun c hc y hy => by
  obtain ⟨r, hr, h⟩ := List.mem_filterMap.1 hc
  exact rawP_all hn hx hi hs r hr y ((normL_some h).2 y |>.1 hy)
/-- The variables whose literals may occur. -/
def seenN (n : NetQ) (sg : Sg) : List Int := flatB n.pre ++ fmV sg n.gates
/-- Are the wanted gates' literals and the output's wanted, too? -/
structure Shut (n : NetQ) (sg : Sg) : Prop where
  gate : ∀ g ∈ n.gates, hasS (sg g.v) = true → ∀ x ∈ g.ins, absE x ∈ seenN n sg
  out : absE n.out ∈ seenN n sg
theorem fmV_mem {sg : Sg} {gs : List GateP} {v : Int} : v ∈ fmV sg gs ↔ ∃ g ∈ gs, hasS (sg g.v) = true ∧ g.v = v := by
  unfold fmV
  simp [List.mem_map, List.mem_filter, and_assoc]
theorem flat_behind (p : List Blk) (l : List Int) : flatB (behindB p l) = flatB p ++ l := by
  unfold behindB
  split
  · next h => rw [h, List.append_nil]
  have hsn : flatB (p ++ [(true, l)]) = flatB p ++ l := by unfold flatB; simp
  split
  · next b hb =>
    split
    · next ht =>
      have hlen : p.length - 1 < p.length := by
        rcases Nat.lt_or_ge (p.length - 1) p.length with h | h
        · exact h
        · rw [List.getElem?_eq_none h] at hb; cases hb
      have e1 : p = p.take (p.length - 1) ++ [b] := by
        have := take_get hb
        rw [Nat.sub_add_cancel (by omega), List.take_length] at this
        exact this
      have e2 : p.set (p.length - 1) (true, b.2 ++ l) = p.take (p.length - 1) ++ [(true, b.2 ++ l)] := by
        conv => lhs; rw [e1]
        have hl : (p.take (p.length - 1)).length = p.length - 1 := by rw [List.length_take]; omega
        rw [List.set_append_right _ _ (by simp)]
        simp [hl]
      rw [e2]
      conv => rhs; rw [e1]
      unfold flatB; simp
    · exact hsn
  · exact hsn
theorem gsOk_at : ∀ {gs : List GateP} {seen : List Int}, gsOk seen gs = true → ∀ g ∈ gs, shpG g.k g.ins.length = true ∧ isVar g.v = true ∧ ∀ x ∈ g.ins, absE x ∈ seen ++ gs.map (·.v)
  | [], _, _, g, hg => by cases hg
  | h :: gs, seen, hk, g, hg => by
    rw [gsOk] at hk
    simp only [Bool.and_eq_true, List.all_eq_true, List.contains_eq_mem, decide_eq_true_eq] at hk
    rcases List.mem_cons.1 hg with rfl | hg
    · refine ⟨hk.1.1.1, hk.1.2.1, fun x hx => ?_⟩
      have := hk.1.1.2 x hx
      simp; exact .inl this
    · obtain ⟨a, b, c⟩ := gsOk_at hk.2 g hg
      refine ⟨a, b, fun x hx => ?_⟩
      have := c x hx
      simp at this ⊢
      exact this
theorem isVar_Lt {v : Int} (h : isVar v = true) : Lt v := by
  simp only [isVar, Bool.and_eq_true, decide_eq_true_eq] at h; unfold Lt; omega
theorem absE_Lt {x : Int} (h : isVar (absE x) = true) : Lt x := by
  simp only [isVar, Bool.and_eq_true, decide_eq_true_eq] at h
  unfold absE at h; unfold Lt
  split at h
  · omega
  · unfold ab at h; split at h <;> omega
theorem absE_neg (x : Int) : absE (-x) = absE x := by
  unfold absE ab; repeat' split
  all_goals omega
theorem absE_var {v : Int} (h : isVar v = true) : absE v = v := by
  simp only [isVar, Bool.and_eq_true, decide_eq_true_eq] at h
  unfold absE ab; rw [if_neg (by omega), if_neg (by omega)]
theorem absE_W {x : Int} (h : Lt x) : absW x = absE x := by
  unfold Lt at h
  rw [absW_small (by omega), absE_in (by omega)]
theorem normR_S : ∀ {l : List Int} {last : Int}, normR last l = true → (∀ x ∈ l, Lt x) → nrmS last l = true
  | [], _, _, _ => rfl
  | x :: l, last, h, hl => by
    have hx := hl x (by simp)
    rw [normR] at h
    simp only [Bool.and_eq_true, decide_eq_true_eq] at h
    unfold nrmS
    rw [nrmG]
    have e : absW x = gabs x := by rw [hx.gabs, absW_small (by unfold Lt at hx; omega)]
    have ih := normR_S h.2 fun y hy => hl y (by simp [hy])
    unfold nrmS at ih
    rw [e, ih]
    unfold Lt at hx
    simp [litOk, h.1.2]; omega
/-- Every variable of a valid net is one. -/
theorem mayN_var {n : NetQ} (h : mayN n = true) : ∀ v ∈ n.all, isVar v = true := fun v hv => by
  unfold mayN at h
  simp only [Bool.and_eq_true] at h
  rcases List.mem_append.1 hv with hv | hv
  · exact singleS_var (mayB_parts h.1.1).2.2 v hv
  · obtain ⟨g, hg, rfl⟩ := List.mem_map.1 hv
    exact (gsOk_at h.1.2 g hg).2.1
theorem mayN_gate {n : NetQ} (h : mayN n = true) : ∀ g ∈ n.gates, shpG g.k g.ins.length = true ∧ isVar g.v = true ∧ ∀ x ∈ g.ins, Lt x ∧ absE x ∈ n.all := fun g hg => by
  have hh := h
  unfold mayN at h
  simp only [Bool.and_eq_true] at h
  obtain ⟨a, b, c⟩ := gsOk_at h.1.2 g hg
  exact ⟨a, b, fun x hx => ⟨absE_Lt (mayN_var hh _ (c x hx)), c x hx⟩⟩
theorem mayN_out {n : NetQ} (h : mayN n = true) : Lt n.out ∧ absE n.out ∈ n.all := by
  have hh := h
  unfold mayN at h
  simp only [Bool.and_eq_true, List.contains_eq_mem, decide_eq_true_eq] at h
  exact ⟨absE_Lt (mayN_var hh _ h.2), h.2⟩
theorem fml_lt {n : NetQ} {sg : Sg} (h : mayN n = true) : ∀ c ∈ (fmlQ n sg).cls, normal c = true ∧ ∀ x ∈ c, Lt x := fun c hc => by
  rcases List.mem_append.1 hc with hc | hc
  · obtain ⟨g, hg, hc⟩ := List.mem_flatMap.1 hc
    obtain ⟨a, b, d⟩ := mayN_gate h g hg
    split at hc
    · exact ⟨gcl_normal (isVar_Lt b) (fun x hx => (d x hx).1) a c hc, gcl_all (fun z hz => hz.neg) (isVar_Lt b) (fun x hx => (d x hx).1) a c hc⟩
    · cases hc
  · rw [List.mem_singleton.1 hc]
    obtain ⟨a, b⟩ := mayN_out h
    refine ⟨?_, fun x hx => by rw [List.mem_singleton.1 hx]; exact a⟩
    rw [normal_eq, normR, a.gabs]
    have := a.ab
    simp [isVar, normR]; omega
theorem fml_within {n : NetQ} {sg : Sg} (h : mayN n = true) (hs : Shut n sg) : withinB (fmlQ n sg).cls (flatB (fmlQ n sg).pre) = true := by
  unfold withinB
  rw [List.all_eq_true]
  intro c hc
  rw [List.all_eq_true]
  intro x hx
  have hlt := (fml_lt h c hc).2 x hx
  have e : flatB (fmlQ n sg).pre = seenN n sg := flat_behind _ _
  rw [absE_W hlt, e, List.contains_eq_mem, decide_eq_true_eq]
  rcases List.mem_append.1 hc with hc | hc
  · obtain ⟨g, hg, hc⟩ := List.mem_flatMap.1 hc
    obtain ⟨a, b, d⟩ := mayN_gate h g hg
    split at hc
    · next hw =>
      refine gcl_all (P := fun z => absE z ∈ seenN n sg) (fun z hz => by rw [absE_neg]; exact hz) ?_ (hs.gate g hg hw) a c hc x hx
      rw [absE_var b]
      exact List.mem_append.2 (.inr (fmV_mem.2 ⟨g, hg, hw, rfl⟩))
    · cases hc
  · rw [List.mem_singleton.1 hc] at hx
    rw [List.mem_singleton.1 hx]; exact hs.out
theorem fml_may {n : NetQ} {sg : Sg} (h : mayN n = true) (hs : Shut n sg) : mayQ (fmlQ n sg) = (mayB (fmlQ n sg).pre && cnf5 (fmlQ n sg).cls) := by
  have hl := fml_lt (sg := sg) h
  have e1 : (fmlQ n sg).cls.all (nrmS 0) = true := List.all_eq_true.2 fun c hc => normR_S (by rw [← normal_eq]; exact (hl c hc).1) (hl c hc).2
  have e2 : (fmlQ n sg).cls.all normal = true := List.all_eq_true.2 fun c hc => (hl c hc).1
  unfold mayQ cnfB cnf5 sumL
  rw [e1, e2, fml_within h hs]
  simp [Bool.and_assoc]
end Go.Gh
namespace Go.Gh
open Go.Proofs
noncomputable abbrev G_circ_abs : GFun := ⟨13, [(.tmp 2)], (.seq (.region [⟨0, ⟨(some 2), none, (.pure .id), [(.const (.int .i64 0))]⟩, []⟩]) (.seq (.seq (.region [⟨0, ⟨(some 3), none, (.pure .id), [(.tmp 0)]⟩, []⟩, ⟨0, ⟨(some 4), none, (.pure (.bin .lss .none)), [(.tmp 3), (.const (.int .i64 (-65536)))]⟩, []⟩, ⟨0, ⟨(some 5), none, (.pure .id), [(.tmp 4)]⟩, []⟩, ⟨0, ⟨(some 6), (some (5, false)), (.pure .id), [(.tmp 0)]⟩, []⟩, ⟨0, ⟨(some 7), (some (5, false)), (.pure (.bin .gtr .none)), [(.tmp 6), (.const (.int .i64 65536))]⟩, []⟩, ⟨0, ⟨(some 8), none, (.pure .pick), [(.tmp 5), (.const (.bool true)), (.tmp 7)]⟩, []⟩]) (.cond (.tmp 8) (.seq (.region [⟨0, ⟨(some 2), none, (.pure .id), [(.const (.int .i64 0))]⟩, []⟩]) .ret) .skip)) (.seq (.region [⟨0, ⟨(some 9), none, (.pure .id), [(.tmp 0)]⟩, []⟩, ⟨0, ⟨(some 10), none, (.pure .id), [(.tmp 0)]⟩, []⟩, ⟨0, ⟨(some 11), none, (.pure (.un .neg)), [(.tmp 10)]⟩, []⟩, ⟨0, ⟨(some 12), none, (.pure .mx), [(.tmp 9), (.tmp 11)]⟩, []⟩, ⟨0, ⟨(some 2), none, (.pure .id), [(.tmp 12)]⟩, []⟩]) .ret)))⟩
theorem c_circ_abs : compF Tryz.prog Tryz.f190 = some G_circ_abs := by kernel_rfl
theorem gc_circ_abs {args : List DV} {σ : GS} {Post : DV → GS → Prop} (h : @exB Tryz.prog ⟨G_circ_abs.body⟩ (genv0 args G_circ_abs.ntmps) σ ⟨@gretB G_circ_abs.results ⟨Post⟩⟩) : GCall Tryz.prog F_circ_abs args σ Post := gcall_ofB seatfollows Tryz.func190 (by kernel_rfl) c_circ_abs h
end Go.Gh
