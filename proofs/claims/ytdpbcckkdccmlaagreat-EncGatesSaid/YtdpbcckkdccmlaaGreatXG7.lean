/-
  Proved: enc.Gate returns what the chapter specifies, for all gates (of at most 1,000 literals) and numbers.
  Part 7 of 8. Conditions: none. A verified frame that runs compiled texts over a ghost heap, the contracts of the functions that the statement reaches, and the plain law.
-/
import Derived.Test.YtdpbcckkdccmlaaGreatXG6
import Derived.Test.YtdpbcckkdccmlaaGreatProg
import Derived.KernelRfl
namespace Go.Gh
open Go.RowKit Go.Proofs
set_option linter.unusedVariables false
set_option linter.unusedSimpArgs false
set_option maxRecDepth 100000
theorem Own.ix {n : Nat} {σ : GS} {s : DV} {xs : List Int} (h : Own n 1 eint σ s xs) {i : Nat} {x : Int} (hi : xs[i]? = some x) : ∃ id, gpure (.iaddr 1) [s, .int .i64 (i : Int)] = some (.ptr id i) ∧ gload (.load 1 false) [.ptr id i] σ = some (.int .i64 x) := by
  obtain ⟨id, _, h2, _, h4⟩ := h.get (fun _ => rfl) hi (k := .i64)
  refine ⟨id, by simpa using h2, ?_⟩
  have := h4 0 (by omega)
  simpa using this
theorem Lt.gabs {x : Int} (h : Lt x) : Go.Gh.gabs x = ab x := by
  unfold Lt at h
  unfold Go.Gh.gabs ab
  split
  · rw [wrap_small (by omega) (by omega)]; omega
  · rfl
theorem Lt.ab {x : Int} (h : Lt x) : 0 < Go.Gh.ab x ∧ Go.Gh.ab x ≤ 65536 := by
  unfold Lt at h
  unfold Go.Gh.ab; split <;> omega
theorem insA_len : ∀ {r : List Int} {x : Int} {r' : List Int}, insA r x = some r' → r'.length ≤ r.length + 1
  | [], x, r', h => by cases h; simp
  | y :: l, x, r', h => by
    rw [insA] at h
    split at h
    · obtain ⟨m, hm, rfl⟩ := Option.map_eq_some_iff.1 h
      have := insA_len hm; simp; omega
    · split at h
      · split at h
        · cases h; simp
        · cases h
      · cases h; simp
/-- The fold so far. -/
def nrmF (l : List Int) : Option (List Int) := l.foldl (fun o x => o.bind fun r => insA r x) (some [])
theorem nrmF_snoc {l : List Int} {i : Nat} {x : Int} {r : List Int} (hx : l[i]? = some x) (h : nrmF (l.take i) = some r) : nrmF (l.take (i + 1)) = insA r x := by
  unfold nrmF at h ⊢
  rw [take_get hx, List.foldl_append, h]; rfl
theorem nrmF_none {l : List Int} {i : Nat} (h : nrmF (l.take i) = none) : normL l = none := by
  have e : normL l = normL (l.take i ++ l.drop i) := by rw [List.take_append_drop]
  rw [e]
  unfold normL
  unfold nrmF at h
  rw [List.foldl_append, h, normL_none_fold]
theorem pw_get {r : List Int} (h : AscA r) {i j : Nat} {x y : Int} (hi : r[i]? = some x) (hj : r[j]? = some y) (hij : i < j) : ab x < ab y := by
  obtain ⟨h1, rfl⟩ := List.getElem?_eq_some_iff.1 hi
  obtain ⟨h2, rfl⟩ := List.getElem?_eq_some_iff.1 hj
  exact (List.pairwise_iff_getElem.1 h) i j h1 h2 hij
theorem mem_take_lt {r : List Int} {k : Nat} {z : Int} (h : z ∈ r.take k) : ∃ i, i < k ∧ r[i]? = some z := by
  obtain ⟨i, hi⟩ := List.mem_iff_getElem?.1 h
  rw [List.getElem?_take] at hi
  split at hi
  · exact ⟨i, by assumption, hi⟩
  · cases hi
theorem mem_drop_ge {r : List Int} {k : Nat} {z : Int} (h : z ∈ r.drop k) : ∃ i, k ≤ i ∧ r[i]? = some z := by
  obtain ⟨i, hi⟩ := List.mem_iff_getElem?.1 h
  rw [List.getElem?_drop] at hi
  exact ⟨k + i, by omega, hi⟩
set_option maxHeartbeats 1000000 in
theorem r12_sorted_ok {m : Nat} {t : DV} {l : List Int} {σ : GS} {Post : DV → GS → Prop} (hT : Own m 1 eint σ t l) (hl : l.length < 2 ^ 30) (hlit : ∀ x ∈ l, Lt x) (h : Post (.tuple [fints ((normL l).getD []), .bool (normL l).isSome]) σ) : GCall Tryz.prog F_skolemref12_sorted [t] σ Post := by
  refine GCall.pure (r := .tuple [fints ((normL l).getD []), .bool (normL l).isSome]) ?_ (by simp) h
  refine gc_skolemref12_sorted ?_
  simp [G_skolemref12_sorted, genv0, List.replicate]
  have htl := hT.len
  refine gfor l.length (fun i e σ' => Fr σ.length σ σ' ∧ ∃ s r, nrmF (l.take i) = some r ∧ r.length ≤ i ∧ Own σ.length 1 eint σ' s r ∧ e = mkEnv 85 [(0, t), (4, s), (5, .int .i64 i)]) _ ?_ ⟨.rfl', .nils, [], rfl, by simp, .nil, rfl⟩ ?_
  · simp [mkEnv, List.replicate]
  rintro i _ σ1 hi ⟨hF, s, r, hr, hrl, hO, rfl⟩
  have hT1 : Own m 1 eint σ1 t l := hT.fr hF
  simp [mkEnv, List.replicate, htl]
  by_cases hlt : i < l.length
  rotate_left
  · have : i = l.length := by omega
    subst this
    rw [List.take_length] at hr
    have hn : normL l = some r := hr
    simp
    rw [hn]
    exact ⟨hF, .tuple (.cons (hO.rd (fun _ => rfl) fun i hi => .inl hi) (.cons (.same _) .nil))⟩
  obtain ⟨x, hx⟩ := get_lt hlt
  have hxl := hlit x (List.mem_of_getElem? hx)
  have hxa := hxl.ab
  obtain ⟨tid, t1, t2⟩ := hT1.ix hx
  have es : IntKind.i64.wrap ((i : Int) + 1) = (i : Int) + 1 := by rw [wrap_small] <;> omega
  obtain ⟨hasc, hmem⟩ := normF_some .nil (show (l.take i).foldl (fun o x => Option.bind o fun r => insA r x) (some []) = some r from hr)
  have hrlit : ∀ z ∈ r, Lt z := fun z hz => by
    rcases (hmem z).1 hz with hz | hz
    · cases hz
    · exact hlit z (List.mem_of_mem_take hz)
  have hsl := hO.len
  simp [hlt, t1, t2]
  refine ref_Abs_ok ?_
  rw [hxl.gabs]
  simp [hsl]
  refine gfor r.length (fun c e σ' => σ' = σ1 ∧ c ≤ r.length ∧ (∀ (j : Nat) z, r.length - c ≤ j → r[j]? = some z → ab x < ab z) ∧ e = mkEnv 85 [(0, t), (4, s), (5, .int .i64 i), (6, .int .i64 (ab x)), (7, .int .i64 ((r.length - c : Nat) : Int))]) _ ?_ ⟨rfl, Nat.zero_le _, fun j z hj hz => by have := get_dom hz; omega, rfl⟩ ?_
  · simp [mkEnv, List.replicate]
  rintro c _ _ hc ⟨rfl, hc2, hbig, rfl⟩
  simp [mkEnv, List.replicate]
  obtain ⟨k, hk⟩ : ∃ k, r.length - c = k := ⟨_, rfl⟩
  rw [hk] at hbig ⊢
  have hkr : k ≤ r.length := by omega
  have hB : ∀ y ∈ r.drop k, ab x < ab y := fun y hy => by
    obtain ⟨j, h1, h2⟩ := mem_drop_ge hy
    exact hbig j y h1 h2
  rcases Nat.eq_zero_or_pos k with rfl | hkp
  · have hins : insA r x = some (r.take 0 ++ x :: r.drop 0) := by
      have := insA_cut (A := r.take 0) (B := r.drop 0) (x := x) (by simp) hB
      rwa [List.take_append_drop] at this
    have k0 : (0 : Nat) = 0 := rfl
    simp
    obtain ⟨k, hk0⟩ : ∃ k : Nat, k = 0 := ⟨0, rfl⟩
    rw [← hk0] at hins hkr hk
    obtain ⟨s', σ2, q1, q2, q3, q4, q5, q6⟩ := hO.push (by_ := 8) 0 (fun _ => rfl) (by simp) hF.len (by omega) (by decide)
    have q2l := q2.len
    have hs2 : ((r ++ [(0 : Int)]).length : Int) = r.length + 1 := by simp
    rw [hs2] at q2l
    have ewr : IntKind.i64.wrap (r.length : Int) = r.length := by rw [wrap_small] <;> omega
    simp [q1, q2l, ewr]
    refine gfor (r.length - k) (fun c e σ' => Fr σ.length σ σ' ∧ Own σ.length 1 eint σ' s' ((r ++ [0]).take (r.length - c + 1) ++ r.drop (r.length - c)) ∧ c ≤ r.length - k ∧ e = mkEnv 85 [(0, t), (4, s'), (5, .int .i64 i), (7, .int .i64 (k : Int)), (8, .int .i64 ((r.length - c : Nat) : Int))]) _ ?_ ⟨hF.trans q3, ?_, Nat.zero_le _, rfl⟩ ?_
    · simp [mkEnv, List.replicate] <;> omega
    · have e : (r ++ [(0 : Int)]).take (r.length - 0 + 1) ++ r.drop (r.length - 0) = r ++ [0] := by rw [Nat.sub_zero, List.drop_length, List.append_nil, List.take_of_length_le (by simp)]
      rw [e]; exact q2
    clear q1 q2 q3 q4 q5 q6 q2l
    rintro c' _ σ3 hc' ⟨hF3, hO3, hck, rfl⟩
    have hT3 : Own m 1 eint σ3 t l := hT.fr hF3
    simp [mkEnv, List.replicate]
    have hl3 : ((r ++ [(0 : Int)]).take (r.length - c' + 1) ++ r.drop (r.length - c')).length = r.length + 1 := by simp; omega
    by_cases hgt : k < r.length - c'
    · obtain ⟨z, hz⟩ := get_lt (xs := r) (i := r.length - c' - 1) (by omega)
      have hz' : ((r ++ [(0 : Int)]).take (r.length - c' + 1) ++ r.drop (r.length - c'))[r.length - c' - 1]? = some z := by
        rw [List.getElem?_append_left (by simp; omega), List.getElem?_take, if_pos (by omega), List.getElem?_append_left (by omega)]; exact hz
      obtain ⟨d1, u1, u2⟩ := hO3.ix hz'
      obtain ⟨d2, σ4, v1, v2, v3, v4, v5, v6⟩ := hO3.set (f := fun x => DV.int .i64 x) (i := r.length - c') (by rw [hl3]; omega) z (by simp) (k := .i64)
      have ez : IntKind.i64.wrap (((r.length - c' : Nat) : Int) - 1) = ((r.length - c' - 1 : Nat) : Int) := by rw [wrap_small] <;> omega
      simp [hgt, ez, u1, u2, v2, v3]
      refine forK_go _ (by omega) (by simp [mkEnv, List.replicate]; omega) ⟨⟨by rw [v5]; exact hF3.len, fun j hj => (v6 j fun hh => by have := hO3.has_ge hh; omega).trans (hF3.get j hj)⟩, ?_, by omega, rfl⟩
      have e : (((r ++ [(0 : Int)]).take (r.length - c' + 1) ++ r.drop (r.length - c')).set (r.length - c') z) = (r ++ [(0 : Int)]).take (r.length - (c' + 1) + 1) ++ r.drop (r.length - (c' + 1)) := by
        have h1 : r.length - (c' + 1) + 1 = r.length - c' := by omega
        have h2 : r.length - (c' + 1) = r.length - c' - 1 := by omega
        rw [h1, h2, drop_get hz, show r.length - c' - 1 + 1 = r.length - c' by omega]
        rw [List.set_append_left _ _ (by simp <;> omega)]
        have h3 : ((r ++ [(0 : Int)]).take (r.length - c' + 1)) = (r ++ [(0 : Int)]).take (r.length - c') ++ [((r ++ [(0 : Int)])[r.length - c']'(by simp; omega))] := List.take_succ_eq_append_getElem (by simp; omega)
        rw [h3, List.set_append_right _ _ (by simp; omega)]
        have h4 : r.length - c' - ((r ++ [(0 : Int)]).take (r.length - c')).length = 0 := by simp; omega
        rw [h4]
        simp
      rw [← e]; exact v4
    · have hkc : r.length - c' = k := by omega
      rw [hkc] at hO3 hl3
      obtain ⟨tid3, t31, t32⟩ := hT3.ix hx
      obtain ⟨d2, σ4, v1, v2, v3, v4, v5, v6⟩ := hO3.set (f := fun x => DV.int .i64 x) (i := k) (by rw [hl3]; omega) x (by simp) (k := .i64)
      simp [hgt, t31, t32, v2, v3, es]
      have e : (((r ++ [(0 : Int)]).take (k + 1) ++ r.drop k).set k x) = r.take k ++ x :: r.drop k := by
        rw [List.set_append_left _ _ (by simp <;> omega)]
        have h3 : ((r ++ [(0 : Int)]).take (k + 1)) = (r ++ [(0 : Int)]).take k ++ [((r ++ [(0 : Int)])[k]'(by simp; omega))] := List.take_succ_eq_append_getElem (by simp; omega)
        rw [h3, List.set_append_right _ _ (by simp; omega)]
        have h4 : k - ((r ++ [(0 : Int)]).take k).length = 0 := by simp; omega
        rw [h4, List.take_append_of_le_length (by omega)]
        simp
      rw [e] at v4
      refine forK_go _ hlt (by simp [mkEnv, List.replicate]) ⟨⟨by rw [v5]; exact hF3.len, fun j hj => (v6 j fun hh => by have := hO3.has_ge hh; omega).trans (hF3.get j hj)⟩, s', _, (nrmF_snoc hx hr).trans hins, by simp; omega, v4, rfl⟩
  · obtain ⟨y, hy⟩ := get_lt (xs := r) (i := k - 1) (by omega)
    have hyl := hrlit y (List.mem_of_getElem? hy)
    obtain ⟨sid, s1, s2⟩ := hO.ix hy
    have ek : IntKind.i64.wrap ((k : Int) - 1) = ((k - 1 : Nat) : Int) := by rw [wrap_small] <;> omega
    simp [hkp, ek, s1, s2]
    refine ref_Abs_ok ?_
    rw [hyl.gabs]
    by_cases c1 : ab x < ab y
    · simp [c1, ek]
      refine forK_go _ (by omega) (by simp [mkEnv, List.replicate]; omega) ⟨rfl, by omega, fun j z hj hz => ?_, rfl⟩
      by_cases hjk : k ≤ j
      · exact hbig j z hjk hz
      · have : j = k - 1 := by omega
        subst this
        rw [hy] at hz; cases hz; exact c1
    simp [c1, hkp, ek, s1, s2]
    refine ref_Abs_ok ?_
    rw [hyl.gabs]
    have hsplit : r.take (k - 1) ++ y :: r.drop k = r := by
      have := drop_get hy
      rw [show k - 1 + 1 = k by omega] at this
      rw [← this, List.take_append_drop]
    by_cases c2 : ab y = ab x
    · have hsame := insA_same (A := r.take (k - 1)) (B := r.drop k) (y := y) (x := x) (fun z hz => by
        obtain ⟨j, h1, h2⟩ := mem_take_lt hz
        have := pw_get hasc h2 hy h1; omega) c2
      rw [hsplit] at hsame
      by_cases c3 : y = x
      · rw [if_pos c3] at hsame
        simp [c2, ek, s1, s2, t1, t2, c3, es]
        exact forK_go _ hlt (by simp [mkEnv, List.replicate]) ⟨hF, s, r, (nrmF_snoc hx hr).trans hsame, by omega, hO, rfl⟩
      · rw [if_neg c3] at hsame
        have hnone : normL l = none := nrmF_none (i := i + 1) ((nrmF_snoc hx hr).trans hsame)
        simp [c2, ek, s1, s2, t1, t2, c3]
        rw [hnone]
        exact ⟨hF, .tuple (.cons (.nils 1) (.cons (.same _) .nil))⟩
    have hins : insA r x = some (r.take k ++ x :: r.drop k) := by
      have := insA_cut (A := r.take k) (B := r.drop k) (x := x) (fun z hz => by
        obtain ⟨j, h1, h2⟩ := mem_take_lt hz
        by_cases hj : j = k - 1
        · subst hj; rw [hy] at h2; cases h2; omega
        · have := pw_get hasc h2 hy (by omega); omega) hB
      rwa [List.take_append_drop] at this
    simp [c2]
    obtain ⟨s', σ2, q1, q2, q3, q4, q5, q6⟩ := hO.push (by_ := 8) 0 (fun _ => rfl) (by simp) hF.len (by omega) (by decide)
    have q2l := q2.len
    have hs2 : ((r ++ [(0 : Int)]).length : Int) = r.length + 1 := by simp
    rw [hs2] at q2l
    have ewr : IntKind.i64.wrap (r.length : Int) = r.length := by rw [wrap_small] <;> omega
    simp [q1, q2l, ewr]
    refine gfor (r.length - k) (fun c e σ' => Fr σ.length σ σ' ∧ Own σ.length 1 eint σ' s' ((r ++ [0]).take (r.length - c + 1) ++ r.drop (r.length - c)) ∧ c ≤ r.length - k ∧ e = mkEnv 85 [(0, t), (4, s'), (5, .int .i64 i), (7, .int .i64 (k : Int)), (8, .int .i64 ((r.length - c : Nat) : Int))]) _ ?_ ⟨hF.trans q3, ?_, Nat.zero_le _, rfl⟩ ?_
    · simp [mkEnv, List.replicate] <;> omega
    · have e : (r ++ [(0 : Int)]).take (r.length - 0 + 1) ++ r.drop (r.length - 0) = r ++ [0] := by rw [Nat.sub_zero, List.drop_length, List.append_nil, List.take_of_length_le (by simp)]
      rw [e]; exact q2
    clear q1 q2 q3 q4 q5 q6 q2l
    rintro c' _ σ3 hc' ⟨hF3, hO3, hck, rfl⟩
    have hT3 : Own m 1 eint σ3 t l := hT.fr hF3
    simp [mkEnv, List.replicate]
    have hl3 : ((r ++ [(0 : Int)]).take (r.length - c' + 1) ++ r.drop (r.length - c')).length = r.length + 1 := by simp; omega
    by_cases hgt : k < r.length - c'
    · obtain ⟨z, hz⟩ := get_lt (xs := r) (i := r.length - c' - 1) (by omega)
      have hz' : ((r ++ [(0 : Int)]).take (r.length - c' + 1) ++ r.drop (r.length - c'))[r.length - c' - 1]? = some z := by
        rw [List.getElem?_append_left (by simp; omega), List.getElem?_take, if_pos (by omega), List.getElem?_append_left (by omega)]; exact hz
      obtain ⟨d1, u1, u2⟩ := hO3.ix hz'
      obtain ⟨d2, σ4, v1, v2, v3, v4, v5, v6⟩ := hO3.set (f := fun x => DV.int .i64 x) (i := r.length - c') (by rw [hl3]; omega) z (by simp) (k := .i64)
      have ez : IntKind.i64.wrap (((r.length - c' : Nat) : Int) - 1) = ((r.length - c' - 1 : Nat) : Int) := by rw [wrap_small] <;> omega
      simp [hgt, ez, u1, u2, v2, v3]
      refine forK_go _ (by omega) (by simp [mkEnv, List.replicate]; omega) ⟨⟨by rw [v5]; exact hF3.len, fun j hj => (v6 j fun hh => by have := hO3.has_ge hh; omega).trans (hF3.get j hj)⟩, ?_, by omega, rfl⟩
      have e : (((r ++ [(0 : Int)]).take (r.length - c' + 1) ++ r.drop (r.length - c')).set (r.length - c') z) = (r ++ [(0 : Int)]).take (r.length - (c' + 1) + 1) ++ r.drop (r.length - (c' + 1)) := by
        have h1 : r.length - (c' + 1) + 1 = r.length - c' := by omega
        have h2 : r.length - (c' + 1) = r.length - c' - 1 := by omega
        rw [h1, h2, drop_get hz, show r.length - c' - 1 + 1 = r.length - c' by omega]
        rw [List.set_append_left _ _ (by simp <;> omega)]
        have h3 : ((r ++ [(0 : Int)]).take (r.length - c' + 1)) = (r ++ [(0 : Int)]).take (r.length - c') ++ [((r ++ [(0 : Int)])[r.length - c']'(by simp; omega))] := List.take_succ_eq_append_getElem (by simp; omega)
        rw [h3, List.set_append_right _ _ (by simp; omega)]
        have h4 : r.length - c' - ((r ++ [(0 : Int)]).take (r.length - c')).length = 0 := by simp; omega
        rw [h4]
        simp
      rw [← e]; exact v4
    · have hkc : r.length - c' = k := by omega
      rw [hkc] at hO3 hl3
      obtain ⟨tid3, t31, t32⟩ := hT3.ix hx
      obtain ⟨d2, σ4, v1, v2, v3, v4, v5, v6⟩ := hO3.set (f := fun x => DV.int .i64 x) (i := k) (by rw [hl3]; omega) x (by simp) (k := .i64)
      simp [hgt, t31, t32, v2, v3, es]
      have e : (((r ++ [(0 : Int)]).take (k + 1) ++ r.drop k).set k x) = r.take k ++ x :: r.drop k := by
        rw [List.set_append_left _ _ (by simp <;> omega)]
        have h3 : ((r ++ [(0 : Int)]).take (k + 1)) = (r ++ [(0 : Int)]).take k ++ [((r ++ [(0 : Int)])[k]'(by simp; omega))] := List.take_succ_eq_append_getElem (by simp; omega)
        rw [h3, List.set_append_right _ _ (by simp; omega)]
        have h4 : k - ((r ++ [(0 : Int)]).take k).length = 0 := by simp; omega
        rw [h4, List.take_append_of_le_length (by omega)]
        simp
      rw [e] at v4
      refine forK_go _ hlt (by simp [mkEnv, List.replicate]) ⟨⟨by rw [v5]; exact hF3.len, fun j hj => (v6 j fun hh => by have := hO3.has_ge hh; omega).trans (hF3.get j hj)⟩, s', _, (nrmF_snoc hx hr).trans hins, by simp; omega, v4, rfl⟩
end Go.Gh
namespace Go.Gh
open Go.RowKit Go.Proofs
set_option linter.unusedVariables false
set_option linter.unusedSimpArgs false
set_option maxRecDepth 100000
theorem r12_literal_ok {x : Int} {σ : GS} {Post : DV → GS → Prop} (h : Post (.bool (isVar (gabs x))) σ) : GCall Tryz.prog F_skolemref12_literal [.int .i64 x] σ Post := by
  refine gc_skolemref12_literal ?_
  simp [G_skolemref12_literal, genv0, List.replicate]
  refine ref_Abs_ok ?_
  by_cases h1 : 1 ≤ gabs x
  · simp [h1]; simpa [isVar, h1] using h
  · simp [h1]; simpa [isVar, h1] using h
theorem fm_take0 {i : List Int} {j : Nat} {y : Int} (h : i[j]? = some y) (f : Int → List Int) : ((i.take (j + 1)).map f).filterMap normL = ((i.take j).map f).filterMap normL ++ (normL (f y)).toList := by simpa using fm_take (f := f) h []
/-- One slice of one's own turns into another. -/
structure SS (σ : GS) (s : DV) (σ' : GS) (s' : DV) : Prop where
  len : σ.length ≤ σ'.length
  get : ∀ i, i < σ.length → ¬ s.has i → σ'[i]? = σ[i]?
  has : ∀ i, s'.has i → s.has i ∨ σ.length ≤ i
theorem SS.refl (σ : GS) (s : DV) : SS σ s σ s := ⟨Nat.le_refl _, fun _ _ _ => rfl, fun _ h => .inl h⟩
theorem SS.trans {a b c : GS} {s t u : DV} (h : SS a s b t) (k : SS b t c u) : SS a s c u :=
  ⟨Nat.le_trans h.len k.len, fun i hi hn => (k.get i (by have := h.len; omega) fun ht => by rcases h.has i ht with h1 | h1; exact hn h1; omega).trans (h.get i hi hn), fun i hi => by
    rcases k.has i hi with h1 | h1
    · exact h.has i h1
    · exact .inr (by have := h.len; omega)⟩
theorem SS.fr {n : Nat} {α : Type} {sz : Nat} {enc : α → List DV} {σ σ' : GS} {s s' : DV} {xs : List α} (h : SS σ s σ' s') (hO : Own n sz enc σ s xs) (hn : n ≤ σ.length) : Fr n σ σ' :=
  ⟨by have := h.len; omega, fun i hi => h.get i (by omega) fun hh => by have := hO.has_ge hh; omega⟩
theorem SS.app {σ : GS} {s : DV} (τ : GS) : SS σ s (σ ++ τ) s := ⟨by simp, fun i hi _ => List.getElem?_append_left hi, fun i h => .inl h⟩
theorem r12_Put_ok {n m : Nat} {s t : DV} {cs : List (List Int)} {raw : List Int} {σ : GS} {Post : DV → GS → Prop} (hS : Own n 1 ecl σ s cs) (hT : Own m 1 eint σ t raw) (hn : n ≤ σ.length) (hl : raw.length < 2 ^ 30) (hlit : ∀ x ∈ raw, Lt x) (hcs : cs.length < 2 ^ 40)
    (k : ∀ s' σ', Own n 1 ecl σ' s' (cs ++ (normL raw).toList) → SS σ s σ' s' → Post s' σ') : GCall Tryz.prog F_skolemref12_Put [s, t] σ Post := by
  refine gc_skolemref12_Put ?_
  simp [G_skolemref12_Put, genv0, List.replicate]
  refine r12_sorted_ok hT hl hlit ?_
  cases h : normL raw with
  | none =>
    rw [h] at k
    simp
    exact k _ _ (by simpa using hS) (.refl _ _)
  | some r =>
    rw [h] at k
    obtain ⟨s', σ', q1, q2, q3, q4, q5, q6⟩ := hS.push (by_ := 24) r (fun _ => rfl) (by simp) hn (by omega) (by decide)
    have hba : galloc (.bslice 1 [.nils] 1 [(0, 1)]) [fints r] = some (.row false (ecl r), fun id => .slice id 0 1 1 (some 1)) := ga_b1_flat rfl
    simp [hba, q1]
    exact k _ _ q2 ⟨q4, q5, q6⟩
theorem row_ld {σ σ1 : GS} {g : GateP} (hF : Fr (σ.length + 1) (σ ++ [.row false (egate g)]) σ1) : gload (.load 1 false) [.ptr σ.length 0] σ1 = some (.int .i64 g.v) ∧ gload (.load 1 false) [.ptr σ.length 1] σ1 = some (.int .u8 g.k) ∧ gload (.load 1 false) [.ptr σ.length 2] σ1 = some (fints g.ins) := by
  have hrow : σ1[σ.length]? = some (.row false (egate g)) := by
    have := hF.get σ.length (by omega)
    rw [this, getE_tail0]; rfl
  exact ⟨ld_at hrow, ld_at hrow, ld_at hrow⟩
theorem gcl_1r (x : Int) (i : List Int) (pl mi : Bool) (hx : x ≠ 0) (hi : ∀ l ∈ i, l ≠ 0) : gcl x 1 i pl mi = (if pl = true then (i.map fun l => [-x, l]).filterMap normL else []) ++ (if mi = true then (normL (x :: i.map fun l => -l)).toList else []) := by
  rw [gcl_1, gcl_wideA hx hi]
  cases mi
  · rfl
  · have := fm_snoc [] ((i.map fun l => -l) ++ [x])
    simp only [List.nil_append, List.filterMap_nil] at this
    rw [if_pos rfl, if_pos rfl, this]
theorem gcl_2r (x : Int) (i : List Int) (pl mi : Bool) (hx : x ≠ 0) (hi : ∀ l ∈ i, l ≠ 0) : gcl x 2 i pl mi = (if pl = true then (normL (-x :: i)).toList else []) ++ (if mi = true then (i.map fun l => [x, -l]).filterMap normL else []) := by
  rw [gcl_2, gcl_wideO hx hi]
  cases pl
  · rfl
  · have := fm_snoc [] (i ++ [-x])
    simp only [List.nil_append, List.filterMap_nil] at this
    rw [if_pos rfl, if_pos rfl, this]
@[simp] theorem wrap_m1 : IntKind.i64.wrap (-1) = -1 := by decide
theorem Lt.wrapI {x : Int} (h : Lt x) : IntKind.i64.wrap x = x := by unfold Lt at h; rw [wrap_small] <;> omega
set_option maxHeartbeats 1000000 in
theorem r12_cl1_ok {x : Int} {i : List Int} {pl mi : Bool} {σ : GS} {Post : DV → GS → Prop} (hx : Lt x) (hi : ∀ l ∈ i, Lt l) (hil : i.length < 2 ^ 29) (h : Post (fcls (gcl x 1 i pl mi)) σ) : GCall Tryz.prog F_skolemref12_Clauses [GateP.enc ⟨x, 1, i⟩, .bool pl, .bool mi] σ Post := by
  refine GCall.pure (r := fcls (gcl x 1 i pl mi)) ?_ (by simp) h
  rw [gcl_1r x i pl mi hx.1 fun l hl => (hi l hl).1]
  refine gc_skolemref12_Clauses ?_
  simp [G_skolemref12_Clauses, genv0, List.replicate, hx.wrapI, hx.wrapN]
  obtain ⟨g, hg⟩ : ∃ g, g = GateP.mk x 1 i := ⟨_, rfl⟩
  have hgr : [DV.int .i64 x, .int .u8 1, fints i] = egate g := by rw [hg]
  have ld : ∀ {σ1 : GS}, Fr (σ.length + 1) (σ ++ [.row false (egate g)]) σ1 → gload (.load 1 false) [.ptr σ.length 0] σ1 = some (.int .i64 x) ∧ gload (.load 1 false) [.ptr σ.length 1] σ1 = some (.int .u8 1) ∧ gload (.load 1 false) [.ptr σ.length 2] σ1 = some (fints i) := fun hF => by have := row_ld hF; rw [hg] at this; exact this
  refine gfor i.length (fun j e σ' => Fr (σ.length + 1) (σ ++ [.row false (egate g)]) σ' ∧ ∃ w, Own (σ.length + 1) 1 eint σ' w (x :: (i.take j).map (fun l => -l)) ∧ e = mkEnv 186 [(1, .bool pl), (2, .bool mi), (3, .ptr σ.length 0), (7, .int .i64 x), (8, .nils), (9, .int .i64 1), (10, w), (11, .int .i64 j)]) _ ?_ ⟨?_, .slice (σ.length + 1) 0 1 1 (some 1), ?_, rfl⟩ ?_
  · simp [mkEnv, List.replicate]
  · rw [← hgr]; exact (Fr.refl (by simp)).app [.row false [.int .i64 (x)]] |>.trans (by simpa using Fr.refl (by simp)) 
  · have := own_laid (σ := σ ++ [.row false (egate g)]) [x]
    rw [← hgr] at this
    simpa using this
  rintro j _ σ1 hj ⟨hF1, w, hW, rfl⟩
  obtain ⟨d0, d1, d2⟩ := ld hF1
  have hWf : ∀ y ∈ (x :: (i.take j).map (fun l => -l)), Lt y := fun y hy => by
    rcases List.mem_cons.1 hy with rfl | hy
    · exact hx
    · obtain ⟨z, hz, rfl⟩ := List.mem_map.1 hy
      exact (hi z (List.mem_of_mem_take hz)).neg
  simp [mkEnv, List.replicate, d2]
  by_cases hlt : j < i.length
  · obtain ⟨y, hy⟩ := nth_lt hlt
    have hy' := nth_get hy
    have hyl := hi y (List.mem_of_getElem? hy')
    have es : IntKind.i64.wrap ((j : Int) + 1) = (j : Int) + 1 := by rw [wrap_small] <;> omega
    have hgl := hF1.len
    obtain ⟨w', σ2, q1, q2, q3, q4, q5, q6⟩ := hW.push (by_ := 8) (-y) (fun _ => rfl) (by simp) (by omega) (by simp; omega) (by decide)
    simp [hlt, hy, d2, hyl.wrapN, hyl.wrapI, q1, es]
    refine forK_go _ hlt (by simp [mkEnv, List.replicate]) ⟨hF1.trans (q3.mono (by simp)), w', ?_, rfl⟩
    rw [take_get hy']
    simpa using q2
  have : j = i.length := by omega
  subst this
  rw [List.take_length] at hW hWf
  have hgl := hF1.len
  simp
  simp [d1]
  refine gfor i.length (fun j e σ' => Fr (σ.length + 1) (σ ++ [.row false (egate g)]) σ' ∧ ∃ s, Own (σ.length + 1) 1 eint σ' w (x :: i.map (fun l => -l)) ∧ Own (σ.length + 1) 1 ecl σ' s (if pl = true then ((i.take j).map (fun l => [-x, l])).filterMap normL else []) ∧ (∀ k, s.has k → ¬ w.has k) ∧ e = mkEnv 186 [(1, .bool pl), (2, .bool mi), (3, .ptr σ.length 0), (7, .int .i64 x), (8, s), (9, .int .i64 1), (10, w), (12, .int .i64 j)]) _ ?_ ⟨hF1, .nils, hW, by simpa using Own.nil, (fun k h => by obtain ⟨_, _, _, _, e⟩ := h; cases e), rfl⟩ ?_
  · simp [mkEnv, List.replicate]
  rintro j _ σ2 hj ⟨hF2, s, hW2, hS2, hsw, rfl⟩
  obtain ⟨d0, d1, d2⟩ := ld hF2
  have hgl2 := hF2.len
  simp [mkEnv, List.replicate, d2]
  by_cases hlt : j < i.length
  · obtain ⟨y, hy⟩ := nth_lt hlt
    have hy' := nth_get hy
    have hyl := hi y (List.mem_of_getElem? hy')
    have es : IntKind.i64.wrap ((j : Int) + 1) = (j : Int) + 1 := by rw [wrap_small] <;> omega
    have hln := fm_len ((i.take j).map (fun l => [-x, l]))
    simp only [List.length_map, List.length_take] at hln
    cases pl with
    | false =>
      simp [hlt, d1, es]
      exact forK_go _ hlt (by simp [mkEnv, List.replicate]) ⟨hF2, s, hW2, by simpa using hS2, hsw, rfl⟩
    | true =>
      simp only [if_true] at hS2
      simp [hlt, hy, d1, d2, hx.wrapN, hx.wrapI, hyl.wrapN, hyl.wrapI]
      have hap : Own (σ.length + 1) 1 ecl (σ2 ++ [.row false ([-x, y].map fun x => DV.int .i64 x)]) s _ := hS2.fr (Fr.rfl'.app _)
      refine r12_Put_ok hap (own_laid [-x, y]) (by simp; omega) (by simp) (lt2 hx.neg hyl) (by  omega) fun s' σ4 hS4 hss => ?_
      have hss2 := (SS.app (σ := σ2) (s := s) [.row false ([-x, y].map fun x => DV.int .i64 x)]).trans hss
      simp [es]
      refine forK_go _ hlt (by simp [mkEnv, List.replicate]) ⟨hF2.trans (hss2.fr hS2 hgl2), s', hW2.fit fun k hk => hss2.get k (hW2.has_lt hk) fun hh => hsw k hh hk, ?_, fun k hk hk' => ?_, rfl⟩
      · rw [if_pos rfl, fm_take0 hy' (fun l => [-x, l])]; first | exact hS4 | (rw [← List.append_assoc]; exact hS4)
      · rcases hss2.has k hk with h1 | h1
        · exact hsw k h1 hk'
        · have := hW2.has_lt hk'; omega
  have : j = i.length := by omega
  subst this
  rw [List.take_length] at hS2
  simp [d1]
  have hln := fm_len (i.map (fun l => [-x, l]))
  rw [List.length_map] at hln
  cases mi with
  | false =>
    simp
    exact ⟨⟨by omega, fun k hk => by rw [hF2.get k (by omega), List.getElem?_append_left hk]⟩, by simp only [fcls]; simpa using hS2.rd (ok := OkN σ.length σ2) (fun _ => rfl) fun k hk => .inl (by omega)⟩
  | true =>
    simp
    refine r12_Put_ok hS2 hW2 (by omega) (by simp; omega) hWf (by split <;> first | omega | (simp only [List.length_nil]; omega)) fun s' σ4 hS4 hss => ?_
    simp
    have hF4 := hF2.trans (hss.fr hS2 hgl2)
    exact ⟨⟨by have := hF4.len; omega, fun k hk => by rw [hF4.get k (by omega), List.getElem?_append_left hk]⟩, by simp only [fcls]; simpa using hS4.rd (ok := OkN σ.length σ4) (fun _ => rfl) fun k hk => .inl (by omega)⟩
set_option maxHeartbeats 1000000 in
theorem r12_cl2_ok {x : Int} {i : List Int} {pl mi : Bool} {σ : GS} {Post : DV → GS → Prop} (hx : Lt x) (hi : ∀ l ∈ i, Lt l) (hil : i.length < 2 ^ 29) (h : Post (fcls (gcl x 2 i pl mi)) σ) : GCall Tryz.prog F_skolemref12_Clauses [GateP.enc ⟨x, 2, i⟩, .bool pl, .bool mi] σ Post := by
  refine GCall.pure (r := fcls (gcl x 2 i pl mi)) ?_ (by simp) h
  rw [gcl_2r x i pl mi hx.1 fun l hl => (hi l hl).1]
  refine gc_skolemref12_Clauses ?_
  simp [G_skolemref12_Clauses, genv0, List.replicate, hx.wrapI, hx.wrapN]
  obtain ⟨g, hg⟩ : ∃ g, g = GateP.mk x 2 i := ⟨_, rfl⟩
  have hgr : [DV.int .i64 x, .int .u8 2, fints i] = egate g := by rw [hg]
  have ld : ∀ {σ1 : GS}, Fr (σ.length + 1) (σ ++ [.row false (egate g)]) σ1 → gload (.load 1 false) [.ptr σ.length 0] σ1 = some (.int .i64 x) ∧ gload (.load 1 false) [.ptr σ.length 1] σ1 = some (.int .u8 2) ∧ gload (.load 1 false) [.ptr σ.length 2] σ1 = some (fints i) := fun hF => by have := row_ld hF; rw [hg] at this; exact this
  refine gfor i.length (fun j e σ' => Fr (σ.length + 1) (σ ++ [.row false (egate g)]) σ' ∧ ∃ w, Own (σ.length + 1) 1 eint σ' w (-x :: (i.take j).map (fun l => l)) ∧ e = mkEnv 186 [(1, .bool pl), (2, .bool mi), (3, .ptr σ.length 0), (7, .int .i64 x), (8, .nils), (9, .int .i64 (-1)), (10, w), (11, .int .i64 j)]) _ ?_ ⟨?_, .slice (σ.length + 1) 0 1 1 (some 1), ?_, rfl⟩ ?_
  · simp [mkEnv, List.replicate]
  · rw [← hgr]; exact (Fr.refl (by simp)).app [.row false [.int .i64 (-x)]] |>.trans (by simpa using Fr.refl (by simp)) 
  · have := own_laid (σ := σ ++ [.row false (egate g)]) [-x]
    rw [← hgr] at this
    simpa using this
  rintro j _ σ1 hj ⟨hF1, w, hW, rfl⟩
  obtain ⟨d0, d1, d2⟩ := ld hF1
  have hWf : ∀ y ∈ (-x :: (i.take j).map (fun l => l)), Lt y := fun y hy => by
    rcases List.mem_cons.1 hy with rfl | hy
    · exact hx.neg
    · obtain ⟨z, hz, rfl⟩ := List.mem_map.1 hy
      exact hi z (List.mem_of_mem_take hz)
  simp [mkEnv, List.replicate, d2]
  by_cases hlt : j < i.length
  · obtain ⟨y, hy⟩ := nth_lt hlt
    have hy' := nth_get hy
    have hyl := hi y (List.mem_of_getElem? hy')
    have es : IntKind.i64.wrap ((j : Int) + 1) = (j : Int) + 1 := by rw [wrap_small] <;> omega
    have hgl := hF1.len
    obtain ⟨w', σ2, q1, q2, q3, q4, q5, q6⟩ := hW.push (by_ := 8) (y) (fun _ => rfl) (by simp) (by omega) (by simp; omega) (by decide)
    simp [hlt, hy, d2, hyl.wrapN, hyl.wrapI, q1, es]
    refine forK_go _ hlt (by simp [mkEnv, List.replicate]) ⟨hF1.trans (q3.mono (by simp)), w', ?_, rfl⟩
    rw [take_get hy']
    simpa using q2
  have : j = i.length := by omega
  subst this
  rw [List.take_length] at hW hWf
  have hgl := hF1.len
  simp
  simp [d1]
  cases pl with
  | false =>
    simp
    refine gfor i.length (fun j e σ' => Fr (σ.length + 1) (σ ++ [.row false (egate g)]) σ' ∧ ∃ s, Own (σ.length + 1) 1 eint σ' w (-x :: i.map (fun l => l)) ∧ Own (σ.length + 1) 1 ecl σ' s (if mi = true then ((i.take j).map (fun l => [x, -l])).filterMap normL else []) ∧ (∀ k, s.has k → ¬ w.has k) ∧ e = mkEnv 186 [(1, .bool false), (2, .bool mi), (3, .ptr σ.length 0), (7, .int .i64 x), (8, s), (9, .int .i64 (-1)), (10, w), (12, .int .i64 j)]) _ ?_ ⟨hF1, .nils, hW, by simpa using Own.nil, (fun k h => by obtain ⟨_, _, _, _, e⟩ := h; cases e), rfl⟩ ?_
    · simp [mkEnv, List.replicate]
    rintro j _ σ2 hj ⟨hF2, s, hW2, hS2, hsw, rfl⟩
    obtain ⟨d0, d1, d2⟩ := ld hF2
    have hgl2 := hF2.len
    simp [mkEnv, List.replicate, d2]
    by_cases hlt : j < i.length
    · obtain ⟨y, hy⟩ := nth_lt hlt
      have hy' := nth_get hy
      have hyl := hi y (List.mem_of_getElem? hy')
      have es : IntKind.i64.wrap ((j : Int) + 1) = (j : Int) + 1 := by rw [wrap_small] <;> omega
      have hln := fm_len ((i.take j).map (fun l => [x, -l]))
      simp only [List.length_map, List.length_take] at hln
      cases mi with
      | false =>
        simp [hlt, d1, es]
        exact forK_go _ hlt (by simp [mkEnv, List.replicate]) ⟨hF2, s, hW2, by simpa using hS2, hsw, rfl⟩
      | true =>
        simp only [if_true] at hS2
        simp [hlt, hy, d1, d2, hx.wrapN, hx.wrapI, hyl.wrapN, hyl.wrapI]
        have hap : Own (σ.length + 1) 1 ecl (σ2 ++ [.row false ([x, -y].map fun x => DV.int .i64 x)]) s _ := hS2.fr (Fr.rfl'.app _)
        refine r12_Put_ok hap (own_laid [x, -y]) (by simp; omega) (by simp) (lt2 hx hyl.neg) (by  omega) fun s' σ4 hS4 hss => ?_
        have hss2 := (SS.app (σ := σ2) (s := s) [.row false ([x, -y].map fun x => DV.int .i64 x)]).trans hss
        simp [es]
        refine forK_go _ hlt (by simp [mkEnv, List.replicate]) ⟨hF2.trans (hss2.fr hS2 hgl2), s', hW2.fit fun k hk => hss2.get k (hW2.has_lt hk) fun hh => hsw k hh hk, ?_, fun k hk hk' => ?_, rfl⟩
        · rw [if_pos rfl, fm_take0 hy' (fun l => [x, -l])]; first | exact hS4 | (rw [← List.append_assoc]; exact hS4)
        · rcases hss2.has k hk with h1 | h1
          · exact hsw k h1 hk'
          · have := hW2.has_lt hk'; omega
    have : j = i.length := by omega
    subst this
    rw [List.take_length] at hS2
    simp [d1]
    exact ⟨⟨by omega, fun k hk => by rw [hF2.get k (by omega), List.getElem?_append_left hk]⟩, by simp only [fcls]; simpa using hS2.rd (ok := OkN σ.length σ2) (fun _ => rfl) fun k hk => .inl (by omega)⟩
  | true =>
    simp
    refine r12_Put_ok (n := σ.length + 1) (cs := []) .nil hW (by omega) (by simp; omega) hWf (by simp) fun s0 σ4 hS4 hss => ?_
    have hF4 := hF1.trans (hss.fr (n := σ.length + 1) (xs := ([] : List (List Int))) (enc := ecl) (sz := 1) .nil (by omega))
    have hW4 : Own (σ.length + 1) 1 eint σ4 w _ := hW.fit fun k hk => hss.get k (hW.has_lt hk) fun hh => by obtain ⟨_, _, _, _, e⟩ := hh; cases e
    have hd4 : ∀ k, s0.has k → ¬ w.has k := fun k hk hk' => by
      rcases hss.has k hk with h1 | h1
      · obtain ⟨_, _, _, _, e⟩ := h1; cases e
      · have := hW.has_lt hk'; omega
    simp only [List.nil_append] at hS4
    simp
    have hl0 : ((normL (-x :: i)).toList).length ≤ 1 := by cases normL (-x :: i) <;> simp
    refine gfor i.length (fun j e σ' => Fr (σ.length + 1) (σ ++ [.row false (egate g)]) σ' ∧ ∃ s, Own (σ.length + 1) 1 eint σ' w (-x :: i.map (fun l => l)) ∧ Own (σ.length + 1) 1 ecl σ' s ((normL (-x :: i)).toList ++ if mi = true then ((i.take j).map (fun l => [x, -l])).filterMap normL else []) ∧ (∀ k, s.has k → ¬ w.has k) ∧ e = mkEnv 186 [(1, .bool true), (2, .bool mi), (3, .ptr σ.length 0), (7, .int .i64 x), (8, s), (9, .int .i64 (-1)), (10, w), (12, .int .i64 j)]) _ ?_ ⟨hF4, s0, hW4, by simpa using hS4, hd4, rfl⟩ ?_
    · simp [mkEnv, List.replicate]
    rintro j _ σ2 hj ⟨hF2, s, hW2, hS2, hsw, rfl⟩
    obtain ⟨d0, d1, d2⟩ := ld hF2
    have hgl2 := hF2.len
    simp [mkEnv, List.replicate, d2]
    by_cases hlt : j < i.length
    · obtain ⟨y, hy⟩ := nth_lt hlt
      have hy' := nth_get hy
      have hyl := hi y (List.mem_of_getElem? hy')
      have es : IntKind.i64.wrap ((j : Int) + 1) = (j : Int) + 1 := by rw [wrap_small] <;> omega
      have hln := fm_len ((i.take j).map (fun l => [x, -l]))
      simp only [List.length_map, List.length_take] at hln
      cases mi with
      | false =>
        simp [hlt, d1, es]
        exact forK_go _ hlt (by simp [mkEnv, List.replicate]) ⟨hF2, s, hW2, by simpa using hS2, hsw, rfl⟩
      | true =>
        simp only [if_true] at hS2
        simp [hlt, hy, d1, d2, hx.wrapN, hx.wrapI, hyl.wrapN, hyl.wrapI]
        have hap : Own (σ.length + 1) 1 ecl (σ2 ++ [.row false ([x, -y].map fun x => DV.int .i64 x)]) s _ := hS2.fr (Fr.rfl'.app _)
        refine r12_Put_ok hap (own_laid [x, -y]) (by simp; omega) (by simp) (lt2 hx hyl.neg) (by rw [List.length_append]; omega) fun s' σ4 hS4 hss => ?_
        have hss2 := (SS.app (σ := σ2) (s := s) [.row false ([x, -y].map fun x => DV.int .i64 x)]).trans hss
        simp [es]
        refine forK_go _ hlt (by simp [mkEnv, List.replicate]) ⟨hF2.trans (hss2.fr hS2 hgl2), s', hW2.fit fun k hk => hss2.get k (hW2.has_lt hk) fun hh => hsw k hh hk, ?_, fun k hk hk' => ?_, rfl⟩
        · rw [if_pos rfl, fm_take0 hy' (fun l => [x, -l])]; first | exact hS4 | (rw [← List.append_assoc]; exact hS4)
        · rcases hss2.has k hk with h1 | h1
          · exact hsw k h1 hk'
          · have := hW2.has_lt hk'; omega
    have : j = i.length := by omega
    subst this
    rw [List.take_length] at hS2
    simp [d1]
    exact ⟨⟨by omega, fun k hk => by rw [hF2.get k (by omega), List.getElem?_append_left hk]⟩, by simp only [fcls]; simpa using hS2.rd (ok := OkN σ.length σ2) (fun _ => rfl) fun k hk => .inl (by omega)⟩

end Go.Gh
namespace Go.Gh
open Go.RowKit Go.Proofs
set_option linter.unusedVariables false
set_option linter.unusedSimpArgs false
set_option maxRecDepth 100000
theorem fm2 (a b : List Int) : [a, b].filterMap normL = (normL a).toList ++ (normL b).toList := by
  have e1 := fm_snoc [] a
  have e2 := fm_snoc [a] b
  simp only [List.nil_append, List.filterMap_nil] at e1
  rw [e1] at e2
  exact e2
theorem tl_len (l : List Int) : ((normL l).toList).length ≤ 1 := by cases normL l <;> simp
theorem put3 {n : Nat} {σ0 σ1 : GS} {s : DV} {cs : List (List Int)} {p q r : Int} {K : DV → GS → Prop} (hS : Own n 1 ecl σ1 s cs) (hF : Fr n σ0 σ1) (hp : Lt p) (hq : Lt q) (hr : Lt r) (hcs : cs.length < 100) (k : ∀ s' σ2, Own n 1 ecl σ2 s' (cs ++ (normL [p, q, r]).toList) → (cs ++ (normL [p, q, r]).toList).length ≤ cs.length + 1 → Fr n σ0 σ2 → K s' σ2) :
    GCall Tryz.prog F_skolemref12_Put [s, .slice σ1.length 0 3 1 (some 3)] (σ1 ++ [.row false [.int .i64 p, .int .i64 q, .int .i64 r]]) K := by
  have hl := hF.len
  have hS1 : Own n 1 ecl (σ1 ++ [.row false [.int .i64 p, .int .i64 q, .int .i64 r]]) s cs := hS.fr (Fr.rfl'.app _)
  refine r12_Put_ok hS1 (own_laid [p, q, r]) (by simp; omega) (by simp) (lt3 hp hq hr) (by omega) fun s' σ2 h2 ss => k s' σ2 h2 (by have := tl_len [p, q, r]; rw [List.length_append]; omega) ?_
  exact (hF.app _).trans (ss.fr hS1 (by simp; omega))
theorem fin3 {n : Nat} {σ0 σ1 : GS} {s : DV} {cs : List (List Int)} (hS : Own n 1 ecl σ1 s cs) (hF : Fr n σ0 σ1) (hn : n = σ0.length) : Fr σ0.length σ0 σ1 ∧ Rd σ1 (fun i => σ0.length ≤ i ∨ RO σ1 i) s (fcls cs) := by
  subst hn
  exact ⟨hF, hS.rd (fun _ => rfl) fun k hk => .inl hk⟩
theorem r12_cl3_ok {x a b : Int} {pl mi : Bool} {σ : GS} {Post : DV → GS → Prop} (hx : Lt x) (ha : Lt a) (hb : Lt b) (h : Post (fcls (gcl x 3 [a, b] pl mi)) σ) : GCall Tryz.prog F_skolemref12_Clauses [GateP.enc ⟨x, 3, [a, b]⟩, .bool pl, .bool mi] σ Post := by
  refine GCall.pure (r := fcls (gcl x 3 [a, b] pl mi)) ?_ (by simp) h
  rw [gcl_3, fm2, fm2]
  simp only [List.getD_cons_zero, List.getD_cons_succ]
  refine gc_skolemref12_Clauses ?_
  simp [G_skolemref12_Clauses, genv0, List.replicate, hx.wrapN, ha.wrapN, hb.wrapN]
  have F0 : Fr σ.length σ (σ ++ [GObj.row false (egate ⟨x, 3, [a, b]⟩)]) := Fr.self _
  obtain ⟨τ, hτ⟩ : ∃ τ, σ ++ [GObj.row false (egate ⟨x, 3, [a, b]⟩)] = τ := ⟨_, rfl⟩
  rw [hτ] at F0 ⊢
  cases pl with
  | false =>
    cases mi with
    | false =>
      simp
      exact fin3 (cs := []) .nil F0 rfl
    | true =>
      simp [hx.wrapN, ha.wrapN, hb.wrapN]
      refine put3 (cs := []) .nil F0 hx ha.neg hb (by first | (simp; done) | (simp only [List.length_nil] at l1; omega)) fun s1 σ1 h1 l1 f1 => ?_
      simp [hx.wrapN, ha.wrapN, hb.wrapN]
      refine put3 h1 f1 hx ha hb.neg (by first | (simp; done) | (simp only [List.length_nil] at l1; omega)) fun s2 σ2 h2 l2 f2 => ?_
      simp
      exact fin3 (by simpa using h2) f2 rfl
  | true =>
    simp [hx.wrapN, ha.wrapN, hb.wrapN]
    refine put3 (cs := []) .nil F0 hx.neg ha hb (by first | (simp; done) | (simp only [List.length_nil] at l1; omega)) fun s1 σ1 h1 l1 f1 => ?_
    simp [hx.wrapN, ha.wrapN, hb.wrapN]
    refine put3 h1 f1 hx.neg ha.neg hb.neg (by first | (simp; done) | (simp only [List.length_nil] at l1; omega)) fun s2 σ2 h2 l2 f2 => ?_
    cases mi with
    | false =>
      simp
      exact fin3 (by simpa using h2) f2 rfl
    | true =>
      simp [hx.wrapN, ha.wrapN, hb.wrapN]
      refine put3 h2 f2 hx ha.neg hb (by first | (simp; done) | (simp only [List.length_nil] at l1; omega)) fun s3 σ3 h3 l3 f3 => ?_
      simp [hx.wrapN, ha.wrapN, hb.wrapN]
      refine put3 h3 f3 hx ha hb.neg (by first | (simp; done) | (simp only [List.length_nil] at l1; omega)) fun s4 σ4 h4 l4 f4 => ?_
      simp
      exact fin3 (by simpa using h4) f4 rfl
theorem r12_cl4_ok {x c a b : Int} {pl mi : Bool} {σ : GS} {Post : DV → GS → Prop} (hx : Lt x) (hc : Lt c) (ha : Lt a) (hb : Lt b) (h : Post (fcls (gcl x 4 [c, a, b] pl mi)) σ) : GCall Tryz.prog F_skolemref12_Clauses [GateP.enc ⟨x, 4, [c, a, b]⟩, .bool pl, .bool mi] σ Post := by
  refine GCall.pure (r := fcls (gcl x 4 [c, a, b] pl mi)) ?_ (by simp) h
  rw [gcl_4, fm2, fm2]
  simp only [List.getD_cons_zero, List.getD_cons_succ]
  refine gc_skolemref12_Clauses ?_
  simp [G_skolemref12_Clauses, genv0, List.replicate, hx.wrapN, hc.wrapN, ha.wrapN, hb.wrapN]
  have F0 : Fr σ.length σ (σ ++ [GObj.row false (egate ⟨x, 4, [c, a, b]⟩)]) := Fr.self _
  obtain ⟨τ, hτ⟩ : ∃ τ, σ ++ [GObj.row false (egate ⟨x, 4, [c, a, b]⟩)] = τ := ⟨_, rfl⟩
  rw [hτ] at F0 ⊢
  cases pl with
  | false =>
    cases mi with
    | false =>
      simp
      exact fin3 (cs := []) .nil F0 rfl
    | true =>
      simp [hx.wrapN, hc.wrapN, ha.wrapN, hb.wrapN]
      refine put3 (cs := []) .nil F0 hx hc.neg ha.neg (by first | (simp; done) | (simp only [List.length_nil] at l1; omega)) fun s1 σ1 h1 l1 f1 => ?_
      simp [hx.wrapN, hc.wrapN, ha.wrapN, hb.wrapN]
      refine put3 h1 f1 hx hc hb.neg (by first | (simp; done) | (simp only [List.length_nil] at l1; omega)) fun s2 σ2 h2 l2 f2 => ?_
      simp
      exact fin3 (by simpa using h2) f2 rfl
  | true =>
    simp [hx.wrapN, hc.wrapN, ha.wrapN, hb.wrapN]
    refine put3 (cs := []) .nil F0 hx.neg hc.neg ha (by first | (simp; done) | (simp only [List.length_nil] at l1; omega)) fun s1 σ1 h1 l1 f1 => ?_
    simp [hx.wrapN, hc.wrapN, ha.wrapN, hb.wrapN]
    refine put3 h1 f1 hx.neg hc hb (by first | (simp; done) | (simp only [List.length_nil] at l1; omega)) fun s2 σ2 h2 l2 f2 => ?_
    cases mi with
    | false =>
      simp
      exact fin3 (by simpa using h2) f2 rfl
    | true =>
      simp [hx.wrapN, hc.wrapN, ha.wrapN, hb.wrapN]
      refine put3 h2 f2 hx hc.neg ha.neg (by first | (simp; done) | (simp only [List.length_nil] at l1; omega)) fun s3 σ3 h3 l3 f3 => ?_
      simp [hx.wrapN, hc.wrapN, ha.wrapN, hb.wrapN]
      refine put3 h3 f3 hx hc hb.neg (by first | (simp; done) | (simp only [List.length_nil] at l1; omega)) fun s4 σ4 h4 l4 f4 => ?_
      simp
      exact fin3 (by simpa using h4) f4 rfl
theorem r12_Clauses_ok {g : GateP} {pl mi : Bool} {σ : GS} {Post : DV → GS → Prop} (hs : shpG g.k g.ins.length = true) (hx : Lt g.v) (hi : ∀ l ∈ g.ins, Lt l) (hil : g.ins.length < 2 ^ 29) (h : Post (fcls (gcl g.v g.k g.ins pl mi)) σ) : GCall Tryz.prog F_skolemref12_Clauses [g.enc, .bool pl, .bool mi] σ Post := by
  obtain ⟨v, k, ins⟩ := g
  rcases shpG_cases hs with e | e | ⟨e, h2⟩ | ⟨e, h2⟩ <;> simp only at e <;> subst e
  · exact r12_cl1_ok hx hi hil h
  · exact r12_cl2_ok hx hi hil h
  · match ins, h2 with
    | [a, b], _ => exact r12_cl3_ok hx (hi a (by simp)) (hi b (by simp)) h
  · match ins, h2 with
    | [c, a, b], _ => exact r12_cl4_ok hx (hi c (by simp)) (hi a (by simp)) (hi b (by simp)) h
theorem r12_SameClauses_ok {xs ys : List (List Int)} {σ : GS} {Post : DV → GS → Prop} (hl : ClsSm xs) (h : Post (.bool (decide (xs = ys))) σ) : GCall Tryz.prog F_skolemref12_SameClauses [fcls xs, fcls ys] σ Post := by
  obtain ⟨h1, h3⟩ := hl
  refine gc_skolemref12_SameClauses ?_
  by_cases hlen : xs.length = ys.length
  rotate_left
  · have hne : xs ≠ ys := fun e => hlen (by rw [e])
    have hlen' : ¬ ((xs.length : Int) = ys.length) := by omega
    simp [G_skolemref12_SameClauses, genv0, List.replicate, hlen']
    simpa [hne] using h
  simp [G_skolemref12_SameClauses, genv0, List.replicate, hlen]
  refine gfor xs.length (fun i e σ' => σ' = σ ∧ (xs = ys ↔ xs.drop i = ys.drop i) ∧ e = mkEnv 27 [(0, fcls xs), (1, fcls ys), (5, .int .i64 i)]) _ ?_ ⟨rfl, by simp, rfl⟩ ?_
  · simp [mkEnv, List.replicate]
  rintro i _ _ hi ⟨rfl, hI, rfl⟩
  simp [mkEnv, List.replicate]
  by_cases hlt : i < xs.length
  · obtain ⟨x, hx⟩ := nth_lt hlt
    obtain ⟨y, hy⟩ := nth_lt (l := ys) (i := i) (by omega)
    have hxl := h3 x (List.mem_of_getElem? (nth_get hx))
    rw [drop_get hx, drop_get hy, List.cons.injEq] at hI
    have es : IntKind.i64.wrap ((i : Int) + 1) = (i : Int) + 1 := by rw [wrap_small] <;> omega
    simp [hlt, hx, hy]
    refine ref_Ints_ok (by omega) ?_
    by_cases c : x = y
    · simp [c, es]
      exact forK_go _ hlt (by simp [mkEnv, List.replicate]) ⟨rfl, by rw [hI]; simp [c], rfl⟩
    · have hne : xs ≠ ys := fun e => c (hI.1 e).1
      simp [c]
      simpa [hne] using h
  · have : i = xs.length := by omega
    subst this
    have he : xs = ys := hI.2 (by rw [List.drop_length, hlen, List.drop_length])
    simp
    simpa [he] using h
end Go.Gh
namespace Go.Gh
open Go.RowKit Go.Proofs
set_option linter.unusedVariables false
set_option linter.unusedSimpArgs false
set_option maxRecDepth 100000
theorem stG_ref {v l : Int} (hb : -9223372036854775808 ≤ l ∧ l < 9223372036854775808) : (!isVar (gabs l) || decide (gabs l = v)) = stG v l := by
  by_cases h : isVar (gabs l) = true
  · obtain ⟨h1, h2, h3⟩ := gabs_ab hb h
    have h4 : absE l = gabs l := by rw [absE_in h3, h1]
    have h5 : absE l ≠ 0 := absE_lt.2 ⟨h2, h3⟩
    rw [h4] at h5
    simp [stG, h, h4, h5]
  · have h5 : absE l = 0 := by
      apply Classical.byContradiction
      intro hne
      have hl := absE_lt.1 hne
      have := hl.ab
      rw [hl.gabs] at h
      exact h (by simp [isVar]; omega)
    simp only [Bool.not_eq_true] at h
    simp [stG, h, h5]
set_option maxHeartbeats 4000000 in
theorem r12_Gate_ok {g : GateP} {way : Int} {σ : GS} {Post : DV → GS → Prop} (hl : g.ins.length < 2 ^ 50) (hw : I64 g.ins) (h : Post (.tuple [fcls (gateY g way).1, .int .i64 (gateY g way).2]) σ) : GCall Tryz.prog F_skolemref12_Gate [g.enc, .int .i64 way] σ Post := by
  refine GCall.pure (r := .tuple [fcls (gateY g way).1, .int .i64 (gateY g way).2]) ?_ (by simp) h
  refine gc_skolemref12_Gate ?_
  have no : ¬ (shpG g.k g.ins.length && decide (g.ins.length ≤ 200000) && isVar g.v && decide (-1 ≤ way) && decide (way ≤ 1) && !g.ins.any (stG g.v)) = true → Fr σ.length σ (σ ++ [.row false (egate g)]) ∧ Rd (σ ++ [.row false (egate g)]) (fun i => σ.length ≤ i ∨ RO (σ ++ [.row false (egate g)]) i) (.tuple [.nils, .int .i64 2]) (.tuple [fcls (gateY g way).1, .int .i64 (gateY g way).2]) := fun hn => by
    rw [gateY_no hn]
    exact ⟨.self _, .tuple (.cons (.nils 1) (.cons (.same _) .nil))⟩
  obtain ⟨τ, hτ⟩ : ∃ τ, σ ++ [GObj.row false (egate g)] = τ := ⟨_, rfl⟩
  have l0 : gload (.load 1 false) [.ptr σ.length 0] τ = some (.int .i64 g.v) := by rw [← hτ]; simp
  have l1 : gload (.load 1 false) [.ptr σ.length 1] τ = some (.int .u8 g.k) := by rw [← hτ]; simp
  have l2 : gload (.load 1 false) [.ptr σ.length 2] τ = some (fints g.ins) := by rw [← hτ]; simp
  have l3 : gload (.load 3 true) [.ptr σ.length 0] τ = some g.enc := by rw [← hτ]; simp
  simp [G_skolemref12_Gate, genv0, List.replicate]
  rw [hτ] at no ⊢
  have e12 : ¬ ((1 : Int) = 2) := by decide
  by_cases hs : shpG g.k g.ins.length = true
  rotate_left
  · have hno := no (by simp [hs])
    by_cases hk : g.k = 1 ∨ g.k = 2 ∨ g.k = 3 ∨ g.k = 4
    · have h34 : (g.k = 3 ∧ g.ins.length ≠ 2) ∨ (g.k = 4 ∧ g.ins.length ≠ 3) := by simp [shpG] at hs; omega
      rcases h34 with ⟨h3, hn⟩ | ⟨h3, hn⟩
      · have hn' : ¬ ((g.ins.length : Int) = 2) := by omega
        simp [l0, l1, l2, h3, hn']
        exact hno
      · have hn' : ¬ ((g.ins.length : Int) = 3) := by omega
        simp [l0, l1, l2, h3, hn']
        exact hno
    · have q1 : ¬ g.k = 1 := by omega
      have q2 : ¬ g.k = 2 := by omega
      have q3 : ¬ g.k = 3 := by omega
      have q4 : ¬ g.k = 4 := by omega
      simp [l0, l1, l2, q1, q2, q3, q4]
      exact hno
  rcases shpG_cases hs with e | e | ⟨e, e2⟩ | ⟨e, e2⟩
  · simp [l0, l1, l2, e]
    by_cases hh : (200000 : Int) < g.ins.length
    · simp [hh]; exact no (by simp; omega)
    simp [hh, l0]
    by_cases h1 : g.v < 1
    · simp [h1]; exact no (by simp [isVar]; omega)
    simp [h1, l0]
    by_cases h2 : 65536 < g.v
    · simp [h2]; exact no (by simp [isVar]; omega)
    simp [h2]
    by_cases h5 : way < -1
    · simp [h5]; exact no (by simp; omega)
    simp [h5]
    by_cases h6 : 1 < way
    · simp [h6]; exact no (by simp; omega)
    simp [h6]
    refine gfor g.ins.length (fun i e σ' => σ' = τ ∧ (∀ (j : Nat) x, j < i → g.ins[j]? = some x → stG g.v x = false) ∧ e = mkEnv 91 [(1, .int .i64 way), (2, .ptr σ.length 0), (6, .int .i64 g.ins.length), (8, .int .i64 i)]) _ ?_ ⟨rfl, fun j x hj => by omega, rfl⟩ ?_
    · simp [mkEnv, List.replicate, e]
    rintro i _ _ hi ⟨rfl, hI, rfl⟩
    simp [mkEnv, List.replicate]
    by_cases hlt : i < g.ins.length
    · obtain ⟨x, hx⟩ := nth_lt hlt
      have hx' := nth_get hx
      have hwx := hw x (List.mem_of_getElem? hx')
      have hst := stG_ref (v := g.v) hwx
      have es : IntKind.i64.wrap ((i : Int) + 1) = (i : Int) + 1 := by rw [wrap_small] <;> omega
      have hbad : stG g.v x = true → g.ins.any (stG g.v) = true := fun hh => List.any_eq_true.2 ⟨x, List.mem_of_getElem? hx', hh⟩
      simp [hlt, l2, hx]
      refine r12_literal_ok ?_
      cases hv : isVar (gabs x) with
      | false =>
        rw [hv] at hst
        simp
        exact no (by simp only [hbad (by rw [← hst]; rfl)]; simp)
      | true =>
        rw [hv] at hst
        simp [l0, l2, hx]
        refine ref_Abs_ok ?_
        by_cases c : gabs x = g.v
        · simp [c, l0]
          exact no (by simp only [hbad (by rw [← hst]; simp [c])]; simp)
        · simp [c, l0, es]
          refine forK_go _ hlt (by simp [mkEnv, List.replicate]) ⟨rfl, fun j y hj hy => ?_, rfl⟩
          by_cases hji : j = i
          · subst hji; rw [hx'] at hy; cases hy; rw [← hst]; simp [c]
          · exact hI j y (by omega) hy
    have : i = g.ins.length := by omega
    subst this
    have hno : g.ins.any (stG g.v) = false := by
      rw [List.any_eq_false]
      intro x hx
      obtain ⟨j, hj⟩ := List.mem_iff_getElem?.1 hx
      rw [hI j x (get_dom hj) hj]; simp
    have hy : gateY g way = (gcl g.v g.k g.ins (decide (0 ≤ way)) (decide (way ≤ 0)), 0) := if_pos (by simp [hs, hno, isVar]; omega)
    simp [l3]
    refine r12_Clauses_ok hs (by unfold Lt; omega) (fun l hl => by
      have := List.any_eq_false.1 hno l hl
      simp only [stG, Bool.or_eq_true, decide_eq_true_eq, not_or] at this
      exact absE_lt.1 this.1) (by omega) ?_
    simp
    rw [hy]
    exact ⟨by rw [← hτ]; exact .self _, .same _⟩
  · simp [l0, l1, l2, e]
    by_cases hh : (200000 : Int) < g.ins.length
    · simp [hh]; exact no (by simp; omega)
    simp [hh, l0]
    by_cases h1 : g.v < 1
    · simp [h1]; exact no (by simp [isVar]; omega)
    simp [h1, l0]
    by_cases h2 : 65536 < g.v
    · simp [h2]; exact no (by simp [isVar]; omega)
    simp [h2]
    by_cases h5 : way < -1
    · simp [h5]; exact no (by simp; omega)
    simp [h5]
    by_cases h6 : 1 < way
    · simp [h6]; exact no (by simp; omega)
    simp [h6]
    refine gfor g.ins.length (fun i e σ' => σ' = τ ∧ (∀ (j : Nat) x, j < i → g.ins[j]? = some x → stG g.v x = false) ∧ e = mkEnv 91 [(1, .int .i64 way), (2, .ptr σ.length 0), (6, .int .i64 g.ins.length), (8, .int .i64 i)]) _ ?_ ⟨rfl, fun j x hj => by omega, rfl⟩ ?_
    · simp [mkEnv, List.replicate, e]
    rintro i _ _ hi ⟨rfl, hI, rfl⟩
    simp [mkEnv, List.replicate]
    by_cases hlt : i < g.ins.length
    · obtain ⟨x, hx⟩ := nth_lt hlt
      have hx' := nth_get hx
      have hwx := hw x (List.mem_of_getElem? hx')
      have hst := stG_ref (v := g.v) hwx
      have es : IntKind.i64.wrap ((i : Int) + 1) = (i : Int) + 1 := by rw [wrap_small] <;> omega
      have hbad : stG g.v x = true → g.ins.any (stG g.v) = true := fun hh => List.any_eq_true.2 ⟨x, List.mem_of_getElem? hx', hh⟩
      simp [hlt, l2, hx]
      refine r12_literal_ok ?_
      cases hv : isVar (gabs x) with
      | false =>
        rw [hv] at hst
        simp
        exact no (by simp only [hbad (by rw [← hst]; rfl)]; simp)
      | true =>
        rw [hv] at hst
        simp [l0, l2, hx]
        refine ref_Abs_ok ?_
        by_cases c : gabs x = g.v
        · simp [c, l0]
          exact no (by simp only [hbad (by rw [← hst]; simp [c])]; simp)
        · simp [c, l0, es]
          refine forK_go _ hlt (by simp [mkEnv, List.replicate]) ⟨rfl, fun j y hj hy => ?_, rfl⟩
          by_cases hji : j = i
          · subst hji; rw [hx'] at hy; cases hy; rw [← hst]; simp [c]
          · exact hI j y (by omega) hy
    have : i = g.ins.length := by omega
    subst this
    have hno : g.ins.any (stG g.v) = false := by
      rw [List.any_eq_false]
      intro x hx
      obtain ⟨j, hj⟩ := List.mem_iff_getElem?.1 hx
      rw [hI j x (get_dom hj) hj]; simp
    have hy : gateY g way = (gcl g.v g.k g.ins (decide (0 ≤ way)) (decide (way ≤ 0)), 0) := if_pos (by simp [hs, hno, isVar]; omega)
    simp [l3]
    refine r12_Clauses_ok hs (by unfold Lt; omega) (fun l hl => by
      have := List.any_eq_false.1 hno l hl
      simp only [stG, Bool.or_eq_true, decide_eq_true_eq, not_or] at this
      exact absE_lt.1 this.1) (by omega) ?_
    simp
    rw [hy]
    exact ⟨by rw [← hτ]; exact .self _, .same _⟩
  · have hn2 : (g.ins.length : Int) = 2 := by omega
    simp [l0, l1, l2, e, hn2]
    by_cases h1 : g.v < 1
    · simp [h1]; exact no (by simp [isVar]; omega)
    simp [h1, l0]
    by_cases h2 : 65536 < g.v
    · simp [h2]; exact no (by simp [isVar]; omega)
    simp [h2]
    by_cases h5 : way < -1
    · simp [h5]; exact no (by simp; omega)
    simp [h5]
    by_cases h6 : 1 < way
    · simp [h6]; exact no (by simp; omega)
    simp [h6]
    refine gfor g.ins.length (fun i e σ' => σ' = τ ∧ (∀ (j : Nat) x, j < i → g.ins[j]? = some x → stG g.v x = false) ∧ e = mkEnv 91 [(1, .int .i64 way), (2, .ptr σ.length 0), (6, .int .i64 g.ins.length), (8, .int .i64 i)]) _ ?_ ⟨rfl, fun j x hj => by omega, rfl⟩ ?_
    · simp [mkEnv, List.replicate, e, hn2]
    rintro i _ _ hi ⟨rfl, hI, rfl⟩
    simp [mkEnv, List.replicate]
    by_cases hlt : i < g.ins.length
    · obtain ⟨x, hx⟩ := nth_lt hlt
      have hx' := nth_get hx
      have hwx := hw x (List.mem_of_getElem? hx')
      have hst := stG_ref (v := g.v) hwx
      have es : IntKind.i64.wrap ((i : Int) + 1) = (i : Int) + 1 := by rw [wrap_small] <;> omega
      have hbad : stG g.v x = true → g.ins.any (stG g.v) = true := fun hh => List.any_eq_true.2 ⟨x, List.mem_of_getElem? hx', hh⟩
      simp [hlt, l2, hx]
      refine r12_literal_ok ?_
      cases hv : isVar (gabs x) with
      | false =>
        rw [hv] at hst
        simp
        exact no (by simp only [hbad (by rw [← hst]; rfl)]; simp)
      | true =>
        rw [hv] at hst
        simp [l0, l2, hx]
        refine ref_Abs_ok ?_
        by_cases c : gabs x = g.v
        · simp [c, l0]
          exact no (by simp only [hbad (by rw [← hst]; simp [c])]; simp)
        · simp [c, l0, es]
          refine forK_go _ hlt (by simp [mkEnv, List.replicate]) ⟨rfl, fun j y hj hy => ?_, rfl⟩
          by_cases hji : j = i
          · subst hji; rw [hx'] at hy; cases hy; rw [← hst]; simp [c]
          · exact hI j y (by omega) hy
    have : i = g.ins.length := by omega
    subst this
    have hno : g.ins.any (stG g.v) = false := by
      rw [List.any_eq_false]
      intro x hx
      obtain ⟨j, hj⟩ := List.mem_iff_getElem?.1 hx
      rw [hI j x (get_dom hj) hj]; simp
    have hy : gateY g way = (gcl g.v g.k g.ins (decide (0 ≤ way)) (decide (way ≤ 0)), 0) := if_pos (by simp [hs, hno, isVar]; omega)
    simp [l3]
    refine r12_Clauses_ok hs (by unfold Lt; omega) (fun l hl => by
      have := List.any_eq_false.1 hno l hl
      simp only [stG, Bool.or_eq_true, decide_eq_true_eq, not_or] at this
      exact absE_lt.1 this.1) (by omega) ?_
    simp
    rw [hy]
    exact ⟨by rw [← hτ]; exact .self _, .same _⟩
  · have hn2 : (g.ins.length : Int) = 3 := by omega
    simp [l0, l1, l2, e, hn2]
    by_cases h1 : g.v < 1
    · simp [h1]; exact no (by simp [isVar]; omega)
    simp [h1, l0]
    by_cases h2 : 65536 < g.v
    · simp [h2]; exact no (by simp [isVar]; omega)
    simp [h2]
    by_cases h5 : way < -1
    · simp [h5]; exact no (by simp; omega)
    simp [h5]
    by_cases h6 : 1 < way
    · simp [h6]; exact no (by simp; omega)
    simp [h6]
    refine gfor g.ins.length (fun i e σ' => σ' = τ ∧ (∀ (j : Nat) x, j < i → g.ins[j]? = some x → stG g.v x = false) ∧ e = mkEnv 91 [(1, .int .i64 way), (2, .ptr σ.length 0), (6, .int .i64 g.ins.length), (8, .int .i64 i)]) _ ?_ ⟨rfl, fun j x hj => by omega, rfl⟩ ?_
    · simp [mkEnv, List.replicate, e, hn2]
    rintro i _ _ hi ⟨rfl, hI, rfl⟩
    simp [mkEnv, List.replicate]
    by_cases hlt : i < g.ins.length
    · obtain ⟨x, hx⟩ := nth_lt hlt
      have hx' := nth_get hx
      have hwx := hw x (List.mem_of_getElem? hx')
      have hst := stG_ref (v := g.v) hwx
      have es : IntKind.i64.wrap ((i : Int) + 1) = (i : Int) + 1 := by rw [wrap_small] <;> omega
      have hbad : stG g.v x = true → g.ins.any (stG g.v) = true := fun hh => List.any_eq_true.2 ⟨x, List.mem_of_getElem? hx', hh⟩
      simp [hlt, l2, hx]
      refine r12_literal_ok ?_
      cases hv : isVar (gabs x) with
      | false =>
        rw [hv] at hst
        simp
        exact no (by simp only [hbad (by rw [← hst]; rfl)]; simp)
      | true =>
        rw [hv] at hst
        simp [l0, l2, hx]
        refine ref_Abs_ok ?_
        by_cases c : gabs x = g.v
        · simp [c, l0]
          exact no (by simp only [hbad (by rw [← hst]; simp [c])]; simp)
        · simp [c, l0, es]
          refine forK_go _ hlt (by simp [mkEnv, List.replicate]) ⟨rfl, fun j y hj hy => ?_, rfl⟩
          by_cases hji : j = i
          · subst hji; rw [hx'] at hy; cases hy; rw [← hst]; simp [c]
          · exact hI j y (by omega) hy
    have : i = g.ins.length := by omega
    subst this
    have hno : g.ins.any (stG g.v) = false := by
      rw [List.any_eq_false]
      intro x hx
      obtain ⟨j, hj⟩ := List.mem_iff_getElem?.1 hx
      rw [hI j x (get_dom hj) hj]; simp
    have hy : gateY g way = (gcl g.v g.k g.ins (decide (0 ≤ way)) (decide (way ≤ 0)), 0) := if_pos (by simp [hs, hno, isVar]; omega)
    simp [l3]
    refine r12_Clauses_ok hs (by unfold Lt; omega) (fun l hl => by
      have := List.any_eq_false.1 hno l hl
      simp only [stG, Bool.or_eq_true, decide_eq_true_eq, not_or] at this
      exact absE_lt.1 this.1) (by omega) ?_
    simp
    rw [hy]
    exact ⟨by rw [← hτ]; exact .self _, .same _⟩
end Go.Gh
namespace Go.Gh
open Go.Proofs
abbrev F_enc_Half : Nat := 36
abbrev F_circ_May : Nat := 96
abbrev F_enc_formula : Nat := 111
abbrev F_enc_signs_add : Nat := 113
abbrev F_slices_Backward_api_Gate_api_Gate : Nat := 114
abbrev F_circ_set_prefix : Nat := 164
abbrev F_circ_literals : Nat := 165
abbrev F_circ_May_1 : Nat := 166
abbrev F_circ_set_has : Nat := 167
abbrev F_circ_shaped : Nat := 168
abbrev F_circ_set_add : Nat := 169
noncomputable abbrev G_enc_Half : GFun := ⟨60, [(.cell 2 2 true), (.tmp 3)], (.seq (.region [⟨0, ⟨(some 1), none, (.new .box), [(.tmp 0)]⟩, []⟩, ⟨0, ⟨(some 2), none, (.new (.alloc [.nils, .nils])), []⟩, []⟩, ⟨0, ⟨(some 3), none, (.pure .id), [(.const (.int .i64 0))]⟩, []⟩]) (.seq (.seq (.region [⟨0, ⟨(some 10), none, (.load (.load 3 true)), [(.tmp 1)]⟩, []⟩, ⟨0, ⟨(some 11), none, (.call F_circ_May), [(.tmp 10)]⟩, []⟩, ⟨0, ⟨(some 12), none, (.pure (.un .not)), [(.tmp 11)]⟩, []⟩]) (.cond (.tmp 12) (.seq (.region [⟨0, ⟨(some 13), none, (.pure (.build [.nils, .nils] [])), []⟩, []⟩, ⟨0, ⟨none, none, (.imp (.store 2)), [(.tmp 2), (.tmp 13)]⟩, []⟩, ⟨0, ⟨(some 3), none, (.pure .id), [(.const (.int .i64 2))]⟩, []⟩]) .ret) .skip)) (.seq (.region [⟨0, ⟨(some 4), none, (.new (.abig 65537 (.int .u8 0))), []⟩, []⟩]) (.seq (.region [⟨0, ⟨(some 14), none, (.pure (.faddr 2)), [(.tmp 1)]⟩, []⟩, ⟨0, ⟨(some 15), none, (.load (.load 1 false)), [(.tmp 14)]⟩, []⟩, ⟨0, ⟨(some 16), none, (.call F_enc_signs_add), [(.tmp 4), (.tmp 15), (.const (.int .u8 1))]⟩, []⟩]) (.seq (.seq (.region [⟨0, ⟨(some 17), none, (.pure (.faddr 1)), [(.tmp 1)]⟩, []⟩, ⟨0, ⟨(some 18), none, (.load (.load 1 false)), [(.tmp 17)]⟩, []⟩, ⟨0, ⟨(some 19), none, (.call F_slices_Backward_api_Gate_api_Gate), [(.tmp 18)]⟩, []⟩]) (.block 0 (.rangeF (.tmp 19) [20, 21] (rngA Tryz.f36 0) (rngB Tryz.f36 0)))) (.seq (.region [⟨0, ⟨(some 56), none, (.load (.load 3 true)), [(.tmp 1)]⟩, []⟩, ⟨0, ⟨(some 57), none, (.call F_enc_formula), [(.tmp 56), (.tmp 4)]⟩, []⟩, ⟨0, ⟨(some 58), none, (.pure (.extract 0)), [(.tmp 57)]⟩, []⟩, ⟨0, ⟨(some 59), none, (.pure (.extract 1)), [(.tmp 57)]⟩, []⟩, ⟨0, ⟨none, none, (.imp (.store 2)), [(.tmp 2), (.tmp 58)]⟩, []⟩, ⟨0, ⟨(some 3), none, (.pure .id), [(.tmp 59)]⟩, []⟩]) .ret))))))⟩
theorem c_enc_Half : compF Tryz.prog Tryz.f36 = some G_enc_Half := by kernel_rfl
noncomputable abbrev G_circ_May : GFun := ⟨44, [(.tmp 2)], (.seq (.region [⟨0, ⟨(some 1), none, (.new .box), [(.tmp 0)]⟩, []⟩, ⟨0, ⟨(some 2), none, (.pure .id), [(.const (.bool false))]⟩, []⟩]) (.seq (.region [⟨0, ⟨(some 3), none, (.new (.abig 65537 (.bool false))), []⟩, []⟩]) (.seq (.seq (.region [⟨0, ⟨(some 7), none, (.pure (.faddr 0)), [(.tmp 1)]⟩, []⟩, ⟨0, ⟨(some 8), none, (.load (.load 1 false)), [(.tmp 7)]⟩, []⟩, ⟨0, ⟨(some 9), none, (.call F_circ_set_prefix), [(.tmp 3), (.tmp 8)]⟩, []⟩, ⟨0, ⟨(some 10), none, (.pure (.un .not)), [(.tmp 9)]⟩, []⟩, ⟨0, ⟨(some 11), none, (.pure .id), [(.tmp 10)]⟩, []⟩, ⟨0, ⟨(some 12), (some (11, false)), (.pure (.faddr 1)), [(.tmp 1)]⟩, []⟩, ⟨0, ⟨(some 13), (some (11, false)), (.load (.load 1 false)), [(.tmp 12)]⟩, []⟩, ⟨0, ⟨(some 14), (some (11, false)), (.call F_circ_literals), [(.tmp 13)]⟩, []⟩, ⟨0, ⟨(some 15), (some (11, false)), (.pure (.bin .gtr .none)), [(.tmp 14), (.const (.int .i64 200000))]⟩, []⟩, ⟨0, ⟨(some 16), none, (.pure .pick), [(.tmp 11), (.const (.bool true)), (.tmp 15)]⟩, []⟩]) (.cond (.tmp 16) (.seq (.region [⟨0, ⟨(some 2), none, (.pure .id), [(.const (.bool false))]⟩, []⟩]) .ret) .skip)) (.seq (.region [⟨0, ⟨(some 17), none, (.pure (.mkfunc F_circ_May_1 0)), [(.tmp 3)]⟩, []⟩, ⟨0, ⟨(some 4), none, (.pure .id), [(.tmp 17)]⟩, []⟩]) (.seq (.seq (.region [⟨0, ⟨(some 18), none, (.pure (.faddr 1)), [(.tmp 1)]⟩, []⟩, ⟨0, ⟨(some 19), none, (.load (.load 1 false)), [(.tmp 18)]⟩, []⟩, ⟨0, ⟨(some 20), none, (.pure .len), [(.tmp 19)]⟩, []⟩, ⟨0, ⟨(some 21), none, (.pure .id), [(.const (.int .i64 0))]⟩, []⟩]) (.block 0 (.loop (.seq (.region [⟨0, ⟨(some 22), none, (.pure (.bin .lss .none)), [(.tmp 21), (.tmp 20)]⟩, []⟩]) (.seq (.cond (.tmp 22) .skip (.exit 0)) (.seq (.block 1 (.seq (.region [⟨0, ⟨(some 23), none, (.pure (.iaddr 3)), [(.tmp 19), (.tmp 21)]⟩, []⟩, ⟨0, ⟨(some 24), none, (.load (.load 3 true)), [(.tmp 23)]⟩, []⟩, ⟨0, ⟨(some 6), none, (.new (.alloc [(.int .i64 0), (.int .u8 0), .nils])), []⟩, []⟩, ⟨0, ⟨none, none, (.imp (.store 3)), [(.tmp 6), (.tmp 24)]⟩, []⟩]) (.seq (.region [⟨0, ⟨(some 25), none, (.load (.load 3 true)), [(.tmp 6)]⟩, []⟩, ⟨0, ⟨(some 26), none, (.call F_circ_shaped), [(.tmp 25)]⟩, []⟩, ⟨0, ⟨(some 27), none, (.pure (.un .not)), [(.tmp 26)]⟩, []⟩, ⟨0, ⟨(some 28), none, (.pure .id), [(.tmp 27)]⟩, []⟩, ⟨0, ⟨(some 29), (some (28, false)), (.pure (.faddr 2)), [(.tmp 6)]⟩, []⟩, ⟨0, ⟨(some 30), (some (28, false)), (.load (.load 1 false)), [(.tmp 29)]⟩, []⟩, ⟨0, ⟨(some 31), (some (28, false)), (.pure .id), [(.tmp 4)]⟩, []⟩, ⟨0, ⟨(some 32), (some (28, false)), (.call F_slices_ContainsFunc_int_int), [(.tmp 30), (.tmp 31)]⟩, []⟩, ⟨0, ⟨(some 33), none, (.pure .pick), [(.tmp 28), (.const (.bool true)), (.tmp 32)]⟩, []⟩, ⟨0, ⟨(some 34), none, (.pure .id), [(.tmp 33)]⟩, []⟩, ⟨0, ⟨(some 35), (some (34, false)), (.pure (.faddr 0)), [(.tmp 6)]⟩, []⟩, ⟨0, ⟨(some 36), (some (34, false)), (.load (.load 1 false)), [(.tmp 35)]⟩, []⟩, ⟨0, ⟨(some 37), (some (34, false)), (.call F_circ_set_add), [(.tmp 3), (.tmp 36)]⟩, []⟩, ⟨0, ⟨(some 38), (some (34, false)), (.pure (.un .not)), [(.tmp 37)]⟩, []⟩, ⟨0, ⟨(some 39), none, (.pure .pick), [(.tmp 34), (.const (.bool true)), (.tmp 38)]⟩, []⟩]) (.cond (.tmp 39) (.seq (.region [⟨0, ⟨(some 2), none, (.pure .id), [(.const (.bool false))]⟩, []⟩]) .ret) .skip)))) (.region [⟨0, ⟨(some 40), none, (.pure (.bin .add .none)), [(.tmp 21), (.const (.int .i64 1))]⟩, []⟩, ⟨0, ⟨(some 21), none, (.pure .id), [(.tmp 40)]⟩, []⟩]))))))) (.seq (.region [⟨0, ⟨(some 41), none, (.pure (.faddr 2)), [(.tmp 1)]⟩, []⟩, ⟨0, ⟨(some 42), none, (.load (.load 1 false)), [(.tmp 41)]⟩, []⟩, ⟨0, ⟨(some 43), none, (.call F_circ_set_has), [(.tmp 3), (.tmp 42)]⟩, []⟩, ⟨0, ⟨(some 2), none, (.pure .id), [(.tmp 43)]⟩, []⟩]) .ret))))))⟩
theorem c_circ_May : compF Tryz.prog Tryz.f96 = some G_circ_May := by kernel_rfl
end Go.Gh
namespace Go.Gh
open Go.Proofs
set_option maxRecDepth 100000
theorem works_run : sayTrueL Tryz.prog [(F_circ_May, G_circ_May), (F_enc_Half, G_enc_Half)] 60 20 [] = true := by kernel_rfl
end Go.Gh
namespace Go.Gh
open Go.Proofs
set_option maxRecDepth 100000
theorem works_ok {σ : GS} {Post : DV → GS → Prop} (k : Post (.bool true) σ) : GCall Tryz.prog F_skolemlaw12_works [] σ Post := by
  refine GCall.closed (sayTrueL_ok seatfollows (fun p hp => ?_) works_run) k
  simp only [List.mem_cons, List.not_mem_nil, or_false] at hp
  rcases hp with rfl | rfl
  · exact ⟨_, Tryz.func96, by kernel_rfl, c_circ_May⟩
  · exact ⟨_, Tryz.func36, by kernel_rfl, c_enc_Half⟩
end Go.Gh
namespace Go.Gh
open Go.RowKit Go.Proofs
set_option linter.unusedVariables false
set_option linter.unusedSimpArgs false
set_option maxRecDepth 100000
theorem gcl_len {v k : Int} {i : List Int} {pl mi : Bool} : (gcl v k i pl mi).length ≤ 2 * i.length + 8 := by
  refine Nat.le_trans (List.length_filterMap_le _ _) ?_
  unfold rawP
  repeat' split
  all_goals simp
  all_goals omega
theorem normL_len {l r : List Int} (h : normL l = some r) : r.length ≤ l.length := by
  have : ∀ (l r r' : List Int), l.foldl (fun o x => Option.bind o fun r => insA r x) (some r) = some r' → r'.length ≤ r.length + l.length := by
    intro l
    induction l with
    | nil => intro r r' h; cases h; simp
    | cons x l ih =>
      intro r r' h
      rw [List.foldl_cons, Option.bind_some] at h
      cases hi : insA r x with
      | none => rw [hi, normL_none_fold] at h; cases h
      | some m =>
        rw [hi] at h
        have h1 := ih m r' h
        have h2 := insA_len hi
        simp only [List.length_cons]; omega
  have := this l [] r h
  simpa using this
theorem rawP_len {v k : Int} {i : List Int} {pl mi : Bool} : ∀ c ∈ rawP v k i pl mi, c.length ≤ i.length + 3 := by
  have app : ∀ {a b : List (List Int)}, (∀ c ∈ a, c.length ≤ i.length + 3) → (∀ c ∈ b, c.length ≤ i.length + 3) → ∀ c ∈ a ++ b, c.length ≤ i.length + 3 := fun h1 h2 c hc => (List.mem_append.1 hc).elim (h1 c) (h2 c)
  have non : ∀ c ∈ ([] : List (List Int)), c.length ≤ i.length + 3 := fun c hc => by cases hc
  have mp : ∀ (f : Int → List Int), (∀ x, (f x).length = 2) → ∀ c ∈ i.map f, c.length ≤ i.length + 3 := fun f hf c hc => by
    obtain ⟨x, _, rfl⟩ := List.mem_map.1 hc; rw [hf]; omega
  have one : ∀ (x : List Int), x.length ≤ i.length + 3 → ∀ c ∈ [x], c.length ≤ i.length + 3 := fun x hx c hc => by
    rw [List.mem_singleton.1 hc]; exact hx
  have two : ∀ (x y : List Int), x.length ≤ 3 → y.length ≤ 3 → ∀ c ∈ [x, y], c.length ≤ i.length + 3 := fun x y hx hy c hc => by
    rcases List.mem_cons.1 hc with rfl | hc
    · omega
    · rw [List.mem_singleton.1 hc]; omega
  unfold rawP
  split
  · refine app ?_ ?_ <;> split
    · exact mp _ fun _ => rfl
    · exact non
    · exact one _ (by simp)
    · exact non
  split
  · refine app ?_ ?_ <;> split
    · exact one _ (by simp)
    · exact non
    · exact mp _ fun _ => rfl
    · exact non
  split
  · refine app ?_ ?_ <;> split
    · exact two _ _ (by simp) (by simp)
    · exact non
    · exact two _ _ (by simp) (by simp)
    · exact non
  · refine app ?_ ?_ <;> split
    · exact two _ _ (by simp) (by simp)
    · exact non
    · exact two _ _ (by simp) (by simp)
    · exact non
theorem gcl_each {v k : Int} {i : List Int} {pl mi : Bool} : ∀ c ∈ gcl v k i pl mi, c.length ≤ i.length + 3 := fun c hc => by
  obtain ⟨r, hr, h⟩ := List.mem_filterMap.1 hc
  have := normL_len h
  have := rawP_len r hr
  omega
theorem gateY_sm {g : GateP} {way : Int} (hl : g.ins.length < 2 ^ 40) : ClsSm (gateY g way).1 := by
  unfold gateY
  split
  · exact ⟨by have := gcl_len (v := g.v) (k := g.k) (i := g.ins) (pl := decide (0 ≤ way)) (mi := decide (way ≤ 0)); simp only; omega, fun c hc => by have := gcl_each c hc; omega⟩
  · exact ⟨by simp, fun c hc => by cases hc⟩
theorem gates_ok {g : GateP} {way : Int} (hl : g.ins.length < 2 ^ 47) (hw : I64 g.ins) {σ : GS} {Post : DV → GS → Prop} (h : Post (.bool true) σ) : GCall Tryz.prog F_skolemlaw12_EncGates [g.enc, .int .i64 way] σ Post := by
  refine GCall.say (r := .bool true) ?_ rfl h
  refine gc_skolemlaw12_EncGates ?_
  simp [G_skolemlaw12_EncGates, genv0, List.replicate]
  by_cases hh : (1000 : Int) < g.ins.length
  · simp [hh]
    refine works_ok ?_
    simp
  simp [hh]
  refine enc_Gate_ok (by omega) ?_
  simp
  refine r12_Gate_ok (by omega) hw ?_
  simp
  refine r12_SameClauses_ok (gateY_sm (by omega)) ?_
  simp
  refine works_ok ?_
  simp
end Go.Gh
