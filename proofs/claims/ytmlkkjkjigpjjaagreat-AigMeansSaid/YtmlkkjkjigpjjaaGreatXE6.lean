/-
  Proved: AigMeans: values of edges of cones, restrictions, joined and composed graphs.
  Part 6 of 7. Conditions: none. A verified frame that runs compiled texts over a ghost heap, the contracts of the functions that the statement reaches, and the plain law.
-/
import Derived.Test.YtmlkkjkjigpjjaaGreatXE5
import Derived.Test.YtmlkkjkjigpjjaaGreatProg
import Derived.KernelRfl
namespace Go.Gh
open Go.RowKit Go.Proofs
set_option linter.unusedVariables false
set_option linter.unusedSimpArgs false
set_option maxRecDepth 100000
theorem tdiv_two {a : Int} (h : 0 ≤ a) : a.tdiv 2 = a / 2 := Int.tdiv_eq_ediv_of_nonneg h
theorem tmod_two {a : Int} (h : 0 ≤ a) : a.tmod 2 = a % 2 := Int.tmod_eq_emod_of_nonneg h
theorem ref_Nodes_ok {g : AigP} {σ : GS} {Post : DV → GS → Prop} (hs : g.Sm) (h : Post (.int .i64 g.nodes) σ) : GCall Tryz.prog F_skolemref06_Nodes [g.enc] σ Post := by
  have h1 := hs.ins
  have h2 := hs.ands
  refine GCall.say (r := .int .i64 g.nodes) ?_ rfl h
  refine gc_skolemref06_Nodes ?_
  simp [G_skolemref06_Nodes, genv0, List.replicate]
  have e1 : IntKind.i64.wrap (1 + (g.ins.length : Int)) = 1 + g.ins.length := by rw [wrap_small] <;> omega
  rw [e1, wrap_small] <;> first | (simp [AigP.nodes]; done) | omega
theorem ref_Inputs_ok {ins : List Int} {σ : GS} {Post : DV → GS → Prop} (hl : ins.length < 2 ^ 50) (h : Post (.bool (insOk 0 ins)) σ) : GCall Tryz.prog F_skolemref06_Inputs [fints ins] σ Post := by
  refine gc_skolemref06_Inputs ?_
  simp [G_skolemref06_Inputs, genv0, List.replicate]
  refine gfor ins.length (fun i e σ' => σ' = σ ∧ (∃ last, insOk 0 ins = insOk last (ins.drop i) ∧ (i = 0 → last = 0) ∧ ∀ j, j + 1 = i → ins[j]? = some last) ∧ e = mkEnv 38 [(0, fints ins), (3, .int .i64 i)]) _ ?_ ⟨rfl, ⟨0, by simp, fun _ => rfl, fun j h => by omega⟩, rfl⟩ ?_
  · simp [mkEnv, List.replicate]
  rintro i _ _ hi ⟨rfl, ⟨last, hI, hl0, hl1⟩, rfl⟩
  simp [mkEnv, List.replicate]
  by_cases hlt : i < ins.length
  · obtain ⟨y, hy⟩ := nth_lt hlt
    rw [drop_get hy] at hI
    have es : IntKind.i64.wrap ((i : Int) + 1) = (i : Int) + 1 := by rw [wrap_small] <;> omega
    by_cases h1 : y < 1
    · have hv : isVar y = false := by unfold isVar; simp; omega
      simp [hlt, hy, h1]
      simpa [hI, insOk, hv] using h
    by_cases h2 : 65536 < y
    · have hv : isVar y = false := by unfold isVar; simp; omega
      simp [hlt, hy, h1, h2]
      simpa [hI, insOk, hv] using h
    have hv : isVar y = true := by unfold isVar; simp; omega
    cases i with
    | zero =>
      have := hl0 rfl
      subst this
      have h3 : 0 < y := by omega
      simp [hlt, hy, h1, h2]
      refine forK_go _ hlt (by simp [mkEnv, List.replicate]) ⟨rfl, ⟨y, by simp [hI, insOk, hv, h3], fun e => by omega, fun j hj => ?_⟩, rfl⟩
      have : j = 0 := by omega
      subst this; exact nth_get hy
    | succ i =>
      have hp := hl1 i rfl
      have hp' : nth ins i = some last := hp
      have ew : IntKind.i64.wrap (((i + 1 : Nat) : Int) - 1) = i := by rw [wrap_small] <;> omega
      have ew' : IntKind.i64.wrap (i : Int) = i := by rw [wrap_small] <;> omega
      have hge : (0 : Int) ≤ (i : Int) + 1 := by omega
      have hgt : (0 : Int) < (i : Int) + 1 := by omega
      have htn : ((i : Int) + 1).toNat = i + 1 := by omega
      have es2 : IntKind.i64.wrap ((i : Int) + 1 + 1) = (i : Int) + 1 + 1 := by rw [wrap_small] <;> omega
      by_cases h4 : y ≤ last
      · have h5 : ¬ last < y := by omega
        simp [hlt, hy, h1, h2, hge, hgt, htn, ew, ew', hp', h4]
        simpa [hI, insOk, hv, h5] using h
      · have h5 : last < y := by omega
        simp [hlt, hy, h1, h2, hge, hgt, htn, ew, ew', hp', h4, es2]
        refine forK_go _ hlt (by simp [mkEnv, List.replicate]) ⟨rfl, ⟨y, by simp [hI, insOk, hv, h5], fun e => by omega, fun j hj => ?_⟩, rfl⟩
        have : j = i + 1 := by omega
        subst this; exact nth_get hy
  · have : i = ins.length := by omega
    subst this
    simp
    simpa [hI, insOk] using h
theorem ref_May_ok {g : AigP} {σ : GS} {Post : DV → GS → Prop} (hs : g.Sm) (h : Post (.bool g.may) σ) : GCall Tryz.prog F_skolemref06_May [g.enc] σ Post := by
  have h1 := hs.ins
  have h2 := hs.ands
  refine GCall.say (r := .bool g.may) ?_ rfl h
  refine gc_skolemref06_May ?_
  simp [G_skolemref06_May, genv0, List.replicate]
  refine ref_Inputs_ok h1 ?_
  by_cases g1 : insOk 0 g.ins = true
  · simp [g1]
    refine ref_Nodes_ok hs ?_
    by_cases g2 : (200000 : Int) < g.nodes
    · have : ¬ g.nodes ≤ 200000 := by omega
      simp [g2, AigP.may, this]
    · have g2' : g.nodes ≤ 200000 := by omega
      simp [g2]
      refine gfor g.ands.length (fun i e σ' => σ' = σ ++ [.row false [fints g.ins, fands g.ands]] ∧ g.may = andsOk (2 * (1 + g.ins.length + i)) (g.ands.drop i) ∧ e = mkEnv 52 [(1, .ptr σ.length 0), (3, .int .i64 i)]) _ ?_ ⟨rfl, by simp [AigP.may, g1, g2'], rfl⟩ ?_
      · simp [mkEnv, List.replicate]
      rintro i _ _ hi ⟨rfl, hI, rfl⟩
      simp [mkEnv, List.replicate]
      by_cases hlt : i < g.ands.length
      · obtain ⟨p, hp⟩ := nth_lt hlt
        rw [drop_get hp] at hI
        have e1 : IntKind.i64.wrap (1 + (g.ins.length : Int)) = 1 + g.ins.length := by rw [wrap_small] <;> omega
        have e2 : IntKind.i64.wrap (1 + (g.ins.length : Int) + i) = 1 + g.ins.length + i := by rw [wrap_small] <;> omega
        have e3 : IntKind.i64.wrap (2 * (1 + (g.ins.length : Int) + i)) = 2 * (1 + g.ins.length + i) := by rw [wrap_small] <;> omega
        have es : IntKind.i64.wrap ((i : Int) + 1) = (i : Int) + 1 := by rw [wrap_small] <;> omega
        simp [hlt, e1, e2, e3]
        obtain ⟨M, hM⟩ : ∃ M, 2 * (1 + (g.ins.length : Int) + i) = M := ⟨_, rfl⟩
        rw [hM] at hI ⊢
        refine gfor 2 (fun j e σ' => σ' = σ ++ [.row false [fints g.ins, fands g.ands]] ∧ (1 ≤ j → 0 ≤ p.1 ∧ p.1 < M) ∧ (2 ≤ j → 0 ≤ p.2 ∧ p.2 < M) ∧ e = mkEnv 52 [(1, .ptr σ.length 0), (3, .int .i64 i), (4, .int .i64 M), (5, .int .i64 j)]) _ ?_ ⟨rfl, fun h => by omega, fun h => by omega, rfl⟩ ?_
        · simp [mkEnv, List.replicate]
        rintro j _ _ hj ⟨rfl, j1, j2, rfl⟩
        simp [mkEnv, List.replicate]
        have hcase : j = 0 ∨ j = 1 ∨ j = 2 := by omega
        rcases hcase with rfl | rfl | rfl
        · by_cases a1 : p.1 < 0
          · have : ¬ 0 ≤ p.1 := by omega
            simp [hp, a1]
            simpa [andsOk, this] using hI.symm
          · by_cases a2 : M ≤ p.1
            · have : ¬ p.1 < M := by omega
              simp [hp, a1, a2]
              simpa [andsOk, this] using hI.symm
            · simp [hp, a1, a2]
              exact forK_go _ (by omega) (by simp [mkEnv, List.replicate]) ⟨rfl, fun _ => by omega, fun h => by omega, rfl⟩
        · have := j1 (by omega)
          by_cases a1 : p.2 < 0
          · have : ¬ 0 ≤ p.2 := by omega
            simp [hp, a1]
            simpa [andsOk, this] using hI.symm
          · by_cases a2 : M ≤ p.2
            · have : ¬ p.2 < M := by omega
              simp [hp, a1, a2]
              simpa [andsOk, this] using hI.symm
            · have ew : IntKind.i64.wrap 2 = 2 := by decide
              simp [hp, a1, a2, ew]
              exact forK_go _ (by omega) (by simp [mkEnv, List.replicate]) ⟨rfl, fun _ => this, fun _ => by omega, rfl⟩
        · have b1 := j1 (by omega)
          have b2 := j2 (by omega)
          simp [es]
          refine forK_go _ hlt (by simp [mkEnv, List.replicate]) ⟨rfl, ?_, rfl⟩
          rw [hI]
          simp [andsOk, b1, b2]
          rw [← hM]
          congr 1
      · have : i = g.ands.length := by omega
        subst this
        simp
        simpa [andsOk] using hI
  · simp [g1, AigP.may]
theorem ref_Not_ok {e : Int} {σ : GS} {Post : DV → GS → Prop} (h0 : 0 ≤ e) (h1 : e < 2 ^ 62) (h : Post (.int .i64 (notE e)) σ) : GCall Tryz.prog F_skolemref06_Not [.int .i64 e] σ Post := by
  refine gc_skolemref06_Not ?_
  have e1 : IntKind.i64.wrap (e + 1) = e + 1 := by rw [wrap_small] <;> omega
  have e2 : IntKind.i64.wrap (2 * (e % 2)) = 2 * (e % 2) := by rw [wrap_small] <;> omega
  have e3 : IntKind.i64.wrap (e + 1 - 2 * (e % 2)) = e + 1 - 2 * (e % 2) := by rw [wrap_small] <;> omega
  simp [G_skolemref06_Not, genv0, List.replicate, tmod_two h0, e1, e2, e3]
  exact h
theorem idxF_skip {p : (Int × Int) → Bool} : ∀ {l : List (Int × Int)} {k j : Nat}, j ≤ l.length → (∀ i x, i < j → l[i]? = some x → p x = false) → idxF p k l = idxF p (k + j) (l.drop j)
  | l, k, 0, _, _ => by simp
  | [], k, j + 1, h, _ => by simp at h
  | x :: l, k, j + 1, h, hp => by
    have h0 := hp 0 x (by omega) rfl
    simp only [idxF, h0, Bool.false_eq_true, if_false, List.drop_succ_cons]
    rw [idxF_skip (j := j) (by simpa using h) fun i y hi hy => hp (i + 1) y (by omega) (by simpa using hy)]
    congr 1; omega
theorem ref_find_ok {g : AigP} {a b : Int} {σ : GS} {Post : DV → GS → Prop} (hs : g.Sm) (hok : andsOk (2 * (1 + g.ins.length)) g.ands = true) (hb0 : 0 ≤ b) (hb1 : b < 2 ^ 60) (h : Post (.int .i64 (idxF (fun p => decide (p = (a, b))) 0 g.ands)) σ) : GCall Tryz.prog F_skolemref06_find [g.enc, .int .i64 a, .int .i64 b] σ Post := by
  have h1 := hs.ins
  have h2 := hs.ands
  refine GCall.say (r := .int .i64 (idxF (fun p => decide (p = (a, b))) 0 g.ands)) ?_ rfl h
  refine gc_skolemref06_find ?_
  have ew : IntKind.i64.wrap (b / 2) = b / 2 := by rw [wrap_small] <;> omega
  have ew2 : IntKind.i64.wrap (b / 2 - (g.ins.length : Int)) = b / 2 - g.ins.length := by rw [wrap_small] <;> omega
  obtain ⟨k0, hk0⟩ : ∃ k0 : Nat, max 0 (b / 2 - (g.ins.length : Int)) = k0 := ⟨(max 0 (b / 2 - (g.ins.length : Int))).toNat, by omega⟩
  simp [G_skolemref06_find, genv0, List.replicate, tdiv_two hb0, ew, ew2, hk0]
  have hgo : ∀ i, k0 ≤ i → i ≤ g.ands.length → True := fun _ _ _ => trivial
  refine gwhile (mkEnv 41 [(1, .int .i64 a), (2, .int .i64 b), (3, .ptr σ.length 0), (7, .int .i64 k0)]) (g.ands.length - k0) (fun m e σ' => ∃ i : Nat, σ' = σ ++ [.row false [fints g.ins, fands g.ands]] ∧ m = g.ands.length - i ∧ (i ≤ g.ands.length → idxF (fun p => decide (p = (a, b))) 0 g.ands = idxF (fun p => decide (p = (a, b))) i (g.ands.drop i)) ∧ (g.ands.length < i → idxF (fun p => decide (p = (a, b))) 0 g.ands = -1) ∧ e = mkEnv 41 [(1, .int .i64 a), (2, .int .i64 b), (3, .ptr σ.length 0), (7, .int .i64 i)]) ?_ ⟨k0, rfl, rfl, ?_, ?_, rfl⟩ ?_
  · simp [mkEnv, List.replicate]
  · intro hk
    have := idxF_skip (p := fun p => decide (p = (a, b))) (k := 0) hk fun i x hi hx => by
      have := andsOk_get hok hx
      simp only [decide_eq_false_iff_not]
      rintro rfl
      simp only at this
      omega
    simpa using this
  · intro hk
    rcases idxF_cases (fun p => decide (p = (a, b))) g.ands 0 with ⟨h3, _⟩ | ⟨i, x, h3, h4, h5, _⟩
    · exact h3
    · have hi := get_dom h4
      have := andsOk_get hok h4
      simp at h5; subst h5
      simp only at this
      omega
  rintro m _ _ ⟨i, rfl, rfl, hI, hI2, rfl⟩
  simp [mkEnv, List.replicate]
  by_cases hlt : i < g.ands.length
  · obtain ⟨p, hp⟩ := nth_lt hlt
    have hI := hI (by omega)
    rw [drop_get hp] at hI
    have es : IntKind.i64.wrap ((i : Int) + 1) = ((i + 1 : Nat) : Int) := wrap_suc (by omega)
    simp only [idxF] at hI
    by_cases c1 : p.1 = a
    · by_cases c2 : p.2 = b
      · have hp2 : p = (a, b) := by rw [← c1, ← c2]
        rw [if_pos (by simp [hp2])] at hI
        simp [hlt, hp, c1, c2]
        exact hI.symm
      · rw [if_neg (by simp; rintro rfl; exact c2 rfl)] at hI
        simp [hlt, hp, c1, c2, es]
        exact whK_go (g.ands.length - (i + 1)) _ (by omega) (by simp [mkEnv, List.replicate]) ⟨i + 1, rfl, rfl, fun _ => hI, fun h => by omega, rfl⟩
    · rw [if_neg (by simp; rintro rfl; exact c1 rfl)] at hI
      simp [hlt, hp, c1, es]
      exact whK_go (g.ands.length - (i + 1)) _ (by omega) (by simp [mkEnv, List.replicate]) ⟨i + 1, rfl, rfl, fun _ => hI, fun h => by omega, rfl⟩
  · simp [hlt]
    rcases Nat.lt_or_ge g.ands.length i with h3 | h3
    · exact (hI2 h3).symm
    · have : i = g.ands.length := by omega
      subst this
      have := hI (Nat.le_refl _)
      simp [idxF] at this
      exact this.symm
theorem ref_Edge_ok {g : AigP} {v : Int} {σ : GS} {Post : DV → GS → Prop} (hl : g.ins.length < 2 ^ 50) (h : Post (.int .i64 (edgeOf g.ins v)) σ) : GCall Tryz.prog F_skolemref06_Edge [g.enc, .int .i64 v] σ Post := by
  refine GCall.say (r := .int .i64 (edgeOf g.ins v)) ?_ rfl h
  refine gc_skolemref06_Edge ?_
  simp [G_skolemref06_Edge, genv0, List.replicate]
  refine gfor g.ins.length (fun i e σ' => σ' = σ ++ [.row false [fints g.ins, fands g.ands]] ∧ idxF (fun x => decide (x = v)) 0 g.ins = idxF (fun x => decide (x = v)) i (g.ins.drop i) ∧ e = mkEnv 23 [(1, .int .i64 v), (2, .ptr σ.length 0), (5, .int .i64 i)]) _ ?_ ⟨rfl, by simp, rfl⟩ ?_
  · simp [mkEnv, List.replicate]
  rintro i _ _ hi ⟨rfl, hI, rfl⟩
  simp [mkEnv, List.replicate]
  by_cases hlt : i < g.ins.length
  · obtain ⟨y, hy⟩ := nth_lt hlt
    rw [drop_get hy] at hI
    simp only [idxF, decide_eq_true_eq] at hI
    have es : IntKind.i64.wrap ((i : Int) + 1) = (i : Int) + 1 := by rw [wrap_small] <;> omega
    have ew : IntKind.i64.wrap (2 * ((i : Int) + 1)) = 2 * ((i : Int) + 1) := by rw [wrap_small] <;> omega
    by_cases c : y = v
    · rw [if_pos c] at hI
      simp [hlt, hy, c, es, ew]
      unfold edgeOf
      rw [hI, if_pos (by omega)]
    · rw [if_neg c] at hI
      simp [hlt, hy, c, es]
      exact forK_go _ hlt (by simp [mkEnv, List.replicate]) ⟨rfl, hI, rfl⟩
  · have : i = g.ins.length := by omega
    subst this
    simp [idxF] at hI
    simp
    unfold edgeOf
    rw [hI]; rfl
end Go.Gh
namespace Go.Gh
open Go.RowKit Go.Proofs
set_option linter.unusedVariables false
set_option linter.unusedSimpArgs false
set_option maxRecDepth 100000
/-- A reference maker in the heap, its parts named. Its inputs may be frozen. -/
structure RkR (n : Nat) (σ : GS) (id : Nat) (m : Mk) (si sa : DV) : Prop where
  ge : n ≤ id
  row : σ[id]? = some (.row false [si, sa, .bool m.full])
  ins : si = fints m.ins ∨ Own n 1 eint σ si m.ins
  ands : Own n 2 eand σ sa m.ands
  si_id : ¬ si.has id
  sa_id : ¬ sa.has id
  si_sa : ∀ i, si.has i → ¬ sa.has i
def RkO (n : Nat) (σ : GS) (id : Nat) (m : Mk) : Prop := ∃ si sa, RkR n σ id m si sa
def Rt (σ : GS) (id i : Nat) : Prop := i = id ∨ ∃ si sa f, σ[id]? = some (.row false [si, sa, f]) ∧ (si.has i ∨ sa.has i)
structure Rtp (σ : GS) (id : Nat) (σ' : GS) : Prop where
  len : σ.length ≤ σ'.length
  get : ∀ i, i < σ.length → ¬ Rt σ id i → σ'[i]? = σ[i]?
  ft : ∀ i, i < σ.length → ¬ Rt σ id i → ¬ Rt σ' id i
theorem Rtp.refl (σ : GS) (id : Nat) : Rtp σ id σ := ⟨Nat.le_refl _, fun _ _ _ => rfl, fun _ _ h => h⟩
theorem Rtp.trans {a b c : GS} {id : Nat} (h : Rtp a id b) (k : Rtp b id c) : Rtp a id c :=
  ⟨Nat.le_trans h.len k.len, fun i hi hf => (k.get i (by have := h.len; omega) (h.ft i hi hf)).trans (h.get i hi hf), fun i hi hf => k.ft i (by have := h.len; omega) (h.ft i hi hf)⟩
theorem fsl_not_has {sz : Nat} {es : List (List DV)} {i : Nat} : ¬ (DV.fsl sz es).has i := fun ⟨_, _, _, _, e⟩ => by cases e
section
variable {n id : Nat} {σ σ' : GS} {m : Mk} {si sa : DV}
theorem RkR.si_lt (h : RkR n σ id m si sa) {i : Nat} (hi : si.has i) : i < σ.length ∧ n ≤ i := by
  rcases h.ins with e | h1
  · rw [e] at hi; exact absurd hi fsl_not_has
  · exact ⟨h1.has_lt hi, h1.has_ge hi⟩
theorem RkR.ft (h : RkR n σ id m si sa) (i : Nat) : Rt σ id i ↔ i = id ∨ si.has i ∨ sa.has i := by
  unfold Rt
  constructor
  · rintro (h1 | ⟨si', sa', f, h1, h2⟩)
    · exact .inl h1
    · rw [h.row] at h1; cases h1; exact .inr h2
  · rintro (h1 | h2)
    · exact .inl h1
    · exact .inr ⟨_, _, _, h.row, h2⟩
theorem RkR.dom (h : RkR n σ id m si sa) {i : Nat} (hi : Rt σ id i) : i < σ.length ∧ n ≤ i := by
  rcases (h.ft i).1 hi with rfl | h1 | h1
  · exact ⟨get_dom h.row, h.ge⟩
  · exact h.si_lt h1
  · exact ⟨h.ands.has_lt h1, h.ands.has_ge h1⟩
theorem RkR.fit (h : RkR n σ id m si sa) (k : ∀ i, Rt σ id i → σ'[i]? = σ[i]?) : RkR n σ' id m si sa := by
  have k' : ∀ i, (i = id ∨ si.has i ∨ sa.has i) → σ'[i]? = σ[i]? := fun i hi => k i ((h.ft i).2 hi)
  exact ⟨h.ge, (k' id (.inl rfl)).trans h.row, h.ins.imp (fun h => h) fun h1 => h1.fit fun i hi => k' i (.inr (.inl hi)), h.ands.fit fun i hi => k' i (.inr (.inr hi)), h.si_id, h.sa_id, h.si_sa⟩
end
theorem RkO.fit {n id : Nat} {σ σ' : GS} {m : Mk} (h : RkO n σ id m) (k : ∀ i, Rt σ id i → σ'[i]? = σ[i]?) : RkO n σ' id m := by
  obtain ⟨si, sa, h⟩ := h
  exact ⟨_, _, h.fit k⟩
theorem RkO.dom {n id : Nat} {σ : GS} {m : Mk} (h : RkO n σ id m) {i : Nat} (hi : Rt σ id i) : i < σ.length ∧ n ≤ i := by
  obtain ⟨si, sa, h⟩ := h
  exact h.dom hi
theorem RkO.keep {n id : Nat} {σ σ' : GS} {m : Mk} (h : RkO n σ id m) (k : ∀ i, i < σ.length → σ'[i]? = σ[i]?) : RkO n σ' id m := h.fit fun i hi => k i (h.dom hi).1
theorem RkO.app {n id : Nat} {σ : GS} {m : Mk} (h : RkO n σ id m) (τ : GS) : RkO n (σ ++ τ) id m := h.keep fun i hi => List.getElem?_append_left hi
theorem RkO.ft_eq {n id : Nat} {σ σ' : GS} {m : Mk} (h : RkO n σ id m) (k : σ'[id]? = σ[id]?) (i : Nat) : Rt σ' id i ↔ Rt σ id i := by
  unfold Rt; rw [k]
theorem RkO.stp {n id : Nat} {σ σ' : GS} {m : Mk} (h : RkO n σ id m) (hl : σ.length ≤ σ'.length) (k : ∀ i, i < σ.length → σ'[i]? = σ[i]?) : Rtp σ id σ' := by
  refine ⟨hl, fun i hi _ => k i hi, fun i hi hf => ?_⟩
  rwa [h.ft_eq (k id (h.dom (.inl rfl)).1)]
theorem RkR.rd {n id : Nat} {σ : GS} {m : Mk} {si sa : DV} (h : RkR n σ id m si sa) (ok : Nat → Prop) (hok : ∀ i, n ≤ i → ok i) : Rd σ ok (.agg [si, sa]) (AigP.enc ⟨m.ins, m.ands⟩) := by
  have h1 : Rd σ ok si (fints m.ins) := by
    rcases h.ins with e | h1
    · rw [e]; exact .same _
    · exact h1.rd (fun _ => rfl) hok
  exact .agg (.cons h1 (.cons (h.ands.rd (fun _ => rfl) hok) .nil))
end Go.Gh
namespace Go.Gh
open Go.RowKit Go.Proofs
set_option linter.unusedVariables false
set_option linter.unusedSimpArgs false
set_option maxRecDepth 100000
/-- The state of copying in the reference. -/
structure RpSt (n0 : Nat) (σ σ' : GS) (id : Nat) (g : AigP) (n : Nat) (T : List Int) (m : Mk) : Prop where
  box : σ'[σ.length]? = some (.row false [fints g.ins, fands g.ands])
  row : σ'[σ.length + 1]? = some (.row false (ints T))
  mak : RkO n0 σ' id m
  stp : Rtp σ id σ'
  nf : ∀ j, j < 2 → ¬ Rt σ' id (σ.length + j)
  tl : T.length = n
theorem RpSt.step {n0 id n : Nat} {σ σ' σ2 : GS} {g : AigP} {T : List Int} {m m' : Mk} (h : RpSt n0 σ σ' id g n T m) (hm : RkO n0 σ2 id m') (hs : Rtp σ' id σ2) : RpSt n0 σ σ2 id g n T m' := by
  have hk : ∀ j o, j < 2 → σ'[σ.length + j]? = some o → σ2[σ.length + j]? = some o := fun j o hj ho => (hs.get _ (get_dom ho) (h.nf j hj)).trans ho
  exact ⟨hk 0 _ (by omega) h.box, hk 1 _ (by omega) h.row, hm, h.stp.trans hs, fun j hj => hs.ft _ (by have := get_dom h.row; omega) (h.nf j hj), h.tl⟩
theorem RpSt.set {n0 id n : Nat} {σ σ' : GS} {g : AigP} {T : List Int} {m : Mk} (h : RpSt n0 σ σ' id g n T m) (i : Nat) (x : Int) : RpSt n0 σ (σ'.set (σ.length + 1) (.row false (ints (T.set i x)))) id g n (T.set i x) m := by
  have hne : ∀ j, j ≠ σ.length + 1 → (σ'.set (σ.length + 1) (.row false (ints (T.set i x))))[j]? = σ'[j]? := fun j hj => List.getElem?_set_ne (Ne.symm hj)
  have hfne : ∀ j, Rt σ' id j → j ≠ σ.length + 1 := fun j hj e => h.nf 1 (by omega) (e ▸ hj)
  have hid := hne id (hfne id (.inl rfl))
  exact ⟨(hne _ (by omega)).trans h.box, List.getElem?_set_self (get_dom h.row), h.mak.fit fun j hj => hne j (hfne j hj), ⟨by simpa using h.stp.len, fun i hi hf => (hne i (by omega)).trans (h.stp.get i hi hf), fun i hi hf => by rw [h.mak.ft_eq hid]; exact h.stp.ft i hi hf⟩, fun j hj => by rw [h.mak.ft_eq hid]; exact h.nf j hj, by simp [h.tl]⟩
end Go.Gh
namespace Go.Gh
open Go.RowKit Go.Proofs
set_option linter.unusedVariables false
set_option linter.unusedSimpArgs false
set_option maxRecDepth 100000
@[simp] theorem fill_agg2 (z0 z1 z2 a b : DV) : gfill [(0, 2)] [z0, z1, z2] [.agg [a, b]] = some [a, b, z2] := by simp [gfill, DV.cells, over]
/-- The graph that has what edges reach. -/
def AigP.cone (g : AigP) (l : List Int) : GOut :=
  if g.all l = true then
    ⟨((Mk.mk g.ins [] false).copy g (g.reach l) (0 :: g.ins.map (edgeOf g.ins))).2.graph, l.map (imgE ((Mk.mk g.ins [] false).copy g (g.reach l) (0 :: g.ins.map (edgeOf g.ins))).1), 0⟩
  else .err 2
theorem rcDown_none (base : Nat) (ands : List (Int × Int)) (n : Nat) : ∀ k, rcDown base ands k (List.replicate n false) = List.replicate n false
  | 0 => rfl
  | k + 1 => by
    have : rcStep base ands (List.replicate n false) k = List.replicate n false := by
      unfold rcStep
      rw [if_neg]
      rw [List.getD_eq_getElem?_getD, List.getElem?_replicate]
      split <;> simp
    rw [rcDown, this, rcDown_none base ands n k]
theorem AigP.reach_none (g : AigP) : g.reach [] = List.replicate g.nodes false := by unfold AigP.reach; exact rcDown_none _ _ _ _
theorem cpFold_none : ∀ (xs : List ((Int × Int) × Bool)) (s : List Int × Mk), (∀ x ∈ xs, x.2 = false) → (xs.foldl cpStep s).2 = s.2
  | [], s, _ => rfl
  | x :: xs, s, h => by
    rw [List.foldl_cons, cpFold_none xs _ fun y hy => h y (List.mem_cons_of_mem _ hy)]
    unfold cpStep; rw [if_neg (by simp [h x List.mem_cons_self])]
theorem AigP.compose_nil (g : AigP) (l : List Int) : g.compose l [] = g.cone l := by
  unfold AigP.compose AigP.cone
  by_cases h : g.all l = true
  · have hm := AigP.all_may h
    have hnn := AigP.may_nodes hm
    have hc : ((Mk.mk g.ins [] false).copy g (g.reach (([] : List (Int × Int)).map (·.2))) (0 :: g.ins.map (edgeOf g.ins))).2 = Mk.mk g.ins [] false := by
      unfold Mk.copy
      rw [cpFold_none]
      rintro ⟨p, b⟩ hx
      have := (List.of_mem_zip hx).2
      rw [List.map_nil, AigP.reach_none] at this
      exact List.eq_of_mem_replicate (List.mem_of_mem_drop this)
    have hall : g.all [] = true := by simp [AigP.all, hm]
    rw [if_pos (by simp [h, hall]), if_pos h, if_pos (by simp)]
    simp only [hc, outOf, List.find?_nil, Option.map_none]
    have hfull : ((Mk.mk g.ins [] false).copy g (g.reach l) (0 :: g.ins.map (edgeOf g.ins))).2.full = false := by
      unfold Mk.copy
      rw [cpFold_full]
      rw [List.length_zip, List.length_drop]
      show 1 + g.ins.length + 0 + _ ≤ _
      have : g.nodes = 1 + g.ins.length + g.ands.length := rfl
      omega
    rw [if_neg (by rw [hfull]; simp)]
  · rw [if_neg (by simp [h]), if_neg h]
theorem ref_Abs_ok {x : Int} {σ : GS} {Post : DV → GS → Prop} (h : Post (.int .i64 (gabs x)) σ) : GCall Tryz.prog F_skolemref05_Abs [.int .i64 x] σ Post := by
  refine gc_skolemref05_Abs ?_
  unfold gabs at h
  by_cases c : x < 0
  · rw [if_pos c] at h
    simp [G_skolemref05_Abs, genv0, List.replicate, c]
    exact h
  · rw [if_neg c] at h
    simp [G_skolemref05_Abs, genv0, List.replicate, c]
    exact h
theorem ref_variable_ok {v : Int} {σ : GS} {Post : DV → GS → Prop} (h : Post (.bool (isVar v)) σ) : GCall Tryz.prog F_skolemref05_variable [.int .i64 v] σ Post := by
  refine gc_skolemref05_variable ?_
  by_cases h1 : 1 ≤ v <;> simp [G_skolemref05_variable, genv0, List.replicate, h1] <;> simpa [isVar, h1] using h
theorem ref_Normal_ok {a : List Int} {σ : GS} {Post : DV → GS → Prop} (hl : a.length < 2 ^ 50) (h : Post (.bool (normal a)) σ) : GCall Tryz.prog F_skolemref05_Normal [fints a] σ Post := by
  rw [normal_eq] at h
  refine gc_skolemref05_Normal ?_
  simp [G_skolemref05_Normal, genv0, List.replicate]
  refine gfor a.length (fun i e σ' => σ' = σ ∧ (∃ last, normR 0 a = normR last (a.drop i) ∧ (i = 0 → last = 0) ∧ ∀ j, j + 1 = i → ∃ y, a[j]? = some y ∧ last = gabs y) ∧ e = mkEnv 35 [(0, fints a), (3, .int .i64 i)]) _ ?_ ⟨rfl, ⟨0, by simp, fun _ => rfl, fun j h => by omega⟩, rfl⟩ ?_
  · simp [mkEnv, List.replicate]
  rintro i _ _ hi ⟨rfl, ⟨last, hI, hl0, hl1⟩, rfl⟩
  simp [mkEnv, List.replicate]
  by_cases hlt : i < a.length
  · obtain ⟨y, hy⟩ := nth_lt hlt
    have hy' := nth_get hy
    rw [drop_get hy] at hI
    have es : IntKind.i64.wrap ((i : Int) + 1) = (i : Int) + 1 := by rw [wrap_small] <;> omega
    simp [hlt, hy]
    refine ref_Abs_ok ?_
    simp
    refine ref_variable_ok ?_
    by_cases hv : isVar (gabs y) = true
    · cases i with
      | zero =>
        have := hl0 rfl
        subst this
        have h3 : 0 < gabs y := by have := hv; simp only [isVar, Bool.and_eq_true, decide_eq_true_eq] at this; omega
        simp [hv]
        refine forK_go _ hlt (by simp [mkEnv, List.replicate]) ⟨rfl, ⟨gabs y, by simp [hI, normR, hv, h3], fun e => by omega, fun j hj => ?_⟩, rfl⟩
        have : j = 0 := by omega
        subst this; exact ⟨y, hy', rfl⟩
      | succ i =>
        obtain ⟨z, hz, hlz⟩ := hl1 i rfl
        have hz' : nth a i = some z := hz
        have hge : (0 : Int) ≤ (i : Int) + 1 := by omega
        have hgt : (0 : Int) < (i : Int) + 1 := by omega
        have htn : ((i : Int) + 1).toNat = i + 1 := by omega
        have ew' : IntKind.i64.wrap (i : Int) = i := by rw [wrap_small] <;> omega
        have es2 : IntKind.i64.wrap ((i : Int) + 1 + 1) = (i : Int) + 1 + 1 := by rw [wrap_small] <;> omega
        simp [hv, hge, hgt, htn, hy, ew', hz']
        refine ref_Abs_ok ?_
        simp [hge, htn, hy, ew', hz']
        refine ref_Abs_ok ?_
        by_cases h4 : gabs y ≤ last
        · have h5 : ¬ last < gabs y := by omega
          rw [hlz] at h4 h5
          simp [h4]
          rw [hI, hlz] at h
          simpa [normR, hv, h5] using h
        · have h5 : last < gabs y := by omega
          rw [hlz] at h4
          simp [h4, es2]
          refine forK_go _ hlt (by simp [mkEnv, List.replicate]) ⟨rfl, ⟨gabs y, by simp [hI, normR, hv, h5], fun e => by omega, fun j hj => ?_⟩, rfl⟩
          have : j = i + 1 := by omega
          subst this; exact ⟨y, hy', rfl⟩
    · simp [hv]
      simpa [hI, normR, hv] using h
  · have : i = a.length := by omega
    subst this
    simp
    simpa [hI, normR] using h
end Go.Gh
namespace Go.Gh
open Go.RowKit Go.Proofs
set_option linter.unusedVariables false
set_option linter.unusedSimpArgs false
set_option maxRecDepth 100000
end Go.Gh
namespace Go.Gh
open Go.Proofs
set_option maxRecDepth 100000
theorem works_run : sayTrueL Tryz.prog [(F_aig_ToNet, G_aig_ToNet), (F_circ_May, G_circ_May)] 60 11 [] = true := by kernel_rfl
theorem works_ok {σ : GS} {Post : DV → GS → Prop} (k : Post (.bool true) σ) : GCall Tryz.prog 11 [] σ Post := by
  refine GCall.closed (sayTrueL_ok seatfollows (fun p hp => ?_) works_run) k
  simp only [List.mem_cons, List.not_mem_nil, or_false] at hp
  rcases hp with rfl | rfl
  · exact ⟨_, Tryz.func47, by kernel_rfl, c_aig_ToNet⟩
  · exact ⟨_, Tryz.func125, by kernel_rfl, c_circ_May⟩
end Go.Gh
namespace Go.Gh
open Go.RowKit Go.Proofs
set_option linter.unusedVariables false
set_option linter.unusedSimpArgs false
set_option maxRecDepth 100000
/-- Is a graph larger than the laws speak of? -/
def AigP.great (g : AigP) : Bool := decide (600 < g.ands.length) || decide (100 < g.ins.length)
abbrev eaig (g : AigP) : List DV := [fints g.ins, fands g.ands]
theorem great_ok {gs : List AigP} {σ : GS} {Post : DV → GS → Prop} (hl : gs.length < 2 ^ 50) (h : Post (.bool (gs.any AigP.great)) σ) : GCall Tryz.prog F_skolemlaw06_great [.fsl 2 (gs.map eaig)] σ Post := by
  obtain ⟨B, hB⟩ : ∃ B, gs.any AigP.great = B := ⟨_, rfl⟩
  rw [hB] at h
  refine GCall.say (r := .bool B) ?_ rfl h
  refine gc_skolemlaw06_great ?_
  simp [G_skolemlaw06_great, genv0, List.replicate]
  refine gfor gs.length (fun i e σ' => Fr σ.length σ σ' ∧ B = (gs.drop i).any AigP.great ∧ e = mkEnv 22 [(5, .fsl 2 (gs.map eaig)), (6, .int .i64 gs.length), (7, .int .i64 i)]) _ ?_ ⟨.rfl', by rw [← hB]; rfl, rfl⟩ ?_
  · simp [mkEnv, List.replicate]
  rintro i _ σ' hi ⟨hF, hI, rfl⟩
  simp [mkEnv, List.replicate]
  by_cases hlt : i < gs.length
  · obtain ⟨g, hg⟩ := nth_lt hlt
    rw [drop_get hg, List.any_cons] at hI
    have es : IntKind.i64.wrap ((i : Int) + 1) = (i : Int) + 1 := by rw [wrap_small] <;> omega
    by_cases c1 : (600 : Int) < g.ands.length
    · have c : g.great = true := by unfold AigP.great; simp; omega
      simp [hlt, hg, c1]
      refine ⟨hF.app _, ?_⟩
      rw [hI, c]; rfl
    · by_cases c2 : (100 : Int) < g.ins.length
      · have c : g.great = true := by unfold AigP.great; simp; omega
        simp [hlt, hg, c1, c2]
        refine ⟨hF.app _, ?_⟩
        rw [hI, c]; rfl
      · have c : g.great = false := by unfold AigP.great; simp; omega
        simp [hlt, hg, c1, c2, es]
        exact forK_go _ hlt (by simp [mkEnv, List.replicate]) ⟨hF.app _, by rw [hI, c]; rfl, rfl⟩
  · have : i = gs.length := by omega
    subst this
    simp
    refine ⟨hF, ?_⟩
    rw [hI, List.drop_length]; rfl
end Go.Gh
namespace Go.Gh
open Go.Proofs
end Go.Gh
namespace Go.Gh
open Go.RowKit Go.Proofs
set_option linter.unusedVariables false
set_option linter.unusedSimpArgs false
set_option maxRecDepth 100000
def Mk.disj (m : Mk) (a b : Int) : Int × Mk := (notE (m.conj (notE a) (notE b)).1, (m.conj (notE a) (notE b)).2)
/-- What an operation on a maker leaves: at most k Ands more. -/
structure Gd (m : Mk) (r : Int × Mk) (k : Nat) : Prop where
  ok : r.2.ok
  lo : m.n ≤ r.2.n
  hi : r.2.n ≤ m.n + k
  ins : r.2.ins = m.ins
  e0 : 0 ≤ r.1
  e1 : r.1 < 2 * r.2.n
  full : m.n + k ≤ 200000 → r.2.full = m.full
theorem Gd.conj {m : Mk} {r : Int × Mk} {k : Nat} (h : Gd m r k) {a b : Int} (a0 : 0 ≤ a) (a1 : a < 2 * r.2.n) (b0 : 0 ≤ b) (b1 : b < 2 * r.2.n) : Gd m (r.2.conj a b) (k + 1) := by
  have h1 := Mk.conj_n r.2 a b
  have h2 := Mk.conj_range a0 a1 b0 b1
  have := h.lo; have := h.hi
  exact ⟨Mk.conj_ok a0 a1 b0 b1 h.ok, by omega, by omega, by rw [Mk.conj_ins, h.ins], h2.1, h2.2, fun hh => by rw [Mk.conj_full _ _ _ (by omega)]; exact h.full (by omega)⟩
theorem Gd.not {m : Mk} {r : Int × Mk} {k : Nat} (h : Gd m r k) : Gd m (notE r.1, r.2) k :=
  ⟨h.ok, h.lo, h.hi, h.ins, (notE_range h.e0 h.e1).1, (notE_range h.e0 h.e1).2, h.full⟩
theorem Gd.self {m : Mk} (h : m.ok) {e : Int} (e0 : 0 ≤ e) (e1 : e < 2 * m.n) : Gd m (e, m) 0 := ⟨h, Nat.le_refl _, Nat.le_refl _, rfl, e0, e1, fun _ => rfl⟩
theorem Gd.grow {m : Mk} {r : Int × Mk} {k j : Nat} (h : Gd m r k) (hj : k ≤ j) : Gd m r j := ⟨h.ok, h.lo, by have := h.hi; omega, h.ins, h.e0, h.e1, fun hh => h.full (by omega)⟩
theorem Gd.disj {m : Mk} {r : Int × Mk} {k : Nat} (h : Gd m r k) {a b : Int} (a0 : 0 ≤ a) (a1 : a < 2 * r.2.n) (b0 : 0 ≤ b) (b1 : b < 2 * r.2.n) : Gd m (r.2.disj a b) (k + 1) :=
  (h.conj (notE_range a0 a1).1 (notE_range a0 a1).2 (notE_range b0 b1).1 (notE_range b0 b1).2).not
end Go.Gh
namespace Go.Gh
open Go.RowKit Go.Proofs
set_option linter.unusedVariables false
set_option linter.unusedSimpArgs false
set_option maxRecDepth 100000
@[simp] theorem ga_box_int (k : IntKind) (x : Int) : galloc .box [.int k x] = some (.row false [.int k x], fun id => .ptr id 0) := rfl
@[simp] theorem ga_box_ptr (i j : Nat) : galloc .box [.ptr i j] = some (.row false [.ptr i j], fun id => .ptr id 0) := rfl
@[simp] theorem ga_box_fsl (sz : Nat) (es : List (List DV)) : galloc .box [.fsl sz es] = some (.row false [.fsl sz es], fun id => .ptr id 0) := rfl
@[simp] theorem ga_b2_int {z : DV} (k : IntKind) (x y : Int) : galloc (.bslice 1 [z] 2 [(0, 1), (1, 1)]) [.int k x, .int k y] = some (.row false [.int k x, .int k y], fun id => .slice id 0 2 1 (some 2)) := rfl
@[simp] theorem ga_b3_int {z : DV} (k : IntKind) (x y w : Int) : galloc (.bslice 1 [z] 3 [(0, 1), (1, 1), (2, 1)]) [.int k x, .int k y, .int k w] = some (.row false [.int k x, .int k y, .int k w], fun id => .slice id 0 3 1 (some 3)) := rfl
@[simp] theorem ptr_nil (id k : Nat) : gbin .eql .ptr (.ptr id k) .nilp = some (.bool false) := rfl
@[simp] theorem nil_nil : gbin .eql .ptr .nilp .nilp = some (.bool true) := rfl
theorem Mk.all_has {m : Mk} {L : List Int} : L.all m.graph.has = true ↔ ∀ x ∈ L, 0 ≤ x ∧ x < 2 * (m.n : Int) := by
  rw [List.all_eq_true]
  have : (m.graph.nodes : Int) = m.n := rfl
  simp [AigP.has, this]
end Go.Gh
namespace Go.Gh
open Go.RowKit Go.Proofs
set_option linter.unusedVariables false
set_option linter.unusedSimpArgs false
set_option maxRecDepth 100000
end Go.Gh
namespace Go.Gh
open Go.RowKit Go.Proofs
set_option linter.unusedVariables false
set_option linter.unusedSimpArgs false
set_option maxRecDepth 100000
end Go.Gh
namespace Go.Gh
open Go.RowKit Go.Proofs
set_option linter.unusedVariables false
set_option linter.unusedSimpArgs false
set_option maxRecDepth 100000
@[simp] theorem gres_c2 (env : Env) (σ : GS) (t u : Tmp) (n : Nat) (b : Bool) : gresL env σ [.cell t n b, .tmp u] = (gload (.load n b) [env[t]?.getD (.tuple [])] σ).map fun v => [v, env[u]?.getD (.tuple [])] := by
  simp only [gresL, gres1, garg]
  cases gload (.load n b) [env[t]?.getD (.tuple [])] σ <;> rfl
@[simp] theorem ga_mmap : galloc .mmap [] = some (.mp [] ([], 0), fun id => .map id) := rfl
/-- The heap while Graft looks through what is given. -/
structure GrI (σ : GS) (id : Nat) (m : Mk) (g : AigP) (L : List Int) (by_ : List (Int × Int)) (i : Nat) (τ : GS) : Prop where
  b0 : τ[σ.length]? = some (.row false [.ptr id 0])
  b1 : τ[σ.length + 1]? = some (.row false [fints g.ins, fands g.ands])
  b2 : τ[σ.length + 2]? = some (.row false [fints L])
  b3 : τ[σ.length + 3]? = some (.row false [.nils])
  mp : MpO kint τ (σ.length + 4) (ents (by_.take i))
  b5 : τ[σ.length + 5]? = some (.row false [.map (σ.length + 4)])
  fr : Fr σ.length σ τ
  nd : ((by_.take i).map (·.1)).Nodup
  has : ((by_.take i).map (·.2)).all m.graph.has = true
theorem GrI.app {σ τ : GS} {id : Nat} {m : Mk} {g : AigP} {L : List Int} {by_ : List (Int × Int)} {i : Nat} (h : GrI σ id m g L by_ i τ) (X : GS) : GrI σ id m g L by_ i (τ ++ X) :=
  ⟨getE_append h.b0, getE_append h.b1, getE_append h.b2, getE_append h.b3, h.mp.fit (List.getElem?_append_left (by have := get_dom h.b5; omega)), getE_append h.b5, h.fr.app X, h.nd, h.has⟩
end Go.Gh
namespace Go.Gh
open Go.RowKit Go.Proofs
set_option linter.unusedVariables false
set_option linter.unusedSimpArgs false
set_option maxRecDepth 100000
end Go.Gh
namespace Go.Gh
open Go.RowKit Go.Proofs
set_option linter.unusedVariables false
set_option linter.unusedSimpArgs false
set_option maxRecDepth 100000
@[simp] theorem gres_c1 (env : Env) (σ : GS) (t : Tmp) (n : Nat) (b : Bool) : gresL env σ [.cell t n b] = (gload (.load n b) [env[t]?.getD (.tuple [])] σ).map fun v => [v] := by
  simp only [gresL, gres1, garg]
  cases gload (.load n b) [env[t]?.getD (.tuple [])] σ <;> rfl
end Go.Gh
namespace Go.Gh
open Go.RowKit Go.Proofs
set_option linter.unusedVariables false
set_option linter.unusedSimpArgs false
set_option maxRecDepth 100000
end Go.Gh
namespace Go.Gh
open Go.Proofs
abbrev F_aig_Join : Nat := 37
abbrev F_slices_Concat_int_int : Nat := 102
abbrev F_slices_Sort_int_int : Nat := 103
abbrev F_slices_Compact_int_int : Nat := 104
abbrev F_slices_Grow_int_int : Nat := 161
noncomputable abbrev G_slices_Concat_int_int : GFun := ⟨36, [(.tmp 2)], (.seq (.region [⟨0, ⟨(some 2), none, (.pure .id), [(.const .nils)]⟩, []⟩]) (.seq (.region [⟨0, ⟨(some 3), none, (.pure .id), [(.const (.int .i64 0))]⟩, []⟩]) (.seq (.seq (.region [⟨0, ⟨(some 9), none, (.pure .id), [(.tmp 0)]⟩, []⟩, ⟨0, ⟨(some 10), none, (.pure .len), [(.tmp 9)]⟩, []⟩, ⟨0, ⟨(some 11), none, (.pure .id), [(.const (.int .i64 0))]⟩, []⟩]) (.block 0 (.loop (.seq (.region [⟨0, ⟨(some 12), none, (.pure (.bin .lss .none)), [(.tmp 11), (.tmp 10)]⟩, []⟩]) (.seq (.cond (.tmp 12) .skip (.exit 0)) (.seq (.block 1 (.seq (.region [⟨0, ⟨(some 13), none, (.pure (.iaddr 1)), [(.tmp 9), (.tmp 11)]⟩, []⟩, ⟨0, ⟨(some 14), none, (.load (.load 1 false)), [(.tmp 13)]⟩, []⟩, ⟨0, ⟨(some 5), none, (.pure .id), [(.tmp 14)]⟩, []⟩]) (.seq (.region [⟨0, ⟨(some 15), none, (.pure .id), [(.tmp 3)]⟩, []⟩, ⟨0, ⟨(some 16), none, (.pure .id), [(.tmp 5)]⟩, []⟩, ⟨0, ⟨(some 17), none, (.pure .len), [(.tmp 16)]⟩, []⟩, ⟨0, ⟨(some 18), none, (.pure (.bin .add .none)), [(.tmp 15), (.tmp 17)]⟩, []⟩, ⟨0, ⟨(some 3), none, (.pure .id), [(.tmp 18)]⟩, []⟩]) (.seq (.region [⟨0, ⟨(some 19), none, (.pure .id), [(.tmp 3)]⟩, []⟩, ⟨0, ⟨(some 20), none, (.pure (.bin .lss .none)), [(.tmp 19), (.const (.int .i64 0))]⟩, []⟩]) (.cond (.tmp 20) (.region [⟨0, ⟨(some 21), none, .bad, []⟩, []⟩, ⟨0, ⟨none, none, .bad, []⟩, []⟩]) .skip))))) (.region [⟨0, ⟨(some 22), none, (.pure (.bin .add .none)), [(.tmp 11), (.const (.int .i64 1))]⟩, []⟩, ⟨0, ⟨(some 11), none, (.pure .id), [(.tmp 22)]⟩, []⟩]))))))) (.seq (.region [⟨0, ⟨(some 23), none, (.pure .id), [(.tmp 3)]⟩, []⟩, ⟨0, ⟨(some 24), none, (.call F_slices_Grow_int_int), [(.const .nils), (.tmp 23)]⟩, []⟩, ⟨0, ⟨(some 6), none, (.pure .id), [(.tmp 24)]⟩, []⟩]) (.seq (.seq (.region [⟨0, ⟨(some 25), none, (.pure .id), [(.tmp 0)]⟩, []⟩, ⟨0, ⟨(some 26), none, (.pure .len), [(.tmp 25)]⟩, []⟩, ⟨0, ⟨(some 27), none, (.pure .id), [(.const (.int .i64 0))]⟩, []⟩]) (.block 2 (.loop (.seq (.region [⟨0, ⟨(some 28), none, (.pure (.bin .lss .none)), [(.tmp 27), (.tmp 26)]⟩, []⟩]) (.seq (.cond (.tmp 28) .skip (.exit 2)) (.seq (.block 3 (.seq (.region [⟨0, ⟨(some 29), none, (.pure (.iaddr 1)), [(.tmp 25), (.tmp 27)]⟩, []⟩, ⟨0, ⟨(some 30), none, (.load (.load 1 false)), [(.tmp 29)]⟩, []⟩, ⟨0, ⟨(some 8), none, (.pure .id), [(.tmp 30)]⟩, []⟩]) (.region [⟨0, ⟨(some 31), none, (.pure .id), [(.tmp 6)]⟩, []⟩, ⟨0, ⟨(some 32), none, (.pure .id), [(.tmp 8)]⟩, []⟩, ⟨0, ⟨(some 33), none, (.imp (.append 1 8)), [(.tmp 31), (.tmp 32)]⟩, []⟩, ⟨0, ⟨(some 6), none, (.pure .id), [(.tmp 33)]⟩, []⟩]))) (.region [⟨0, ⟨(some 34), none, (.pure (.bin .add .none)), [(.tmp 27), (.const (.int .i64 1))]⟩, []⟩, ⟨0, ⟨(some 27), none, (.pure .id), [(.tmp 34)]⟩, []⟩]))))))) (.seq (.region [⟨0, ⟨(some 35), none, (.pure .id), [(.tmp 6)]⟩, []⟩, ⟨0, ⟨(some 2), none, (.pure .id), [(.tmp 35)]⟩, []⟩]) .ret))))))⟩
theorem c_slices_Concat_int_int : compF Tryz.prog Tryz.f102 = some G_slices_Concat_int_int := by kernel_rfl
theorem gc_slices_Concat_int_int {args : List DV} {σ : GS} {Post : DV → GS → Prop} (h : @exB Tryz.prog ⟨G_slices_Concat_int_int.body⟩ (genv0 args G_slices_Concat_int_int.ntmps) σ ⟨@gretB G_slices_Concat_int_int.results ⟨Post⟩⟩) : GCall Tryz.prog F_slices_Concat_int_int args σ Post := gcall_ofB seatfollows Tryz.func102 (by kernel_rfl) c_slices_Concat_int_int h
noncomputable abbrev G_slices_Grow_int_int : GFun := ⟨27, [(.tmp 4)], (.seq (.region [⟨0, ⟨(some 4), none, (.pure .id), [(.const .nils)]⟩, []⟩]) (.seq (.seq (.region [⟨0, ⟨(some 5), none, (.pure .id), [(.tmp 1)]⟩, []⟩, ⟨0, ⟨(some 6), none, (.pure (.bin .lss .none)), [(.tmp 5), (.const (.int .i64 0))]⟩, []⟩]) (.cond (.tmp 6) (.region [⟨0, ⟨(some 7), none, .bad, []⟩, []⟩, ⟨0, ⟨none, none, .bad, []⟩, []⟩]) .skip)) (.seq (.seq (.region [⟨0, ⟨(some 8), none, (.pure .id), [(.tmp 1)]⟩, []⟩, ⟨0, ⟨(some 9), none, (.pure .id), [(.tmp 0)]⟩, []⟩, ⟨0, ⟨(some 10), none, (.pure .cap), [(.tmp 9)]⟩, []⟩, ⟨0, ⟨(some 11), none, (.pure .id), [(.tmp 0)]⟩, []⟩, ⟨0, ⟨(some 12), none, (.pure .len), [(.tmp 11)]⟩, []⟩, ⟨0, ⟨(some 13), none, (.pure (.bin .sub .none)), [(.tmp 10), (.tmp 12)]⟩, []⟩, ⟨0, ⟨(some 14), none, (.pure (.bin .sub .none)), [(.tmp 8), (.tmp 13)]⟩, []⟩, ⟨0, ⟨(some 1), none, (.pure .id), [(.tmp 14)]⟩, []⟩]) (.seq (.region [⟨0, ⟨(some 15), none, (.pure .id), [(.tmp 1)]⟩, []⟩, ⟨0, ⟨(some 16), none, (.pure (.bin .gtr .none)), [(.tmp 15), (.const (.int .i64 0))]⟩, []⟩]) (.cond (.tmp 16) (.region [⟨0, ⟨(some 17), none, (.pure .id), [(.tmp 0)]⟩, []⟩, ⟨0, ⟨(some 18), none, (.pure .id), [(.tmp 0)]⟩, []⟩, ⟨0, ⟨(some 19), none, (.pure .cap), [(.tmp 18)]⟩, []⟩, ⟨0, ⟨(some 20), none, (.pure (.slice 1 false true false)), [(.tmp 17), (.tmp 19)]⟩, []⟩, ⟨0, ⟨(some 21), none, (.pure .id), [(.tmp 1)]⟩, []⟩, ⟨0, ⟨(some 22), none, (.imp (.appendz 1 8 [(.int .i64 0)])), [(.tmp 20), (.tmp 21)]⟩, []⟩, ⟨0, ⟨(some 23), none, (.pure .id), [(.tmp 0)]⟩, []⟩, ⟨0, ⟨(some 24), none, (.pure .len), [(.tmp 23)]⟩, []⟩, ⟨0, ⟨(some 25), none, (.pure (.slice 1 false true false)), [(.tmp 22), (.tmp 24)]⟩, []⟩, ⟨0, ⟨(some 0), none, (.pure .id), [(.tmp 25)]⟩, []⟩]) .skip))) (.seq (.region [⟨0, ⟨(some 26), none, (.pure .id), [(.tmp 0)]⟩, []⟩, ⟨0, ⟨(some 4), none, (.pure .id), [(.tmp 26)]⟩, []⟩]) .ret))))⟩
theorem c_slices_Grow_int_int : compF Tryz.prog Tryz.f161 = some G_slices_Grow_int_int := by kernel_rfl
theorem gc_slices_Grow_int_int {args : List DV} {σ : GS} {Post : DV → GS → Prop} (h : @exB Tryz.prog ⟨G_slices_Grow_int_int.body⟩ (genv0 args G_slices_Grow_int_int.ntmps) σ ⟨@gretB G_slices_Grow_int_int.results ⟨Post⟩⟩) : GCall Tryz.prog F_slices_Grow_int_int args σ Post := gcall_ofB seatfollows Tryz.func161 (by kernel_rfl) c_slices_Grow_int_int h
noncomputable abbrev G_slices_Compact_int_int : GFun := ⟨61, [(.tmp 2)], (.seq (.region [⟨0, ⟨(some 2), none, (.pure .id), [(.const .nils)]⟩, []⟩]) (.seq (.seq (.region [⟨0, ⟨(some 6), none, (.pure .id), [(.tmp 0)]⟩, []⟩, ⟨0, ⟨(some 7), none, (.pure .len), [(.tmp 6)]⟩, []⟩, ⟨0, ⟨(some 8), none, (.pure (.bin .lss .none)), [(.tmp 7), (.const (.int .i64 2))]⟩, []⟩]) (.cond (.tmp 8) (.seq (.region [⟨0, ⟨(some 9), none, (.pure .id), [(.tmp 0)]⟩, []⟩, ⟨0, ⟨(some 2), none, (.pure .id), [(.tmp 9)]⟩, []⟩]) .ret) .skip)) (.seq (.seq (.region [⟨0, ⟨(some 3), none, (.pure .id), [(.const (.int .i64 1))]⟩, []⟩]) (.block 0 (.loop (.seq (.seq (.region [⟨0, ⟨(some 10), none, (.pure .id), [(.tmp 3)]⟩, []⟩, ⟨0, ⟨(some 11), none, (.pure .id), [(.tmp 0)]⟩, []⟩, ⟨0, ⟨(some 12), none, (.pure .len), [(.tmp 11)]⟩, []⟩, ⟨0, ⟨(some 13), none, (.pure (.bin .lss .none)), [(.tmp 10), (.tmp 12)]⟩, []⟩]) (.cond (.tmp 13) .skip (.exit 0))) (.seq (.block 1 (.seq (.region [⟨0, ⟨(some 16), none, (.pure .id), [(.tmp 0)]⟩, []⟩, ⟨1, ⟨(some 17), none, (.pure .id), [(.tmp 3)]⟩, []⟩, ⟨2, ⟨(some 18), none, (.pure (.iaddr 1)), [(.tmp 16), (.tmp 17)]⟩, []⟩, ⟨3, ⟨(some 19), none, (.load (.load 1 false)), [(.tmp 18)]⟩, []⟩, ⟨4, ⟨(some 20), none, (.pure .id), [(.tmp 0)]⟩, []⟩, ⟨5, ⟨(some 21), none, (.pure .id), [(.tmp 3)]⟩, []⟩, ⟨6, ⟨(some 22), none, (.pure (.bin .sub .none)), [(.tmp 21), (.const (.int .i64 1))]⟩, []⟩, ⟨7, ⟨(some 23), none, (.pure (.iaddr 1)), [(.tmp 20), (.tmp 22)]⟩, []⟩, ⟨8, ⟨(some 24), none, (.load (.load 1 false)), [(.tmp 23)]⟩, []⟩, ⟨9, ⟨(some 25), none, (.pure (.bin .eql .none)), [(.tmp 19), (.tmp 24)]⟩, []⟩]) (.cond (.tmp 25) (.seq (.region [⟨0, ⟨(some 26), none, (.pure .id), [(.tmp 0)]⟩, []⟩, ⟨0, ⟨(some 27), none, (.pure .id), [(.tmp 3)]⟩, []⟩, ⟨0, ⟨(some 28), none, (.pure (.slice 1 true false false)), [(.tmp 26), (.tmp 27)]⟩, []⟩, ⟨0, ⟨(some 4), none, (.pure .id), [(.tmp 28)]⟩, []⟩]) (.seq (.seq (.region [⟨0, ⟨(some 5), none, (.pure .id), [(.const (.int .i64 1))]⟩, []⟩]) (.block 2 (.loop (.seq (.seq (.region [⟨0, ⟨(some 29), none, (.pure .id), [(.tmp 5)]⟩, []⟩, ⟨0, ⟨(some 30), none, (.pure .id), [(.tmp 4)]⟩, []⟩, ⟨0, ⟨(some 31), none, (.pure .len), [(.tmp 30)]⟩, []⟩, ⟨0, ⟨(some 32), none, (.pure (.bin .lss .none)), [(.tmp 29), (.tmp 31)]⟩, []⟩]) (.cond (.tmp 32) .skip (.exit 2))) (.seq (.block 3 (.seq (.region [⟨0, ⟨(some 35), none, (.pure .id), [(.tmp 4)]⟩, []⟩, ⟨1, ⟨(some 36), none, (.pure .id), [(.tmp 5)]⟩, []⟩, ⟨2, ⟨(some 37), none, (.pure (.iaddr 1)), [(.tmp 35), (.tmp 36)]⟩, []⟩, ⟨3, ⟨(some 38), none, (.load (.load 1 false)), [(.tmp 37)]⟩, []⟩, ⟨4, ⟨(some 39), none, (.pure .id), [(.tmp 4)]⟩, []⟩, ⟨5, ⟨(some 40), none, (.pure .id), [(.tmp 5)]⟩, []⟩, ⟨6, ⟨(some 41), none, (.pure (.bin .sub .none)), [(.tmp 40), (.const (.int .i64 1))]⟩, []⟩, ⟨7, ⟨(some 42), none, (.pure (.iaddr 1)), [(.tmp 39), (.tmp 41)]⟩, []⟩, ⟨8, ⟨(some 43), none, (.load (.load 1 false)), [(.tmp 42)]⟩, []⟩, ⟨9, ⟨(some 44), none, (.pure (.bin .neq .none)), [(.tmp 38), (.tmp 43)]⟩, []⟩]) (.cond (.tmp 44) (.seq (.region [⟨0, ⟨(some 45), none, (.pure .id), [(.tmp 0)]⟩, []⟩, ⟨0, ⟨(some 46), none, (.pure .id), [(.tmp 3)]⟩, []⟩, ⟨0, ⟨(some 47), none, (.pure .id), [(.tmp 4)]⟩, []⟩, ⟨0, ⟨(some 48), none, (.pure .id), [(.tmp 5)]⟩, []⟩, ⟨0, ⟨(some 49), none, (.pure (.iaddr 1)), [(.tmp 47), (.tmp 48)]⟩, []⟩, ⟨0, ⟨(some 50), none, (.load (.load 1 false)), [(.tmp 49)]⟩, []⟩, ⟨0, ⟨(some 51), none, (.pure (.iaddr 1)), [(.tmp 45), (.tmp 46)]⟩, []⟩, ⟨0, ⟨none, none, (.imp (.store 1)), [(.tmp 51), (.tmp 50)]⟩, []⟩]) (.region [⟨0, ⟨(some 52), none, (.pure .id), [(.tmp 3)]⟩, []⟩, ⟨0, ⟨(some 53), none, (.pure (.bin .add .none)), [(.tmp 52), (.const (.int .i64 1))]⟩, []⟩, ⟨0, ⟨(some 3), none, (.pure .id), [(.tmp 53)]⟩, []⟩])) .skip))) (.region [⟨0, ⟨(some 33), none, (.pure .id), [(.tmp 5)]⟩, []⟩, ⟨0, ⟨(some 34), none, (.pure (.bin .add .none)), [(.tmp 33), (.const (.int .i64 1))]⟩, []⟩, ⟨0, ⟨(some 5), none, (.pure .id), [(.tmp 34)]⟩, []⟩])))))) (.seq (.region [⟨0, ⟨(some 54), none, (.pure .id), [(.tmp 0)]⟩, []⟩, ⟨0, ⟨(some 55), none, (.pure .id), [(.tmp 3)]⟩, []⟩, ⟨0, ⟨(some 56), none, (.pure (.slice 1 true false false)), [(.tmp 54), (.tmp 55)]⟩, []⟩, ⟨0, ⟨none, none, (.imp (.clear 1 [(.int .i64 0)])), [(.tmp 56)]⟩, []⟩]) (.seq (.region [⟨0, ⟨(some 57), none, (.pure .id), [(.tmp 0)]⟩, []⟩, ⟨0, ⟨(some 58), none, (.pure .id), [(.tmp 3)]⟩, []⟩, ⟨0, ⟨(some 59), none, (.pure (.slice 1 false true false)), [(.tmp 57), (.tmp 58)]⟩, []⟩, ⟨0, ⟨(some 2), none, (.pure .id), [(.tmp 59)]⟩, []⟩]) .ret)))) .skip))) (.region [⟨0, ⟨(some 14), none, (.pure .id), [(.tmp 3)]⟩, []⟩, ⟨0, ⟨(some 15), none, (.pure (.bin .add .none)), [(.tmp 14), (.const (.int .i64 1))]⟩, []⟩, ⟨0, ⟨(some 3), none, (.pure .id), [(.tmp 15)]⟩, []⟩])))))) (.seq (.region [⟨0, ⟨(some 60), none, (.pure .id), [(.tmp 0)]⟩, []⟩, ⟨0, ⟨(some 2), none, (.pure .id), [(.tmp 60)]⟩, []⟩]) .ret))))⟩
theorem c_slices_Compact_int_int : compF Tryz.prog Tryz.f104 = some G_slices_Compact_int_int := by kernel_rfl
theorem gc_slices_Compact_int_int {args : List DV} {σ : GS} {Post : DV → GS → Prop} (h : @exB Tryz.prog ⟨G_slices_Compact_int_int.body⟩ (genv0 args G_slices_Compact_int_int.ntmps) σ ⟨@gretB G_slices_Compact_int_int.results ⟨Post⟩⟩) : GCall Tryz.prog F_slices_Compact_int_int args σ Post := gcall_ofB seatfollows Tryz.func104 (by kernel_rfl) c_slices_Compact_int_int h
noncomputable abbrev G_aig_Join : GFun := ⟨64, [(.cell 8 2 true), (.tmp 9), (.tmp 10), (.tmp 11)], (.seq (.region [⟨0, ⟨(some 4), none, (.new .box), [(.tmp 0)]⟩, []⟩, ⟨0, ⟨(some 6), none, (.new .box), [(.tmp 2)]⟩, []⟩, ⟨0, ⟨(some 8), none, (.new (.alloc [.nils, .nils])), []⟩, []⟩, ⟨0, ⟨(some 9), none, (.pure .id), [(.const .nils)]⟩, []⟩, ⟨0, ⟨(some 10), none, (.pure .id), [(.const .nils)]⟩, []⟩, ⟨0, ⟨(some 11), none, (.pure .id), [(.const (.int .i64 0))]⟩, []⟩]) (.seq (.seq (.region [⟨0, ⟨(some 14), none, (.load (.load 2 true)), [(.tmp 4)]⟩, []⟩, ⟨0, ⟨(some 15), none, (.pure .id), [(.tmp 1)]⟩, []⟩, ⟨0, ⟨(some 16), none, (.call F_aig_all), [(.tmp 14), (.tmp 15)]⟩, []⟩, ⟨0, ⟨(some 17), none, (.pure (.un .not)), [(.tmp 16)]⟩, []⟩, ⟨0, ⟨(some 18), none, (.pure .id), [(.tmp 17)]⟩, []⟩, ⟨0, ⟨(some 19), (some (18, false)), (.load (.load 2 true)), [(.tmp 6)]⟩, []⟩, ⟨0, ⟨(some 20), (some (18, false)), (.pure .id), [(.tmp 3)]⟩, []⟩, ⟨0, ⟨(some 21), (some (18, false)), (.call F_aig_all), [(.tmp 19), (.tmp 20)]⟩, []⟩, ⟨0, ⟨(some 22), (some (18, false)), (.pure (.un .not)), [(.tmp 21)]⟩, []⟩, ⟨0, ⟨(some 23), none, (.pure .pick), [(.tmp 18), (.const (.bool true)), (.tmp 22)]⟩, []⟩]) (.cond (.tmp 23) (.seq (.region [⟨0, ⟨(some 24), none, (.pure (.build [.nils, .nils] [])), []⟩, []⟩, ⟨0, ⟨none, none, (.imp (.store 2)), [(.tmp 8), (.tmp 24)]⟩, []⟩, ⟨0, ⟨(some 9), none, (.pure .id), [(.const .nils)]⟩, []⟩, ⟨0, ⟨(some 10), none, (.pure .id), [(.const .nils)]⟩, []⟩, ⟨0, ⟨(some 11), none, (.pure .id), [(.const (.int .i64 2))]⟩, []⟩]) .ret) .skip)) (.seq (.region [⟨0, ⟨(some 25), none, (.pure (.faddr 0)), [(.tmp 4)]⟩, []⟩, ⟨0, ⟨(some 26), none, (.load (.load 1 false)), [(.tmp 25)]⟩, []⟩, ⟨0, ⟨(some 27), none, (.pure (.faddr 0)), [(.tmp 6)]⟩, []⟩, ⟨0, ⟨(some 28), none, (.load (.load 1 false)), [(.tmp 27)]⟩, []⟩, ⟨0, ⟨(some 29), none, (.new (.bslice 1 [.nils] 2 [(0, 1), (1, 1)])), [(.tmp 26), (.tmp 28)]⟩, []⟩, ⟨0, ⟨(some 30), none, (.call F_slices_Concat_int_int), [(.tmp 29)]⟩, []⟩, ⟨0, ⟨(some 12), none, (.pure .id), [(.tmp 30)]⟩, []⟩]) (.seq (.region [⟨0, ⟨(some 31), none, (.pure .id), [(.tmp 12)]⟩, []⟩, ⟨0, ⟨(some 32), none, (.call F_slices_Sort_int_int), [(.tmp 31)]⟩, []⟩]) (.seq (.region [⟨0, ⟨(some 33), none, (.pure .id), [(.tmp 12)]⟩, []⟩, ⟨0, ⟨(some 34), none, (.call F_slices_Compact_int_int), [(.tmp 33)]⟩, []⟩, ⟨0, ⟨(some 35), none, (.pure (.build [.nils, .nils] [(0, 1)])), [(.tmp 34)]⟩, []⟩, ⟨0, ⟨(some 36), none, (.call F_aig_maker), [(.tmp 35)]⟩, []⟩, ⟨0, ⟨(some 13), none, (.pure .id), [(.tmp 36)]⟩, []⟩]) (.seq (.region [⟨0, ⟨(some 37), none, (.pure .id), [(.tmp 1)]⟩, []⟩, ⟨0, ⟨(some 38), none, (.pure .id), [(.tmp 13)]⟩, []⟩, ⟨0, ⟨(some 39), none, (.load (.load 2 true)), [(.tmp 4)]⟩, []⟩, ⟨0, ⟨(some 40), none, (.pure .id), [(.tmp 1)]⟩, []⟩, ⟨0, ⟨(some 41), none, (.pure .id), [(.tmp 13)]⟩, []⟩, ⟨0, ⟨(some 42), none, (.pure (.mkfunc F_aig_Maker_own 1)), [(.tmp 41)]⟩, []⟩, ⟨0, ⟨(some 43), none, (.call F_aig_Maker_copied), [(.tmp 38), (.tmp 39), (.tmp 40), (.tmp 42)]⟩, []⟩, ⟨0, ⟨(some 44), none, (.call F_aig_each), [(.tmp 37), (.tmp 43)]⟩, []⟩, ⟨0, ⟨(some 9), none, (.pure .id), [(.tmp 44)]⟩, []⟩]) (.seq (.region [⟨0, ⟨(some 45), none, (.pure .id), [(.tmp 3)]⟩, []⟩, ⟨0, ⟨(some 46), none, (.pure .id), [(.tmp 13)]⟩, []⟩, ⟨0, ⟨(some 47), none, (.load (.load 2 true)), [(.tmp 6)]⟩, []⟩, ⟨0, ⟨(some 48), none, (.pure .id), [(.tmp 3)]⟩, []⟩, ⟨0, ⟨(some 49), none, (.pure .id), [(.tmp 13)]⟩, []⟩, ⟨0, ⟨(some 50), none, (.pure (.mkfunc F_aig_Maker_own 1)), [(.tmp 49)]⟩, []⟩, ⟨0, ⟨(some 51), none, (.call F_aig_Maker_copied), [(.tmp 46), (.tmp 47), (.tmp 48), (.tmp 50)]⟩, []⟩, ⟨0, ⟨(some 52), none, (.call F_aig_each), [(.tmp 45), (.tmp 51)]⟩, []⟩, ⟨0, ⟨(some 10), none, (.pure .id), [(.tmp 52)]⟩, []⟩]) (.seq (.seq (.region [⟨0, ⟨(some 53), none, (.pure .id), [(.tmp 13)]⟩, []⟩, ⟨0, ⟨(some 54), none, (.pure .nilck), [(.tmp 53)]⟩, []⟩, ⟨0, ⟨(some 55), none, (.pure (.faddr 5)), [(.tmp 54)]⟩, []⟩, ⟨0, ⟨(some 56), none, (.load (.load 1 false)), [(.tmp 55)]⟩, []⟩]) (.cond (.tmp 56) (.seq (.region [⟨0, ⟨(some 57), none, (.pure (.build [.nils, .nils] [])), []⟩, []⟩, ⟨0, ⟨none, none, (.imp (.store 2)), [(.tmp 8), (.tmp 57)]⟩, []⟩, ⟨0, ⟨(some 9), none, (.pure .id), [(.const .nils)]⟩, []⟩, ⟨0, ⟨(some 10), none, (.pure .id), [(.const .nils)]⟩, []⟩, ⟨0, ⟨(some 11), none, (.pure .id), [(.const (.int .i64 3))]⟩, []⟩]) .ret) .skip)) (.seq (.region [⟨0, ⟨(some 58), none, (.pure .id), [(.tmp 13)]⟩, []⟩, ⟨0, ⟨(some 59), none, (.pure .nilck), [(.tmp 58)]⟩, []⟩, ⟨0, ⟨(some 60), none, (.pure (.faddr 1)), [(.tmp 59)]⟩, []⟩, ⟨0, ⟨(some 61), none, (.load (.load 2 true)), [(.tmp 60)]⟩, []⟩, ⟨0, ⟨(some 62), none, (.pure .id), [(.tmp 9)]⟩, []⟩, ⟨0, ⟨(some 63), none, (.pure .id), [(.tmp 10)]⟩, []⟩, ⟨0, ⟨none, none, (.imp (.store 2)), [(.tmp 8), (.tmp 61)]⟩, []⟩, ⟨0, ⟨(some 9), none, (.pure .id), [(.tmp 62)]⟩, []⟩, ⟨0, ⟨(some 10), none, (.pure .id), [(.tmp 63)]⟩, []⟩, ⟨0, ⟨(some 11), none, (.pure .id), [(.const (.int .i64 0))]⟩, []⟩]) .ret)))))))))⟩
theorem c_aig_Join : compF Tryz.prog Tryz.f37 = some G_aig_Join := by kernel_rfl
theorem gc_aig_Join {args : List DV} {σ : GS} {Post : DV → GS → Prop} (h : @exB Tryz.prog ⟨G_aig_Join.body⟩ (genv0 args G_aig_Join.ntmps) σ ⟨@gretB G_aig_Join.results ⟨Post⟩⟩) : GCall Tryz.prog F_aig_Join args σ Post := gcall_ofB seatfollows Tryz.func37 (by kernel_rfl) c_aig_Join h
end Go.Gh
namespace Go.Gh
open Go.Proofs
abbrev F_skolemref06_Reduced : Nat := 25
noncomputable abbrev G_skolemref06_Reduced : GFun := ⟨49, [(.tmp 2)], (.seq (.region [⟨0, ⟨(some 1), none, (.new .box), [(.tmp 0)]⟩, []⟩, ⟨0, ⟨(some 2), none, (.pure .id), [(.const (.bool false))]⟩, []⟩]) (.seq (.seq (.region [⟨0, ⟨(some 6), none, (.load (.load 2 true)), [(.tmp 1)]⟩, []⟩, ⟨0, ⟨(some 7), none, (.call F_skolemref06_May), [(.tmp 6)]⟩, []⟩, ⟨0, ⟨(some 8), none, (.pure (.un .not)), [(.tmp 7)]⟩, []⟩]) (.cond (.tmp 8) (.seq (.region [⟨0, ⟨(some 2), none, (.pure .id), [(.const (.bool false))]⟩, []⟩]) .ret) .skip)) (.seq (.seq (.region [⟨0, ⟨(some 3), none, (.pure .id), [(.const (.int .i64 0))]⟩, []⟩]) (.block 0 (.loop (.seq (.seq (.region [⟨0, ⟨(some 9), none, (.pure .id), [(.tmp 3)]⟩, []⟩, ⟨0, ⟨(some 10), none, (.pure (.faddr 1)), [(.tmp 1)]⟩, []⟩, ⟨0, ⟨(some 11), none, (.load (.load 1 false)), [(.tmp 10)]⟩, []⟩, ⟨0, ⟨(some 12), none, (.pure .len), [(.tmp 11)]⟩, []⟩, ⟨0, ⟨(some 13), none, (.pure (.bin .lss .none)), [(.tmp 9), (.tmp 12)]⟩, []⟩]) (.cond (.tmp 13) .skip (.exit 0))) (.seq (.block 1 (.seq (.region [⟨0, ⟨(some 16), none, (.pure (.faddr 1)), [(.tmp 1)]⟩, []⟩, ⟨1, ⟨(some 17), none, (.load (.load 1 false)), [(.tmp 16)]⟩, []⟩, ⟨2, ⟨(some 18), none, (.pure .id), [(.tmp 3)]⟩, []⟩, ⟨3, ⟨(some 19), none, (.pure (.iaddr 2)), [(.tmp 17), (.tmp 18)]⟩, []⟩, ⟨4, ⟨(some 20), none, (.pure (.iarr 2 1)), [(.tmp 19), (.const (.int .i64 0))]⟩, []⟩, ⟨5, ⟨(some 21), none, (.load (.load 1 false)), [(.tmp 20)]⟩, []⟩, ⟨6, ⟨(some 22), none, (.pure (.faddr 1)), [(.tmp 1)]⟩, []⟩, ⟨7, ⟨(some 23), none, (.load (.load 1 false)), [(.tmp 22)]⟩, []⟩, ⟨8, ⟨(some 24), none, (.pure .id), [(.tmp 3)]⟩, []⟩, ⟨9, ⟨(some 25), none, (.pure (.iaddr 2)), [(.tmp 23), (.tmp 24)]⟩, []⟩, ⟨10, ⟨(some 26), none, (.pure (.iarr 2 1)), [(.tmp 25), (.const (.int .i64 1))]⟩, []⟩, ⟨11, ⟨(some 27), none, (.load (.load 1 false)), [(.tmp 26)]⟩, []⟩, ⟨12, ⟨(some 4), none, (.pure .id), [(.tmp 21)]⟩, []⟩, ⟨13, ⟨(some 5), none, (.pure .id), [(.tmp 27)]⟩, []⟩]) (.seq (.region [⟨0, ⟨(some 28), none, (.pure .id), [(.tmp 4)]⟩, []⟩, ⟨0, ⟨(some 29), none, (.pure (.bin .lss .none)), [(.tmp 28), (.const (.int .i64 2))]⟩, []⟩, ⟨0, ⟨(some 30), none, (.pure .id), [(.tmp 29)]⟩, []⟩, ⟨0, ⟨(some 31), (some (30, false)), (.pure .id), [(.tmp 4)]⟩, []⟩, ⟨0, ⟨(some 32), (some (30, false)), (.pure .id), [(.tmp 5)]⟩, []⟩, ⟨0, ⟨(some 33), (some (30, false)), (.pure (.bin .geq .none)), [(.tmp 31), (.tmp 32)]⟩, []⟩, ⟨0, ⟨(some 34), none, (.pure .pick), [(.tmp 30), (.const (.bool true)), (.tmp 33)]⟩, []⟩, ⟨0, ⟨(some 35), none, (.pure .id), [(.tmp 34)]⟩, []⟩, ⟨0, ⟨(some 36), (some (35, false)), (.pure .id), [(.tmp 4)]⟩, []⟩, ⟨0, ⟨(some 37), (some (35, false)), (.call F_skolemref06_Not), [(.tmp 36)]⟩, []⟩, ⟨0, ⟨(some 38), (some (35, false)), (.pure .id), [(.tmp 5)]⟩, []⟩, ⟨0, ⟨(some 39), (some (35, false)), (.pure (.bin .eql .none)), [(.tmp 37), (.tmp 38)]⟩, []⟩, ⟨0, ⟨(some 40), none, (.pure .pick), [(.tmp 35), (.const (.bool true)), (.tmp 39)]⟩, []⟩, ⟨0, ⟨(some 41), none, (.pure .id), [(.tmp 40)]⟩, []⟩, ⟨0, ⟨(some 42), (some (41, false)), (.load (.load 2 true)), [(.tmp 1)]⟩, []⟩, ⟨0, ⟨(some 43), (some (41, false)), (.pure .id), [(.tmp 4)]⟩, []⟩, ⟨0, ⟨(some 44), (some (41, false)), (.pure .id), [(.tmp 5)]⟩, []⟩, ⟨0, ⟨(some 45), (some (41, false)), (.call F_skolemref06_find), [(.tmp 42), (.tmp 43), (.tmp 44)]⟩, []⟩, ⟨0, ⟨(some 46), (some (41, false)), (.pure .id), [(.tmp 3)]⟩, []⟩, ⟨0, ⟨(some 47), (some (41, false)), (.pure (.bin .neq .none)), [(.tmp 45), (.tmp 46)]⟩, []⟩, ⟨0, ⟨(some 48), none, (.pure .pick), [(.tmp 41), (.const (.bool true)), (.tmp 47)]⟩, []⟩]) (.cond (.tmp 48) (.seq (.region [⟨0, ⟨(some 2), none, (.pure .id), [(.const (.bool false))]⟩, []⟩]) .ret) .skip)))) (.region [⟨0, ⟨(some 14), none, (.pure .id), [(.tmp 3)]⟩, []⟩, ⟨0, ⟨(some 15), none, (.pure (.bin .add .none)), [(.tmp 14), (.const (.int .i64 1))]⟩, []⟩, ⟨0, ⟨(some 3), none, (.pure .id), [(.tmp 15)]⟩, []⟩])))))) (.seq (.region [⟨0, ⟨(some 2), none, (.pure .id), [(.const (.bool true))]⟩, []⟩]) .ret))))⟩
theorem c_skolemref06_Reduced : compF Tryz.prog Tryz.f25 = some G_skolemref06_Reduced := by kernel_rfl
theorem gc_skolemref06_Reduced {args : List DV} {σ : GS} {Post : DV → GS → Prop} (h : @exB Tryz.prog ⟨G_skolemref06_Reduced.body⟩ (genv0 args G_skolemref06_Reduced.ntmps) σ ⟨@gretB G_skolemref06_Reduced.results ⟨Post⟩⟩) : GCall Tryz.prog F_skolemref06_Reduced args σ Post := gcall_ofB seatfollows Tryz.func25 (by kernel_rfl) c_skolemref06_Reduced h
end Go.Gh
namespace Go.Gh
open Go.Proofs
abbrev F_aig_Eval : Nat := 39
abbrev F_aig_run : Nat := 106
abbrev F_aig_Eval_1 : Nat := 107
abbrev F_slices_BinarySearchFunc_int_int_int : Nat := 108
abbrev F_aig_Eval_1_1 : Nat := 109
abbrev F_slices_Contains_int_int : Nat := 110
abbrev F_aig_value : Nat := 111
abbrev F_slices_Index_int_int : Nat := 164
noncomputable abbrev G_aig_Eval : GFun := ⟨29, [(.tmp 6), (.tmp 7)], (.seq (.region [⟨0, ⟨(some 3), none, (.new .box), [(.tmp 0)]⟩, []⟩, ⟨0, ⟨(some 5), none, (.new .box), [(.tmp 2)]⟩, []⟩, ⟨0, ⟨(some 6), none, (.pure .id), [(.const (.bool false))]⟩, []⟩, ⟨0, ⟨(some 7), none, (.pure .id), [(.const (.int .i64 0))]⟩, []⟩]) (.seq (.seq (.region [⟨0, ⟨(some 9), none, (.load (.load 2 true)), [(.tmp 3)]⟩, []⟩, ⟨0, ⟨(some 10), none, (.pure .id), [(.tmp 1)]⟩, []⟩, ⟨0, ⟨(some 11), none, (.new (.bslice 1 [(.int .i64 0)] 1 [(0, 1)])), [(.tmp 10)]⟩, []⟩, ⟨0, ⟨(some 12), none, (.call F_aig_all), [(.tmp 9), (.tmp 11)]⟩, []⟩, ⟨0, ⟨(some 13), none, (.pure (.un .not)), [(.tmp 12)]⟩, []⟩, ⟨0, ⟨(some 14), none, (.pure .id), [(.tmp 13)]⟩, []⟩, ⟨0, ⟨(some 15), (some (14, false)), (.load (.load 1 false)), [(.tmp 5)]⟩, []⟩, ⟨0, ⟨(some 16), (some (14, false)), (.call F_aig_normal), [(.tmp 15)]⟩, []⟩, ⟨0, ⟨(some 17), (some (14, false)), (.pure (.un .not)), [(.tmp 16)]⟩, []⟩, ⟨0, ⟨(some 18), none, (.pure .pick), [(.tmp 14), (.const (.bool true)), (.tmp 17)]⟩, []⟩]) (.cond (.tmp 18) (.seq (.region [⟨0, ⟨(some 6), none, (.pure .id), [(.const (.bool false))]⟩, []⟩, ⟨0, ⟨(some 7), none, (.pure .id), [(.const (.int .i64 2))]⟩, []⟩]) .ret) .skip)) (.seq (.region [⟨0, ⟨(some 19), none, (.load (.load 2 true)), [(.tmp 3)]⟩, []⟩, ⟨0, ⟨(some 20), none, (.call F_aig_nodes), [(.tmp 19)]⟩, []⟩, ⟨0, ⟨(some 21), none, (.new (.mslice 1 1 [(.bool false)])), [(.tmp 20), (.tmp 20)]⟩, []⟩, ⟨0, ⟨(some 8), none, (.pure .id), [(.tmp 21)]⟩, []⟩]) (.seq (.region [⟨0, ⟨(some 22), none, (.load (.load 2 true)), [(.tmp 3)]⟩, []⟩, ⟨0, ⟨(some 23), none, (.pure .id), [(.tmp 8)]⟩, []⟩, ⟨0, ⟨(some 24), none, (.pure (.mkfunc F_aig_Eval_1 0)), [(.tmp 5)]⟩, []⟩, ⟨0, ⟨(some 25), none, (.call F_aig_run), [(.tmp 22), (.tmp 23), (.tmp 24)]⟩, []⟩]) (.seq (.region [⟨0, ⟨(some 26), none, (.pure .id), [(.tmp 8)]⟩, []⟩, ⟨0, ⟨(some 27), none, (.pure .id), [(.tmp 1)]⟩, []⟩, ⟨0, ⟨(some 28), none, (.call F_aig_value), [(.tmp 26), (.tmp 27)]⟩, []⟩, ⟨0, ⟨(some 6), none, (.pure .id), [(.tmp 28)]⟩, []⟩, ⟨0, ⟨(some 7), none, (.pure .id), [(.const (.int .i64 0))]⟩, []⟩]) .ret)))))⟩
theorem c_aig_Eval : compF Tryz.prog Tryz.f39 = some G_aig_Eval := by kernel_rfl
theorem gc_aig_Eval {args : List DV} {σ : GS} {Post : DV → GS → Prop} (h : @exB Tryz.prog ⟨G_aig_Eval.body⟩ (genv0 args G_aig_Eval.ntmps) σ ⟨@gretB G_aig_Eval.results ⟨Post⟩⟩) : GCall Tryz.prog F_aig_Eval args σ Post := gcall_ofB seatfollows Tryz.func39 (by kernel_rfl) c_aig_Eval h
noncomputable abbrev G_aig_Eval_1 : GFun := ⟨18, [(.tmp 3)], (.seq (.region [⟨0, ⟨(some 3), none, (.pure .id), [(.const (.bool false))]⟩, []⟩]) (.seq (.region [⟨0, ⟨(some 7), none, (.load (.load 1 false)), [(.tmp 1)]⟩, []⟩, ⟨0, ⟨(some 8), none, (.pure .id), [(.tmp 0)]⟩, []⟩, ⟨0, ⟨(some 9), none, (.call F_slices_BinarySearchFunc_int_int_int), [(.tmp 7), (.tmp 8), (.const (.func F_aig_Eval_1_1 [] []))]⟩, []⟩, ⟨0, ⟨(some 6), none, (.pure .id), [(.tmp 9)]⟩, []⟩, ⟨0, ⟨(some 10), none, (.pure (.extract 0)), [(.tmp 6)]⟩, []⟩, ⟨0, ⟨(some 11), none, (.pure (.extract 1)), [(.tmp 6)]⟩, []⟩, ⟨0, ⟨(some 4), none, (.pure .id), [(.tmp 10)]⟩, []⟩, ⟨0, ⟨(some 5), none, (.pure .id), [(.tmp 11)]⟩, []⟩]) (.seq (.region [⟨0, ⟨(some 12), none, (.pure .id), [(.tmp 5)]⟩, []⟩, ⟨0, ⟨(some 13), none, (.pure .id), [(.tmp 12)]⟩, []⟩, ⟨0, ⟨(some 14), (some (13, true)), (.load (.load 1 false)), [(.tmp 1)]⟩, []⟩, ⟨0, ⟨(some 15), (some (13, true)), (.pure .id), [(.tmp 0)]⟩, []⟩, ⟨0, ⟨(some 16), (some (13, true)), (.call F_slices_Contains_int_int), [(.tmp 14), (.tmp 15)]⟩, []⟩, ⟨0, ⟨(some 17), none, (.pure .pick), [(.tmp 13), (.tmp 16), (.const (.bool false))]⟩, []⟩, ⟨0, ⟨(some 3), none, (.pure .id), [(.tmp 17)]⟩, []⟩]) .ret)))⟩
theorem c_aig_Eval_1 : compF Tryz.prog Tryz.f107 = some G_aig_Eval_1 := by kernel_rfl
theorem gc_aig_Eval_1 {args : List DV} {σ : GS} {Post : DV → GS → Prop} (h : @exB Tryz.prog ⟨G_aig_Eval_1.body⟩ (genv0 args G_aig_Eval_1.ntmps) σ ⟨@gretB G_aig_Eval_1.results ⟨Post⟩⟩) : GCall Tryz.prog F_aig_Eval_1 args σ Post := gcall_ofB seatfollows Tryz.func107 (by kernel_rfl) c_aig_Eval_1 h
noncomputable abbrev G_slices_BinarySearchFunc_int_int_int : GFun := ⟨49, [(.tmp 6), (.tmp 7)], (.seq (.region [⟨0, ⟨(some 6), none, (.pure .id), [(.const (.int .i64 0))]⟩, []⟩, ⟨0, ⟨(some 7), none, (.pure .id), [(.const (.bool false))]⟩, []⟩]) (.seq (.region [⟨0, ⟨(some 12), none, (.pure .id), [(.tmp 0)]⟩, []⟩, ⟨0, ⟨(some 13), none, (.pure .len), [(.tmp 12)]⟩, []⟩, ⟨0, ⟨(some 8), none, (.pure .id), [(.tmp 13)]⟩, []⟩]) (.seq (.region [⟨0, ⟨(some 14), none, (.pure .id), [(.tmp 8)]⟩, []⟩, ⟨0, ⟨(some 9), none, (.pure .id), [(.const (.int .i64 0))]⟩, []⟩, ⟨0, ⟨(some 10), none, (.pure .id), [(.tmp 14)]⟩, []⟩]) (.seq (.block 0 (.loop (.seq (.seq (.region [⟨0, ⟨(some 15), none, (.pure .id), [(.tmp 9)]⟩, []⟩, ⟨0, ⟨(some 16), none, (.pure .id), [(.tmp 10)]⟩, []⟩, ⟨0, ⟨(some 17), none, (.pure (.bin .lss .none)), [(.tmp 15), (.tmp 16)]⟩, []⟩]) (.cond (.tmp 17) .skip (.exit 0))) (.block 1 (.seq (.region [⟨0, ⟨(some 18), none, (.pure .id), [(.tmp 9)]⟩, []⟩, ⟨0, ⟨(some 19), none, (.pure .id), [(.tmp 10)]⟩, []⟩, ⟨0, ⟨(some 20), none, (.pure (.bin .add .none)), [(.tmp 18), (.tmp 19)]⟩, []⟩, ⟨0, ⟨(some 21), none, (.pure (.conv .u64)), [(.tmp 20)]⟩, []⟩, ⟨0, ⟨(some 22), none, (.pure (.bin .shr .none)), [(.tmp 21), (.const (.int .u64 1))]⟩, []⟩, ⟨0, ⟨(some 23), none, (.pure (.conv .i64)), [(.tmp 22)]⟩, []⟩, ⟨0, ⟨(some 11), none, (.pure .id), [(.tmp 23)]⟩, []⟩]) (.seq (.region [⟨0, ⟨(some 24), none, (.pure .id), [(.tmp 2)]⟩, []⟩, ⟨0, ⟨(some 25), none, (.pure .id), [(.tmp 0)]⟩, []⟩, ⟨0, ⟨(some 26), none, (.pure .id), [(.tmp 11)]⟩, []⟩, ⟨0, ⟨(some 27), none, (.pure (.iaddr 1)), [(.tmp 25), (.tmp 26)]⟩, []⟩, ⟨0, ⟨(some 28), none, (.load (.load 1 false)), [(.tmp 27)]⟩, []⟩, ⟨0, ⟨(some 29), none, (.pure .id), [(.tmp 1)]⟩, []⟩, ⟨0, ⟨(some 30), none, .callv, [(.tmp 24), (.tmp 28), (.tmp 29)]⟩, []⟩, ⟨0, ⟨(some 31), none, (.pure (.bin .lss .none)), [(.tmp 30), (.const (.int .i64 0))]⟩, []⟩]) (.cond (.tmp 31) (.region [⟨0, ⟨(some 32), none, (.pure .id), [(.tmp 11)]⟩, []⟩, ⟨0, ⟨(some 33), none, (.pure (.bin .add .none)), [(.tmp 32), (.const (.int .i64 1))]⟩, []⟩, ⟨0, ⟨(some 9), none, (.pure .id), [(.tmp 33)]⟩, []⟩]) (.region [⟨0, ⟨(some 34), none, (.pure .id), [(.tmp 11)]⟩, []⟩, ⟨0, ⟨(some 10), none, (.pure .id), [(.tmp 34)]⟩, []⟩])))))))) (.seq (.region [⟨0, ⟨(some 35), none, (.pure .id), [(.tmp 9)]⟩, []⟩, ⟨0, ⟨(some 36), none, (.pure .id), [(.tmp 9)]⟩, []⟩, ⟨0, ⟨(some 37), none, (.pure .id), [(.tmp 8)]⟩, []⟩, ⟨0, ⟨(some 38), none, (.pure (.bin .lss .none)), [(.tmp 36), (.tmp 37)]⟩, []⟩, ⟨0, ⟨(some 39), none, (.pure .id), [(.tmp 38)]⟩, []⟩, ⟨0, ⟨(some 40), (some (39, true)), (.pure .id), [(.tmp 2)]⟩, []⟩, ⟨0, ⟨(some 41), (some (39, true)), (.pure .id), [(.tmp 0)]⟩, []⟩, ⟨0, ⟨(some 42), (some (39, true)), (.pure .id), [(.tmp 9)]⟩, []⟩, ⟨0, ⟨(some 43), (some (39, true)), (.pure (.iaddr 1)), [(.tmp 41), (.tmp 42)]⟩, []⟩, ⟨0, ⟨(some 44), (some (39, true)), (.load (.load 1 false)), [(.tmp 43)]⟩, []⟩, ⟨0, ⟨(some 45), (some (39, true)), (.pure .id), [(.tmp 1)]⟩, []⟩, ⟨0, ⟨(some 46), (some (39, true)), .callv, [(.tmp 40), (.tmp 44), (.tmp 45)]⟩, []⟩, ⟨0, ⟨(some 47), (some (39, true)), (.pure (.bin .eql .none)), [(.tmp 46), (.const (.int .i64 0))]⟩, []⟩, ⟨0, ⟨(some 48), none, (.pure .pick), [(.tmp 39), (.tmp 47), (.const (.bool false))]⟩, []⟩, ⟨0, ⟨(some 6), none, (.pure .id), [(.tmp 35)]⟩, []⟩, ⟨0, ⟨(some 7), none, (.pure .id), [(.tmp 48)]⟩, []⟩]) .ret)))))⟩
theorem c_slices_BinarySearchFunc_int_int_int : compF Tryz.prog Tryz.f108 = some G_slices_BinarySearchFunc_int_int_int := by kernel_rfl
theorem gc_slices_BinarySearchFunc_int_int_int {args : List DV} {σ : GS} {Post : DV → GS → Prop} (h : @exB Tryz.prog ⟨G_slices_BinarySearchFunc_int_int_int.body⟩ (genv0 args G_slices_BinarySearchFunc_int_int_int.ntmps) σ ⟨@gretB G_slices_BinarySearchFunc_int_int_int.results ⟨Post⟩⟩) : GCall Tryz.prog F_slices_BinarySearchFunc_int_int_int args σ Post := gcall_ofB seatfollows Tryz.func108 (by kernel_rfl) c_slices_BinarySearchFunc_int_int_int h
noncomputable abbrev G_aig_Eval_1_1 : GFun := ⟨11, [(.tmp 4)], (.seq (.region [⟨0, ⟨(some 4), none, (.pure .id), [(.const (.int .i64 0))]⟩, []⟩]) (.seq (.region [⟨0, ⟨(some 5), none, (.pure .id), [(.tmp 0)]⟩, []⟩, ⟨0, ⟨(some 6), none, (.pure .id), [(.tmp 0)]⟩, []⟩, ⟨0, ⟨(some 7), none, (.pure (.un .neg)), [(.tmp 6)]⟩, []⟩, ⟨0, ⟨(some 8), none, (.pure .mx), [(.tmp 5), (.tmp 7)]⟩, []⟩, ⟨0, ⟨(some 9), none, (.pure .id), [(.tmp 1)]⟩, []⟩, ⟨0, ⟨(some 10), none, (.pure (.bin .sub .none)), [(.tmp 8), (.tmp 9)]⟩, []⟩, ⟨0, ⟨(some 4), none, (.pure .id), [(.tmp 10)]⟩, []⟩]) .ret))⟩
theorem c_aig_Eval_1_1 : compF Tryz.prog Tryz.f109 = some G_aig_Eval_1_1 := by kernel_rfl
theorem gc_aig_Eval_1_1 {args : List DV} {σ : GS} {Post : DV → GS → Prop} (h : @exB Tryz.prog ⟨G_aig_Eval_1_1.body⟩ (genv0 args G_aig_Eval_1_1.ntmps) σ ⟨@gretB G_aig_Eval_1_1.results ⟨Post⟩⟩) : GCall Tryz.prog F_aig_Eval_1_1 args σ Post := gcall_ofB seatfollows Tryz.func109 (by kernel_rfl) c_aig_Eval_1_1 h
noncomputable abbrev G_slices_Contains_int_int : GFun := ⟨9, [(.tmp 4)], (.seq (.region [⟨0, ⟨(some 4), none, (.pure .id), [(.const (.bool false))]⟩, []⟩]) (.seq (.region [⟨0, ⟨(some 5), none, (.pure .id), [(.tmp 0)]⟩, []⟩, ⟨0, ⟨(some 6), none, (.pure .id), [(.tmp 1)]⟩, []⟩, ⟨0, ⟨(some 7), none, (.call F_slices_Index_int_int), [(.tmp 5), (.tmp 6)]⟩, []⟩, ⟨0, ⟨(some 8), none, (.pure (.bin .geq .none)), [(.tmp 7), (.const (.int .i64 0))]⟩, []⟩, ⟨0, ⟨(some 4), none, (.pure .id), [(.tmp 8)]⟩, []⟩]) .ret))⟩
theorem c_slices_Contains_int_int : compF Tryz.prog Tryz.f110 = some G_slices_Contains_int_int := by kernel_rfl
theorem gc_slices_Contains_int_int {args : List DV} {σ : GS} {Post : DV → GS → Prop} (h : @exB Tryz.prog ⟨G_slices_Contains_int_int.body⟩ (genv0 args G_slices_Contains_int_int.ntmps) σ ⟨@gretB G_slices_Contains_int_int.results ⟨Post⟩⟩) : GCall Tryz.prog F_slices_Contains_int_int args σ Post := gcall_ofB seatfollows Tryz.func110 (by kernel_rfl) c_slices_Contains_int_int h
noncomputable abbrev G_slices_Index_int_int : GFun := ⟨19, [(.tmp 4)], (.seq (.region [⟨0, ⟨(some 4), none, (.pure .id), [(.const (.int .i64 0))]⟩, []⟩]) (.seq (.seq (.region [⟨0, ⟨(some 6), none, (.pure .id), [(.tmp 0)]⟩, []⟩, ⟨0, ⟨(some 7), none, (.pure .len), [(.tmp 6)]⟩, []⟩, ⟨0, ⟨(some 8), none, (.pure .id), [(.const (.int .i64 0))]⟩, []⟩]) (.block 0 (.loop (.seq (.region [⟨0, ⟨(some 9), none, (.pure (.bin .lss .none)), [(.tmp 8), (.tmp 7)]⟩, []⟩]) (.seq (.cond (.tmp 9) .skip (.exit 0)) (.seq (.block 1 (.seq (.region [⟨0, ⟨(some 10), none, (.pure .id), [(.tmp 8)]⟩, []⟩, ⟨0, ⟨(some 5), none, (.pure .id), [(.tmp 10)]⟩, []⟩]) (.seq (.region [⟨0, ⟨(some 11), none, (.pure .id), [(.tmp 1)]⟩, []⟩, ⟨0, ⟨(some 12), none, (.pure .id), [(.tmp 0)]⟩, []⟩, ⟨0, ⟨(some 13), none, (.pure .id), [(.tmp 5)]⟩, []⟩, ⟨0, ⟨(some 14), none, (.pure (.iaddr 1)), [(.tmp 12), (.tmp 13)]⟩, []⟩, ⟨0, ⟨(some 15), none, (.load (.load 1 false)), [(.tmp 14)]⟩, []⟩, ⟨0, ⟨(some 16), none, (.pure (.bin .eql .none)), [(.tmp 11), (.tmp 15)]⟩, []⟩]) (.cond (.tmp 16) (.seq (.region [⟨0, ⟨(some 17), none, (.pure .id), [(.tmp 5)]⟩, []⟩, ⟨0, ⟨(some 4), none, (.pure .id), [(.tmp 17)]⟩, []⟩]) .ret) .skip)))) (.region [⟨0, ⟨(some 18), none, (.pure (.bin .add .none)), [(.tmp 8), (.const (.int .i64 1))]⟩, []⟩, ⟨0, ⟨(some 8), none, (.pure .id), [(.tmp 18)]⟩, []⟩]))))))) (.seq (.region [⟨0, ⟨(some 4), none, (.pure .id), [(.const (.int .i64 (-1)))]⟩, []⟩]) .ret)))⟩
theorem c_slices_Index_int_int : compF Tryz.prog Tryz.f164 = some G_slices_Index_int_int := by kernel_rfl
theorem gc_slices_Index_int_int {args : List DV} {σ : GS} {Post : DV → GS → Prop} (h : @exB Tryz.prog ⟨G_slices_Index_int_int.body⟩ (genv0 args G_slices_Index_int_int.ntmps) σ ⟨@gretB G_slices_Index_int_int.results ⟨Post⟩⟩) : GCall Tryz.prog F_slices_Index_int_int args σ Post := gcall_ofB seatfollows Tryz.func164 (by kernel_rfl) c_slices_Index_int_int h
noncomputable abbrev G_aig_run : GFun := ⟨55, [], (.seq (.region [⟨0, ⟨(some 3), none, (.new .box), [(.tmp 0)]⟩, []⟩]) (.seq (.seq (.region [⟨0, ⟨(some 11), none, (.pure (.faddr 0)), [(.tmp 3)]⟩, []⟩, ⟨0, ⟨(some 12), none, (.load (.load 1 false)), [(.tmp 11)]⟩, []⟩, ⟨0, ⟨(some 13), none, (.pure .len), [(.tmp 12)]⟩, []⟩, ⟨0, ⟨(some 14), none, (.pure .id), [(.const (.int .i64 0))]⟩, []⟩]) (.block 0 (.loop (.seq (.region [⟨0, ⟨(some 15), none, (.pure (.bin .lss .none)), [(.tmp 14), (.tmp 13)]⟩, []⟩]) (.seq (.cond (.tmp 15) .skip (.exit 0)) (.seq (.block 1 (.seq (.region [⟨0, ⟨(some 16), none, (.pure .id), [(.tmp 14)]⟩, []⟩, ⟨0, ⟨(some 17), none, (.pure (.iaddr 1)), [(.tmp 12), (.tmp 14)]⟩, []⟩, ⟨0, ⟨(some 18), none, (.load (.load 1 false)), [(.tmp 17)]⟩, []⟩, ⟨0, ⟨(some 6), none, (.pure .id), [(.tmp 16)]⟩, []⟩, ⟨0, ⟨(some 7), none, (.pure .id), [(.tmp 18)]⟩, []⟩]) (.region [⟨0, ⟨(some 19), none, (.pure .id), [(.tmp 1)]⟩, []⟩, ⟨0, ⟨(some 20), none, (.pure .id), [(.tmp 6)]⟩, []⟩, ⟨0, ⟨(some 21), none, (.pure (.bin .add .none)), [(.tmp 20), (.const (.int .i64 1))]⟩, []⟩, ⟨0, ⟨(some 22), none, (.pure .id), [(.tmp 2)]⟩, []⟩, ⟨0, ⟨(some 23), none, (.pure .id), [(.tmp 7)]⟩, []⟩, ⟨0, ⟨(some 24), none, .callv, [(.tmp 22), (.tmp 23)]⟩, []⟩, ⟨0, ⟨(some 25), none, (.pure (.iaddr 1)), [(.tmp 19), (.tmp 21)]⟩, []⟩, ⟨0, ⟨none, none, (.imp (.store 1)), [(.tmp 25), (.tmp 24)]⟩, []⟩]))) (.region [⟨0, ⟨(some 26), none, (.pure (.bin .add .none)), [(.tmp 14), (.const (.int .i64 1))]⟩, []⟩, ⟨0, ⟨(some 14), none, (.pure .id), [(.tmp 26)]⟩, []⟩]))))))) (.seq (.region [⟨0, ⟨(some 27), none, (.pure (.faddr 0)), [(.tmp 3)]⟩, []⟩, ⟨0, ⟨(some 28), none, (.load (.load 1 false)), [(.tmp 27)]⟩, []⟩, ⟨0, ⟨(some 29), none, (.pure .len), [(.tmp 28)]⟩, []⟩, ⟨0, ⟨(some 30), none, (.pure (.bin .add .none)), [(.const (.int .i64 1)), (.tmp 29)]⟩, []⟩, ⟨0, ⟨(some 8), none, (.pure .id), [(.tmp 30)]⟩, []⟩]) (.seq (.region [⟨0, ⟨(some 31), none, (.pure (.faddr 1)), [(.tmp 3)]⟩, []⟩, ⟨0, ⟨(some 32), none, (.load (.load 1 false)), [(.tmp 31)]⟩, []⟩, ⟨0, ⟨(some 33), none, (.pure .len), [(.tmp 32)]⟩, []⟩, ⟨0, ⟨(some 34), none, (.pure .id), [(.const (.int .i64 0))]⟩, []⟩]) (.block 2 (.loop (.seq (.region [⟨0, ⟨(some 35), none, (.pure (.bin .lss .none)), [(.tmp 34), (.tmp 33)]⟩, []⟩]) (.seq (.cond (.tmp 35) .skip (.exit 2)) (.seq (.block 3 (.seq (.region [⟨0, ⟨(some 36), none, (.pure .id), [(.tmp 34)]⟩, []⟩, ⟨0, ⟨(some 37), none, (.pure (.iaddr 2)), [(.tmp 32), (.tmp 34)]⟩, []⟩, ⟨0, ⟨(some 38), none, (.load (.load 2 true)), [(.tmp 37)]⟩, []⟩, ⟨0, ⟨(some 10), none, (.new (.alloc [(.int .i64 0), (.int .i64 0)])), []⟩, []⟩, ⟨0, ⟨(some 9), none, (.pure .id), [(.tmp 36)]⟩, []⟩, ⟨0, ⟨none, none, (.imp (.store 2)), [(.tmp 10), (.tmp 38)]⟩, []⟩]) (.region [⟨0, ⟨(some 39), none, (.pure .id), [(.tmp 1)]⟩, []⟩, ⟨0, ⟨(some 40), none, (.pure .id), [(.tmp 8)]⟩, []⟩, ⟨0, ⟨(some 41), none, (.pure .id), [(.tmp 9)]⟩, []⟩, ⟨0, ⟨(some 42), none, (.pure (.bin .add .none)), [(.tmp 40), (.tmp 41)]⟩, []⟩, ⟨0, ⟨(some 43), none, (.pure .id), [(.tmp 1)]⟩, []⟩, ⟨0, ⟨(some 44), none, (.pure (.iarr 2 1)), [(.tmp 10), (.const (.int .i64 0))]⟩, []⟩, ⟨0, ⟨(some 45), none, (.load (.load 1 false)), [(.tmp 44)]⟩, []⟩, ⟨0, ⟨(some 46), none, (.call F_aig_value), [(.tmp 43), (.tmp 45)]⟩, []⟩, ⟨0, ⟨(some 47), none, (.pure .id), [(.tmp 46)]⟩, []⟩, ⟨0, ⟨(some 48), (some (47, true)), (.pure .id), [(.tmp 1)]⟩, []⟩, ⟨0, ⟨(some 49), (some (47, true)), (.pure (.iarr 2 1)), [(.tmp 10), (.const (.int .i64 1))]⟩, []⟩, ⟨0, ⟨(some 50), (some (47, true)), (.load (.load 1 false)), [(.tmp 49)]⟩, []⟩, ⟨0, ⟨(some 51), (some (47, true)), (.call F_aig_value), [(.tmp 48), (.tmp 50)]⟩, []⟩, ⟨0, ⟨(some 52), none, (.pure .pick), [(.tmp 47), (.tmp 51), (.const (.bool false))]⟩, []⟩, ⟨0, ⟨(some 53), none, (.pure (.iaddr 1)), [(.tmp 39), (.tmp 42)]⟩, []⟩, ⟨0, ⟨none, none, (.imp (.store 1)), [(.tmp 53), (.tmp 52)]⟩, []⟩]))) (.region [⟨0, ⟨(some 54), none, (.pure (.bin .add .none)), [(.tmp 34), (.const (.int .i64 1))]⟩, []⟩, ⟨0, ⟨(some 34), none, (.pure .id), [(.tmp 54)]⟩, []⟩]))))))))))⟩
theorem c_aig_run : compF Tryz.prog Tryz.f106 = some G_aig_run := by kernel_rfl
theorem gc_aig_run {args : List DV} {σ : GS} {Post : DV → GS → Prop} (h : @exB Tryz.prog ⟨G_aig_run.body⟩ (genv0 args G_aig_run.ntmps) σ ⟨@gretB G_aig_run.results ⟨Post⟩⟩) : GCall Tryz.prog F_aig_run args σ Post := gcall_ofB seatfollows Tryz.func106 (by kernel_rfl) c_aig_run h
noncomputable abbrev G_aig_value : GFun := ⟨14, [(.tmp 4)], (.seq (.region [⟨0, ⟨(some 4), none, (.pure .id), [(.const (.bool false))]⟩, []⟩]) (.seq (.region [⟨0, ⟨(some 5), none, (.pure .id), [(.tmp 0)]⟩, []⟩, ⟨0, ⟨(some 6), none, (.pure .id), [(.tmp 1)]⟩, []⟩, ⟨0, ⟨(some 7), none, (.pure (.bin .shr .none)), [(.tmp 6), (.const (.int .u64 1))]⟩, []⟩, ⟨0, ⟨(some 8), none, (.pure (.iaddr 1)), [(.tmp 5), (.tmp 7)]⟩, []⟩, ⟨0, ⟨(some 9), none, (.load (.load 1 false)), [(.tmp 8)]⟩, []⟩, ⟨0, ⟨(some 10), none, (.pure .id), [(.tmp 1)]⟩, []⟩, ⟨0, ⟨(some 11), none, (.pure (.bin .and .none)), [(.tmp 10), (.const (.int .i64 1))]⟩, []⟩, ⟨0, ⟨(some 12), none, (.pure (.bin .eql .none)), [(.tmp 11), (.const (.int .i64 1))]⟩, []⟩, ⟨0, ⟨(some 13), none, (.pure (.bin .neq .bool)), [(.tmp 9), (.tmp 12)]⟩, []⟩, ⟨0, ⟨(some 4), none, (.pure .id), [(.tmp 13)]⟩, []⟩]) .ret))⟩
theorem c_aig_value : compF Tryz.prog Tryz.f111 = some G_aig_value := by kernel_rfl
theorem gc_aig_value {args : List DV} {σ : GS} {Post : DV → GS → Prop} (h : @exB Tryz.prog ⟨G_aig_value.body⟩ (genv0 args G_aig_value.ntmps) σ ⟨@gretB G_aig_value.results ⟨Post⟩⟩) : GCall Tryz.prog F_aig_value args σ Post := gcall_ofB seatfollows Tryz.func111 (by kernel_rfl) c_aig_value h
end Go.Gh
namespace Go.Gh
open Go.Proofs
abbrev F_skolemlaw06_AigMeans : Nat := 9
abbrev F_skolemlaw06_fit : Nat := 49
abbrev F_skolemlaw06_equal : Nat := 51
abbrev F_skolemlaw06_merged : Nat := 52
abbrev F_skolemlaw06_has : Nat := 54
noncomputable abbrev G_skolemlaw06_AigMeans : GFun := ⟨340, [(.tmp 12)], (.seq (.region [⟨0, ⟨(some 6), none, (.new .box), [(.tmp 0)]⟩, []⟩, ⟨0, ⟨(some 7), none, (.new .box), [(.tmp 1)]⟩, []⟩, ⟨0, ⟨(some 12), none, (.pure .id), [(.const (.bool false))]⟩, []⟩]) (.seq (.seq (.region [⟨0, ⟨(some 37), none, (.load (.load 2 true)), [(.tmp 6)]⟩, []⟩, ⟨0, ⟨(some 38), none, (.load (.load 2 true)), [(.tmp 7)]⟩, []⟩, ⟨0, ⟨(some 39), none, (.new (.bslice 2 [.nils, .nils] 2 [(0, 2), (2, 2)])), [(.tmp 37), (.tmp 38)]⟩, []⟩, ⟨0, ⟨(some 40), none, (.call F_skolemlaw06_great), [(.tmp 39)]⟩, []⟩, ⟨0, ⟨(some 41), none, (.pure .id), [(.tmp 40)]⟩, []⟩, ⟨0, ⟨(some 42), (some (41, false)), (.pure .id), [(.tmp 2)]⟩, []⟩, ⟨0, ⟨(some 43), (some (41, false)), (.pure .len), [(.tmp 42)]⟩, []⟩, ⟨0, ⟨(some 44), (some (41, false)), (.pure (.bin .gtr .none)), [(.tmp 43), (.const (.int .i64 50))]⟩, []⟩, ⟨0, ⟨(some 45), none, (.pure .pick), [(.tmp 41), (.const (.bool true)), (.tmp 44)]⟩, []⟩, ⟨0, ⟨(some 46), none, (.pure .id), [(.tmp 45)]⟩, []⟩, ⟨0, ⟨(some 47), (some (46, false)), (.pure .id), [(.tmp 3)]⟩, []⟩, ⟨0, ⟨(some 48), (some (46, false)), (.pure .len), [(.tmp 47)]⟩, []⟩, ⟨0, ⟨(some 49), (some (46, false)), (.pure (.bin .gtr .none)), [(.tmp 48), (.const (.int .i64 50))]⟩, []⟩, ⟨0, ⟨(some 50), none, (.pure .pick), [(.tmp 46), (.const (.bool true)), (.tmp 49)]⟩, []⟩, ⟨0, ⟨(some 51), none, (.pure .id), [(.tmp 50)]⟩, []⟩, ⟨0, ⟨(some 52), (some (51, false)), (.pure .id), [(.tmp 4)]⟩, []⟩, ⟨0, ⟨(some 53), (some (51, false)), (.pure .len), [(.tmp 52)]⟩, []⟩, ⟨0, ⟨(some 54), (some (51, false)), (.pure (.bin .gtr .none)), [(.tmp 53), (.const (.int .i64 50))]⟩, []⟩, ⟨0, ⟨(some 55), none, (.pure .pick), [(.tmp 51), (.const (.bool true)), (.tmp 54)]⟩, []⟩, ⟨0, ⟨(some 56), none, (.pure .id), [(.tmp 55)]⟩, []⟩, ⟨0, ⟨(some 57), (some (56, false)), (.pure .id), [(.tmp 5)]⟩, []⟩, ⟨0, ⟨(some 58), (some (56, false)), (.pure .len), [(.tmp 57)]⟩, []⟩, ⟨0, ⟨(some 59), (some (56, false)), (.pure (.bin .gtr .none)), [(.tmp 58), (.const (.int .i64 50))]⟩, []⟩, ⟨0, ⟨(some 60), none, (.pure .pick), [(.tmp 56), (.const (.bool true)), (.tmp 59)]⟩, []⟩, ⟨0, ⟨(some 61), none, (.pure .id), [(.tmp 60)]⟩, []⟩, ⟨0, ⟨(some 62), (some (61, false)), (.load (.load 2 true)), [(.tmp 6)]⟩, []⟩, ⟨0, ⟨(some 63), (some (61, false)), (.call F_skolemref06_May), [(.tmp 62)]⟩, []⟩, ⟨0, ⟨(some 64), (some (61, false)), (.pure (.un .not)), [(.tmp 63)]⟩, []⟩, ⟨0, ⟨(some 65), none, (.pure .pick), [(.tmp 61), (.const (.bool true)), (.tmp 64)]⟩, []⟩, ⟨0, ⟨(some 66), none, (.pure .id), [(.tmp 65)]⟩, []⟩, ⟨0, ⟨(some 67), (some (66, false)), (.load (.load 2 true)), [(.tmp 7)]⟩, []⟩, ⟨0, ⟨(some 68), (some (66, false)), (.call F_skolemref06_May), [(.tmp 67)]⟩, []⟩, ⟨0, ⟨(some 69), (some (66, false)), (.pure (.un .not)), [(.tmp 68)]⟩, []⟩, ⟨0, ⟨(some 70), none, (.pure .pick), [(.tmp 66), (.const (.bool true)), (.tmp 69)]⟩, []⟩, ⟨0, ⟨(some 71), none, (.pure .id), [(.tmp 70)]⟩, []⟩, ⟨0, ⟨(some 72), (some (71, false)), (.pure .id), [(.tmp 3)]⟩, []⟩, ⟨0, ⟨(some 73), (some (71, false)), (.call F_skolemref05_Normal), [(.tmp 72)]⟩, []⟩, ⟨0, ⟨(some 74), (some (71, false)), (.pure (.un .not)), [(.tmp 73)]⟩, []⟩, ⟨0, ⟨(some 75), none, (.pure .pick), [(.tmp 71), (.const (.bool true)), (.tmp 74)]⟩, []⟩, ⟨0, ⟨(some 76), none, (.pure .id), [(.tmp 75)]⟩, []⟩, ⟨0, ⟨(some 77), (some (76, false)), (.pure .id), [(.tmp 4)]⟩, []⟩, ⟨0, ⟨(some 78), (some (76, false)), (.call F_skolemref05_Normal), [(.tmp 77)]⟩, []⟩, ⟨0, ⟨(some 79), (some (76, false)), (.pure (.un .not)), [(.tmp 78)]⟩, []⟩, ⟨0, ⟨(some 80), none, (.pure .pick), [(.tmp 76), (.const (.bool true)), (.tmp 79)]⟩, []⟩]) (.cond (.tmp 80) (.seq (.region [⟨0, ⟨(some 81), none, (.call F_skolemlaw06_works), []⟩, []⟩, ⟨0, ⟨(some 12), none, (.pure .id), [(.tmp 81)]⟩, []⟩]) .ret) .skip)) (.seq (.region [⟨0, ⟨(some 82), none, (.pure .id), [(.tmp 2)]⟩, []⟩, ⟨1, ⟨(some 83), none, (.load (.load 2 true)), [(.tmp 6)]⟩, []⟩, ⟨4, ⟨(some 86), none, (.pure .id), [(.tmp 2)]⟩, []⟩, ⟨5, ⟨(some 87), none, (.load (.load 2 true)), [(.tmp 7)]⟩, []⟩, ⟨2, ⟨(some 84), none, (.call F_skolemref06_Nodes), [(.tmp 83)]⟩, [⟨(some 87), none, (.load (.load 2 true)), [(.tmp 7)]⟩]⟩, ⟨3, ⟨(some 85), none, (.call F_skolemlaw06_fit), [(.tmp 82), (.tmp 84)]⟩, [⟨(some 87), none, (.load (.load 2 true)), [(.tmp 7)]⟩]⟩, ⟨6, ⟨(some 88), none, (.call F_skolemref06_Nodes), [(.tmp 87)]⟩, []⟩, ⟨7, ⟨(some 89), none, (.call F_skolemlaw06_fit), [(.tmp 86), (.tmp 88)]⟩, []⟩, ⟨8, ⟨(some 13), none, (.pure .id), [(.tmp 85)]⟩, []⟩, ⟨9, ⟨(some 14), none, (.pure .id), [(.tmp 89)]⟩, []⟩]) (.seq (.region [⟨0, ⟨(some 91), none, (.load (.load 2 true)), [(.tmp 6)]⟩, []⟩, ⟨0, ⟨(some 92), none, (.pure .id), [(.tmp 13)]⟩, []⟩, ⟨0, ⟨(some 93), none, (.call F_aig_Cone), [(.tmp 91), (.tmp 92)]⟩, []⟩, ⟨0, ⟨(some 90), none, (.pure .id), [(.tmp 93)]⟩, []⟩, ⟨0, ⟨(some 94), none, (.pure (.extract 0)), [(.tmp 90)]⟩, []⟩, ⟨0, ⟨(some 95), none, (.pure (.extract 1)), [(.tmp 90)]⟩, []⟩, ⟨0, ⟨(some 96), none, (.pure (.extract 2)), [(.tmp 90)]⟩, []⟩, ⟨0, ⟨(some 15), none, (.new (.alloc [.nils, .nils])), []⟩, []⟩, ⟨0, ⟨none, none, (.imp (.store 2)), [(.tmp 15), (.tmp 94)]⟩, []⟩, ⟨0, ⟨(some 16), none, (.pure .id), [(.tmp 95)]⟩, []⟩, ⟨0, ⟨(some 17), none, (.pure .id), [(.tmp 96)]⟩, []⟩]) (.seq (.region [⟨0, ⟨(some 98), none, (.load (.load 2 true)), [(.tmp 6)]⟩, []⟩, ⟨0, ⟨(some 99), none, (.pure .id), [(.tmp 13)]⟩, []⟩, ⟨0, ⟨(some 100), none, (.pure .id), [(.tmp 4)]⟩, []⟩, ⟨0, ⟨(some 101), none, (.call F_aig_Restrict), [(.tmp 98), (.tmp 99), (.tmp 100)]⟩, []⟩, ⟨0, ⟨(some 97), none, (.pure .id), [(.tmp 101)]⟩, []⟩, ⟨0, ⟨(some 102), none, (.pure (.extract 0)), [(.tmp 97)]⟩, []⟩, ⟨0, ⟨(some 103), none, (.pure (.extract 1)), [(.tmp 97)]⟩, []⟩, ⟨0, ⟨(some 104), none, (.pure (.extract 2)), [(.tmp 97)]⟩, []⟩, ⟨0, ⟨(some 18), none, (.new (.alloc [.nils, .nils])), []⟩, []⟩, ⟨0, ⟨none, none, (.imp (.store 2)), [(.tmp 18), (.tmp 102)]⟩, []⟩, ⟨0, ⟨(some 19), none, (.pure .id), [(.tmp 103)]⟩, []⟩, ⟨0, ⟨(some 20), none, (.pure .id), [(.tmp 104)]⟩, []⟩]) (.seq (.region [⟨0, ⟨(some 106), none, (.load (.load 2 true)), [(.tmp 6)]⟩, []⟩, ⟨0, ⟨(some 107), none, (.pure .id), [(.tmp 13)]⟩, []⟩, ⟨0, ⟨(some 108), none, (.load (.load 2 true)), [(.tmp 7)]⟩, []⟩, ⟨0, ⟨(some 109), none, (.pure .id), [(.tmp 14)]⟩, []⟩, ⟨0, ⟨(some 110), none, (.call F_aig_Join), [(.tmp 106), (.tmp 107), (.tmp 108), (.tmp 109)]⟩, []⟩, ⟨0, ⟨(some 105), none, (.pure .id), [(.tmp 110)]⟩, []⟩, ⟨0, ⟨(some 111), none, (.pure (.extract 0)), [(.tmp 105)]⟩, []⟩, ⟨0, ⟨(some 112), none, (.pure (.extract 1)), [(.tmp 105)]⟩, []⟩, ⟨0, ⟨(some 113), none, (.pure (.extract 2)), [(.tmp 105)]⟩, []⟩, ⟨0, ⟨(some 114), none, (.pure (.extract 3)), [(.tmp 105)]⟩, []⟩, ⟨0, ⟨(some 21), none, (.new (.alloc [.nils, .nils])), []⟩, []⟩, ⟨0, ⟨none, none, (.imp (.store 2)), [(.tmp 21), (.tmp 111)]⟩, []⟩, ⟨0, ⟨(some 22), none, (.pure .id), [(.tmp 112)]⟩, []⟩, ⟨0, ⟨(some 23), none, (.pure .id), [(.tmp 113)]⟩, []⟩, ⟨0, ⟨(some 24), none, (.pure .id), [(.tmp 114)]⟩, []⟩]) (.seq (.seq (.region [⟨0, ⟨(some 115), none, (.pure .id), [(.tmp 17)]⟩, []⟩, ⟨0, ⟨(some 116), none, (.pure (.bin .neq .none)), [(.tmp 115), (.const (.int .i64 0))]⟩, []⟩, ⟨0, ⟨(some 117), none, (.pure .id), [(.tmp 116)]⟩, []⟩, ⟨0, ⟨(some 118), (some (117, false)), (.pure .id), [(.tmp 20)]⟩, []⟩, ⟨0, ⟨(some 119), (some (117, false)), (.pure (.bin .neq .none)), [(.tmp 118), (.const (.int .i64 0))]⟩, []⟩, ⟨0, ⟨(some 120), none, (.pure .pick), [(.tmp 117), (.const (.bool true)), (.tmp 119)]⟩, []⟩, ⟨0, ⟨(some 121), none, (.pure .id), [(.tmp 120)]⟩, []⟩, ⟨0, ⟨(some 122), (some (121, false)), (.pure .id), [(.tmp 24)]⟩, []⟩, ⟨0, ⟨(some 123), (some (121, false)), (.pure (.bin .neq .none)), [(.tmp 122), (.const (.int .i64 0))]⟩, []⟩, ⟨0, ⟨(some 124), none, (.pure .pick), [(.tmp 121), (.const (.bool true)), (.tmp 123)]⟩, []⟩, ⟨0, ⟨(some 125), none, (.pure .id), [(.tmp 124)]⟩, []⟩, ⟨0, ⟨(some 126), (some (125, false)), (.pure .id), [(.tmp 16)]⟩, []⟩, ⟨0, ⟨(some 127), (some (125, false)), (.pure .len), [(.tmp 126)]⟩, []⟩, ⟨0, ⟨(some 128), (some (125, false)), (.pure .id), [(.tmp 13)]⟩, []⟩, ⟨0, ⟨(some 129), (some (125, false)), (.pure .len), [(.tmp 128)]⟩, []⟩, ⟨0, ⟨(some 130), (some (125, false)), (.pure (.bin .neq .none)), [(.tmp 127), (.tmp 129)]⟩, []⟩, ⟨0, ⟨(some 131), none, (.pure .pick), [(.tmp 125), (.const (.bool true)), (.tmp 130)]⟩, []⟩, ⟨0, ⟨(some 132), none, (.pure .id), [(.tmp 131)]⟩, []⟩, ⟨0, ⟨(some 133), (some (132, false)), (.pure .id), [(.tmp 19)]⟩, []⟩, ⟨0, ⟨(some 134), (some (132, false)), (.pure .len), [(.tmp 133)]⟩, []⟩, ⟨0, ⟨(some 135), (some (132, false)), (.pure .id), [(.tmp 13)]⟩, []⟩, ⟨0, ⟨(some 136), (some (132, false)), (.pure .len), [(.tmp 135)]⟩, []⟩, ⟨0, ⟨(some 137), (some (132, false)), (.pure (.bin .neq .none)), [(.tmp 134), (.tmp 136)]⟩, []⟩, ⟨0, ⟨(some 138), none, (.pure .pick), [(.tmp 132), (.const (.bool true)), (.tmp 137)]⟩, []⟩, ⟨0, ⟨(some 139), none, (.pure .id), [(.tmp 138)]⟩, []⟩, ⟨0, ⟨(some 140), (some (139, false)), (.pure .id), [(.tmp 22)]⟩, []⟩, ⟨0, ⟨(some 141), (some (139, false)), (.pure .len), [(.tmp 140)]⟩, []⟩, ⟨0, ⟨(some 142), (some (139, false)), (.pure .id), [(.tmp 13)]⟩, []⟩, ⟨0, ⟨(some 143), (some (139, false)), (.pure .len), [(.tmp 142)]⟩, []⟩, ⟨0, ⟨(some 144), (some (139, false)), (.pure (.bin .neq .none)), [(.tmp 141), (.tmp 143)]⟩, []⟩, ⟨0, ⟨(some 145), none, (.pure .pick), [(.tmp 139), (.const (.bool true)), (.tmp 144)]⟩, []⟩, ⟨0, ⟨(some 146), none, (.pure .id), [(.tmp 145)]⟩, []⟩, ⟨0, ⟨(some 147), (some (146, false)), (.pure .id), [(.tmp 23)]⟩, []⟩, ⟨0, ⟨(some 148), (some (146, false)), (.pure .len), [(.tmp 147)]⟩, []⟩, ⟨0, ⟨(some 149), (some (146, false)), (.pure .id), [(.tmp 13)]⟩, []⟩, ⟨0, ⟨(some 150), (some (146, false)), (.pure .len), [(.tmp 149)]⟩, []⟩, ⟨0, ⟨(some 151), (some (146, false)), (.pure (.bin .neq .none)), [(.tmp 148), (.tmp 150)]⟩, []⟩, ⟨0, ⟨(some 152), none, (.pure .pick), [(.tmp 146), (.const (.bool true)), (.tmp 151)]⟩, []⟩, ⟨0, ⟨(some 153), none, (.pure .id), [(.tmp 152)]⟩, []⟩, ⟨0, ⟨(some 154), (some (153, false)), (.load (.load 2 true)), [(.tmp 15)]⟩, []⟩, ⟨0, ⟨(some 155), (some (153, false)), (.call F_skolemref06_Reduced), [(.tmp 154)]⟩, []⟩, ⟨0, ⟨(some 156), (some (153, false)), (.pure (.un .not)), [(.tmp 155)]⟩, []⟩, ⟨0, ⟨(some 157), none, (.pure .pick), [(.tmp 153), (.const (.bool true)), (.tmp 156)]⟩, []⟩, ⟨0, ⟨(some 158), none, (.pure .id), [(.tmp 157)]⟩, []⟩, ⟨0, ⟨(some 159), (some (158, false)), (.load (.load 2 true)), [(.tmp 18)]⟩, []⟩, ⟨0, ⟨(some 160), (some (158, false)), (.call F_skolemref06_Reduced), [(.tmp 159)]⟩, []⟩, ⟨0, ⟨(some 161), (some (158, false)), (.pure (.un .not)), [(.tmp 160)]⟩, []⟩, ⟨0, ⟨(some 162), none, (.pure .pick), [(.tmp 158), (.const (.bool true)), (.tmp 161)]⟩, []⟩, ⟨0, ⟨(some 163), none, (.pure .id), [(.tmp 162)]⟩, []⟩, ⟨0, ⟨(some 164), (some (163, false)), (.load (.load 2 true)), [(.tmp 21)]⟩, []⟩, ⟨0, ⟨(some 165), (some (163, false)), (.call F_skolemref06_Reduced), [(.tmp 164)]⟩, []⟩, ⟨0, ⟨(some 166), (some (163, false)), (.pure (.un .not)), [(.tmp 165)]⟩, []⟩, ⟨0, ⟨(some 167), none, (.pure .pick), [(.tmp 163), (.const (.bool true)), (.tmp 166)]⟩, []⟩]) (.cond (.tmp 167) (.seq (.region [⟨0, ⟨(some 12), none, (.pure .id), [(.const (.bool false))]⟩, []⟩]) .ret) .skip)) (.seq (.region [⟨0, ⟨(some 168), none, (.new (.bslice 1 [(.int .i64 0)] 0 [])), []⟩, []⟩, ⟨0, ⟨(some 169), none, (.pure .id), [(.tmp 4)]⟩, []⟩, ⟨0, ⟨(some 170), none, (.imp (.append 1 8)), [(.tmp 168), (.tmp 169)]⟩, []⟩, ⟨0, ⟨(some 171), none, (.pure .id), [(.tmp 3)]⟩, []⟩, ⟨0, ⟨(some 172), none, (.imp (.append 1 8)), [(.tmp 170), (.tmp 171)]⟩, []⟩, ⟨0, ⟨(some 25), none, (.pure .id), [(.tmp 172)]⟩, []⟩]) (.seq (.seq (.region [⟨0, ⟨(some 173), none, (.pure .id), [(.tmp 13)]⟩, []⟩, ⟨0, ⟨(some 174), none, (.pure .len), [(.tmp 173)]⟩, []⟩, ⟨0, ⟨(some 175), none, (.pure .id), [(.const (.int .i64 0))]⟩, []⟩]) (.block 0 (.loop (.seq (.region [⟨0, ⟨(some 176), none, (.pure (.bin .lss .none)), [(.tmp 175), (.tmp 174)]⟩, []⟩]) (.seq (.cond (.tmp 176) .skip (.exit 0)) (.seq (.block 1 (.seq (.region [⟨0, ⟨(some 177), none, (.pure .id), [(.tmp 175)]⟩, []⟩, ⟨0, ⟨(some 26), none, (.pure .id), [(.tmp 177)]⟩, []⟩]) (.seq (.region [⟨0, ⟨(some 178), none, (.load (.load 2 true)), [(.tmp 6)]⟩, []⟩, ⟨1, ⟨(some 179), none, (.pure .id), [(.tmp 13)]⟩, []⟩, ⟨2, ⟨(some 180), none, (.pure .id), [(.tmp 26)]⟩, []⟩, ⟨3, ⟨(some 181), none, (.pure (.iaddr 1)), [(.tmp 179), (.tmp 180)]⟩, []⟩, ⟨4, ⟨(some 182), none, (.load (.load 1 false)), [(.tmp 181)]⟩, []⟩, ⟨5, ⟨(some 183), none, (.pure .id), [(.tmp 3)]⟩, []⟩, ⟨6, ⟨(some 184), none, (.load (.load 2 true)), [(.tmp 15)]⟩, []⟩, ⟨7, ⟨(some 185), none, (.pure .id), [(.tmp 16)]⟩, []⟩, ⟨8, ⟨(some 186), none, (.pure .id), [(.tmp 26)]⟩, []⟩, ⟨9, ⟨(some 187), none, (.pure (.iaddr 1)), [(.tmp 185), (.tmp 186)]⟩, []⟩, ⟨10, ⟨(some 188), none, (.load (.load 1 false)), [(.tmp 187)]⟩, []⟩, ⟨11, ⟨(some 189), none, (.pure .id), [(.tmp 3)]⟩, []⟩, ⟨12, ⟨(some 190), none, (.call F_skolemlaw06_equal), [(.tmp 178), (.tmp 182), (.tmp 183), (.tmp 184), (.tmp 188), (.tmp 189)]⟩, []⟩, ⟨13, ⟨(some 191), none, (.pure (.un .not)), [(.tmp 190)]⟩, []⟩, ⟨14, ⟨(some 192), none, (.pure .id), [(.tmp 191)]⟩, []⟩, ⟨15, ⟨(some 193), (some (192, false)), (.load (.load 2 true)), [(.tmp 6)]⟩, []⟩, ⟨16, ⟨(some 194), (some (192, false)), (.pure .id), [(.tmp 13)]⟩, []⟩, ⟨17, ⟨(some 195), (some (192, false)), (.pure .id), [(.tmp 26)]⟩, []⟩, ⟨18, ⟨(some 196), (some (192, false)), (.pure (.iaddr 1)), [(.tmp 194), (.tmp 195)]⟩, []⟩, ⟨19, ⟨(some 197), (some (192, false)), (.load (.load 1 false)), [(.tmp 196)]⟩, []⟩, ⟨20, ⟨(some 198), (some (192, false)), (.pure .id), [(.tmp 25)]⟩, []⟩, ⟨22, ⟨(some 200), (some (192, false)), (.load (.load 2 true)), [(.tmp 18)]⟩, []⟩, ⟨23, ⟨(some 201), (some (192, false)), (.pure .id), [(.tmp 19)]⟩, []⟩, ⟨24, ⟨(some 202), (some (192, false)), (.pure .id), [(.tmp 26)]⟩, []⟩, ⟨25, ⟨(some 203), (some (192, false)), (.pure (.iaddr 1)), [(.tmp 201), (.tmp 202)]⟩, []⟩, ⟨26, ⟨(some 204), (some (192, false)), (.load (.load 1 false)), [(.tmp 203)]⟩, []⟩, ⟨27, ⟨(some 205), (some (192, false)), (.pure .id), [(.tmp 3)]⟩, []⟩, ⟨21, ⟨(some 199), (some (192, false)), (.call F_skolemlaw06_merged), [(.tmp 198)]⟩, [⟨(some 193), (some (192, false)), (.load (.load 2 true)), [(.tmp 6)]⟩, ⟨(some 197), (some (192, false)), (.load (.load 1 false)), [(.tmp 196)]⟩, ⟨(some 200), (some (192, false)), (.load (.load 2 true)), [(.tmp 18)]⟩, ⟨(some 204), (some (192, false)), (.load (.load 1 false)), [(.tmp 203)]⟩]⟩, ⟨28, ⟨(some 206), (some (192, false)), (.call F_skolemlaw06_equal), [(.tmp 193), (.tmp 197), (.tmp 199), (.tmp 200), (.tmp 204), (.tmp 205)]⟩, []⟩, ⟨29, ⟨(some 207), (some (192, false)), (.pure (.un .not)), [(.tmp 206)]⟩, []⟩, ⟨30, ⟨(some 208), none, (.pure .pick), [(.tmp 192), (.const (.bool true)), (.tmp 207)]⟩, []⟩, ⟨31, ⟨(some 209), none, (.pure .id), [(.tmp 208)]⟩, []⟩, ⟨32, ⟨(some 210), (some (209, false)), (.load (.load 2 true)), [(.tmp 6)]⟩, []⟩, ⟨33, ⟨(some 211), (some (209, false)), (.pure .id), [(.tmp 13)]⟩, []⟩, ⟨34, ⟨(some 212), (some (209, false)), (.pure .id), [(.tmp 26)]⟩, []⟩, ⟨35, ⟨(some 213), (some (209, false)), (.pure (.iaddr 1)), [(.tmp 211), (.tmp 212)]⟩, []⟩, ⟨36, ⟨(some 214), (some (209, false)), (.load (.load 1 false)), [(.tmp 213)]⟩, []⟩, ⟨37, ⟨(some 215), (some (209, false)), (.pure .id), [(.tmp 3)]⟩, []⟩, ⟨38, ⟨(some 216), (some (209, false)), (.load (.load 2 true)), [(.tmp 21)]⟩, []⟩, ⟨39, ⟨(some 217), (some (209, false)), (.pure .id), [(.tmp 22)]⟩, []⟩, ⟨40, ⟨(some 218), (some (209, false)), (.pure .id), [(.tmp 26)]⟩, []⟩, ⟨41, ⟨(some 219), (some (209, false)), (.pure (.iaddr 1)), [(.tmp 217), (.tmp 218)]⟩, []⟩, ⟨42, ⟨(some 220), (some (209, false)), (.load (.load 1 false)), [(.tmp 219)]⟩, []⟩, ⟨43, ⟨(some 221), (some (209, false)), (.pure .id), [(.tmp 3)]⟩, []⟩, ⟨44, ⟨(some 222), (some (209, false)), (.call F_skolemlaw06_equal), [(.tmp 210), (.tmp 214), (.tmp 215), (.tmp 216), (.tmp 220), (.tmp 221)]⟩, []⟩, ⟨45, ⟨(some 223), (some (209, false)), (.pure (.un .not)), [(.tmp 222)]⟩, []⟩, ⟨46, ⟨(some 224), none, (.pure .pick), [(.tmp 209), (.const (.bool true)), (.tmp 223)]⟩, []⟩, ⟨47, ⟨(some 225), none, (.pure .id), [(.tmp 224)]⟩, []⟩, ⟨48, ⟨(some 226), (some (225, false)), (.load (.load 2 true)), [(.tmp 7)]⟩, []⟩, ⟨49, ⟨(some 227), (some (225, false)), (.pure .id), [(.tmp 14)]⟩, []⟩, ⟨50, ⟨(some 228), (some (225, false)), (.pure .id), [(.tmp 26)]⟩, []⟩, ⟨51, ⟨(some 229), (some (225, false)), (.pure (.iaddr 1)), [(.tmp 227), (.tmp 228)]⟩, []⟩, ⟨52, ⟨(some 230), (some (225, false)), (.load (.load 1 false)), [(.tmp 229)]⟩, []⟩, ⟨53, ⟨(some 231), (some (225, false)), (.pure .id), [(.tmp 3)]⟩, []⟩, ⟨54, ⟨(some 232), (some (225, false)), (.load (.load 2 true)), [(.tmp 21)]⟩, []⟩, ⟨55, ⟨(some 233), (some (225, false)), (.pure .id), [(.tmp 23)]⟩, []⟩, ⟨56, ⟨(some 234), (some (225, false)), (.pure .id), [(.tmp 26)]⟩, []⟩, ⟨57, ⟨(some 235), (some (225, false)), (.pure (.iaddr 1)), [(.tmp 233), (.tmp 234)]⟩, []⟩, ⟨58, ⟨(some 236), (some (225, false)), (.load (.load 1 false)), [(.tmp 235)]⟩, []⟩, ⟨59, ⟨(some 237), (some (225, false)), (.pure .id), [(.tmp 3)]⟩, []⟩, ⟨60, ⟨(some 238), (some (225, false)), (.call F_skolemlaw06_equal), [(.tmp 226), (.tmp 230), (.tmp 231), (.tmp 232), (.tmp 236), (.tmp 237)]⟩, []⟩, ⟨61, ⟨(some 239), (some (225, false)), (.pure (.un .not)), [(.tmp 238)]⟩, []⟩, ⟨62, ⟨(some 240), none, (.pure .pick), [(.tmp 225), (.const (.bool true)), (.tmp 239)]⟩, []⟩]) (.cond (.tmp 240) (.seq (.region [⟨0, ⟨(some 12), none, (.pure .id), [(.const (.bool false))]⟩, []⟩]) .ret) .skip)))) (.region [⟨0, ⟨(some 241), none, (.pure (.bin .add .none)), [(.tmp 175), (.const (.int .i64 1))]⟩, []⟩, ⟨0, ⟨(some 175), none, (.pure .id), [(.tmp 241)]⟩, []⟩]))))))) (.seq (.region [⟨0, ⟨(some 27), none, (.pure .id), [(.const .nils)]⟩, []⟩]) (.seq (.region [⟨0, ⟨(some 242), none, (.new (.bslice 1 [(.int .i64 0)] 0 [])), []⟩, []⟩, ⟨0, ⟨(some 243), none, (.pure .id), [(.tmp 3)]⟩, []⟩, ⟨0, ⟨(some 244), none, (.imp (.append 1 8)), [(.tmp 242), (.tmp 243)]⟩, []⟩, ⟨0, ⟨(some 28), none, (.pure .id), [(.tmp 244)]⟩, []⟩]) (.seq (.seq (.region [⟨0, ⟨(some 245), none, (.pure .id), [(.tmp 5)]⟩, []⟩, ⟨0, ⟨(some 246), none, (.pure .len), [(.tmp 245)]⟩, []⟩, ⟨0, ⟨(some 247), none, (.pure .id), [(.const (.int .i64 0))]⟩, []⟩]) (.block 2 (.loop (.seq (.region [⟨0, ⟨(some 248), none, (.pure (.bin .lss .none)), [(.tmp 247), (.tmp 246)]⟩, []⟩]) (.seq (.cond (.tmp 248) .skip (.exit 2)) (.seq (.block 3 (.seq (.region [⟨0, ⟨(some 249), none, (.pure (.iaddr 2)), [(.tmp 245), (.tmp 247)]⟩, []⟩, ⟨0, ⟨(some 250), none, (.load (.load 2 true)), [(.tmp 249)]⟩, []⟩, ⟨0, ⟨(some 30), none, (.new (.alloc [(.int .i64 0), (.int .i64 0)])), []⟩, []⟩, ⟨0, ⟨none, none, (.imp (.store 2)), [(.tmp 30), (.tmp 250)]⟩, []⟩]) (.seq (.seq (.region [⟨0, ⟨(some 251), none, (.load (.load 2 true)), [(.tmp 6)]⟩, []⟩, ⟨0, ⟨(some 252), none, (.pure (.faddr 0)), [(.tmp 30)]⟩, []⟩, ⟨0, ⟨(some 253), none, (.load (.load 1 false)), [(.tmp 252)]⟩, []⟩, ⟨0, ⟨(some 254), none, (.call F_skolemref06_Edge), [(.tmp 251), (.tmp 253)]⟩, []⟩, ⟨0, ⟨(some 255), none, (.pure (.bin .lss .none)), [(.tmp 254), (.const (.int .i64 0))]⟩, []⟩, ⟨0, ⟨(some 256), none, (.pure .id), [(.tmp 255)]⟩, []⟩, ⟨0, ⟨(some 257), (some (256, false)), (.pure .id), [(.tmp 27)]⟩, []⟩, ⟨0, ⟨(some 258), (some (256, false)), (.pure (.faddr 0)), [(.tmp 30)]⟩, []⟩, ⟨0, ⟨(some 259), (some (256, false)), (.load (.load 1 false)), [(.tmp 258)]⟩, []⟩, ⟨0, ⟨(some 260), (some (256, false)), (.call F_skolemlaw06_has), [(.tmp 257), (.tmp 259)]⟩, []⟩, ⟨0, ⟨(some 261), none, (.pure .pick), [(.tmp 256), (.const (.bool true)), (.tmp 260)]⟩, []⟩]) (.cond (.tmp 261) (.exit 3) .skip)) (.seq (.region [⟨0, ⟨(some 262), none, (.pure (.faddr 1)), [(.tmp 30)]⟩, []⟩, ⟨1, ⟨(some 263), none, (.load (.load 1 false)), [(.tmp 262)]⟩, []⟩, ⟨2, ⟨(some 264), none, (.new (.bslice 1 [(.int .i64 0)] 1 [(0, 1)])), [(.tmp 263)]⟩, []⟩, ⟨3, ⟨(some 265), none, (.load (.load 2 true)), [(.tmp 6)]⟩, []⟩, ⟨4, ⟨(some 266), none, (.call F_skolemref06_Nodes), [(.tmp 265)]⟩, [⟨(some 263), none, (.load (.load 1 false)), [(.tmp 262)]⟩, ⟨(some 264), none, (.new (.bslice 1 [(.int .i64 0)] 1 [(0, 1)])), [(.tmp 263)]⟩]⟩, ⟨5, ⟨(some 267), none, (.call F_skolemlaw06_fit), [(.tmp 264), (.tmp 266)]⟩, []⟩, ⟨6, ⟨(some 268), none, (.pure (.iaddr 1)), [(.tmp 267), (.const (.int .i64 0))]⟩, []⟩, ⟨7, ⟨(some 269), none, (.load (.load 1 false)), [(.tmp 268)]⟩, []⟩, ⟨8, ⟨(some 270), none, (.pure (.faddr 1)), [(.tmp 30)]⟩, []⟩, ⟨9, ⟨none, none, (.imp (.store 1)), [(.tmp 270), (.tmp 269)]⟩, []⟩]) (.seq (.region [⟨0, ⟨(some 271), none, (.pure .id), [(.tmp 27)]⟩, []⟩, ⟨0, ⟨(some 272), none, (.load (.load 2 true)), [(.tmp 30)]⟩, []⟩, ⟨0, ⟨(some 273), none, (.new (.bslice 2 [(.int .i64 0), (.int .i64 0)] 1 [(0, 2)])), [(.tmp 272)]⟩, []⟩, ⟨0, ⟨(some 274), none, (.imp (.append 2 16)), [(.tmp 271), (.tmp 273)]⟩, []⟩, ⟨0, ⟨(some 27), none, (.pure .id), [(.tmp 274)]⟩, []⟩]) (.seq (.region [⟨0, ⟨(some 276), none, (.load (.load 2 true)), [(.tmp 6)]⟩, []⟩, ⟨0, ⟨(some 277), none, (.pure (.faddr 1)), [(.tmp 30)]⟩, []⟩, ⟨0, ⟨(some 278), none, (.load (.load 1 false)), [(.tmp 277)]⟩, []⟩, ⟨0, ⟨(some 279), none, (.pure .id), [(.tmp 3)]⟩, []⟩, ⟨0, ⟨(some 280), none, (.call F_aig_Eval), [(.tmp 276), (.tmp 278), (.tmp 279)]⟩, []⟩, ⟨0, ⟨(some 275), none, (.pure .id), [(.tmp 280)]⟩, []⟩, ⟨0, ⟨(some 281), none, (.pure (.extract 0)), [(.tmp 275)]⟩, []⟩, ⟨0, ⟨(some 282), none, (.pure (.extract 1)), [(.tmp 275)]⟩, []⟩, ⟨0, ⟨(some 31), none, (.pure .id), [(.tmp 281)]⟩, []⟩, ⟨0, ⟨(some 32), none, (.pure .id), [(.tmp 282)]⟩, []⟩]) (.seq (.seq (.region [⟨0, ⟨(some 283), none, (.pure .id), [(.tmp 32)]⟩, []⟩, ⟨0, ⟨(some 284), none, (.pure (.bin .neq .none)), [(.tmp 283), (.const (.int .i64 0))]⟩, []⟩]) (.cond (.tmp 284) (.seq (.region [⟨0, ⟨(some 12), none, (.pure .id), [(.const (.bool false))]⟩, []⟩]) .ret) .skip)) (.seq (.region [⟨0, ⟨(some 285), none, (.pure (.faddr 0)), [(.tmp 30)]⟩, []⟩, ⟨0, ⟨(some 286), none, (.load (.load 1 false)), [(.tmp 285)]⟩, []⟩, ⟨0, ⟨(some 287), none, (.pure (.un .neg)), [(.tmp 286)]⟩, []⟩, ⟨0, ⟨(some 33), none, (.pure .id), [(.tmp 287)]⟩, []⟩]) (.seq (.seq (.region [⟨0, ⟨(some 288), none, (.pure .id), [(.tmp 31)]⟩, []⟩]) (.cond (.tmp 288) (.region [⟨0, ⟨(some 289), none, (.pure (.faddr 0)), [(.tmp 30)]⟩, []⟩, ⟨0, ⟨(some 290), none, (.load (.load 1 false)), [(.tmp 289)]⟩, []⟩, ⟨0, ⟨(some 33), none, (.pure .id), [(.tmp 290)]⟩, []⟩]) .skip)) (.region [⟨0, ⟨(some 291), none, (.pure .id), [(.tmp 33)]⟩, []⟩, ⟨0, ⟨(some 292), none, (.new (.bslice 1 [(.int .i64 0)] 1 [(0, 1)])), [(.tmp 291)]⟩, []⟩, ⟨0, ⟨(some 293), none, (.pure .id), [(.tmp 28)]⟩, []⟩, ⟨0, ⟨(some 294), none, (.imp (.append 1 8)), [(.tmp 292), (.tmp 293)]⟩, []⟩, ⟨0, ⟨(some 28), none, (.pure .id), [(.tmp 294)]⟩, []⟩])))))))))) (.region [⟨0, ⟨(some 295), none, (.pure (.bin .add .none)), [(.tmp 247), (.const (.int .i64 1))]⟩, []⟩, ⟨0, ⟨(some 247), none, (.pure .id), [(.tmp 295)]⟩, []⟩]))))))) (.seq (.region [⟨0, ⟨(some 297), none, (.load (.load 2 true)), [(.tmp 6)]⟩, []⟩, ⟨0, ⟨(some 298), none, (.pure .id), [(.tmp 13)]⟩, []⟩, ⟨0, ⟨(some 299), none, (.pure .id), [(.tmp 27)]⟩, []⟩, ⟨0, ⟨(some 300), none, (.call F_aig_Compose), [(.tmp 297), (.tmp 298), (.tmp 299)]⟩, []⟩, ⟨0, ⟨(some 296), none, (.pure .id), [(.tmp 300)]⟩, []⟩, ⟨0, ⟨(some 301), none, (.pure (.extract 0)), [(.tmp 296)]⟩, []⟩, ⟨0, ⟨(some 302), none, (.pure (.extract 1)), [(.tmp 296)]⟩, []⟩, ⟨0, ⟨(some 303), none, (.pure (.extract 2)), [(.tmp 296)]⟩, []⟩, ⟨0, ⟨(some 34), none, (.new (.alloc [.nils, .nils])), []⟩, []⟩, ⟨0, ⟨none, none, (.imp (.store 2)), [(.tmp 34), (.tmp 301)]⟩, []⟩, ⟨0, ⟨(some 35), none, (.pure .id), [(.tmp 302)]⟩, []⟩, ⟨0, ⟨(some 17), none, (.pure .id), [(.tmp 303)]⟩, []⟩]) (.seq (.seq (.region [⟨0, ⟨(some 304), none, (.pure .id), [(.tmp 17)]⟩, []⟩, ⟨0, ⟨(some 305), none, (.pure (.bin .neq .none)), [(.tmp 304), (.const (.int .i64 0))]⟩, []⟩, ⟨0, ⟨(some 306), none, (.pure .id), [(.tmp 305)]⟩, []⟩, ⟨0, ⟨(some 307), (some (306, false)), (.pure .id), [(.tmp 35)]⟩, []⟩, ⟨0, ⟨(some 308), (some (306, false)), (.pure .len), [(.tmp 307)]⟩, []⟩, ⟨0, ⟨(some 309), (some (306, false)), (.pure .id), [(.tmp 13)]⟩, []⟩, ⟨0, ⟨(some 310), (some (306, false)), (.pure .len), [(.tmp 309)]⟩, []⟩, ⟨0, ⟨(some 311), (some (306, false)), (.pure (.bin .neq .none)), [(.tmp 308), (.tmp 310)]⟩, []⟩, ⟨0, ⟨(some 312), none, (.pure .pick), [(.tmp 306), (.const (.bool true)), (.tmp 311)]⟩, []⟩, ⟨0, ⟨(some 313), none, (.pure .id), [(.tmp 312)]⟩, []⟩, ⟨0, ⟨(some 314), (some (313, false)), (.load (.load 2 true)), [(.tmp 34)]⟩, []⟩, ⟨0, ⟨(some 315), (some (313, false)), (.call F_skolemref06_Reduced), [(.tmp 314)]⟩, []⟩, ⟨0, ⟨(some 316), (some (313, false)), (.pure (.un .not)), [(.tmp 315)]⟩, []⟩, ⟨0, ⟨(some 317), none, (.pure .pick), [(.tmp 313), (.const (.bool true)), (.tmp 316)]⟩, []⟩]) (.cond (.tmp 317) (.seq (.region [⟨0, ⟨(some 12), none, (.pure .id), [(.const (.bool false))]⟩, []⟩]) .ret) .skip)) (.seq (.seq (.region [⟨0, ⟨(some 318), none, (.pure .id), [(.tmp 13)]⟩, []⟩, ⟨0, ⟨(some 319), none, (.pure .len), [(.tmp 318)]⟩, []⟩, ⟨0, ⟨(some 320), none, (.pure .id), [(.const (.int .i64 0))]⟩, []⟩]) (.block 4 (.loop (.seq (.region [⟨0, ⟨(some 321), none, (.pure (.bin .lss .none)), [(.tmp 320), (.tmp 319)]⟩, []⟩]) (.seq (.cond (.tmp 321) .skip (.exit 4)) (.seq (.block 5 (.seq (.region [⟨0, ⟨(some 322), none, (.pure .id), [(.tmp 320)]⟩, []⟩, ⟨0, ⟨(some 36), none, (.pure .id), [(.tmp 322)]⟩, []⟩]) (.seq (.region [⟨0, ⟨(some 323), none, (.load (.load 2 true)), [(.tmp 6)]⟩, []⟩, ⟨1, ⟨(some 324), none, (.pure .id), [(.tmp 13)]⟩, []⟩, ⟨2, ⟨(some 325), none, (.pure .id), [(.tmp 36)]⟩, []⟩, ⟨3, ⟨(some 326), none, (.pure (.iaddr 1)), [(.tmp 324), (.tmp 325)]⟩, []⟩, ⟨4, ⟨(some 327), none, (.load (.load 1 false)), [(.tmp 326)]⟩, []⟩, ⟨5, ⟨(some 328), none, (.pure .id), [(.tmp 28)]⟩, []⟩, ⟨7, ⟨(some 330), none, (.load (.load 2 true)), [(.tmp 34)]⟩, []⟩, ⟨8, ⟨(some 331), none, (.pure .id), [(.tmp 35)]⟩, []⟩, ⟨9, ⟨(some 332), none, (.pure .id), [(.tmp 36)]⟩, []⟩, ⟨10, ⟨(some 333), none, (.pure (.iaddr 1)), [(.tmp 331), (.tmp 332)]⟩, []⟩, ⟨11, ⟨(some 334), none, (.load (.load 1 false)), [(.tmp 333)]⟩, []⟩, ⟨12, ⟨(some 335), none, (.pure .id), [(.tmp 3)]⟩, []⟩, ⟨6, ⟨(some 329), none, (.call F_skolemlaw06_merged), [(.tmp 328)]⟩, [⟨(some 323), none, (.load (.load 2 true)), [(.tmp 6)]⟩, ⟨(some 327), none, (.load (.load 1 false)), [(.tmp 326)]⟩, ⟨(some 330), none, (.load (.load 2 true)), [(.tmp 34)]⟩, ⟨(some 334), none, (.load (.load 1 false)), [(.tmp 333)]⟩]⟩, ⟨13, ⟨(some 336), none, (.call F_skolemlaw06_equal), [(.tmp 323), (.tmp 327), (.tmp 329), (.tmp 330), (.tmp 334), (.tmp 335)]⟩, []⟩, ⟨14, ⟨(some 337), none, (.pure (.un .not)), [(.tmp 336)]⟩, []⟩]) (.cond (.tmp 337) (.seq (.region [⟨0, ⟨(some 12), none, (.pure .id), [(.const (.bool false))]⟩, []⟩]) .ret) .skip)))) (.region [⟨0, ⟨(some 338), none, (.pure (.bin .add .none)), [(.tmp 320), (.const (.int .i64 1))]⟩, []⟩, ⟨0, ⟨(some 320), none, (.pure .id), [(.tmp 338)]⟩, []⟩]))))))) (.seq (.region [⟨0, ⟨(some 339), none, (.call F_skolemlaw06_works), []⟩, []⟩, ⟨0, ⟨(some 12), none, (.pure .id), [(.tmp 339)]⟩, []⟩]) .ret))))))))))))))))⟩
theorem c_skolemlaw06_AigMeans : compF Tryz.prog Tryz.f9 = some G_skolemlaw06_AigMeans := by kernel_rfl
theorem gc_skolemlaw06_AigMeans {args : List DV} {σ : GS} {Post : DV → GS → Prop} (h : @exB Tryz.prog ⟨G_skolemlaw06_AigMeans.body⟩ (genv0 args G_skolemlaw06_AigMeans.ntmps) σ ⟨@gretB G_skolemlaw06_AigMeans.results ⟨Post⟩⟩) : GCall Tryz.prog F_skolemlaw06_AigMeans args σ Post := gcall_ofB seatfollows Tryz.func9 (by kernel_rfl) c_skolemlaw06_AigMeans h
noncomputable abbrev G_skolemlaw06_fit : GFun := ⟨29, [(.tmp 4)], (.seq (.region [⟨0, ⟨(some 4), none, (.pure .id), [(.const .nils)]⟩, []⟩]) (.seq (.region [⟨0, ⟨(some 5), none, (.pure .id), [(.const .nils)]⟩, []⟩]) (.seq (.seq (.region [⟨0, ⟨(some 8), none, (.pure .id), [(.tmp 0)]⟩, []⟩, ⟨0, ⟨(some 9), none, (.pure .len), [(.tmp 8)]⟩, []⟩, ⟨0, ⟨(some 10), none, (.pure .id), [(.const (.int .i64 0))]⟩, []⟩]) (.block 0 (.loop (.seq (.region [⟨0, ⟨(some 11), none, (.pure (.bin .lss .none)), [(.tmp 10), (.tmp 9)]⟩, []⟩]) (.seq (.cond (.tmp 11) .skip (.exit 0)) (.seq (.block 1 (.seq (.region [⟨0, ⟨(some 12), none, (.pure (.iaddr 1)), [(.tmp 8), (.tmp 10)]⟩, []⟩, ⟨0, ⟨(some 13), none, (.load (.load 1 false)), [(.tmp 12)]⟩, []⟩, ⟨0, ⟨(some 7), none, (.pure .id), [(.tmp 13)]⟩, []⟩]) (.region [⟨0, ⟨(some 14), none, (.pure .id), [(.tmp 5)]⟩, []⟩, ⟨0, ⟨(some 15), none, (.pure .id), [(.tmp 7)]⟩, []⟩, ⟨0, ⟨(some 16), none, (.pure .id), [(.tmp 1)]⟩, []⟩, ⟨0, ⟨(some 17), none, (.pure (.bin .mul .none)), [(.const (.int .i64 2)), (.tmp 16)]⟩, []⟩, ⟨0, ⟨(some 18), none, (.pure (.bin .rem .none)), [(.tmp 15), (.tmp 17)]⟩, []⟩, ⟨0, ⟨(some 19), none, (.pure .id), [(.tmp 1)]⟩, []⟩, ⟨0, ⟨(some 20), none, (.pure (.bin .mul .none)), [(.const (.int .i64 2)), (.tmp 19)]⟩, []⟩, ⟨0, ⟨(some 21), none, (.pure (.bin .add .none)), [(.tmp 18), (.tmp 20)]⟩, []⟩, ⟨0, ⟨(some 22), none, (.pure .id), [(.tmp 1)]⟩, []⟩, ⟨0, ⟨(some 23), none, (.pure (.bin .mul .none)), [(.const (.int .i64 2)), (.tmp 22)]⟩, []⟩, ⟨0, ⟨(some 24), none, (.pure (.bin .rem .none)), [(.tmp 21), (.tmp 23)]⟩, []⟩, ⟨0, ⟨(some 25), none, (.new (.bslice 1 [(.int .i64 0)] 1 [(0, 1)])), [(.tmp 24)]⟩, []⟩, ⟨0, ⟨(some 26), none, (.imp (.append 1 8)), [(.tmp 14), (.tmp 25)]⟩, []⟩, ⟨0, ⟨(some 5), none, (.pure .id), [(.tmp 26)]⟩, []⟩]))) (.region [⟨0, ⟨(some 27), none, (.pure (.bin .add .none)), [(.tmp 10), (.const (.int .i64 1))]⟩, []⟩, ⟨0, ⟨(some 10), none, (.pure .id), [(.tmp 27)]⟩, []⟩]))))))) (.seq (.region [⟨0, ⟨(some 28), none, (.pure .id), [(.tmp 5)]⟩, []⟩, ⟨0, ⟨(some 4), none, (.pure .id), [(.tmp 28)]⟩, []⟩]) .ret))))⟩
theorem c_skolemlaw06_fit : compF Tryz.prog Tryz.f49 = some G_skolemlaw06_fit := by kernel_rfl
theorem gc_skolemlaw06_fit {args : List DV} {σ : GS} {Post : DV → GS → Prop} (h : @exB Tryz.prog ⟨G_skolemlaw06_fit.body⟩ (genv0 args G_skolemlaw06_fit.ntmps) σ ⟨@gretB G_skolemlaw06_fit.results ⟨Post⟩⟩) : GCall Tryz.prog F_skolemlaw06_fit args σ Post := gcall_ofB seatfollows Tryz.func49 (by kernel_rfl) c_skolemlaw06_fit h
noncomputable abbrev G_skolemlaw06_has : GFun := ⟨18, [(.tmp 4)], (.seq (.region [⟨0, ⟨(some 4), none, (.pure .id), [(.const (.bool false))]⟩, []⟩]) (.seq (.seq (.region [⟨0, ⟨(some 7), none, (.pure .id), [(.tmp 0)]⟩, []⟩, ⟨0, ⟨(some 8), none, (.pure .len), [(.tmp 7)]⟩, []⟩, ⟨0, ⟨(some 9), none, (.pure .id), [(.const (.int .i64 0))]⟩, []⟩]) (.block 0 (.loop (.seq (.region [⟨0, ⟨(some 10), none, (.pure (.bin .lss .none)), [(.tmp 9), (.tmp 8)]⟩, []⟩]) (.seq (.cond (.tmp 10) .skip (.exit 0)) (.seq (.block 1 (.seq (.region [⟨0, ⟨(some 11), none, (.pure (.iaddr 2)), [(.tmp 7), (.tmp 9)]⟩, []⟩, ⟨0, ⟨(some 12), none, (.load (.load 2 true)), [(.tmp 11)]⟩, []⟩, ⟨0, ⟨(some 6), none, (.new (.alloc [(.int .i64 0), (.int .i64 0)])), []⟩, []⟩, ⟨0, ⟨none, none, (.imp (.store 2)), [(.tmp 6), (.tmp 12)]⟩, []⟩]) (.seq (.region [⟨0, ⟨(some 13), none, (.pure (.faddr 0)), [(.tmp 6)]⟩, []⟩, ⟨0, ⟨(some 14), none, (.load (.load 1 false)), [(.tmp 13)]⟩, []⟩, ⟨0, ⟨(some 15), none, (.pure .id), [(.tmp 1)]⟩, []⟩, ⟨0, ⟨(some 16), none, (.pure (.bin .eql .none)), [(.tmp 14), (.tmp 15)]⟩, []⟩]) (.cond (.tmp 16) (.seq (.region [⟨0, ⟨(some 4), none, (.pure .id), [(.const (.bool true))]⟩, []⟩]) .ret) .skip)))) (.region [⟨0, ⟨(some 17), none, (.pure (.bin .add .none)), [(.tmp 9), (.const (.int .i64 1))]⟩, []⟩, ⟨0, ⟨(some 9), none, (.pure .id), [(.tmp 17)]⟩, []⟩]))))))) (.seq (.region [⟨0, ⟨(some 4), none, (.pure .id), [(.const (.bool false))]⟩, []⟩]) .ret)))⟩
theorem c_skolemlaw06_has : compF Tryz.prog Tryz.f54 = some G_skolemlaw06_has := by kernel_rfl
theorem gc_skolemlaw06_has {args : List DV} {σ : GS} {Post : DV → GS → Prop} (h : @exB Tryz.prog ⟨G_skolemlaw06_has.body⟩ (genv0 args G_skolemlaw06_has.ntmps) σ ⟨@gretB G_skolemlaw06_has.results ⟨Post⟩⟩) : GCall Tryz.prog F_skolemlaw06_has args σ Post := gcall_ofB seatfollows Tryz.func54 (by kernel_rfl) c_skolemlaw06_has h
noncomputable abbrev G_skolemlaw06_merged : GFun := ⟨58, [(.tmp 2)], (.seq (.region [⟨0, ⟨(some 2), none, (.pure .id), [(.const .nils)]⟩, []⟩]) (.seq (.region [⟨0, ⟨(some 3), none, (.pure .id), [(.const .nils)]⟩, []⟩]) (.seq (.seq (.region [⟨0, ⟨(some 8), none, (.pure .id), [(.tmp 0)]⟩, []⟩, ⟨0, ⟨(some 9), none, (.pure .len), [(.tmp 8)]⟩, []⟩, ⟨0, ⟨(some 10), none, (.pure .id), [(.const (.int .i64 0))]⟩, []⟩]) (.block 0 (.loop (.seq (.region [⟨0, ⟨(some 11), none, (.pure (.bin .lss .none)), [(.tmp 10), (.tmp 9)]⟩, []⟩]) (.seq (.cond (.tmp 11) .skip (.exit 0)) (.seq (.block 1 (.seq (.region [⟨0, ⟨(some 12), none, (.pure (.iaddr 1)), [(.tmp 8), (.tmp 10)]⟩, []⟩, ⟨0, ⟨(some 13), none, (.load (.load 1 false)), [(.tmp 12)]⟩, []⟩, ⟨0, ⟨(some 5), none, (.pure .id), [(.tmp 13)]⟩, []⟩]) (.seq (.region [⟨0, ⟨(some 14), none, (.pure .id), [(.tmp 5)]⟩, []⟩, ⟨0, ⟨(some 15), none, (.call F_skolemref05_Abs), [(.tmp 14)]⟩, []⟩, ⟨0, ⟨(some 6), none, (.pure .id), [(.tmp 15)]⟩, []⟩]) (.seq (.region [⟨0, ⟨(some 7), none, (.pure .id), [(.const (.int .i64 0))]⟩, []⟩]) (.seq (.block 2 (.loop (.seq (.seq (.region [⟨0, ⟨(some 16), none, (.pure .id), [(.tmp 7)]⟩, []⟩, ⟨0, ⟨(some 17), none, (.pure .id), [(.tmp 3)]⟩, []⟩, ⟨0, ⟨(some 18), none, (.pure .len), [(.tmp 17)]⟩, []⟩, ⟨0, ⟨(some 19), none, (.pure (.bin .lss .none)), [(.tmp 16), (.tmp 18)]⟩, []⟩, ⟨0, ⟨(some 20), none, (.pure .id), [(.tmp 19)]⟩, []⟩, ⟨0, ⟨(some 21), (some (20, true)), (.pure .id), [(.tmp 3)]⟩, []⟩, ⟨0, ⟨(some 22), (some (20, true)), (.pure .id), [(.tmp 7)]⟩, []⟩, ⟨0, ⟨(some 23), (some (20, true)), (.pure (.iaddr 1)), [(.tmp 21), (.tmp 22)]⟩, []⟩, ⟨0, ⟨(some 24), (some (20, true)), (.load (.load 1 false)), [(.tmp 23)]⟩, []⟩, ⟨0, ⟨(some 25), (some (20, true)), (.call F_skolemref05_Abs), [(.tmp 24)]⟩, []⟩, ⟨0, ⟨(some 26), (some (20, true)), (.pure .id), [(.tmp 6)]⟩, []⟩, ⟨0, ⟨(some 27), (some (20, true)), (.pure (.bin .lss .none)), [(.tmp 25), (.tmp 26)]⟩, []⟩, ⟨0, ⟨(some 28), none, (.pure .pick), [(.tmp 20), (.tmp 27), (.const (.bool false))]⟩, []⟩]) (.cond (.tmp 28) .skip (.exit 2))) (.block 3 (.region [⟨0, ⟨(some 29), none, (.pure .id), [(.tmp 7)]⟩, []⟩, ⟨0, ⟨(some 30), none, (.pure (.bin .add .none)), [(.tmp 29), (.const (.int .i64 1))]⟩, []⟩, ⟨0, ⟨(some 7), none, (.pure .id), [(.tmp 30)]⟩, []⟩]))))) (.seq (.seq (.region [⟨0, ⟨(some 31), none, (.pure .id), [(.tmp 7)]⟩, []⟩, ⟨0, ⟨(some 32), none, (.pure .id), [(.tmp 3)]⟩, []⟩, ⟨0, ⟨(some 33), none, (.pure .len), [(.tmp 32)]⟩, []⟩, ⟨0, ⟨(some 34), none, (.pure (.bin .lss .none)), [(.tmp 31), (.tmp 33)]⟩, []⟩, ⟨0, ⟨(some 35), none, (.pure .id), [(.tmp 34)]⟩, []⟩, ⟨0, ⟨(some 36), (some (35, true)), (.pure .id), [(.tmp 3)]⟩, []⟩, ⟨0, ⟨(some 37), (some (35, true)), (.pure .id), [(.tmp 7)]⟩, []⟩, ⟨0, ⟨(some 38), (some (35, true)), (.pure (.iaddr 1)), [(.tmp 36), (.tmp 37)]⟩, []⟩, ⟨0, ⟨(some 39), (some (35, true)), (.load (.load 1 false)), [(.tmp 38)]⟩, []⟩, ⟨0, ⟨(some 40), (some (35, true)), (.call F_skolemref05_Abs), [(.tmp 39)]⟩, []⟩, ⟨0, ⟨(some 41), (some (35, true)), (.pure .id), [(.tmp 6)]⟩, []⟩, ⟨0, ⟨(some 42), (some (35, true)), (.pure (.bin .eql .none)), [(.tmp 40), (.tmp 41)]⟩, []⟩, ⟨0, ⟨(some 43), none, (.pure .pick), [(.tmp 35), (.tmp 42), (.const (.bool false))]⟩, []⟩]) (.cond (.tmp 43) (.exit 1) .skip)) (.region [⟨0, ⟨(some 44), none, (.new (.bslice 1 [(.int .i64 0)] 0 [])), []⟩, []⟩, ⟨1, ⟨(some 45), none, (.pure .id), [(.tmp 3)]⟩, []⟩, ⟨2, ⟨(some 46), none, (.pure .id), [(.tmp 7)]⟩, []⟩, ⟨3, ⟨(some 47), none, (.pure (.slice 1 false true false)), [(.tmp 45), (.tmp 46)]⟩, []⟩, ⟨5, ⟨(some 49), none, (.pure .id), [(.tmp 5)]⟩, []⟩, ⟨6, ⟨(some 50), none, (.new (.bslice 1 [(.int .i64 0)] 1 [(0, 1)])), [(.tmp 49)]⟩, []⟩, ⟨8, ⟨(some 52), none, (.pure .id), [(.tmp 3)]⟩, []⟩, ⟨9, ⟨(some 53), none, (.pure .id), [(.tmp 7)]⟩, []⟩, ⟨10, ⟨(some 54), none, (.pure (.slice 1 true false false)), [(.tmp 52), (.tmp 53)]⟩, []⟩, ⟨4, ⟨(some 48), none, (.imp (.append 1 8)), [(.tmp 44), (.tmp 47)]⟩, [⟨(some 50), none, (.new (.bslice 1 [(.int .i64 0)] 1 [(0, 1)])), [(.tmp 49)]⟩]⟩, ⟨7, ⟨(some 51), none, (.imp (.append 1 8)), [(.tmp 48), (.tmp 50)]⟩, []⟩, ⟨11, ⟨(some 55), none, (.imp (.append 1 8)), [(.tmp 51), (.tmp 54)]⟩, []⟩, ⟨12, ⟨(some 3), none, (.pure .id), [(.tmp 55)]⟩, []⟩]))))))) (.region [⟨0, ⟨(some 56), none, (.pure (.bin .add .none)), [(.tmp 10), (.const (.int .i64 1))]⟩, []⟩, ⟨0, ⟨(some 10), none, (.pure .id), [(.tmp 56)]⟩, []⟩]))))))) (.seq (.region [⟨0, ⟨(some 57), none, (.pure .id), [(.tmp 3)]⟩, []⟩, ⟨0, ⟨(some 2), none, (.pure .id), [(.tmp 57)]⟩, []⟩]) .ret))))⟩
theorem c_skolemlaw06_merged : compF Tryz.prog Tryz.f52 = some G_skolemlaw06_merged := by kernel_rfl
theorem gc_skolemlaw06_merged {args : List DV} {σ : GS} {Post : DV → GS → Prop} (h : @exB Tryz.prog ⟨G_skolemlaw06_merged.body⟩ (genv0 args G_skolemlaw06_merged.ntmps) σ ⟨@gretB G_skolemlaw06_merged.results ⟨Post⟩⟩) : GCall Tryz.prog F_skolemlaw06_merged args σ Post := gcall_ofB seatfollows Tryz.func52 (by kernel_rfl) c_skolemlaw06_merged h
noncomputable abbrev G_skolemlaw06_equal : GFun := ⟨42, [(.tmp 12)], (.seq (.region [⟨0, ⟨(some 6), none, (.new .box), [(.tmp 0)]⟩, []⟩, ⟨0, ⟨(some 9), none, (.new .box), [(.tmp 3)]⟩, []⟩, ⟨0, ⟨(some 12), none, (.pure .id), [(.const (.bool false))]⟩, []⟩]) (.seq (.region [⟨0, ⟨(some 18), none, (.load (.load 2 true)), [(.tmp 6)]⟩, []⟩, ⟨0, ⟨(some 19), none, (.pure .id), [(.tmp 1)]⟩, []⟩, ⟨0, ⟨(some 20), none, (.pure .id), [(.tmp 2)]⟩, []⟩, ⟨0, ⟨(some 21), none, (.call F_aig_Eval), [(.tmp 18), (.tmp 19), (.tmp 20)]⟩, []⟩, ⟨0, ⟨(some 17), none, (.pure .id), [(.tmp 21)]⟩, []⟩, ⟨0, ⟨(some 22), none, (.pure (.extract 0)), [(.tmp 17)]⟩, []⟩, ⟨0, ⟨(some 23), none, (.pure (.extract 1)), [(.tmp 17)]⟩, []⟩, ⟨0, ⟨(some 13), none, (.pure .id), [(.tmp 22)]⟩, []⟩, ⟨0, ⟨(some 14), none, (.pure .id), [(.tmp 23)]⟩, []⟩]) (.seq (.region [⟨0, ⟨(some 25), none, (.load (.load 2 true)), [(.tmp 9)]⟩, []⟩, ⟨0, ⟨(some 26), none, (.pure .id), [(.tmp 4)]⟩, []⟩, ⟨0, ⟨(some 27), none, (.pure .id), [(.tmp 5)]⟩, []⟩, ⟨0, ⟨(some 28), none, (.call F_aig_Eval), [(.tmp 25), (.tmp 26), (.tmp 27)]⟩, []⟩, ⟨0, ⟨(some 24), none, (.pure .id), [(.tmp 28)]⟩, []⟩, ⟨0, ⟨(some 29), none, (.pure (.extract 0)), [(.tmp 24)]⟩, []⟩, ⟨0, ⟨(some 30), none, (.pure (.extract 1)), [(.tmp 24)]⟩, []⟩, ⟨0, ⟨(some 15), none, (.pure .id), [(.tmp 29)]⟩, []⟩, ⟨0, ⟨(some 16), none, (.pure .id), [(.tmp 30)]⟩, []⟩]) (.seq (.region [⟨0, ⟨(some 31), none, (.pure .id), [(.tmp 14)]⟩, []⟩, ⟨0, ⟨(some 32), none, (.pure (.bin .eql .none)), [(.tmp 31), (.const (.int .i64 0))]⟩, []⟩, ⟨0, ⟨(some 33), none, (.pure .id), [(.tmp 32)]⟩, []⟩, ⟨0, ⟨(some 34), (some (33, true)), (.pure .id), [(.tmp 16)]⟩, []⟩, ⟨0, ⟨(some 35), (some (33, true)), (.pure (.bin .eql .none)), [(.tmp 34), (.const (.int .i64 0))]⟩, []⟩, ⟨0, ⟨(some 36), none, (.pure .pick), [(.tmp 33), (.tmp 35), (.const (.bool false))]⟩, []⟩, ⟨0, ⟨(some 37), none, (.pure .id), [(.tmp 36)]⟩, []⟩, ⟨0, ⟨(some 38), (some (37, true)), (.pure .id), [(.tmp 13)]⟩, []⟩, ⟨0, ⟨(some 39), (some (37, true)), (.pure .id), [(.tmp 15)]⟩, []⟩, ⟨0, ⟨(some 40), (some (37, true)), (.pure (.bin .eql .bool)), [(.tmp 38), (.tmp 39)]⟩, []⟩, ⟨0, ⟨(some 41), none, (.pure .pick), [(.tmp 37), (.tmp 40), (.const (.bool false))]⟩, []⟩, ⟨0, ⟨(some 12), none, (.pure .id), [(.tmp 41)]⟩, []⟩]) .ret))))⟩
theorem c_skolemlaw06_equal : compF Tryz.prog Tryz.f51 = some G_skolemlaw06_equal := by kernel_rfl
theorem gc_skolemlaw06_equal {args : List DV} {σ : GS} {Post : DV → GS → Prop} (h : @exB Tryz.prog ⟨G_skolemlaw06_equal.body⟩ (genv0 args G_skolemlaw06_equal.ntmps) σ ⟨@gretB G_skolemlaw06_equal.results ⟨Post⟩⟩) : GCall Tryz.prog F_skolemlaw06_equal args σ Post := gcall_ofB seatfollows Tryz.func51 (by kernel_rfl) c_skolemlaw06_equal h
end Go.Gh
namespace Go.Gh
open Go.RowKit Go.Proofs
set_option linter.unusedVariables false
set_option linter.unusedSimpArgs false
set_option maxRecDepth 100000
/-- How many are true. -/
def cntB (l : List Bool) : Nat := (l.filter id).length
def AigP.size (g : AigP) (l : List Int) : Int × Int := if g.all l = true then (cntB ((g.reach l).drop (1 + g.ins.length)), 0) else (0, 2)
/-- Could a maker have made these Ands, behind others? -/
def redOk : List (Int × Int) → List (Int × Int) → Bool
  | _, [] => true
  | pre, p :: l => !(decide (p.1 < 2) || decide (p.2 ≤ p.1) || decide (notE p.1 = p.2) || pre.contains p) && redOk (pre ++ [p]) l
def AigP.reduced (g : AigP) : Bool := redOk [] g.ands && g.may
theorem ref_Reduced_ok {g : AigP} {σ : GS} {Post : DV → GS → Prop} (hs : g.Sm) (h : Post (.bool g.reduced) σ) : GCall Tryz.prog F_skolemref06_Reduced [g.enc] σ Post := by
  refine GCall.say (r := .bool g.reduced) ?_ rfl h
  have h2 := hs.ands
  refine gc_skolemref06_Reduced ?_
  simp [G_skolemref06_Reduced, genv0, List.replicate]
  refine ref_May_ok hs ?_
  by_cases hm : g.may = true
  rotate_left
  · simp [hm]
    unfold AigP.reduced; rw [Bool.eq_false_iff.2 hm]; simp
  have hnn := AigP.may_nodes hm
  have hn : g.nodes = 1 + g.ins.length + g.ands.length := rfl
  have hok : ∀ {i : Nat} {p : Int × Int}, g.ands[i]? = some p → _ := fun {i p} h => andsOk_get (AigP.may_ands hm) (i := i) (p := p) h
  have hands : andsOk (2 * (1 + g.ins.length)) g.ands = true := by have := AigP.may_ands hm; rwa [show (2 * ((1 + g.ins.length : Nat) : Int)) = 2 * (1 + (g.ins.length : Int)) by omega] at this
  simp [hm]
  refine gfor g.ands.length (fun i e σ' => σ' = σ ++ [.row false [fints g.ins, fands g.ands]] ∧ redOk [] g.ands = redOk (g.ands.take i) (g.ands.drop i) ∧ e = mkEnv 49 [(1, .ptr σ.length 0), (3, .int .i64 i)]) _ ?_ ⟨rfl, by simp, rfl⟩ ?_
  · simp [mkEnv, List.replicate]
  rintro i _ _ hi ⟨rfl, hI, rfl⟩
  simp [mkEnv, List.replicate]
  by_cases hlt : i < g.ands.length
  · obtain ⟨p, hp⟩ := nth_lt hlt
    have hp' := nth_get hp
    obtain ⟨p1, p2, p3, p4⟩ := hok hp'
    rw [drop_get hp'] at hI
    have es : IntKind.i64.wrap ((i : Int) + 1) = (i : Int) + 1 := by rw [wrap_small] <;> omega
    simp only [redOk] at hI
    obtain ⟨pre, hpre⟩ : ∃ pre, g.ands.take i = pre := ⟨_, rfl⟩
    rw [hpre] at hI
    have bad : (decide (p.1 < 2) || decide (p.2 ≤ p.1) || decide (notE p.1 = p.2) || pre.contains p) = true → g.reduced = false := fun hb => by
      unfold AigP.reduced; rw [hI, hb]; rfl
    simp [hlt, hp]
    by_cases c1 : p.1 < 2
    · simp [c1]
      first | exact (bad (by simp [c1])).symm | exact bad (by simp [c1])
    simp [c1]
    by_cases c2 : p.2 ≤ p.1
    · simp [c2]
      first | exact (bad (by simp [c2])).symm | exact bad (by simp [c2])
    simp [c2]
    refine ref_Not_ok p1 (by omega) ?_
    by_cases c3 : notE p.1 = p.2
    · simp [c3]
      first | exact (bad (by simp [c3])).symm | exact bad (by simp [c3])
    simp [c3]
    refine ref_find_ok hs hands p2 (by omega) ?_
    have hpe : ((p.1, p.2) : Int × Int) = p := rfl
    rw [hpe]
    by_cases c4 : pre.contains p = true
    · have hne : ¬ idxF (fun q => decide (q = p)) 0 g.ands = (i : Int) := fun e => by
        have hmem := List.contains_iff_mem.1 c4
        rw [← hpre] at hmem
        obtain ⟨j, hj⟩ := List.mem_iff_getElem?.1 hmem
        rw [List.getElem?_take] at hj
        split at hj
        · rename_i hji
          rcases idxF_cases (fun q => decide (q = p)) g.ands 0 with ⟨h1, _⟩ | ⟨k, x, h1, h3, h4, h5⟩
          · omega
          · rw [h1] at e
            have hk : k = i := by omega
            have := h5 j p (by omega) hj
            simp at this
        · cases hj
      simp [hne]
      first | exact (bad (by rw [c4]; simp)).symm | exact bad (by rw [c4]; simp)
    · have heq : idxF (fun q => decide (q = p)) 0 g.ands = (i : Int) := by
        rcases idxF_cases (fun q => decide (q = p)) g.ands 0 with ⟨h1, h3⟩ | ⟨k, x, h1, h3, h4, h5⟩
        · have := h3 p (List.mem_of_getElem? hp'); simp at this
        · simp at h4; subst h4
          rcases Nat.lt_trichotomy k i with hk | hk | hk
          · exfalso
            refine c4 (List.contains_iff_mem.2 ?_)
            rw [← hpre]
            exact List.mem_of_getElem? (i := k) (by rw [List.getElem?_take, if_pos hk]; exact h3)
          · rw [h1, hk]; omega
          · have := h5 i x hk hp'; simp at this
      simp [heq, es]
      refine forK_go _ hlt (by simp [mkEnv, List.replicate]) ⟨rfl, ?_, rfl⟩
      rw [hI, take_get hp', hpre]
      have : (decide (p.1 < 2) || decide (p.2 ≤ p.1) || decide (notE p.1 = p.2) || pre.contains p) = false := by
        rw [Bool.eq_false_iff.2 c4]; simp [c1, c2, c3]
      rw [this]; rfl
  · have : i = g.ands.length := by omega
    subst this
    rw [List.drop_length] at hI
    simp
    unfold AigP.reduced
    rw [hI, hm]; rfl
theorem great_two {g k : AigP} {id : Nat} {cap : Option Nat} {σ : GS} {Post : DV → GS → Prop} (hr : σ[id]? = some (.row false (eaig g ++ eaig k))) (h : Post (.bool (g.great || k.great)) σ) : GCall Tryz.prog F_skolemlaw06_great [.slice id 0 2 2 cap] σ Post := by
  have hrd := Rd.slice (σ := σ) (ok := fun _ => True) (id := id) (off := 0) (sz := 2) (cap := cap) (es := [eaig g, eaig k]) trivial hr (by simp) (fun e he => by simp at he; rcases he with rfl | rfl <;> rfl) (by simp; exact Rds.refl _)
  refine GCall.borrow (args' := [.fsl 2 ([g, k].map eaig)]) (r := .bool (g.great || k.great)) (.cons hrd .nil) ?_ rfl ?_ h
  · have h1 : closedss (g.ins.map eint) = true := closed_fints g.ins
    have h2 : closedss (g.ands.map eand) = true := closed_fands g.ands
    have h3 : closedss (k.ins.map eint) = true := closed_fints k.ins
    have h4 : closedss (k.ands.map eand) = true := closed_fands k.ands
    simp only [closeds, DV.closed, List.map_cons, List.map_nil, closedss]
    rw [h1, h2, h3, h4]; rfl
  · exact great_ok (gs := [g, k]) (by simp) (by simp)
end Go.Gh
namespace Go.Gh
open Go.RowKit Go.Sort Go.Shelf Go.Proofs
set_option linter.unusedVariables false
set_option linter.unusedSimpArgs false
abbrev F_Sort : FuncId := 103
def sort_ren : Go.Shelf.Ren := ⟨fun | 189 => 103 | 125 => 163 | 257 => 162 | 128 => 185 | 129 => 186 | 294 => 176 | 295 => 177 | 296 => 178 | 297 => 179 | 298 => 180 | 299 => 181 | 216 => 182 | 300 => 183 | 301 => 184 | 328 => 192 | 329 => 193 | 330 => 194 | 331 => 195 | 332 => 196 | 215 => 197 | 343 => 198 | n => n, fun | 28 => 22 | 3 => 3 | 46 => 164 | 0 => 0 | 51 => 195 | 53 => 197 | 4 => 4 | 183 => 188 | 182 => 187 | 131 => 120 | 5 => 5 | 9 => 9 | 218 => 199 | 222 => 203 | 228 => 205 | 229 => 44 | n => n, fun | n => n⟩
theorem sort_lays : Go.Proofs.Lays.n189 Tryz.prog sort_ren := {
  mixed := by kernel_rfl
  f125 := Tryz.func163.trans (congrArg some (by kernel_rfl))
  f128 := Tryz.func185.trans (congrArg some (by kernel_rfl))
  f129 := Tryz.func186.trans (congrArg some (by kernel_rfl))
  f189 := Tryz.func103.trans (congrArg some (by kernel_rfl))
  f215 := Tryz.func197.trans (congrArg some (by kernel_rfl))
  f216 := Tryz.func182.trans (congrArg some (by kernel_rfl))
  f257 := Tryz.func162.trans (congrArg some (by kernel_rfl))
  f294 := Tryz.func176.trans (congrArg some (by kernel_rfl))
  f295 := Tryz.func177.trans (congrArg some (by kernel_rfl))
  f296 := Tryz.func178.trans (congrArg some (by kernel_rfl))
  f297 := Tryz.func179.trans (congrArg some (by kernel_rfl))
  f298 := Tryz.func180.trans (congrArg some (by kernel_rfl))
  f299 := Tryz.func181.trans (congrArg some (by kernel_rfl))
  f300 := Tryz.func183.trans (congrArg some (by kernel_rfl))
  f301 := Tryz.func184.trans (congrArg some (by kernel_rfl))
  f328 := Tryz.func192.trans (congrArg some (by kernel_rfl))
  f329 := Tryz.func193.trans (congrArg some (by kernel_rfl))
  f330 := Tryz.func194.trans (congrArg some (by kernel_rfl))
  f331 := Tryz.func195.trans (congrArg some (by kernel_rfl))
  f332 := Tryz.func196.trans (congrArg some (by kernel_rfl))
  f343 := Tryz.func198.trans (congrArg some (by kernel_rfl))
  t0 := Tryz.underlying0
  a0 := Tryz.isAgg0
  z0 := Tryz.sizeOf0
  v0 := Tryz.zeroValue0
  t3 := Tryz.underlying3
  a3 := Tryz.isAgg3
  z3 := Tryz.sizeOf3
  v3 := Tryz.zeroValue3
  t4 := Tryz.underlying4
  a4 := Tryz.isAgg4
  z4 := Tryz.sizeOf4
  v4 := Tryz.zeroValue4
  t5 := Tryz.underlying5
  a5 := Tryz.isAgg5
  z5 := Tryz.sizeOf5
  v5 := Tryz.zeroValue5
  t9 := Tryz.underlying9
  a9 := Tryz.isAgg9
  z9 := Tryz.sizeOf9
  v9 := Tryz.zeroValue9
  t28 := Tryz.underlying22
  a28 := Tryz.isAgg22
  z28 := Tryz.sizeOf22
  v28 := Tryz.zeroValue22
  t46 := Tryz.underlying164
  a46 := Tryz.isAgg164
  z46 := Tryz.sizeOf164
  v46 := Tryz.zeroValue164
  t51 := Tryz.underlying195
  a51 := Tryz.isAgg195
  z51 := Tryz.sizeOf195
  v51 := Tryz.zeroValue195
  t53 := Tryz.underlying197
  a53 := Tryz.isAgg197
  z53 := Tryz.sizeOf197
  v53 := Tryz.zeroValue197
  t131 := Tryz.underlying120
  a131 := Tryz.isAgg120
  z131 := Tryz.sizeOf120
  v131 := Tryz.zeroValue120
  t182 := Tryz.underlying187
  a182 := Tryz.isAgg187
  z182 := Tryz.sizeOf187
  v182 := Tryz.zeroValue187
  t183 := Tryz.underlying188
  a183 := Tryz.isAgg188
  z183 := Tryz.sizeOf188
  v183 := Tryz.zeroValue188
  t218 := Tryz.underlying199
  a218 := Tryz.isAgg199
  z218 := Tryz.sizeOf199
  v218 := Tryz.zeroValue199
  t222 := Tryz.underlying203
  a222 := Tryz.isAgg203
  z222 := Tryz.sizeOf203
  v222 := Tryz.zeroValue203
  t228 := Tryz.underlying205
  a228 := Tryz.isAgg205
  z228 := Tryz.sizeOf205
  v228 := Tryz.zeroValue205
  t229 := Tryz.underlying44
  a229 := Tryz.isAgg44
  z229 := Tryz.sizeOf44
  v229 := Tryz.zeroValue44 }
theorem sortC : SortC Tryz.prog F_Sort :=
  ⟨fun blk off cap zs w h1 h2 h3 => Any.slices_Sort_int sort_lays blk off cap zs w h1 h2 h3, fun p cap w => Any.slices_Sort_int_none sort_lays p cap w⟩
theorem sortX : ∃ fn, Tryz.prog.funcs[F_Sort]? = some fn ∧ (fn.name == "runtime.NumGoroutine") = false ∧ fn.body.isSome = true :=
  ⟨Tryz.f103, Tryz.func103, by decide, rfl⟩
end Go.Gh
namespace Go.Gh
open Go.RowKit Go.Proofs
set_option linter.unusedVariables false
set_option linter.unusedSimpArgs false
set_option maxRecDepth 100000
@[simp] theorem gp_cap_nils : gpure .cap [.nils] = some (.int .i64 0) := rfl
def NoCap : DV → Prop
  | .slice _ _ _ _ (some _) => False
  | _ => True
theorem append_nocap {sz b : Nat} {s x s' : DV} {σ σ' : GS} (hs : NoCap s) (h : gimp (.append sz b) [s, x] σ = some (s', σ')) : NoCap s' := by
  simp only [gimp, gappend] at h
  split at h
  · cases h
  rename_i new hr
  cases s with
  | slice id off len sz' cap =>
    cases cap with
    | some c => exact absurd hs (by simp [NoCap])
    | none =>
      simp only at h
      split at h
      · cases h; exact hs
      split at h
      · split at h
        · split at h
          · cases h; exact trivial
          · cases h
        · cases h
      · cases h
  | nils =>
    simp only at h
    split at h
    · cases h; exact hs
    split at h
    · cases h; exact trivial
    · cases h
  | fsl z es =>
    simp only at h
    split at h
    · cases h; exact hs
    · cases h
  | _ => simp at h
theorem slices_Grow_ok {n : Nat} {σ : GS} {Post : DV → GS → Prop} (hn : n < 2 ^ 40) (k : ∀ s σ', Own σ.length 1 eint σ' s [] → Fr σ.length σ σ' → NoCap s → Post s σ') : GCall Tryz.prog F_slices_Grow_int_int [.nils, .int .i64 n] σ Post := by
  refine gc_slices_Grow_int_int ?_
  have ew : IntKind.i64.wrap (n : Int) = n := by rw [wrap_small] <;> omega
  by_cases h0 : n = 0
  · subst h0
    simp [G_slices_Grow_int_int, genv0, List.replicate]
    exact k _ _ .nil .rfl' trivial
  · have hneg : ¬ ((n : Int) < 0) := by omega
    have hpos : (0 : Int) < n := by omega
    have haz : gimp (.appendz 1 8 [.int .i64 0]) [.nils, .int .i64 n] σ = some (.slice σ.length 0 n 1 none, σ ++ [.row false (List.replicate n (.int .i64 0))]) := by
      have hg : growOk n 8 = true := by simp [growOk]; omega
      simp [gimp, h0, hpos, hg, gzeros]
    have hs0 : gpure (.slice 1 false true false) [.nils, .int .i64 0] = some .nils := rfl
    have hsl : gpure (.slice 1 false true false) [.slice σ.length 0 n 1 none, .int .i64 0] = some (.slice σ.length 0 0 1 none) := by
      simp [gpure, gslice, gbm, gbh, gbl, gbound]
    simp [G_slices_Grow_int_int, genv0, List.replicate, ew, hneg, hpos, (show 0 < n by omega), hs0, haz, hsl]
    exact k _ _ (.inr ⟨σ.length, none, List.replicate n (.int .i64 0), Nat.le_refl _, rfl, by simp, by simp⟩) (Fr.self [.row false (List.replicate n (.int .i64 0))]) trivial
theorem slices_Concat_ok {a b : List Int} {id : Nat} {cap : Option Nat} {σ : GS} {Post : DV → GS → Prop} (ha : a.length < 2 ^ 30) (hb : b.length < 2 ^ 30) (hr : σ[id]? = some (.row false [fints a, fints b]))
    (k : ∀ s σ', Own σ.length 1 eint σ' s (a ++ b) → Fr σ.length σ σ' → NoCap s → Post s σ') : GCall Tryz.prog F_slices_Concat_int_int [.slice id 0 2 1 cap] σ Post := by
  refine gc_slices_Concat_int_int ?_
  have hid := get_dom hr
  have ld0 : ∀ τ : GS, Fr σ.length σ τ → gload (.load 1 false) [.ptr id 0] τ = some (fints a) ∧ gload (.load 1 false) [.ptr id 1] τ = some (fints b) := fun τ h => by
    have := (h.get _ hid).trans hr
    exact ⟨ld_at this, ld_at this⟩
  obtain ⟨l0, l1⟩ := ld0 σ .rfl'
  have ia : ∀ (i : Nat), i < 2 → gpure (.iaddr 1) [.slice id 0 2 1 cap, .int .i64 (i : Int)] = some (.ptr id i) := fun i hi => by
    have := iaddr_own (id := id) (n := 2) (sz := 1) (i := i) (k := .i64) (cap := cap) hi
    simpa using this
  have ia0 := ia 0 (by omega)
  have ia1 := ia 1 (by omega)
  simp at ia0 ia1
  simp [G_slices_Concat_int_int, genv0, List.replicate]
  refine gfor 2 (fun i e σ' => σ' = σ ∧ e = mkEnv 36 [(0, .slice id 0 2 1 cap), (3, .int .i64 (if i = 0 then 0 else if i = 1 then a.length else a.length + b.length)), (9, .slice id 0 2 1 cap), (10, .int .i64 2), (11, .int .i64 i)]) _ ?_ ⟨rfl, rfl⟩ ?_
  · simp [mkEnv, List.replicate]
  rintro i _ σz hi ⟨hσz, rfl⟩
  rw [hσz]
  clear hσz σz
  have ew : IntKind.i64.wrap (a.length : Int) = a.length := by rw [wrap_small] <;> omega
  have ew2 : IntKind.i64.wrap ((a.length : Int) + b.length) = a.length + b.length := by rw [wrap_small] <;> omega
  have n1 : ¬ ((a.length : Int) < 0) := by omega
  have n2 : ¬ ((a.length : Int) + b.length < 0) := by omega
  simp [mkEnv, List.replicate]
  rcases (show i = 0 ∨ i = 1 ∨ i = 2 by omega) with rfl | rfl | rfl
  · simp [ia0, l0, ew, n1]
    exact forK_go _ (by omega) (by simp [mkEnv, List.replicate]) ⟨rfl, rfl⟩
  · simp [ia1, l1, ew2, n2, show IntKind.i64.wrap 2 = 2 from by decide]
    exact forK_go _ (by omega) (by simp [mkEnv, List.replicate]) ⟨rfl, rfl⟩
  · simp
    rw [show ((a.length : Int) + b.length) = ((a.length + b.length : Nat) : Int) by omega]
    refine slices_Grow_ok (by omega) fun s σ1 hO hF hN => ?_
    simp
    have happ : ∀ (τ : GS) (s : DV) (xs ys : List Int), Own σ.length 1 eint τ s xs → Fr σ.length σ τ → NoCap s → xs.length + ys.length < 2 ^ 40 → ∃ s' τ', gimp (.append 1 8) [s, fints ys] τ = some (s', τ') ∧ Own σ.length 1 eint τ' s' (xs ++ ys) ∧ Fr σ.length σ τ' ∧ NoCap s' := fun τ s xs ys hO hF hN hl => by
      obtain ⟨s', τ', q1, q2, q3, q4, _⟩ := hO.append (by_ := 8) (x := fints ys) (ys := ys) (fun _ => rfl) (by simp [gread]; exact flatMap_flatten eint ys) (by simp [glen]) (by simp) hF.len (by omega) (by decide)
      exact ⟨s', τ', q1, q2, hF.trans q3, append_nocap hN q1⟩
    refine gfor 2 (fun i e σ' => ∃ s, e = mkEnv 36 [(6, s), (25, .slice id 0 2 1 cap), (26, .int .i64 2), (27, .int .i64 i)] ∧ Own σ.length 1 eint σ' s (if i = 0 then [] else if i = 1 then a else a ++ b) ∧ Fr σ.length σ σ' ∧ NoCap s) _ ?_ ⟨s, rfl, hO, hF, hN⟩ ?_
    · simp [mkEnv, List.replicate]
    clear hO hF hN s σ1
    rintro i σ1 _ hi ⟨s, rfl, hO, hF, hN⟩
    obtain ⟨l0, l1⟩ := ld0 _ hF
    simp [mkEnv, List.replicate]
    rcases (show i = 0 ∨ i = 1 ∨ i = 2 by omega) with rfl | rfl | rfl
    · obtain ⟨s', τ', q1, q2, q3, q4⟩ := happ _ _ _ a hO hF hN (by simp; omega)
      simp [ia0, l0, q1]
      exact forK_go _ (by omega) (by simp [mkEnv, List.replicate]) ⟨s', rfl, by simpa using q2, q3, q4⟩
    · obtain ⟨s', τ', q1, q2, q3, q4⟩ := happ _ _ _ b hO hF hN (by simp; omega)
      simp [ia1, l1, q1, show IntKind.i64.wrap 2 = 2 from by decide]
      exact forK_go _ (by omega) (by simp [mkEnv, List.replicate]) ⟨s', rfl, by simpa using q2, q3, q4⟩
    · simp
      exact k _ _ (by simpa using hO) hF hN
end Go.Gh
namespace Go.Gh
open Go.RowKit Go.Proofs
set_option linter.unusedVariables false
set_option linter.unusedSimpArgs false
set_option maxRecDepth 100000
theorem compact_snoc (x y : Int) : ∀ l : List Int, compactI (l ++ [x, y]) = if x = y then compactI (l ++ [x]) else compactI (l ++ [x]) ++ [y] := by
  by_cases h : x = y
  · subst h
    intro l
    rw [if_pos rfl]
    induction l with
    | nil => simp [compactI]
    | cons a l ih =>
      cases l with
      | nil => simp [compactI]
      | cons b l =>
        simp only [List.cons_append, compactI] at ih ⊢
        rw [ih]
  · intro l
    rw [if_neg h]
    induction l with
    | nil => simp [compactI, h]
    | cons a l ih =>
      cases l with
      | nil =>
        simp only [List.cons_append, List.nil_append, compactI, if_neg h]
        split <;> rfl
      | cons b l =>
        simp only [List.cons_append, compactI] at ih ⊢
        rw [ih]
        split <;> rfl
theorem compact_take {xs : List Int} {m : Nat} {x y : Int} (hx : xs[m]? = some x) (hy : xs[m + 1]? = some y) : compactI (xs.take (m + 2)) = if x = y then compactI (xs.take (m + 1)) else compactI (xs.take (m + 1)) ++ [y] := by
  rw [take_get hy, take_get hx, List.append_assoc]
  exact compact_snoc x y _
theorem slice_lo {id off L k : Nat} (h : k ≤ L) : gpure (.slice 1 true false false) [.slice id off L 1 none, .int .i64 (k : Int)] = some (.slice id (off + k) (L - k) 1 none) := by
  simp [gpure, gslice, gbm, gbh, gbl, gbound, h]
theorem slice_hi {id off L k : Nat} (h : k ≤ L) : gpure (.slice 1 false true false) [.slice id off L 1 none, .int .i64 (k : Int)] = some (.slice id off k 1 none) := by
  simp [gpure, gslice, gbm, gbh, gbl, gbound, h]
theorem iaddr_off {id off n i : Nat} {k : IntKind} {cap : Option Nat} (h : i < n) : gpure (.iaddr 1) [.slice id off n 1 cap, .int k (i : Int)] = some (.ptr id (off + i)) := by
  have : ((i : Int) < n) := by omega
  simp [gpure, this]
set_option maxHeartbeats 1000000 in
theorem slices_Compact_ok {n : Nat} {s : DV} {xs : List Int} {σ : GS} {Post : DV → GS → Prop} (hO : Own n 1 eint σ s xs) (hN : NoCap s) (hl : xs.length < 2 ^ 40) (hn : n ≤ σ.length)
    (k : ∀ s' σ', Own n 1 eint σ' s' (compactI xs) → Fr n σ σ' → Post s' σ') : GCall Tryz.prog F_slices_Compact_int_int [s] σ Post := by
  refine gc_slices_Compact_int_int ?_
  rcases hO with ⟨rfl, rfl⟩ | ⟨id, cap, rest, h1, rfl, h3, h4⟩
  · simp [G_slices_Compact_int_int, genv0, List.replicate]
    exact k _ _ .nil (.refl hn)
  cases cap with
  | some c => exact absurd hN (by simp [NoCap])
  | none =>
  have hid := get_dom h3
  have hfm : ∀ l : List Int, l.flatMap eint = ints l := fun l => by
    induction l with
    | nil => rfl
    | cons x l ih => rw [List.flatMap_cons, ih]; rfl
  have hcs : ∀ (j : Nat) (x : Int), xs[j]? = some x → (xs.flatMap eint ++ rest)[j]? = some (.int .i64 x) := fun j x hj => by
    have hjl := get_dom hj
    rw [hfm, List.getElem?_append_left (by simpa using hjl)]
    simp [hj]
  have hrow : ∀ (j : Nat) (x : Int), xs[j]? = some x → gload (.load 1 false) [.ptr id j] σ = some (.int .i64 x) := fun j x hj => by
    rw [ld_at h3]; exact hcs j x hj
  have same : ∀ {τ : DV}, compactI xs = xs → Post (.slice id 0 xs.length 1 none) σ := fun h => k _ _ (by rw [h]; exact .inr ⟨id, none, rest, h1, rfl, h3, fun c e => by cases e⟩) (.refl hn)
  by_cases c2 : xs.length < 2
  · have c2' : ((xs.length : Int) < 2) := by omega
    simp [G_slices_Compact_int_int, genv0, List.replicate, c2']
    refine same (τ := .nils) ?_
    match xs, c2 with
    | [], _ => rfl
    | [x], _ => rfl
  have c2' : ¬ ((xs.length : Int) < 2) := by omega
  simp [G_slices_Compact_int_int, genv0, List.replicate, c2']
  refine gfor xs.length (fun i e σ' => σ' = σ ∧ e = mkEnv 61 [(0, .slice id 0 xs.length 1 none), (3, .int .i64 ((i : Int) + 1))] ∧ compactI (xs.take (i + 1)) = xs.take (i + 1) ∧ i + 1 ≤ xs.length) _ ?_ ⟨rfl, rfl, ?_, by omega⟩ ?_
  · simp [mkEnv, List.replicate]
  · match xs with
    | [] => rfl
    | x :: xs => rfl
  rintro i _ σz hi ⟨hσz, rfl, hI, hik⟩
  rw [hσz]
  clear hσz σz
  simp [mkEnv, List.replicate]
  by_cases hlt : i + 1 < xs.length
  · obtain ⟨x, hx⟩ := get_lt (xs := xs) (i := i) (by omega)
    obtain ⟨y, hy⟩ := get_lt (xs := xs) (i := i + 1) (by omega)
    have hlt' : ((i : Int) + 1 < xs.length) := by omega
    have ia0 := iaddr_off (id := id) (off := 0) (n := xs.length) (i := i) (k := .i64) (cap := none) (by omega)
    have ia1 := iaddr_off (id := id) (off := 0) (n := xs.length) (i := i + 1) (k := .i64) (cap := none) (by omega)
    have l0 := hrow _ _ hx
    have l1 := hrow _ _ hy
    have hct := compact_take hx hy
    have ew : IntKind.i64.wrap ((i : Int) + 1 + 1) = (i : Int) + 1 + 1 := by rw [wrap_small] <;> omega
    have em : IntKind.i64.wrap (i : Int) = (i : Int) := by rw [wrap_small] <;> omega
    simp at ia0 ia1
    simp [hlt', ia0, ia1, l0, l1, em]
    by_cases hxy : y = x
    · have hsl := slice_lo (id := id) (off := 0) (L := xs.length) (k := i + 1) (by omega)
      simp at hsl
      simp [hxy, hsl]
      have hC0 : compactI (xs.take (i + 2)) = xs.take (i + 1) := by rw [hct, if_pos hxy.symm, hI]
      refine gfor xs.length (fun i2 e σ' => ∃ cs kk, e = mkEnv 61 [(0, .slice id 0 xs.length 1 none), (3, .int .i64 (kk : Nat)), (4, .slice id (i + 1) (xs.length - (i + 1)) 1 none), (5, .int .i64 ((i2 : Int) + 1))] ∧
          σ'[id]? = some (.row false cs) ∧ Fr n σ σ' ∧ cs.length = xs.length + rest.length ∧ kk = (compactI (xs.take (i + i2 + 2))).length ∧ cs.take kk = ints (compactI (xs.take (i + i2 + 2))) ∧ (∀ (j : Nat) (x : Int), kk ≤ j → xs[j]? = some x → cs[j]? = some (.int .i64 x)) ∧ i + i2 + 2 ≤ xs.length ∧ kk ≤ i + i2 + 1) _ ?_
          ⟨xs.flatMap eint ++ rest, i + 1, rfl, h3, .refl hn, by simp [hfm], ?_, ?_, fun j x _ hj => hcs j x hj, by omega, by omega⟩ ?_
      · simp [mkEnv, List.replicate]
      · rw [Nat.add_zero, hC0]; simp; omega
      · rw [Nat.add_zero, hC0, hfm, List.take_append_of_le_length (by simp; omega)]; simp
      rintro i2 _ σ' hi2 ⟨cs, kk, rfl, r1, r2, r3, r4, r5, r6, r7, r8⟩
      have hid' := get_dom r1
      simp [mkEnv, List.replicate]
      by_cases hlt2 : i + i2 + 2 < xs.length
      · obtain ⟨u, hu⟩ := get_lt (xs := xs) (i := i + i2 + 1) (by omega)
        obtain ⟨v, hv⟩ := get_lt (xs := xs) (i := i + i2 + 2) (by omega)
        have hct2 := compact_take hu hv
        have q0 := iaddr_off (id := id) (off := i + 1) (n := xs.length - (i + 1)) (i := i2) (k := .i64) (cap := none) (by omega)
        have q1 := iaddr_off (id := id) (off := i + 1) (n := xs.length - (i + 1)) (i := i2 + 1) (k := .i64) (cap := none) (by omega)
        have m0 : gload (.load 1 false) [.ptr id (i + 1 + i2)] σ' = some (.int .i64 u) := by
          rw [ld_at r1]; exact r6 _ _ (by omega) (by rw [show i + 1 + i2 = i + i2 + 1 by omega]; exact hu)
        have m1 : gload (.load 1 false) [.ptr id (i + 1 + (i2 + 1))] σ' = some (.int .i64 v) := by
          rw [ld_at r1]; exact r6 _ _ (by omega) (by rw [show i + 1 + (i2 + 1) = i + i2 + 2 by omega]; exact hv)
        have hlt2' : ((i2 : Int) + 1 < ((xs.length - (i + 1) : Nat) : Int)) := by omega
        have ew2 : IntKind.i64.wrap ((i2 : Int) + 1 + 1) = (i2 : Int) + 1 + 1 := by rw [wrap_small] <;> omega
        have em2 : IntKind.i64.wrap (i2 : Int) = (i2 : Int) := by rw [wrap_small] <;> omega
        have ek : IntKind.i64.wrap ((kk : Int) + 1) = ((kk + 1 : Nat) : Int) := by rw [wrap_small] <;> omega
        simp at q0 q1
        have ck := hlt2'
        by_cases huv : v = u
        · simp [ck, q0, q1, m0, m1, em2, huv, ew2]
          refine forK_go _ (by omega) (by simp [mkEnv, List.replicate]) ⟨cs, kk, rfl, r1, r2, r3, ?_, ?_, r6, by omega, by omega⟩
          · rw [show i + (i2 + 1) + 2 = i + i2 + 1 + 2 by omega, hct2, if_pos huv.symm]; exact r4
          · rw [show i + (i2 + 1) + 2 = i + i2 + 1 + 2 by omega, hct2, if_pos huv.symm]; exact r5
        · have q2 := iaddr_off (id := id) (off := 0) (n := xs.length) (i := kk) (k := .i64) (cap := none) (by omega)
          have hst : gimp (.store 1) [.ptr id kk, .int .i64 v] σ' = some (.tuple [], σ'.set id (.row false (cs.set kk (.int .i64 v)))) := by
            simp only [gimp, r1, DV.cells]
            rw [if_pos ⟨rfl, by show kk + 1 ≤ cs.length; omega, rfl⟩, over_one (by omega)]
          simp at q2
          simp [ck, q0, q1, m0, m1, em2, huv, ew2, q2, hst, ek]
          refine forK_go _ (by omega) (by simp [mkEnv, List.replicate]) ⟨cs.set kk (.int .i64 v), kk + 1, rfl, List.getElem?_set_self hid', r2.set h1 _, by simp [r3], ?_, ?_, fun j x hj hx => ?_, by omega, by omega⟩
          · rw [show i + (i2 + 1) + 2 = i + i2 + 1 + 2 by omega, hct2, if_neg (fun e => huv e.symm)]; simp [r4]
          · rw [show i + (i2 + 1) + 2 = i + i2 + 1 + 2 by omega, hct2, if_neg (fun e => huv e.symm)]
            rw [List.take_add_one, List.getElem?_set_self (by omega), List.take_set_of_le (Nat.le_refl _), r5]
            simp
          · rw [List.getElem?_set_ne (by omega)]; exact r6 j x (by omega) hx
      · have hlt2' : ¬ ((i2 : Int) + 1 < ((xs.length - (i + 1) : Nat) : Int)) := by omega
        have ck := hlt2'
        have he : i + i2 + 2 = xs.length := by omega
        rw [he, List.take_length] at r4 r5
        have hsl2 := slice_lo (id := id) (off := 0) (L := xs.length) (k := kk) (by omega)
        have hsh2 := slice_hi (id := id) (off := 0) (L := xs.length) (k := kk) (by omega)
        have hcl : gimp (.clear 1 [.int .i64 0]) [.slice id kk (xs.length - kk) 1 none] σ' = some (.tuple [], σ'.set id (.row false (over cs kk (List.replicate (xs.length - kk) (.int .i64 0))))) := by
          have g0 : ¬ (xs.length - kk = 0) := by omega
          have g1 : kk + (xs.length - kk) ≤ cs.length := by omega
          simp [gimp, gzeros, r1, g0, g1]
        simp at hsl2
        simp [ck, hsl2, hcl, hsh2]
        refine k _ _ (.inr ⟨id, none, (over cs kk (List.replicate (xs.length - kk) (.int .i64 0))).drop kk, h1, by rw [r4], ?_, fun c e => by cases e⟩) (r2.set h1 _)
        rw [List.getElem?_set_self hid', hfm, ← r5]
        congr 2
        unfold over
        rw [List.drop_left' (by simp; omega)]
    · simp [hxy, ew]
      refine forK_go (mkEnv 61 [(0, .slice id 0 xs.length 1 none), (3, .int .i64 ((i : Int) + 1 + 1))]) (by omega) (by simp [mkEnv, List.replicate]) ⟨rfl, by rw [Int.natCast_add]; rfl, ?_, by omega⟩
      rw [hct, if_neg (fun e => hxy e.symm), hI, take_get hy]
  · have : i + 1 = xs.length := by omega
    have hlt' : ¬ ((i : Int) + 1 < xs.length) := by omega
    rw [this, List.take_length] at hI
    simp [hlt']
    exact same (τ := .nils) hI
end Go.Gh
namespace Go.Gh
open Go.RowKit Go.Proofs
set_option linter.unusedVariables false
set_option linter.unusedSimpArgs false
set_option maxRecDepth 100000
@[simp] theorem gres_c4 (env : Env) (σ : GS) (t u x z : Tmp) (n : Nat) (b : Bool) : gresL env σ [.cell t n b, .tmp u, .tmp x, .tmp z] = (gload (.load n b) [env[t]?.getD (.tuple [])] σ).map fun v => [v, env[u]?.getD (.tuple []), env[x]?.getD (.tuple []), env[z]?.getD (.tuple [])] := by
  simp only [gresL, gres1, garg]
  cases gload (.load n b) [env[t]?.getD (.tuple [])] σ <;> rfl
abbrev JOut.enc (o : JOut) : DV := .tuple [o.g.enc, fints o.u, fints o.v, .int .i64 o.e]
theorem closed_jout (o : JOut) : (JOut.enc o).closed = true := by simp
theorem rd_jerr (σ : GS) (ok : Nat → Prop) (e : Int) : Rd σ ok (.tuple [.agg [.nils, .nils], .nils, .nils, .int .i64 e]) (JOut.enc ⟨⟨[], []⟩, [], [], e⟩) :=
  .tuple (.cons (.agg (.cons (.nils 1) (.cons (.nils 2) .nil))) (.cons (.nils 1) (.cons (.nils 1) (.cons (.same _) .nil))))
set_option maxHeartbeats 2000000 in
theorem aig_Join_ok {a b : AigP} {x y : List Int} {σ : GS} {Post : DV → GS → Prop} (ha : a.Sm) (hb : b.Sm) (hx : x.length < 2 ^ 40) (hy : y.length < 2 ^ 40) (hsz : a.nodes + b.nodes ≤ 200000) (h : Post (JOut.enc (a.join x b y)) σ) :
    GCall Tryz.prog F_aig_Join [a.enc, fints x, b.enc, fints y] σ Post := by
  refine GCall.pure (r := JOut.enc (a.join x b y)) ?_ (closed_jout _) h
  refine gc_aig_Join ?_
  have hna : a.nodes = 1 + a.ins.length + a.ands.length := rfl
  have hnb : b.nodes = 1 + b.ins.length + b.ands.length := rfl
  simp [G_aig_Join, genv0, List.replicate, galloc]
  refine aig_all_ok ha (by omega) ?_
  by_cases c1 : a.all x = true
  rotate_left
  · have : a.join x b y = ⟨⟨[], []⟩, [], [], 2⟩ := by unfold AigP.join; rw [if_neg (by simp [c1])]
    rw [this]
    simp [c1]
    exact rd_jerr _ _ _
  simp [c1]
  refine aig_all_ok hb (by omega) ?_
  by_cases c2 : b.all y = true
  rotate_left
  · have : a.join x b y = ⟨⟨[], []⟩, [], [], 2⟩ := by unfold AigP.join; rw [if_neg (by simp [c2])]
    rw [this]
    simp [c2]
    exact rd_jerr _ _ _
  simp [c2, galloc, gfill, DV.cells, over, gzeros, List.replicate]
  have hmayA := AigP.all_may c1
  have hmayB := AigP.all_may c2
  have hinsA := AigP.may_ins hmayA
  have hinsB := AigP.may_ins hmayB
  obtain ⟨τ0, hτ0⟩ : ∃ τ0, σ ++ [.row false [fints a.ins, fands a.ands], .row false [fints b.ins, fands b.ands], .row false [.nils, .nils], .row false [fints a.ins, fints b.ins]] = τ0 := ⟨_, rfl⟩
  have hl0 : τ0.length = σ.length + 4 := by rw [← hτ0]; simp
  have hA0 : τ0[σ.length]? = some (.row false [fints a.ins, fands a.ands]) := by rw [← hτ0]; simp
  have hB0 : τ0[σ.length + 1]? = some (.row false [fints b.ins, fands b.ands]) := by rw [← hτ0]; simp
  have hC0 : τ0[σ.length + 2]? = some (.row false [.nils, .nils]) := by rw [← hτ0]; simp
  have hD0 : τ0[σ.length + 3]? = some (.row false [fints a.ins, fints b.ins]) := by rw [← hτ0]; simp
  have hF0 : Fr σ.length σ τ0 := by rw [← hτ0]; exact Fr.self _
  rw [hτ0]
  clear hτ0
  refine slices_Concat_ok (by omega) (by omega) hD0 fun s1 σ1 hO1 hF1 hN1 => ?_
  rw [hl0] at hO1 hF1
  simp
  refine GCall.mono (Own.sort sortC sortX hO1 (by simp; omega) hF1.len) ?_
  rintro _ σ2 ⟨rfl, hO2, hF2, hl2, hk2⟩
  simp
  refine slices_Compact_ok hO2 hN1 (by simp; omega) hF2.len fun s3 σ3 hO3 hF3 => ?_
  rw [compact_sort (insOk_asc hinsA).1 (insOk_asc hinsB).1] at hO3
  obtain ⟨U, hU⟩ : ∃ U, unionI a.ins b.ins = U := ⟨_, rfl⟩
  have hUl : U.length ≤ a.ins.length + b.ins.length := by rw [← hU]; exact unionI_len _ _
  have hUn : U.Nodup := by
    rw [← hU]
    exact (asc_unionI _ _ (insOk_asc hinsA).1 (insOk_asc hinsB).1).imp fun h => by omega
  have hUa : ∀ v ∈ a.ins, v ∈ U := fun v hv => by rw [← hU, mem_unionI]; exact .inl hv
  have hUb : ∀ v ∈ b.ins, v ∈ U := fun v hv => by rw [← hU, mem_unionI]; exact .inr hv
  have hspec : a.join x b y = (let c := (Mk.mk U [] false).copy a (a.reach x) (0 :: a.ins.map (edgeOf U))
    let d := c.2.copy b (b.reach y) (0 :: b.ins.map (edgeOf U))
    ⟨d.2.graph, x.map (imgE c.1), y.map (imgE d.1), 0⟩) := by
    unfold AigP.join
    rw [if_pos (by simp [c1, c2]), hU]
  rw [hU] at hO3
  clear hU
  have hF03 : Fr (σ.length + 4) τ0 σ3 := hF1.trans (hF2.trans hF3)
  have hl3 : σ.length + 4 ≤ σ3.length := hF3.len
  have hb3 : ∀ j, j < σ.length + 4 → σ3[j]? = τ0[j]? := fun j hj => hF03.get j hj
  have hgf : gfill [(0, 1)] [DV.nils, DV.nils] [s3] = some [s3, .nils] := by
    rcases hO3 with ⟨rfl, _⟩ | ⟨_, _, _, _, rfl, _⟩ <;> simp [gfill, DV.cells, over]
  simp [hgf]
  have hoff : ∀ j, ¬ s3.has j → (frz (fun i => s3.idOf == some i) σ3)[j]? = σ3[j]? := fun j hj => frz_off (hO3.idOf_has hj)
  have hl4 : (frz (fun i => s3.idOf == some i) σ3).length = σ3.length := by rw [frz_len]
  refine GCall.frz (fun i => s3.idOf == some i) (args' := [AigP.enc ⟨U, []⟩]) (.cons (.agg (.cons (hO3.rdF fun _ => rfl) (.cons (.nils 2) .nil))) .nil) ?_
  obtain ⟨σ4, hσ4⟩ : ∃ σ4, frz (fun i => s3.idOf == some i) σ3 = σ4 := ⟨_, rfl⟩
  rw [hσ4] at hoff hl4 ⊢
  have hb4 : ∀ j, j < σ.length + 4 → σ4[j]? = τ0[j]? := fun j hj => (hoff j fun hh => by have := hO3.has_ge hh; omega).trans (hb3 j hj)
  refine aig_maker_ok (g := ⟨U, []⟩) (by show U.length < _; omega) (by simp) hUn fun σ5 hm5 hF5 => ?_
  rw [hl4] at hm5 hF5 ⊢
  obtain ⟨mid, hmid⟩ : ∃ mid, σ3.length + 3 = mid := ⟨_, rfl⟩
  rw [hmid] at hm5 ⊢
  obtain ⟨n5, hn5⟩ : ∃ n5, σ3.length = n5 := ⟨_, rfl⟩
  rw [hn5] at hm5 hF5 hmid hl3
  have hl5 := hF5.len
  have hb5 : ∀ j, j < σ.length + 4 → σ5[j]? = τ0[j]? := fun j hj => (hF5.get j (by omega)).trans (hb4 j hj)
  clear hb4 hσ4 hoff hl4 hb3 hF03 hF5 hO3 hF3 hk2 hl2 hF2 hO2 hO1 hF1 hN1
  have hA5 := (hb5 _ (by omega)).trans hA0
  have hB5 := (hb5 _ (by omega)).trans hB0
  have hC5 := (hb5 _ (by omega)).trans hC0
  have hF05 : Fr σ.length σ σ5 := ⟨by omega, fun j hj => (hb5 j (by omega)).trans (hF0.get j hj)⟩
  clear hb5 hA0 hB0 hC0 hD0 hF0 hl0
  have hldA5 : gload (.load 2 true) [.ptr σ.length 0] σ5 = some a.enc := by rw [ld_agg hA5]; rfl
  simp [hldA5]
  have hms : (Mk.mk U [] false).n = 1 + U.length := by simp [Mk.n]
  have hnf5 : ∀ j, j < σ.length + 4 → ¬ Ft σ5 mid j := fun j hj hf => by have := (hm5.dom hf).2; omega
  have hiv : ∀ v : Int, 0 ≤ max (edgeOf U v) 0 ∧ max (edgeOf U v) 0 < 2 * (1 + U.length : Int) := fun v => by
    have := edgeOf_lt U v; omega
  have hiva : (a.ins.map fun v => max (edgeOf U v) 0) = a.ins.map (edgeOf U) := List.map_congr_left fun v hv => Int.max_eq_left (edgeOf_pos (hUa v hv))
  have hivb : (b.ins.map fun v => max (edgeOf U v) 0) = b.ins.map (edgeOf U) := List.map_congr_left fun v hv => Int.max_eq_left (edgeOf_pos (hUb v hv))
  refine aig_copied_ok (pre := [.ptr mid 0]) (caps := []) (iv := fun v => max (edgeOf U v) 0) hm5 (by omega) (by simp [Mk.ok, andsOk]) (by rw [hms]; omega) hmayA (by omega) (fun e he => AigP.all_has c1 he) (fun v hv σ' hk K hK => aig_own_ok (hm5.keep hk) hK) (fun v hv => by have := hiv v; rw [hms]; omega) fun σ6 T1 hm6 hst6 hag6 hT6 => ?_
  rw [hiva] at hm6 hag6 hT6
  obtain ⟨c, hc⟩ : ∃ c, (Mk.mk U [] false).copy a (a.reach x) (0 :: a.ins.map (edgeOf U)) = c := ⟨_, rfl⟩
  have hcl : c.1.length = a.nodes := by rw [← hc]; exact Mk.copy_len (by simp; omega)
  have hcn : (Mk.mk U [] false).n ≤ c.2.n ∧ c.2.n ≤ (Mk.mk U [] false).n + a.ands.length := by rw [← hc]; exact Mk.copy_n
  have hci : c.2.ins = U := by rw [← hc]; exact Mk.copy_ins
  have hcf : c.2.full = false := by
    rw [← hc]
    unfold Mk.copy
    rw [cpFold_full _ _ (by rw [List.length_zip, hms]; omega)]
  have hcok : CpOk c := by
    rw [← hc]
    refine Mk.copy_ok (by simp [Mk.ok, andsOk]) fun t ht => ?_
    simp only [List.mem_cons, List.mem_map] at ht
    rcases ht with rfl | ⟨v, hv, rfl⟩
    · rw [hms]; omega
    · have := edgeOf_lt U v; have := edgeOf_pos (hUa v hv); rw [hms]; omega
  rw [hc] at hm6 hag6 hT6 hspec
  rw [hms] at hcn
  have hT1l : T1.length = a.nodes := by rw [hag6.len, hcl]
  have hl6 := hst6.len
  have hb6 : ∀ j, j < σ.length + 4 → σ6[j]? = σ5[j]? := fun j hj => hst6.get j (by omega) (hnf5 j hj)
  have hnf6 : ∀ j, j < σ.length + 4 → ¬ Ft σ6 mid j := fun j hj => hst6.ft j (by omega) (hnf5 j hj)
  have hB6 := (hb6 _ (by omega)).trans hB5
  have hC6 := (hb6 _ (by omega)).trans hC5
  have hF06 : Fr σ.length σ σ6 := ⟨by omega, fun j hj => (hb6 j (by omega)).trans (hF05.get j hj)⟩
  simp
  refine each_ok (pre := []) (c := imgE T1) (by omega) (fun e he σ' K hK => ?_) ?_
  · obtain ⟨x0, x1⟩ := AigP.all_has c1 he
    exact aig_of_ok x0 (by omega) (by omega) (fun t ht => by have := hT6 t ht; omega) hK
  have hmapx : x.map (imgE T1) = x.map (imgE c.1) := List.map_congr_left fun e he => by
    obtain ⟨e0, e1⟩ := AigP.all_has c1 he
    exact hag6.img (AigP.reach_edge he e0 e1)
  rw [hmapx]
  have hldB6 : gload (.load 2 true) [.ptr (σ.length + 1) 0] σ6 = some b.enc := by rw [ld_agg hB6]; rfl
  simp [hldB6]
  refine aig_copied_ok (pre := [.ptr mid 0]) (caps := []) (iv := fun v => max (edgeOf U v) 0) hm6 (by omega) hcok.ok (by omega) hmayB (by omega) (fun e he => AigP.all_has c2 he) (fun v hv σ' hk K hK => aig_own_ok (hm6.keep hk) (by rw [hci]; exact hK)) (fun v hv => by have := hiv v; omega) fun σ7 T2 hm7 hst7 hag7 hT7 => ?_
  rw [hivb] at hm7 hag7 hT7
  obtain ⟨d, hd⟩ : ∃ d, c.2.copy b (b.reach y) (0 :: b.ins.map (edgeOf U)) = d := ⟨_, rfl⟩
  have hdl : d.1.length = b.nodes := by rw [← hd]; exact Mk.copy_len (by simp; omega)
  have hdn : d.2.n ≤ c.2.n + b.ands.length := by rw [← hd]; exact Mk.copy_n.2
  have hdf : d.2.full = false := by
    rw [← hd]
    unfold Mk.copy
    rw [cpFold_full _ _ (by rw [List.length_zip]; show c.2.n + _ ≤ _; omega)]
    exact hcf
  simp only [hd] at hm7 hag7 hT7 hspec
  have hT2l : T2.length = b.nodes := by rw [hag7.len, hdl]
  have hl7 := hst7.len
  have hC7 : σ7[σ.length + 2]? = some (.row false [.nils, .nils]) := (hst7.get _ (by omega) (hnf6 _ (by omega))).trans hC6
  have hF07 : Fr σ.length σ σ7 := ⟨by omega, fun j hj => (hst7.get j (by omega) (hnf6 j (by omega))).trans (hF06.get j hj)⟩
  simp
  refine each_ok (pre := []) (c := imgE T2) (by omega) (fun e he σ' K hK => ?_) ?_
  · obtain ⟨x0, x1⟩ := AigP.all_has c2 he
    exact aig_of_ok x0 (by omega) (by omega) (fun t ht => by have := hT7 t ht; omega) hK
  have hmapy : y.map (imgE T2) = y.map (imgE d.1) := List.map_congr_left fun e he => by
    obtain ⟨e0, e1⟩ := AigP.all_has c2 he
    exact hag7.img (AigP.reach_edge he e0 e1)
  rw [hmapy]
  obtain ⟨si, sa, at_, in_, la, li, hR⟩ := hm7
  have hfull : gload (.load 1 false) [.ptr mid 5] σ7 = some (.bool d.2.full) := ld_at hR.row
  have hgr : gload (.load 2 true) [.ptr mid 1] σ7 = some (.agg [si, sa]) := by rw [ld_agg hR.row]; rfl
  have hst : gimp (.store 2) [.ptr (σ.length + 2) 0, .agg [si, sa]] σ7 = some (.tuple [], σ7.set (σ.length + 2) (.row false [si, sa])) := by simp [gimp, hC7, over, hR.ins.flat, hR.ands.flat]
  have hldC : gload (.load 2 true) [.ptr (σ.length + 2) 0] (σ7.set (σ.length + 2) (.row false [si, sa])) = some (.agg [si, sa]) := by
    rw [ld_agg (List.getElem?_set_self (by omega))]; rfl
  rw [hdf] at hfull
  simp [hfull, hgr, hst, hldC]
  refine ⟨hF07.set (by omega) _, ?_⟩
  rw [hspec]
  have hR' : MkR n5 (σ7.set (σ.length + 2) (.row false [si, sa])) mid d.2 si sa at_ in_ la li := hR.fit fun j hj => List.getElem?_set_ne fun e => by have := (hR.dom hj).2; omega
  exact .tuple (.cons (hR'.rd _ fun i hi => .inl (by omega)) (.cons (.same _) (.cons (.same _) (.cons (.same _) .nil))))
end Go.Gh
namespace Go.Gh
open Go.RowKit Go.Proofs
set_option linter.unusedVariables false
set_option linter.unusedSimpArgs false
set_option maxRecDepth 100000
@[simp] theorem nth_zero {α : Type} (x : α) (l : List α) : nth (x :: l) 0 = some x := rfl
end Go.Gh
namespace Go.Gh
open Go.RowKit Go.Proofs
set_option linter.unusedVariables false
set_option linter.unusedSimpArgs false
set_option maxRecDepth 100000
end Go.Gh
namespace Go.Gh
open Go.RowKit Go.Proofs
set_option linter.unusedVariables false
set_option linter.unusedSimpArgs false
set_option maxRecDepth 100000
theorem edgeOf_idx {l : List Int} {v : Int} (h : v ∈ l) : ∃ i : Nat, l[i]? = some v ∧ edgeOf l v = 2 * ((i : Int) + 1) := by
  rcases idxF_cases (fun x => decide (x = v)) l 0 with ⟨h1, h2⟩ | ⟨i, x, h1, h2, h3, _⟩
  · have := h2 v h; simp at this
  · refine ⟨i, ?_, ?_⟩
    · simp at h3; rw [← h3]; exact h2
    · unfold edgeOf; rw [h1, if_pos (by omega)]; simp
theorem outOf_snoc {l : List (Int × Int)} {o : Int × Int} (h : o.1 ∉ l.map (·.1)) (v : Int) : outOf (l ++ [o]) v = if v = o.1 then some o.2 else outOf l v := by
  unfold outOf
  rw [List.find?_append]
  by_cases hv : v = o.1
  · subst hv
    have : l.find? (fun p => decide (p.1 = o.1)) = none := by
      rw [List.find?_eq_none]
      intro p hp hh
      simp at hh
      exact h (List.mem_map.2 ⟨p, hp, hh⟩)
    rw [if_pos rfl, this]
    simp
  · rw [if_neg hv]
    have : ([o] : List (Int × Int)).find? (fun p => decide (p.1 = v)) = none := by
      simp; exact fun e => hv e.symm
    rw [this]; simp
end Go.Gh
namespace Go.Gh
set_option linter.unusedVariables false
set_option linter.unusedSimpArgs false
theorem redOk_snoc (p : Int × Int) : ∀ (l pre : List (Int × Int)), redOk pre (l ++ [p]) = (redOk pre l && !(decide (p.1 < 2) || decide (p.2 ≤ p.1) || decide (notE p.1 = p.2) || (pre ++ l).contains p))
  | [], pre => by simp [redOk]
  | q :: l, pre => by
    simp only [List.cons_append, redOk, redOk_snoc p l (pre ++ [q]), List.append_assoc, List.nil_append, Bool.and_assoc]
/-- A maker's graph is one that a maker could have made. -/
structure Mk.Good (m : Mk) : Prop where
  ins : insOk 0 m.ins = true
  ok : m.ok
  red : redOk [] m.ands = true
theorem Mk.conj_red {m : Mk} {a b : Int} (a0 : 0 ≤ a) (b0 : 0 ≤ b) (h : redOk [] m.ands = true) : redOk [] (m.conj a b).2.ands = true := by
  unfold Mk.conj
  split; · exact h
  rename_i h1
  split; · exact h
  rename_i h2
  split; · exact h
  rename_i h3
  split
  · exact h
  · show redOk [] (m.ands ++ [(min a b, max a b)]) = true
    rw [redOk_snoc, h]
    have e1 : ¬ (min a b < 2) := by omega
    have e2 : ¬ (max a b ≤ min a b) := by omega
    have e3 : ¬ (notE (min a b) = max a b) := fun e => h1 (.inr e)
    have e4 : m.ands.contains (min a b, max a b) = false := by
      rw [Bool.eq_false_iff]
      intro hc
      rcases idxF_cases (fun p => decide (p = (min a b, max a b))) m.ands 0 with ⟨_, k2⟩ | ⟨i, p, k1, _⟩
      · have := k2 _ (List.contains_iff_mem.1 hc); simp at this
      · unfold Mk.at at h3; omega
    have e5 : (min a b, max a b) ∉ m.ands := fun hh => by rw [List.contains_iff_mem.2 hh] at e4; cases e4
    simp [e1, e2, e3, e5]
theorem cpFold_red : ∀ (xs : List ((Int × Int) × Bool)) {s : List Int × Mk}, CpOk s → redOk [] s.2.ands = true → redOk [] (xs.foldl cpStep s).2.ands = true
  | [], _, _, h => h
  | x :: xs, s, hc, h => by
    rw [List.foldl_cons]
    refine cpFold_red xs (cpStep_ok hc x) ?_
    have hpos : 0 < (s.2.n : Int) := by unfold Mk.n; omega
    unfold cpStep
    split
    · exact Mk.conj_red (imgE_range hpos hc.to _).1 (imgE_range hpos hc.to _).1 h
    · exact h
theorem Mk.Good.graph {m : Mk} (h : m.Good) (hn : m.n ≤ 200000) : m.graph.reduced = true ∧ m.graph.may = true := by
  have hmay : m.graph.may = true := by
    unfold AigP.may
    have h1 := h.ins
    have h2 := h.ok
    have h3 : m.graph.nodes ≤ 200000 := hn
    unfold Mk.ok at h2
    simp only [Mk.graph] at h3 ⊢
    rw [h1, h2]; simp [h3]
  exact ⟨by unfold AigP.reduced; rw [hmay, show m.graph.ands = m.ands from rfl, h.red]; rfl, hmay⟩
theorem Mk.Good.copy {m : Mk} {g : AigP} {r : List Bool} {T : List Int} (h : m.Good) (hT : ∀ t ∈ T, 0 ≤ t ∧ t < 2 * m.n) : (m.copy g r T).2.Good := by
  have hc : CpOk (T, m) := ⟨hT, h.ok⟩
  refine ⟨?_, (cpFold_ok _ hc).ok, cpFold_red _ hc h.red⟩
  unfold Mk.copy; rw [cpFold_ins]; exact h.ins
theorem vals_congr {g : AigP} {on on' : Int → Bool} (h : ∀ v ∈ g.ins, on v = on' v) : g.vals on = g.vals on' := by
  unfold AigP.vals
  rw [show g.ins.map on = g.ins.map on' from List.map_congr_left h]
/-- The value of an input's edge. -/
theorem edgeOf_val {m : Mk} {on : Int → Bool} {v : Int} (hv : v ∈ m.ins) : 0 ≤ edgeOf m.ins v ∧ edgeOf m.ins v < 2 * m.n ∧ edgeV (m.vs on) (edgeOf m.ins v) = on v := by
  obtain ⟨i, h1, h2⟩ := edgeOf_idx hv
  have hi := (List.getElem?_eq_some_iff.1 h1).1
  refine ⟨by omega, by rw [h2]; unfold Mk.n; omega, ?_⟩
  unfold edgeV Mk.vs
  rw [h2, show (2 * ((i : Int) + 1) / 2).toNat = i + 1 by omega, vals0_in h1]
  have : ¬ ((2 * ((i : Int) + 1)) % 2 = 1) := by omega
  simp [this]
theorem vs_pre {vs ws : List Bool} {e : Int} {n : Nat} (hl : vs.length = n) (h0 : 0 ≤ e) (h1 : e < 2 * n) : edgeV (vs ++ ws) e = edgeV vs e := edgeV_appP (by omega)
/-- What the edges of a copy are worth. -/
structure Means (g : AigP) (on : Int → Bool) (l : List Int) (c : AigP) (onc : Int → Bool) (u : List Int) : Prop where
  len : u.length = l.length
  red : c.reduced = true
  may : c.may = true
  val : ∀ (k : Nat) (e f : Int), l[k]? = some e → u[k]? = some f → 0 ≤ f ∧ f < 2 * c.nodes ∧ edgeV (c.vals onc) f = edgeV (g.vals on) e
theorem means_of {m : Mk} {g : AigP} {l im : List Int} {on onM : Int → Bool} {M : Mk} {ws : List Bool} (hall : g.all l = true) (hgood : m.Good) (hn : m.n + g.ands.length ≤ 200000) (him : im.length = g.ins.length)
    (hv : ∀ (i : Nat) (v t : Int), g.ins[i]? = some v → im[i]? = some t → 0 ≤ t ∧ t < 2 * m.n ∧ edgeV (m.vs onM) t = on v)
    (hM : M.Good) (hMn : M.n ≤ 200000) (hle : (m.copy g (g.reach l) (0 :: im)).2.n ≤ M.n) (hpre : M.vs onM = (m.copy g (g.reach l) (0 :: im)).2.vs onM ++ ws) :
    Means g on l M.graph onM (l.map (imgE (m.copy g (g.reach l) (0 :: im)).1)) := by
  have hmay := AigP.all_may hall
  have hs := Mk.copy_sem (l := l) (onM := onM) (on := on) hmay hgood.ok hn him hv
  obtain ⟨c, hc⟩ : ∃ c, m.copy g (g.reach l) (0 :: im) = c := ⟨_, rfl⟩
  have hcl : c.1.length = g.nodes := by rw [← hc]; exact Mk.copy_len (by simp [him]; omega)
  rw [hc] at hs hle hpre ⊢
  obtain ⟨g1, g2⟩ := hM.graph hMn
  refine ⟨by simp, g1, g2, fun k e f he hf => ?_⟩
  rw [List.getElem?_map, he] at hf
  simp at hf; subst hf
  have hel := List.mem_of_getElem? he
  obtain ⟨e0, e1⟩ := AigP.all_has hall hel
  have hpos : 0 < (c.2.n : Int) := by unfold Mk.n; omega
  have hr := imgE_range hpos hs.cp.to e
  refine ⟨hr.1, by show _ < 2 * ((M.n : Nat) : Int); omega, ?_⟩
  show edgeV (M.vs onM) _ = _
  rw [hpre, vs_pre (Mk.vs_len _ _) hr.1 hr.2]
  exact hs.img e0 (by omega) (AigP.reach_edge hel e0 e1)
theorem good_empty {ins : List Int} (h : insOk 0 ins = true) : (Mk.mk ins [] false).Good := ⟨h, by simp [Mk.ok, andsOk], rfl⟩
theorem insOk_union {a b : List Int} (ha : insOk 0 a = true) (hb : insOk 0 b = true) : insOk 0 (unionI a b) = true := by
  obtain ⟨h1, h2⟩ := insOk_asc ha
  obtain ⟨h3, h4⟩ := insOk_asc hb
  refine asc_insOk (asc_unionI a b h1 h3) fun x hx => ?_
  rw [mem_unionI] at hx
  rcases hx with hx | hx
  · exact ⟨h2 x hx, insOk_vars ha x hx⟩
  · exact ⟨h4 x hx, insOk_vars hb x hx⟩
theorem cone_means {g : AigP} {l : List Int} (on : Int → Bool) (hall : g.all l = true) (hn : g.nodes ≤ 100000) : (g.cone l).e = 0 ∧ Means g on l (g.cone l).g on (g.cone l).l := by
  have hmay := AigP.all_may hall
  have hins := AigP.may_ins hmay
  have hgn : g.nodes = 1 + g.ins.length + g.ands.length := rfl
  have hms : (Mk.mk g.ins [] false).n = 1 + g.ins.length := by simp [Mk.n]
  unfold AigP.cone
  rw [if_pos hall]
  refine ⟨rfl, ?_⟩
  have hv : ∀ (i : Nat) (v t : Int), g.ins[i]? = some v → (g.ins.map (edgeOf g.ins))[i]? = some t → 0 ≤ t ∧ t < 2 * ((Mk.mk g.ins [] false).n : Int) ∧ edgeV ((Mk.mk g.ins [] false).vs on) t = on v := fun i v t hi ht => by
    rw [List.getElem?_map, hi] at ht
    simp at ht; subst ht
    exact edgeOf_val (m := Mk.mk g.ins [] false) (List.mem_of_getElem? hi)
  have hg := (good_empty hins).copy (g := g) (r := g.reach l) (T := 0 :: g.ins.map (edgeOf g.ins)) (fun t ht => by
    rcases List.mem_cons.1 ht with rfl | ht
    · rw [hms]; omega
    · obtain ⟨v, hv, rfl⟩ := List.mem_map.1 ht
      have := edgeOf_lt g.ins v; have := edgeOf_pos hv; rw [hms]; omega)
  have hcn := (Mk.copy_n (m := Mk.mk g.ins [] false) (g := g) (r := g.reach l) (T := 0 :: g.ins.map (edgeOf g.ins))).2
  rw [hms] at hcn
  exact means_of (ws := []) hall (good_empty hins) (by rw [hms]; omega) (by simp) hv hg (by omega) (Nat.le_refl _) (by simp)
end Go.Gh
namespace Go.Gh
set_option linter.unusedVariables false
set_option linter.unusedSimpArgs false
/-- Images of inputs, in range and with values. -/
structure ImOk (g : AigP) (m : Mk) (im : List Int) (on onM : Int → Bool) : Prop where
  len : im.length = g.ins.length
  val : ∀ (i : Nat) (v t : Int), g.ins[i]? = some v → im[i]? = some t → 0 ≤ t ∧ t < 2 * m.n ∧ edgeV (m.vs onM) t = on v
theorem imOk_map {g : AigP} {m : Mk} {f : Int → Int} {on onM : Int → Bool} (h : ∀ v ∈ g.ins, 0 ≤ f v ∧ f v < 2 * m.n ∧ edgeV (m.vs onM) (f v) = on v) : ImOk g m (g.ins.map f) on onM :=
  ⟨by simp, fun i v t hi ht => by
    rw [List.getElem?_map, hi] at ht
    simp at ht; subst ht
    exact h v (List.mem_of_getElem? hi)⟩
theorem ImOk.range {g : AigP} {m : Mk} {im : List Int} {on onM : Int → Bool} (h : ImOk g m im on onM) : ∀ t ∈ 0 :: im, 0 ≤ t ∧ t < 2 * m.n := fun t ht => by
  have hpos : 0 < (m.n : Int) := by unfold Mk.n; omega
  rcases List.mem_cons.1 ht with rfl | ht
  · omega
  · obtain ⟨i, hi⟩ := List.mem_iff_getElem?.1 ht
    have hl := (List.getElem?_eq_some_iff.1 hi).1
    have hg : g.ins[i]? = some (g.ins[i]'(by rw [← h.len]; exact hl)) := List.getElem?_eq_getElem _
    have := h.val i _ t hg hi
    exact ⟨this.1, this.2.1⟩
theorem copy_means {m : Mk} {g : AigP} {l im : List Int} {on onM : Int → Bool} (hall : g.all l = true) (hgood : m.Good) (hn : m.n + g.ands.length ≤ 200000) (him : ImOk g m im on onM) :
    Means g on l (m.copy g (g.reach l) (0 :: im)).2.graph onM (l.map (imgE (m.copy g (g.reach l) (0 :: im)).1)) := by
  have hcn := (Mk.copy_n (m := m) (g := g) (r := g.reach l) (T := 0 :: im)).2
  exact means_of (ws := []) hall hgood hn him.len him.val (hgood.copy him.range) (by omega) (Nat.le_refl _) (by simp)
theorem edge_const {m : Mk} {on : Int → Bool} (hm : 0 < m.n) : edgeV (m.vs on) 0 = false ∧ edgeV (m.vs on) 1 = true := by
  have hz : edgeV (m.vs on) 0 = false := by
    unfold edgeV Mk.vs
    rw [show ((0 : Int) / 2).toNat = 0 from rfl, vals0_zero]; rfl
  refine ⟨hz, ?_⟩
  have := edgeV_not (vs := m.vs on) (e := 0) (by omega)
  rw [show notE 0 = 1 from rfl, hz] at this
  exact this
def onFix (fix a : List Int) (v : Int) : Bool := if fix.contains v then true else if fix.contains (-v) then false else a.contains v
theorem restrict_means {g : AigP} {l a : List Int} (fix : List Int) (hall : g.all l = true) (hf : normal fix = true) (hn : g.nodes ≤ 100000) :
    (g.restrict l fix).e = 0 ∧ Means g (onFix fix a) l (g.restrict l fix).g a.contains (g.restrict l fix).l := by
  have hmay := AigP.all_may hall
  have hins := AigP.may_ins hmay
  have hgn : g.nodes = 1 + g.ins.length + g.ands.length := rfl
  unfold AigP.restrict
  rw [if_pos (by simp [hall, hf])]
  refine ⟨rfl, ?_⟩
  obtain ⟨R, hR⟩ : ∃ R, g.ins.filter (fun v => !(fix.contains v || fix.contains (-v))) = R := ⟨_, rfl⟩
  have hRi : insOk 0 R = true := by rw [← hR]; exact insOk_filter (Int.le_refl 0) hins
  have hRl : R.length ≤ g.ins.length := by rw [← hR]; exact List.length_filter_le _ _
  have hms : (Mk.mk R [] false).n = 1 + R.length := by simp [Mk.n]
  have hpos : 0 < (Mk.mk R [] false).n := by rw [hms]; omega
  obtain ⟨z, o⟩ := edge_const (on := a.contains) hpos
  simp only [hR]
  refine copy_means hall (good_empty hRi) (by rw [hms]; omega) (imOk_map fun v hv => ?_)
  unfold onFix
  by_cases c1 : fix.contains v = true
  · rw [if_pos c1, if_pos c1]; exact ⟨by omega, by omega, o⟩
  · rw [if_neg c1, if_neg c1]
    by_cases c2 : fix.contains (-v) = true
    · rw [if_pos c2, if_pos c2]; exact ⟨by omega, by omega, z⟩
    · rw [if_neg c2, if_neg c2]
      refine edgeOf_val (m := Mk.mk R [] false) ?_
      show v ∈ R
      rw [← hR, List.mem_filter]
      refine ⟨hv, ?_⟩
      rw [Bool.eq_false_iff.2 c1, Bool.eq_false_iff.2 c2]; rfl
theorem join_means {g h : AigP} {x y : List Int} (on : Int → Bool) (hx : g.all x = true) (hy : h.all y = true) (hn : g.nodes + h.nodes ≤ 100000) :
    (g.join x h y).e = 0 ∧ Means g on x (g.join x h y).g on (g.join x h y).u ∧ Means h on y (g.join x h y).g on (g.join x h y).v := by
  have hmg := AigP.all_may hx
  have hmh := AigP.all_may hy
  have hgn : g.nodes = 1 + g.ins.length + g.ands.length := rfl
  have hhn : h.nodes = 1 + h.ins.length + h.ands.length := rfl
  unfold AigP.join
  rw [if_pos (by simp [hx, hy])]
  refine ⟨rfl, ?_⟩
  obtain ⟨U, hU⟩ : ∃ U, unionI g.ins h.ins = U := ⟨_, rfl⟩
  have hUi : insOk 0 U = true := by rw [← hU]; exact insOk_union (AigP.may_ins hmg) (AigP.may_ins hmh)
  have hUl : U.length ≤ g.ins.length + h.ins.length := by rw [← hU]; exact unionI_len _ _
  have hUa : ∀ v ∈ g.ins, v ∈ U := fun v hv => by rw [← hU, mem_unionI]; exact .inl hv
  have hUb : ∀ v ∈ h.ins, v ∈ U := fun v hv => by rw [← hU, mem_unionI]; exact .inr hv
  have hms : (Mk.mk U [] false).n = 1 + U.length := by simp [Mk.n]
  simp only [hU]
  have him1 : ImOk g (Mk.mk U [] false) (g.ins.map (edgeOf U)) on on := imOk_map fun v hv => edgeOf_val (m := Mk.mk U [] false) (hUa v hv)
  have hc1 := Mk.copy_sem (l := x) (onM := on) (on := on) hmg (good_empty hUi).ok (by rw [hms]; omega) him1.len him1.val
  have hcg := (good_empty hUi).copy (g := g) (r := g.reach x) him1.range
  have hcn := (Mk.copy_n (m := Mk.mk U [] false) (g := g) (r := g.reach x) (T := 0 :: g.ins.map (edgeOf U)))
  have hci := Mk.copy_ins (m := Mk.mk U [] false) (g := g) (r := g.reach x) (T := 0 :: g.ins.map (edgeOf U))
  obtain ⟨c, hc⟩ : ∃ c, (Mk.mk U [] false).copy g (g.reach x) (0 :: g.ins.map (edgeOf U)) = c := ⟨_, rfl⟩
  have hm1 := fun M ws => means_of (l := x) (M := M) (ws := ws) hx (good_empty hUi) (by rw [hms]; omega) him1.len him1.val
  rw [hc] at hc1 hcg hcn hci
  simp only [hc] at hm1 ⊢
  rw [hms] at hcn
  have him2 : ImOk h c.2 (h.ins.map (edgeOf U)) on on := imOk_map fun v hv => by
    have := edgeOf_val (m := c.2) (on := on) (v := v) (by rw [hci]; exact hUb v hv)
    rw [hci] at this; exact this
  have hc2 := Mk.copy_sem (l := y) (onM := on) (on := on) hmh hcg.ok (by omega) him2.len him2.val
  have hdg := hcg.copy (g := h) (r := h.reach y) him2.range
  have hdn := (Mk.copy_n (m := c.2) (g := h) (r := h.reach y) (T := 0 :: h.ins.map (edgeOf U)))
  obtain ⟨ws, hws⟩ := hc2.pre
  exact ⟨hm1 _ ws hdg (by omega) hdn.1 hws, copy_means hy hcg (by omega) him2⟩
def onBy (g : AigP) (by_ : List (Int × Int)) (on : Int → Bool) (v : Int) : Bool := match outOf by_ v with | some e => edgeV (g.vals on) e | none => on v
theorem compose_means {g : AigP} {l : List Int} {by_ : List (Int × Int)} (on : Int → Bool) (hall : g.all l = true) (hes : g.all (by_.map (·.2)) = true) (hnd : (by_.map (·.1)).Nodup) (hin : ∀ o ∈ by_, o.1 ∈ g.ins) (hn : g.nodes ≤ 50000) :
    (g.compose l by_).e = 0 ∧ Means g (onBy g by_ on) l (g.compose l by_).g on (g.compose l by_).l := by
  have hmay := AigP.all_may hall
  have hins := AigP.may_ins hmay
  have hgn : g.nodes = 1 + g.ins.length + g.ands.length := rfl
  have hms : (Mk.mk g.ins [] false).n = 1 + g.ins.length := by simp [Mk.n]
  have him1 : ImOk g (Mk.mk g.ins [] false) (g.ins.map (edgeOf g.ins)) on on := imOk_map fun v hv => edgeOf_val (m := Mk.mk g.ins [] false) hv
  have hc1 := Mk.copy_sem (l := by_.map (·.2)) (onM := on) (on := on) hmay (good_empty hins).ok (by rw [hms]; omega) him1.len him1.val
  have hcg := (good_empty hins).copy (g := g) (r := g.reach (by_.map (·.2))) him1.range
  have hcn := (Mk.copy_n (m := Mk.mk g.ins [] false) (g := g) (r := g.reach (by_.map (·.2))) (T := 0 :: g.ins.map (edgeOf g.ins)))
  have hci := Mk.copy_ins (m := Mk.mk g.ins [] false) (g := g) (r := g.reach (by_.map (·.2))) (T := 0 :: g.ins.map (edgeOf g.ins))
  have hcl := Mk.copy_len (m := Mk.mk g.ins [] false) (g := g) (l := by_.map (·.2)) (T := 0 :: g.ins.map (edgeOf g.ins)) (by simp; omega)
  have hcf : ((Mk.mk g.ins [] false).copy g (g.reach (by_.map (·.2))) (0 :: g.ins.map (edgeOf g.ins))).2.full = false := by
    unfold Mk.copy
    rw [cpFold_full _ _ (by rw [List.length_zip, hms]; omega)]
  unfold AigP.compose
  rw [if_pos (by simp [hnd, hall, hes]), if_pos (by simpa using hin)]
  obtain ⟨c, hc⟩ : ∃ c, (Mk.mk g.ins [] false).copy g (g.reach (by_.map (·.2))) (0 :: g.ins.map (edgeOf g.ins)) = c := ⟨_, rfl⟩
  rw [hc] at hc1 hcg hcn hci hcl hcf
  simp only [hc]
  rw [hms] at hcn
  have hpos : 0 < (c.2.n : Int) := by omega
  have him2 : ImOk g c.2 (g.ins.map fun v => match outOf by_ v with | some e => imgE c.1 e | none => edgeOf g.ins v) (onBy g by_ on) on := imOk_map fun v hv => by
    unfold onBy
    cases ho : outOf by_ v with
    | some e =>
      have he := outOf_mem ho
      obtain ⟨e0, e1⟩ := AigP.all_has hes he
      have hr := imgE_range hpos hc1.cp.to e
      exact ⟨hr.1, hr.2, hc1.img e0 (by omega) (AigP.reach_edge he e0 e1)⟩
    | none =>
      have := edgeOf_val (m := c.2) (on := on) (v := v) (by rw [hci]; exact hv)
      rw [hci] at this; exact this
  have hm2 := copy_means hall hcg (by omega) him2
  have hdf : ∀ (r : List Bool) (T : List Int), r = g.reach l → (c.2.copy g r T).2.full = false := fun r T hr => by
    unfold Mk.copy
    rw [cpFold_full _ _ (by rw [List.length_zip]; show c.2.n + _ ≤ _; omega)]
    exact hcf
  rw [if_neg (by rw [hdf _ _ rfl]; simp)]
  exact ⟨rfl, hm2⟩
/-- A list of literals, brought into order, the first one of each variable. -/
def insM (x : Int) : List Int → List Int
  | [] => [x]
  | y :: l => if gabs y < gabs x then y :: insM x l else if gabs y = gabs x then y :: l else x :: y :: l
def mergedI (l : List Int) : List Int := l.foldl (fun out x => insM x out) []
theorem normR_gt : ∀ {l : List Int} {s : Int}, normR s l = true → ∀ x ∈ l, s < gabs x
  | y :: l, s, h, x, hx => by
    simp only [normR, Bool.and_eq_true, decide_eq_true_eq] at h
    rcases List.mem_cons.1 hx with rfl | hx
    · exact h.1.2
    · have := normR_gt h.2 x hx; omega
theorem insM_norm {x : Int} (hx : isVar (gabs x) = true) : ∀ {l : List Int} {s : Int}, normR s l = true → s < gabs x → normR s (insM x l) = true
  | [], s, _, h => by simp [insM, normR, hx, h]
  | y :: l, s, hl, h => by
    simp only [normR, Bool.and_eq_true, decide_eq_true_eq] at hl
    unfold insM
    split
    · simp only [normR, Bool.and_eq_true, decide_eq_true_eq]
      exact ⟨hl.1, insM_norm hx hl.2 (by assumption)⟩
    · split
      · simp only [normR, Bool.and_eq_true, decide_eq_true_eq]; exact hl
      · simp only [normR, Bool.and_eq_true, decide_eq_true_eq]
        exact ⟨⟨hx, h⟩, ⟨⟨hl.1.1, by omega⟩, hl.2⟩⟩
theorem mem_insM {x : Int} : ∀ {l : List Int} {s : Int}, normR s l = true → ∀ z, z ∈ insM x l ↔ z ∈ l ∨ (z = x ∧ ∀ y ∈ l, gabs y ≠ gabs x)
  | [], s, _, z => by simp [insM]
  | y :: l, s, hl, z => by
    simp only [normR, Bool.and_eq_true, decide_eq_true_eq] at hl
    unfold insM
    split
    · rename_i h1
      rw [List.mem_cons, mem_insM hl.2 z, List.mem_cons]
      constructor
      · rintro (h | h | ⟨h, k⟩)
        · exact .inl (.inl h)
        · exact .inl (.inr h)
        · refine .inr ⟨h, fun w hw => ?_⟩
          rcases List.mem_cons.1 hw with rfl | hw
          · omega
          · exact k w hw
      · rintro ((h | h) | ⟨h, k⟩)
        · exact .inl h
        · exact .inr (.inl h)
        · exact .inr (.inr ⟨h, fun w hw => k w (List.mem_cons_of_mem _ hw)⟩)
    · split
      · rename_i h1 h2
        constructor
        · exact fun h => .inl h
        · rintro (h | ⟨_, k⟩)
          · exact h
          · exact absurd h2 (k y (by simp))
      · rename_i h1 h2
        rw [List.mem_cons]
        constructor
        · rintro (h | h)
          · refine .inr ⟨h, fun w hw => ?_⟩
            rcases List.mem_cons.1 hw with rfl | hw
            · exact h2
            · have := normR_gt hl.2 w hw; omega
          · exact .inl h
        · rintro (h | ⟨h, _⟩)
          · exact .inr h
          · exact .inl h
/-- The first literal of a variable. -/
def fstOf (l : List Int) (v : Int) : Option Int := l.find? fun x => decide (gabs x = v)
theorem merged_spec : ∀ (l out pre : List Int), (∀ x ∈ l, isVar (gabs x) = true) → normR 0 out = true → (∀ z, z ∈ out ↔ fstOf pre (gabs z) = some z) →
    normR 0 (l.foldl (fun out x => insM x out) out) = true ∧ ∀ z, z ∈ l.foldl (fun out x => insM x out) out ↔ fstOf (pre ++ l) (gabs z) = some z
  | [], out, pre, _, h1, h2 => by simpa using ⟨h1, h2⟩
  | x :: l, out, pre, hx, h1, h2 => by
    rw [List.foldl_cons, show pre ++ x :: l = (pre ++ [x]) ++ l by simp]
    have hxv := hx x (by simp)
    have hpos : 0 < gabs x := by unfold isVar at hxv; simp only [Bool.and_eq_true, decide_eq_true_eq] at hxv; omega
    refine merged_spec l (insM x out) (pre ++ [x]) (fun y hy => hx y (List.mem_cons_of_mem _ hy)) (insM_norm hxv h1 hpos) fun z => ?_
    rw [mem_insM h1 z, h2 z]
    have hfa : ∀ v, fstOf (pre ++ [x]) v = (fstOf pre v).or (if gabs x = v then some x else none) := fun v => by
      unfold fstOf
      rw [List.find?_append]
      congr 1
      simp only [List.find?_cons, List.find?_nil]
      by_cases c : gabs x = v <;> simp [c]
    have hno : (∀ y ∈ out, gabs y ≠ gabs x) ↔ fstOf pre (gabs x) = none := by
      constructor
      · intro h
        cases hf : fstOf pre (gabs x) with
        | none => rfl
        | some y =>
          have hy : gabs y = gabs x := by
            have := List.find?_some hf; simpa using this
          have : y ∈ out := (h2 y).2 (by rw [hy]; exact hf)
          exact absurd hy (h y this)
      · intro h y hy e
        have := (h2 y).1 hy
        rw [e, h] at this; cases this
    rw [hno, hfa]
    by_cases c : gabs x = gabs z
    · rw [if_pos c, c]
      cases fstOf pre (gabs z) with
      | none => simp [eq_comm]
      | some y => simp
    · rw [if_neg c]
      have : z ≠ x := fun e => c (by rw [e])
      cases fstOf pre (gabs z) <;> simp [this]
theorem merged_normal {l : List Int} (h : ∀ x ∈ l, isVar (gabs x) = true) : normal (mergedI l) = true := by
  rw [normal_eq]; exact (merged_spec l [] [] h rfl (fun z => by simp [fstOf])).1
theorem merged_mem {l : List Int} (h : ∀ x ∈ l, isVar (gabs x) = true) (v : Int) (hv : 1 ≤ v) : (mergedI l).contains v = decide (fstOf l v = some v) := by
  have := (merged_spec l [] [] h rfl (fun z => by simp [fstOf])).2 v
  have hg : gabs v = v := by unfold gabs; rw [if_neg (by omega)]
  rw [hg, List.nil_append] at this
  unfold mergedI
  rw [Bool.eq_iff_iff, List.contains_iff_mem, this]; simp
end Go.Gh
namespace Go.Gh
open Go.RowKit Go.Proofs
set_option linter.unusedVariables false
set_option linter.unusedSimpArgs false
theorem index_ok {xs : List Int} {x : Int} {σ : GS} {Post : DV → GS → Prop} (hl : xs.length < 2 ^ 60) (h : Post (.int .i64 (idxF (fun y => decide (x = y)) 0 xs)) σ) : GCall Tryz.prog F_slices_Index_int_int [fints xs, .int .i64 x] σ Post := by
  refine gc_slices_Index_int_int ?_
  simp [G_slices_Index_int_int, genv0, List.replicate]
  refine gfor xs.length (fun i e σ' => σ' = σ ∧ idxF (fun y => decide (x = y)) 0 xs = idxF (fun y => decide (x = y)) i (xs.drop i) ∧ e = mkEnv 19 [(0, fints xs), (1, .int .i64 x), (7, .int .i64 xs.length), (8, .int .i64 i)]) _ ?_ ⟨rfl, by simp, rfl⟩ ?_
  · simp [mkEnv, List.replicate]
  rintro i _ _ hi ⟨rfl, hI, rfl⟩
  simp [mkEnv, List.replicate]
  by_cases hlt : i < xs.length
  · obtain ⟨y, hy⟩ := nth_lt hlt
    rw [drop_get hy] at hI
    simp only [idxF, decide_eq_true_eq] at hI
    by_cases h1 : x = y
    · simp [hlt, hy, h1]
      rw [if_pos h1] at hI
      rw [hI] at h; exact h
    · simp [hlt, hy, h1, wrap_suc (show i < _ by omega)]
      exact forK_go _ hlt (by simp [mkEnv, List.replicate]) ⟨rfl, by rw [hI, if_neg h1], rfl⟩
  · have : i = xs.length := by omega
    subst this
    simp
    simpa [hI, idxF] using h
theorem contains_eq (xs : List Int) (x : Int) : (xs.any fun y => decide (x = y)) = xs.contains x := by
  induction xs with
  | nil => rfl
  | cons y xs ih => simp only [List.any_cons, List.contains_cons, ih]; rfl
theorem contains_ok {xs : List Int} {x : Int} {σ : GS} {Post : DV → GS → Prop} (hl : xs.length < 2 ^ 60) (h : Post (.bool (xs.contains x)) σ) : GCall Tryz.prog F_slices_Contains_int_int [fints xs, .int .i64 x] σ Post := by
  refine gc_slices_Contains_int_int ?_
  simp [G_slices_Contains_int_int, genv0, List.replicate]
  refine index_ok hl ?_
  rw [← contains_eq, ← idxF_any _ 0] at h
  simpa using h
theorem bsearch_ok {f : FuncId} {pre caps : List DV} {xs : List Int} {t : Int} {c : Int → Int} {k : Nat} {σ : GS} {Post : DV → GS → Prop} (hl : xs.length < 2 ^ 60)
    (hf : ∀ x ∈ xs, ∀ K : DV → GS → Prop, K (.int .i64 (c x)) σ → GCall Tryz.prog f (pre ++ .int .i64 x :: .int .i64 t :: caps) σ K) (hk : k ≤ xs.length)
    (hlow : ∀ (i : Nat) (x : Int), i < k → xs[i]? = some x → c x < 0) (hhi : ∀ (i : Nat) (x : Int), k ≤ i → xs[i]? = some x → 0 ≤ c x)
    (h : Post (.tuple [.int .i64 k, .bool (match xs[k]? with | some x => decide (c x = 0) | none => false)]) σ) :
    GCall Tryz.prog F_slices_BinarySearchFunc_int_int_int [fints xs, .int .i64 t, .func f pre caps] σ Post := by
  refine gc_slices_BinarySearchFunc_int_int_int ?_
  simp [G_slices_BinarySearchFunc_int_int_int, genv0, List.replicate]
  refine gwhile (mkEnv 49 [(0, fints xs), (1, .int .i64 t), (2, .func f pre caps), (8, .int .i64 xs.length), (9, .int .i64 (0 : Nat)), (10, .int .i64 xs.length)]) xs.length (fun m e σ' => σ' = σ ∧ ∃ i j : Nat, i ≤ k ∧ k ≤ j ∧ j ≤ xs.length ∧ m = j - i ∧ e = mkEnv 49 [(0, fints xs), (1, .int .i64 t), (2, .func f pre caps), (8, .int .i64 xs.length), (9, .int .i64 i), (10, .int .i64 j)]) ?_ ⟨rfl, 0, xs.length, by omega, hk, by omega, rfl, rfl⟩ ?_
  · simp [mkEnv, List.replicate]
  rintro m _ _ ⟨rfl, i, j, h1, h2, h3, rfl, rfl⟩
  simp [mkEnv, List.replicate]
  by_cases hlt : i < j
  · have e1 : IntKind.i64.wrap ((i : Int) + j) = i + j := by rw [wrap_small] <;> omega
    have e2 : IntKind.u64.wrap ((i : Int) + j) = i + j := by rw [u64_small] <;> omega
    have e3 : gbin .shr .none (.int .u64 ((i : Int) + j)) (.int .u64 1) = some (.int .u64 (((i + j) / 2 : Nat) : Int)) := by
      rw [gb_shr, if_neg (by omega)]
      have : (min ((1 : Int).toNat) IntKind.u64.bits) = 1 := by decide
      rw [this]
      congr 2
      rw [Int.fdiv_eq_ediv_of_nonneg _ (by decide)]
      omega
    have e4 : IntKind.i64.wrap (((i + j) / 2 : Nat) : Int) = (((i + j) / 2 : Nat) : Int) := by rw [wrap_small] <;> omega
    obtain ⟨m, hm⟩ : ∃ m, (i + j) / 2 = m := ⟨_, rfl⟩
    rw [hm] at e3 e4
    obtain ⟨y, hy⟩ := nth_lt (l := xs) (i := m) (by omega)
    simp [hlt, e1, e2, e3, e4, hy, -gb_shr]
    refine hf y (List.mem_of_getElem? hy) _ ?_
    by_cases hc : c y < 0
    · have hmk : m < k := by
        rcases Nat.lt_or_ge m k with h' | h'
        · exact h'
        · have := hhi m y h' hy; omega
      simp [hc, wrap_suc (show m < _ by omega)]
      refine whK_go (j - (m + 1)) _ (by omega) ?_ ⟨rfl, m + 1, j, by omega, h2, h3, rfl, rfl⟩
      simp [mkEnv, List.replicate]
    · have hmk : k ≤ m := by
        rcases Nat.lt_or_ge m k with h' | h'
        · have := hlow m y h' hy; omega
        · exact h'
      simp [hc]
      refine whK_go (m - i) _ (by omega) ?_ ⟨rfl, i, m, h1, hmk, by omega, rfl, rfl⟩
      simp [mkEnv, List.replicate]
  · have hik : i = k := by omega
    subst hik
    simp [hlt]
    by_cases hkl : i < xs.length
    · obtain ⟨y, hy⟩ := nth_lt hkl
      have hy' : xs[i]? = some y := hy
      simp [hkl, hy]
      refine hf y (List.mem_of_getElem? hy) _ ?_
      rw [hy'] at h
      simpa using h
    · have hy' : xs[i]? = none := List.getElem?_eq_none (by omega)
      rw [hy'] at h
      simp [hkl]
      simpa using h
theorem aig_Eval_1_1_ok {l x : Int} {σ : GS} {Post : DV → GS → Prop} (hl : isVar (gabs l) = true) (hx : -9223372036854700000 ≤ x ∧ x < 9223372036854700000) (h : Post (.int .i64 (gabs l - x)) σ) : GCall Tryz.prog F_aig_Eval_1_1 [.int .i64 l, .int .i64 x] σ Post := by
  refine gc_aig_Eval_1_1 ?_
  have hv := hl
  simp only [isVar, Bool.and_eq_true, decide_eq_true_eq] at hv
  have e : IntKind.i64.wrap (gabs l - x) = gabs l - x := by rw [wrap_small] <;> omega
  simp [G_aig_Eval_1_1, genv0, List.replicate, max_abs hl, e]
  exact h
/-- Where the literals of variables from x on begin. -/
theorem normR_split {x : Int} : ∀ {a : List Int} {s : Int}, normR s a = true → ∃ k, k ≤ a.length ∧ (∀ (i : Nat) (y : Int), i < k → a[i]? = some y → gabs y < x) ∧ (∀ (i : Nat) (y : Int), k ≤ i → a[i]? = some y → x ≤ gabs y)
  | [], s, _ => ⟨0, by simp, fun i y h => absurd h (Nat.not_lt_zero _), fun i y _ h => by simp at h⟩
  | z :: a, s, h => by
    simp only [normR, Bool.and_eq_true, decide_eq_true_eq] at h
    obtain ⟨⟨h1, h2⟩, h3⟩ := h
    obtain ⟨k, k1, k2, k3⟩ := normR_split (x := x) h3
    by_cases hz : gabs z < x
    · refine ⟨k + 1, by simp; omega, fun i y hi hy => ?_, fun i y hi hy => ?_⟩
      · cases i with
        | zero => simp at hy; subst hy; exact hz
        | succ i => exact k2 i y (by omega) (by simpa using hy)
      · cases i with
        | zero => omega
        | succ i => exact k3 i y (by omega) (by simpa using hy)
    · have hall : ∀ {a : List Int} {s : Int}, normR s a = true → ∀ (i : Nat) (y : Int), a[i]? = some y → s < gabs y := by
        intro a
        induction a with
        | nil => intro s _ i y hy; simp at hy
        | cons u a ih =>
          intro s hs i y hy
          simp only [normR, Bool.and_eq_true, decide_eq_true_eq] at hs
          cases i with
          | zero => simp at hy; subst hy; exact hs.1.2
          | succ i => have := ih hs.2 i y (by simpa using hy); omega
      refine ⟨0, by simp, fun i y hi => absurd hi (Nat.not_lt_zero _), fun i y _ hy => ?_⟩
      cases i with
      | zero => simp at hy; subst hy; omega
      | succ i => have := hall h3 i y (by simpa using hy); omega
theorem aig_Eval_1_ok {a : List Int} {x : Int} {id : Nat} {σ : GS} {Post : DV → GS → Prop} (hb : gload (.load 1 false) [.ptr id 0] σ = some (fints a)) (hl : a.length < 2 ^ 60) (hn : normal a = true) (hx : isVar x = true) (h : Post (.bool (a.contains x)) σ) :
    GCall Tryz.prog F_aig_Eval_1 [.int .i64 x, .ptr id 0] σ Post := by
  rw [normal_eq] at hn
  have hv := normR_vars hn
  have hxr := hx
  simp only [isVar, Bool.and_eq_true, decide_eq_true_eq] at hxr
  obtain ⟨k, k1, k2, k3⟩ := normR_split (x := x) hn
  refine gc_aig_Eval_1 ?_
  simp [G_aig_Eval_1, genv0, List.replicate, hb]
  refine bsearch_ok (pre := []) (caps := []) (c := fun y => gabs y - x) (k := k) hl (fun y hy K hK => aig_Eval_1_1_ok (hv y hy) (by omega) hK) k1 (fun i y hi hy => by have := k2 i y hi hy; show gabs y - x < 0; omega) (fun i y hi hy => by have := k3 i y hi hy; show 0 ≤ gabs y - x; omega) ?_
  have hno : ∀ b : Bool, (match a[k]? with | some y => decide (gabs y - x = 0) | none => false) = b → b = false → a.contains x = false := by
    rintro b hb rfl
    rw [Bool.eq_false_iff]
    intro hc
    obtain ⟨i, hi⟩ := List.mem_iff_getElem?.1 (List.contains_iff_mem.1 hc)
    have hgx := gabs_pos hx
    have hik : k ≤ i := by
      rcases Nat.lt_or_ge i k with h' | h'
      · have := k2 i x h' hi; omega
      · exact h'
    -- what lies at k is no greater
    have hasc : ∀ {a : List Int} {s : Int}, normR s a = true → ∀ (i j : Nat) (y z : Int), i < j → a[i]? = some y → a[j]? = some z → gabs y < gabs z := by
      intro a
      induction a with
      | nil => intro s _ i j y z _ hy; simp at hy
      | cons u a ih =>
        intro s hs i j y z hij hy hz
        simp only [normR, Bool.and_eq_true, decide_eq_true_eq] at hs
        cases j with
        | zero => omega
        | succ j =>
          cases i with
          | zero =>
            simp at hy; subst hy
            have hall : ∀ {a : List Int} {s : Int}, normR s a = true → ∀ (i : Nat) (y : Int), a[i]? = some y → s < gabs y := by
              intro a
              induction a with
              | nil => intro s _ i y hy; simp at hy
              | cons u a ih =>
                intro s hs i y hy
                simp only [normR, Bool.and_eq_true, decide_eq_true_eq] at hs
                cases i with
                | zero => simp at hy; subst hy; exact hs.1.2
                | succ i => have := ih hs.2 i y (by simpa using hy); omega
            exact hall hs.2 j z (by simpa using hz)
          | succ i => exact ih hs.2 i j y z (by omega) (by simpa using hy) (by simpa using hz)
    have hkl : k < a.length := Nat.lt_of_le_of_lt hik (get_dom hi)
    obtain ⟨y, hy⟩ := get_lt hkl
    rw [hy] at hb
    simp at hb
    have h1 := k3 k y (Nat.le_refl _) hy
    rcases Nat.lt_or_ge k i with h' | h'
    · have := hasc hn k i y x h' hy hi; omega
    · have : i = k := by omega
      subst this
      rw [hy] at hi; cases hi
      omega
  generalize hbb : (match a[k]? with | some y => decide (gabs y - x = 0) | none => false) = b at *
  cases b with
  | false =>
    simp
    rw [hno false rfl rfl] at h; exact h
  | true =>
    simp [hb]
    refine contains_ok hl ?_
    simpa using h
theorem aig_value_ok {vs : List Bool} {e : Int} {σ : GS} {Post : DV → GS → Prop} (h0 : 0 ≤ e) (h1 : e < 2 * vs.length) (hl : vs.length < 2 ^ 60) (h : Post (.bool (edgeV vs e)) σ) : GCall Tryz.prog F_aig_value [fbools vs, .int .i64 e] σ Post := by
  refine gc_aig_value ?_
  obtain ⟨y, hy⟩ := nth_lt (l := vs) (i := (e / 2).toNat) (by omega)
  have hy' : vs[(e / 2).toNat]? = some y := hy
  have h2 : 0 ≤ e / 2 := by omega
  simp [G_aig_value, genv0, List.replicate, -gb_shr, shr_one h0, bits_and_one h0 (by omega), h2, hy]
  simpa [edgeV, List.getD, hy'] using h
theorem aig_value_row {vs : List Bool} {e : Int} {id : Nat} {cap : Option Nat} {σ : GS} {Post : DV → GS → Prop} (hr : σ[id]? = some (.row false (bools vs))) (h0 : 0 ≤ e) (h1 : e < 2 * vs.length) (hl : vs.length < 2 ^ 60) (h : Post (.bool (edgeV vs e)) σ) :
    GCall Tryz.prog F_aig_value [.slice id 0 vs.length 1 cap, .int .i64 e] σ Post :=
  GCall.borrow (.cons (rd_bools hr trivial) (.cons (.same _) .nil)) (by simp) rfl (aig_value_ok h0 h1 hl rfl) h
theorem edgeV_app {vs us : List Bool} {e : Int} (h : (e / 2).toNat < vs.length) : edgeV (vs ++ us) e = edgeV vs e := by
  unfold edgeV; rw [List.getD_eq_getElem?_getD, List.getElem?_append_left h, ← List.getD_eq_getElem?_getD]
/-- The state of run: the row of values, and the box of the graph. -/
structure RunSt (σ0 σ' : GS) (id : Nat) (g : AigP) (vs : List Bool) : Prop where
  row : σ'[id]? = some (.row false (bools vs))
  box : σ'[σ0.length]? = some (.row false [fints g.ins, fands g.ands])
  len : σ0.length < σ'.length
  oth : ∀ j, j ≠ id → j < σ0.length → σ'[j]? = σ0[j]?
theorem RunSt.set {σ0 σ' : GS} {id : Nat} {g : AigP} {vs : List Bool} (h : RunSt σ0 σ' id g vs) (hid : id < σ0.length) (i : Nat) (b : Bool) (τ : GS) : RunSt σ0 (σ'.set id (.row false (bools (vs.set i b))) ++ τ) id g (vs.set i b) := by
  have hl := h.len
  refine ⟨?_, ?_, by simp; omega, fun j hj hlt => ?_⟩
  · rw [List.getElem?_append_left (by simp; omega), List.getElem?_set_self (by omega)]
  · rw [List.getElem?_append_left (by simp; omega), List.getElem?_set_ne (by omega)]; exact h.box
  · rw [List.getElem?_append_left (by simp; omega), List.getElem?_set_ne (fun e => hj e.symm)]; exact h.oth j hj hlt
theorem aig_run_ok {g : AigP} {vs : List Bool} {id : Nat} {cap : Option Nat} {f : FuncId} {pre caps : List DV} {on : Int → Bool} {σ : GS} {Post : DV → GS → Prop} (hs : g.Sm) (hm : g.may = true) (hr : σ[id]? = some (.row false (bools vs))) (hvl : vs.length = g.nodes) (hv0 : vs[0]? = some false)
    (hf : ∀ x ∈ g.ins, ∀ σ', (∀ j, j ≠ id → j < σ.length → σ'[j]? = σ[j]?) → ∀ K : DV → GS → Prop, K (.bool (on x)) σ' → GCall Tryz.prog f (pre ++ .int .i64 x :: caps) σ' K)
    (h : Post (.tuple []) (σ.set id (.row false (bools (g.vals on))))) : GCall Tryz.prog F_aig_run [g.enc, .slice id 0 vs.length 1 cap, .func f pre caps] σ Post := by
  have h1 := hs.ins
  have h2 := hs.ands
  have hid := get_dom hr
  have hn := AigP.may_nodes hm
  have hnn : g.nodes = 1 + g.ins.length + g.ands.length := rfl
  have hok : andsOk (2 * (1 + g.ins.length)) g.ands = true := by
    simp only [AigP.may, Bool.and_eq_true] at hm; exact hm.2
  refine GCall.cut ?_
  refine gc_aig_run ?_
  simp [G_aig_run, genv0, List.replicate]
  have hst0 : RunSt σ (σ ++ [.row false [fints g.ins, fands g.ands]]) id g vs := ⟨getE_append hr, by simp, by simp, fun j _ hj => List.getElem?_append_left hj⟩
  obtain ⟨r0, rfl⟩ : ∃ r0, vs = false :: r0 := by
    cases vs with
    | nil => simp at hv0
    | cons a l => simp at hv0; exact ⟨l, by rw [hv0]⟩
  obtain ⟨n, hnv⟩ : ∃ n, (false :: r0).length = n := ⟨_, rfl⟩
  rw [hnv] at hvl
  simp only [List.length_cons] at hnv
  have hvn : ∀ us : List Bool, us.length = n → DV.slice id 0 n 1 cap = .slice id 0 us.length 1 cap := fun us h => by rw [h]
  simp only [List.length_cons, hnv]
  refine gfor g.ins.length (fun i e σ' => (∃ r, RunSt σ σ' id g ((false :: (g.ins.take i).map on) ++ r) ∧ 1 + i + r.length = n) ∧ e = mkEnv 55 [(1, .slice id 0 n 1 cap), (2, .func f pre caps), (3, .ptr σ.length 0), (12, fints g.ins), (13, .int .i64 g.ins.length), (14, .int .i64 i)]) _ ?_ ⟨⟨r0, hst0, by omega⟩, rfl⟩ ?_
  · simp [mkEnv, List.replicate]
  rintro i _ σ1 hi ⟨⟨r, hst, hrl⟩, rfl⟩
  simp [mkEnv, List.replicate]
  by_cases hlt : i < g.ins.length
  · obtain ⟨y, hy⟩ := nth_lt hlt
    have hpl : (false :: (g.ins.take i).map on).length = i + 1 := by simp; omega
    cases r with
    | nil => simp at hrl; omega
    | cons z r =>
    simp at hrl
    have e1 := iaddr_own (id := id) (n := n) (sz := 1) (i := i + 1) (k := .i64) (cap := cap) (by omega)
    have e2 := store_bool (b := on y) hst.row (i := i + 1) (by simp; omega)
    simp only [Nat.mul_one] at e1
    rw [show (((i + 1 : Nat)) : Int) = (i : Int) + 1 by omega] at e1
    have hst' := hst.set hid (i + 1) (on y) []
    rw [set_mid hpl.symm, List.append_nil] at hst'
    rw [set_mid hpl.symm] at e2
    simp only [List.cons_append, List.nil_append] at e2
    simp [hlt, hy, wrap_suc (show i < _ by omega)]
    refine hf y (List.mem_of_getElem? hy) σ1 hst.oth _ ?_
    simp at e2
    simp [e1, e2, wrap_suc (show i < _ by omega)]
    refine forK_go _ hlt (by simp [mkEnv, List.replicate]) ⟨⟨r, ?_, by omega⟩, rfl⟩
    have hy' : g.ins[i]? = some y := hy
    simpa [take_get hy'] using hst'
  · have : i = g.ins.length := by omega
    subst this
    rw [List.take_length] at hst
    have e0 : IntKind.i64.wrap (1 + (g.ins.length : Int)) = 1 + g.ins.length := by rw [wrap_small] <;> omega
    simp [ld_at hst.box, e0]
    refine gfor g.ands.length (fun i e σ' => (∃ r, RunSt σ σ' id g ((g.ands.take i).foldl andStep (false :: g.ins.map on) ++ r) ∧ 1 + g.ins.length + i + r.length = n) ∧ e = mkEnv 55 [(1, .slice id 0 n 1 cap), (8, .int .i64 (1 + g.ins.length)), (32, fands g.ands), (33, .int .i64 g.ands.length), (34, .int .i64 i)]) _ ?_ ⟨⟨r, by simpa using hst, by omega⟩, rfl⟩ ?_
    · simp [mkEnv, List.replicate]
    clear hst e0 hi hst0 σ1 hlt hrl r
    rintro i _ σ1 hi ⟨⟨r, hst, hrl⟩, rfl⟩
    simp [mkEnv, List.replicate]
    by_cases hlt : i < g.ands.length
    · obtain ⟨p, hp⟩ := nth_lt hlt
      have hp' : g.ands[i]? = some p := hp
      obtain ⟨q1, q2, q3, q4⟩ := andsOk_get hok hp
      have hl1 := hst.len
      cases r with
      | nil => simp at hrl; omega
      | cons z r =>
      simp at hrl
      have hpl : ((g.ands.take i).foldl andStep (false :: g.ins.map on)).length = 1 + g.ins.length + i := by rw [foldl_andStep_len]; simp; omega
      obtain ⟨P, hP⟩ : ∃ P, (g.ands.take i).foldl andStep (false :: g.ins.map on) = P := ⟨_, rfl⟩
      have hfin : (g.ands.take (i + 1)).foldl andStep (false :: g.ins.map on) = P ++ [edgeV P p.1 && edgeV P p.2] := by rw [fold_take hp', hP]; rfl
      rw [hP] at hst hpl
      have e0 : IntKind.i64.wrap (1 + (g.ins.length : Int) + i) = ((1 + g.ins.length + i : Nat) : Int) := by rw [wrap_small] <;> omega
      have e1 := iaddr_own (id := id) (n := n) (sz := 1) (i := 1 + g.ins.length + i) (k := .i64) (cap := cap) (by omega)
      simp only [Nat.mul_one] at e1
      have hrow' : ∀ τ, (σ1 ++ τ)[id]? = some (.row false (bools (P ++ z :: r))) := fun τ => getE_append hst.row
      have hus : (P ++ z :: r).length = n := by simp; omega
      have hval : ∀ e : Int, 0 ≤ e → e < 2 * (1 + g.ins.length) + 2 * i → edgeV (P ++ z :: r) e = edgeV P e := fun e he1 he2 => edgeV_app (by omega)
      have hset : ∀ (b : Bool) (τ : GS), gimp (.store 1) [.ptr id (1 + g.ins.length + i), .bool b] (σ1 ++ τ) = some (.tuple [], σ1.set id (.row false (bools (P ++ b :: r))) ++ τ) := fun b τ => by
        rw [st_app (by omega), store_bool hst.row (by omega), set_mid hpl.symm]; rfl
      have hst' : ∀ (b : Bool) (τ : GS), RunSt σ (σ1.set id (.row false (bools (P ++ b :: r))) ++ τ) id g (P ++ b :: r) := fun b τ => by
        have := hst.set hid (1 + g.ins.length + i) b τ
        rwa [set_mid hpl.symm] at this
      simp [hlt, hp, e0]
      rw [← hus]
      refine aig_value_row (hrow' _) q1 (by omega) (by omega) ?_
      rw [hval _ q1 q3, hus]
      by_cases b1 : edgeV P p.1 = true
      · simp [b1]
        rw [← hus]
        refine aig_value_row (hrow' _) q2 (by omega) (by omega) ?_
        rw [hval _ q2 q4, hus]
        simp at e1
        simp [e1, hset, wrap_suc (show i < _ by omega)]
        refine forK_go _ hlt (by simp [mkEnv, List.replicate]) ⟨⟨r, ?_, by omega⟩, rfl⟩
        rw [hfin, b1]
        simpa using hst' (edgeV P p.2) _
      · simp at e1
        simp [b1, e1, hset, wrap_suc (show i < _ by omega)]
        refine forK_go _ hlt (by simp [mkEnv, List.replicate]) ⟨⟨r, ?_, by omega⟩, rfl⟩
        simp only [Bool.not_eq_true] at b1
        rw [hfin, b1]
        simpa using hst' false _
    · have : i = g.ands.length := by omega
      subst this
      rw [List.take_length] at hst
      have : r = [] := List.length_eq_zero_iff.1 (by omega)
      subst this
      have hl1 := hst.len
      have hvals : g.ands.foldl andStep (false :: g.ins.map on) ++ [] = g.vals on := by rw [List.append_nil]; rfl
      rw [hvals] at hst
      simp
      have htk : σ1.take σ.length = σ.set id (.row false (bools (g.vals on))) := by
        apply List.ext_getElem?
        intro j
        rw [List.getElem?_take]
        by_cases hj : j < σ.length
        · rw [if_pos hj]
          by_cases hji : j = id
          · subst hji; rw [hst.row, List.getElem?_set_self hid]
          · rw [hst.oth j hji hj, List.getElem?_set_ne (fun e => hji e.symm)]
        · rw [if_neg hj, List.getElem?_eq_none (by simp; omega)]
      refine ⟨fun j o hj ho => ?_, rfl, by rw [htk]; exact h⟩
      by_cases hji : j = id
      · subst hji; rw [hst.row] at ho; cases ho; exact .inr (unders_bools _ _)
      · rw [hst.oth j hji hj] at ho; exact .inl ho
/-- The value of an edge under an assignment, and the error. -/
def AigP.eval (g : AigP) (e : Int) (a : List Int) : Bool × Int := if g.all [e] && normal a then (edgeV (g.vals a.contains) e, 0) else (false, 2)
theorem aig_Eval_ok {g : AigP} {e : Int} {a : List Int} {σ : GS} {Post : DV → GS → Prop} (hs : g.Sm) (hl : a.length < 2 ^ 60) (h6 : I64 a) (h : Post (.tuple [.bool (g.eval e a).1, .int .i64 (g.eval e a).2]) σ) : GCall Tryz.prog F_aig_Eval [g.enc, .int .i64 e, fints a] σ Post := by
  refine GCall.say (r := .tuple [.bool (g.eval e a).1, .int .i64 (g.eval e a).2]) ?_ rfl h
  refine gc_aig_Eval ?_
  simp [G_aig_Eval, genv0, List.replicate]
  refine GCall.borrow (args' := [g.enc, fints [e]]) (r := .bool (g.all [e])) (.cons (.same _) (.cons (rd_ints (vs := [e]) (ro := false) (cap := some 1) (by simp) trivial) .nil)) (by simp) rfl (aig_all_ok hs (by simp) rfl) ?_
  by_cases ha : g.all [e] = true
  · simp [ha]
    refine aig_normal_ok hl h6 ?_
    by_cases hn : normal a = true
    · have hm := AigP.all_may ha
      have hnn := AigP.may_nodes hm
      obtain ⟨he0, he1⟩ := AigP.all_has ha (List.mem_singleton_self e)
      simp [hn]
      refine aig_nodes_ok hs ?_
      simp [mslice_bools (show g.nodes < 2 ^ 40 by omega)]
      obtain ⟨vs, hvs⟩ : ∃ vs, List.replicate g.nodes false = vs := ⟨_, rfl⟩
      have hvl : vs.length = g.nodes := by rw [← hvs]; simp
      have hpos : 0 < g.nodes := by unfold AigP.nodes; omega
      have hv0 : vs[0]? = some false := by rw [← hvs]; simp [hpos]
      rw [show List.replicate g.nodes (DV.bool false) = bools vs by rw [← hvs]; simp [bools]]
      have e1 : (DV.slice (σ.length + (0 + 1 + 1 + 1)) 0 g.nodes 1 (some g.nodes)) = .slice (σ.length + 3) 0 vs.length 1 (some g.nodes) := by rw [hvl]
      rw [← hvl]
      refine aig_run_ok (on := a.contains) (pre := []) hs hm (by simp) hvl hv0 (fun x hx σ' hf K hK => ?_) ?_
      · refine aig_Eval_1_ok (id := σ.length + 1) ?_ hl hn (insOk_vars (AigP.may_ins hm) x hx) hK
        rw [ld_at ((hf (σ.length + 1) (by omega) (by simp)).trans (show _ = some (GObj.row false [fints a]) by simp))]
        rfl
      · simp
        rw [hvl, ← AigP.vals_len g a.contains]
        refine aig_value_row (by simp) he0 (by rw [AigP.vals_len]; omega) (by rw [AigP.vals_len]; omega) ?_
        simp [AigP.eval, ha, hn]
    · simp [hn, AigP.eval]
  · simp [ha, AigP.eval]
end Go.Gh
namespace Go.Gh
open Go.RowKit Go.Proofs
set_option linter.unusedVariables false
set_option linter.unusedSimpArgs false
set_option maxRecDepth 100000
def fitE (n : Nat) (x : Int) : Int := x % (2 * n)
theorem fit_eq {x m : Int} (hm : 0 < m) : (x.tmod m + m).tmod m = x % m := by
  have h1 : 0 ≤ x.tmod m + m := by
    have := Int.lt_tmod_of_pos x hm; omega
  rw [Int.tmod_eq_emod_of_nonneg h1, Int.add_emod_right, Int.tmod_def, Int.sub_mul_emod_self_left]
theorem fit_range {n : Nat} (h : 0 < n) (x : Int) : 0 ≤ fitE n x ∧ fitE n x < 2 * n := by
  unfold fitE
  exact ⟨Int.emod_nonneg _ (by omega), Int.emod_lt_of_pos _ (by omega)⟩
theorem fit_ok {l : List Int} {n : Nat} {σ : GS} {Post : DV → GS → Prop} (hl : l.length < 2 ^ 40) (h0 : 0 < n) (hn : n < 2 ^ 40) (h : Post (fints (l.map (fitE n))) σ) : GCall Tryz.prog F_skolemlaw06_fit [fints l, .int .i64 n] σ Post := by
  refine GCall.pure (r := fints (l.map (fitE n))) ?_ (closed_fints _) h
  refine gc_skolemlaw06_fit ?_
  simp [G_skolemlaw06_fit, genv0, List.replicate]
  refine gfor l.length (fun i e σ' => ∃ s, e = mkEnv 29 [(1, .int .i64 n), (5, s), (8, fints l), (9, .int .i64 l.length), (10, .int .i64 i)] ∧ Own σ.length 1 eint σ' s ((l.take i).map (fitE n)) ∧ Fr σ.length σ σ') _ ?_ ⟨.nils, rfl, by simpa using Own.nil, .rfl'⟩ ?_
  · simp [mkEnv, List.replicate]
  rintro i _ σ' hi ⟨s, rfl, hO, hF⟩
  simp [mkEnv, List.replicate]
  by_cases hlt : i < l.length
  · obtain ⟨x, hx⟩ := nth_lt hlt
    have hx' := nth_get hx
    have es : IntKind.i64.wrap ((i : Int) + 1) = (i : Int) + 1 := by rw [wrap_small] <;> omega
    have e2 : IntKind.i64.wrap (2 * (n : Int)) = 2 * n := by rw [wrap_small] <;> omega
    have hm : (0 : Int) < 2 * n := by omega
    have b1 := Int.lt_tmod_of_pos x hm
    have b2 := Int.tmod_lt_of_pos x hm
    have e3 : IntKind.i64.wrap (x.tmod (2 * n)) = x.tmod (2 * n) := by rw [wrap_small] <;> omega
    have e4 : IntKind.i64.wrap (x.tmod (2 * n) + 2 * n) = x.tmod (2 * n) + 2 * n := by rw [wrap_small] <;> omega
    have hfr := fit_range h0 x
    have e5 : IntKind.i64.wrap ((x.tmod (2 * n) + 2 * n).tmod (2 * n)) = fitE n x := by
      rw [fit_eq hm]; unfold fitE at hfr ⊢; rw [wrap_small] <;> omega
    have e6 : (x.tmod (2 * n) + 2 * n).tmod (2 * n) = fitE n x := fit_eq hm
    have hne : ¬ ((2 * (n : Int)) = 0) := by omega
    have hne2 : ¬ n = 0 := by omega
    obtain ⟨s', σ2, q1, q2, q3, _⟩ := hO.push (by_ := 8) (fitE n x) (fun _ => rfl) (by simp) hF.len (by simp; omega) (by decide)
    have e7 : IntKind.i64.wrap (fitE n x) = fitE n x := by rw [wrap_small] <;> omega
    simp [hlt, hx, e2, e3, e4, e6, e7, hne, hne2, q1, es]
    exact forK_go _ hlt (by simp [mkEnv, List.replicate]) ⟨s', rfl, by rw [take_get hx']; simpa using q2, hF.trans q3⟩
  · have : i = l.length := by omega
    subst this
    rw [List.take_length] at hO
    simp
    exact ⟨hF, hO.rd (fun _ => rfl) fun i hi => .inl (by omega)⟩
theorem has_ok {l : List (Int × Int)} {v : Int} {σ : GS} {Post : DV → GS → Prop} (hl : l.length < 2 ^ 40) (h : Post (.bool (l.any fun o => decide (o.1 = v))) σ) : GCall Tryz.prog F_skolemlaw06_has [fands l, .int .i64 v] σ Post := by
  obtain ⟨r, hr⟩ : ∃ r, (l.any fun o => decide (o.1 = v)) = r := ⟨_, rfl⟩
  rw [hr] at h
  refine GCall.say (r := .bool r) ?_ rfl h
  refine gc_skolemlaw06_has ?_
  simp [G_skolemlaw06_has, genv0, List.replicate]
  refine gfor l.length (fun i e σ' => e = mkEnv 18 [(1, .int .i64 v), (7, fands l), (8, .int .i64 l.length), (9, .int .i64 i)] ∧ Fr σ.length σ σ' ∧ r = ((l.drop i).any fun o => decide (o.1 = v))) _ ?_ ⟨rfl, .rfl', hr.symm⟩ ?_
  · simp [mkEnv, List.replicate]
  rintro i _ σ' hi ⟨rfl, hF, hI⟩
  simp [mkEnv, List.replicate]
  by_cases hlt : i < l.length
  · obtain ⟨o, ho⟩ := nth_lt hlt
    have ho' := nth_get ho
    rw [drop_get ho', List.any_cons] at hI
    have es : IntKind.i64.wrap ((i : Int) + 1) = (i : Int) + 1 := by rw [wrap_small] <;> omega
    by_cases c : o.1 = v
    · simp [hlt, ho, c]
      exact ⟨hF.app _, by rw [hI, c]; simp⟩
    · simp [hlt, ho, c, es]
      refine forK_go _ hlt (by simp [mkEnv, List.replicate]) ⟨rfl, hF.app _, ?_⟩
      rw [hI]; simp [c]
  · have : i = l.length := by omega
    subst this
    rw [List.drop_length] at hI
    simp
    exact ⟨hF, by rw [hI]; rfl⟩
theorem has_live {l : List (Int × Int)} {v : Int} {n : Nat} {s : DV} {σ : GS} {Post : DV → GS → Prop} (hO : Own n 2 eand σ s l) (hl : l.length < 2 ^ 40) (h : Post (.bool (l.any fun o => decide (o.1 = v))) σ) : GCall Tryz.prog F_skolemlaw06_has [s, .int .i64 v] σ Post :=
  GCall.borrow (args' := [fands l, .int .i64 v]) (.cons (hO.rd (fun _ => rfl) fun _ _ => trivial) (.cons (.same _) .nil)) (by simp) rfl (has_ok hl rfl) h
theorem gequal_ok {g k : AigP} {x y : Int} {a b : List Int} {σ : GS} {Post : DV → GS → Prop} (hg : g.Sm) (hk : k.Sm) (ha : a.length < 2 ^ 60) (ha6 : I64 a) (hb : b.length < 2 ^ 60) (hb6 : I64 b) (h : Post (.bool (decide ((g.eval x a).2 = 0) && decide ((k.eval y b).2 = 0) && decide ((g.eval x a).1 = (k.eval y b).1))) σ) :
    GCall Tryz.prog F_skolemlaw06_equal [g.enc, .int .i64 x, fints a, k.enc, .int .i64 y, fints b] σ Post := by
  refine GCall.say (r := .bool (decide ((g.eval x a).2 = 0) && decide ((k.eval y b).2 = 0) && decide ((g.eval x a).1 = (k.eval y b).1))) ?_ rfl h
  refine gc_skolemlaw06_equal ?_
  simp [G_skolemlaw06_equal, genv0, List.replicate]
  refine aig_Eval_ok hg ha ha6 ?_
  simp
  refine aig_Eval_ok hk hb hb6 ?_
  obtain ⟨p, hp⟩ : ∃ p, g.eval x a = p := ⟨_, rfl⟩
  obtain ⟨q, hq⟩ : ∃ q, k.eval y b = q := ⟨_, rfl⟩
  rw [hp, hq]
  by_cases c1 : p.2 = 0
  · by_cases c2 : q.2 = 0
    · simp [c1, c2]
      cases p.1 <;> cases q.1 <;> rfl
    · simp [c1, c2]
  · simp [c1]
end Go.Gh
namespace Go.Gh
open Go.RowKit Go.Proofs
set_option linter.unusedVariables false
set_option linter.unusedSimpArgs false
set_option maxRecDepth 100000
/-- Where a literal goes. -/
def insI (x : Int) (l : List Int) : Nat := (l.takeWhile fun y => decide (gabs y < gabs x)).length
theorem insI_le (x : Int) (l : List Int) : insI x l ≤ l.length := by unfold insI; exact (List.takeWhile_sublist _).length_le
theorem insM_eq (x : Int) : ∀ l : List Int, insM x l = if (∃ y, l[insI x l]? = some y ∧ gabs y = gabs x) then l else l.take (insI x l) ++ x :: l.drop (insI x l)
  | [] => by simp [insM, insI]
  | y :: l => by
    have ih := insM_eq x l
    unfold insM
    by_cases c : gabs y < gabs x
    · have e : insI x (y :: l) = insI x l + 1 := by simp [insI, List.takeWhile_cons, c]
      rw [if_pos c, ih, e]
      simp only [List.getElem?_cons_succ, List.take_succ_cons, List.drop_succ_cons]
      split <;> rfl
    · have e : insI x (y :: l) = 0 := by simp [insI, List.takeWhile_cons, c]
      rw [if_neg c, e]
      by_cases c2 : gabs y = gabs x
      · rw [if_pos c2, if_pos ⟨y, rfl, c2⟩]
      · rw [if_neg c2, if_neg]
        · rfl
        · rintro ⟨z, hz, hz2⟩
          simp at hz; subst hz; exact c2 hz2
theorem insI_before {x : Int} : ∀ {l : List Int} {j : Nat} {y : Int}, j < insI x l → l[j]? = some y → gabs y < gabs x
  | [], j, y, _, h => by simp at h
  | z :: l, j, y, hj, h => by
    by_cases c : gabs z < gabs x
    · cases j with
      | zero => simp at h; subst h; exact c
      | succ j =>
        have e : insI x (z :: l) = insI x l + 1 := by simp [insI, List.takeWhile_cons, c]
        exact insI_before (l := l) (j := j) (by omega) (by simpa using h)
    · have e : insI x (z :: l) = 0 := by simp [insI, List.takeWhile_cons, c]
      omega
theorem insI_at {x : Int} : ∀ {l : List Int} {y : Int}, l[insI x l]? = some y → ¬ gabs y < gabs x
  | [], y, h => by simp at h
  | z :: l, y, h => by
    by_cases c : gabs z < gabs x
    · have e : insI x (z :: l) = insI x l + 1 := by simp [insI, List.takeWhile_cons, c]
      rw [e] at h
      exact insI_at (l := l) (by simpa using h)
    · have e : insI x (z :: l) = 0 := by simp [insI, List.takeWhile_cons, c]
      rw [e] at h; simp at h; subst h; exact c
theorem insM_len (x : Int) : ∀ l : List Int, (insM x l).length ≤ l.length + 1
  | [] => by simp [insM]
  | y :: l => by
    have := insM_len x l
    unfold insM; split
    · simp; omega
    · split <;> simp
theorem append_capN {sz b : Nat} {s x s' : DV} {σ σ' : GS} (hs : NoCap s ∨ ∃ id, s = .slice id 0 0 sz (some 0)) (h : gimp (.append sz b) [s, x] σ = some (s', σ')) (hg : glen x ≠ 0) : NoCap s' := by
  rcases hs with hs | ⟨id, rfl⟩
  · exact append_nocap hs h
  · simp only [gimp, gappend] at h
    split at h
    · cases h
    rename_i new hr
    rw [if_neg hg, if_pos trivial, if_neg (by omega)] at h
    split at h
    · split at h
      · cases h; exact trivial
      · cases h
    · cases h
theorem append_capZ {sz b : Nat} {s x s' : DV} {σ σ' : GS} (hs : NoCap s ∨ ∃ id, s = .slice id 0 0 sz (some 0)) (h : gimp (.append sz b) [s, x] σ = some (s', σ')) : NoCap s' ∨ ∃ id, s' = .slice id 0 0 sz (some 0) := by
  by_cases hg : glen x = 0
  · have : s' = s := by
      simp only [gimp, gappend] at h
      split at h
      · cases h
      rcases hs with hs | ⟨id, rfl⟩
      · cases s with
        | slice id off len sz' cap => simp [hg] at h; exact h.1.symm
        | nils => simp [hg] at h; exact h.1.symm
        | fsl z es => simp [hg] at h; exact h.1.symm
        | _ => simp at h
      · simp [hg] at h; exact h.1.symm
    rw [this]; exact hs
  · exact .inl (append_capN hs h hg)
/-- A part of a slice of one's own, read. -/
theorem Own.part {n : Nat} {σ : GS} {s : DV} {xs : List Int} (hO : Own n 1 eint σ s xs) (hN : NoCap s) {j : Nat} (hj : j ≤ xs.length) : ∃ lo hi, gpure (.slice 1 false true false) [s, .int .i64 (j : Int)] = some lo ∧ gpure (.slice 1 true false false) [s, .int .i64 (j : Int)] = some hi ∧
    ∀ σ', (∀ i, s.has i → σ'[i]? = σ[i]?) → gread 1 lo σ' = some ((xs.take j).flatMap eint) ∧ glen lo = (xs.take j).length ∧ gread 1 hi σ' = some ((xs.drop j).flatMap eint) ∧ glen hi = (xs.drop j).length := by
  rcases hO with ⟨rfl, rfl⟩ | ⟨id, cap, rest, h1, rfl, h3, h4⟩
  · have : j = 0 := by simpa using hj
    subst this
    exact ⟨.nils, .nils, rfl, rfl, fun σ' _ => ⟨rfl, rfl, rfl, rfl⟩⟩
  · cases cap with
    | some c => exact absurd hN (by simp [NoCap])
    | none =>
      have hfm : ∀ l : List Int, l.flatMap eint = ints l := fun l => by
        induction l with
        | nil => rfl
        | cons x l ih => rw [List.flatMap_cons, ih]; rfl
      have h1 := slice_lo (id := id) (off := 0) hj
      rw [Nat.zero_add] at h1
      refine ⟨_, _, slice_hi hj, h1, fun σ' hσ => ?_⟩
      have h3' := (hσ id ⟨_, _, _, _, rfl⟩).trans h3
      have hl : (xs.flatMap eint ++ rest).length = xs.length + rest.length := by rw [hfm]; simp
      refine ⟨?_, by simp [glen]; omega, ?_, by simp [glen]⟩
      · by_cases hj0 : j = 0
        · subst hj0; simp [gread]
        · simp only [gread, if_neg hj0, if_pos, h3']
          rw [if_pos (by omega), hfm, hfm, List.drop_zero, Nat.mul_one, List.take_append_of_le_length (by simpa using hj)]
          simp
      · by_cases hj0 : xs.length - j = 0
        · have : xs.drop j = [] := by simp; omega
          rw [this]; simp [gread, hj0]
        · simp only [gread, if_neg hj0, if_pos, h3']
          rw [if_pos (by omega), hfm, hfm, List.drop_append_of_le_length (by simpa using hj), Nat.mul_one, List.take_append_of_le_length (by simp)]
          rw [List.take_of_length_le (by simp)]
          simp
set_option maxHeartbeats 1000000 in
theorem merged_live {l : List Int} {n : Nat} {s : DV} {σ : GS} {Post : DV → GS → Prop} (hO : Own n 1 eint σ s l) (hl : l.length < 2 ^ 40) (h : Post (fints (mergedI l)) σ) : GCall Tryz.prog F_skolemlaw06_merged [s] σ Post := by
  refine GCall.pure (r := fints (mergedI l)) ?_ (closed_fints _) h
  refine gc_skolemlaw06_merged ?_
  have hlen : gpure .len [s] = some (.int .i64 l.length) := hO.len
  simp [G_skolemlaw06_merged, genv0, List.replicate, hlen]
  refine gfor l.length (fun i e σ' => ∃ t, e = mkEnv 58 [(3, t), (8, s), (9, .int .i64 l.length), (10, .int .i64 i)] ∧ Own σ.length 1 eint σ' t (mergedI (l.take i)) ∧ NoCap t ∧ (mergedI (l.take i)).length ≤ i ∧ Fr σ.length σ σ') _ ?_ ⟨.nils, rfl, by simpa [mergedI] using Own.nil, trivial, by simp [mergedI], .rfl'⟩ ?_
  · simp [mkEnv, List.replicate]
  rintro i _ σ' hi ⟨t, rfl, hT, hN, hml, hF⟩
  simp [mkEnv, List.replicate]
  by_cases hlt : i < l.length
  · obtain ⟨x, hx'⟩ := get_lt hlt
    have es : IntKind.i64.wrap ((i : Int) + 1) = (i : Int) + 1 := by rw [wrap_small] <;> omega
    have hmt : mergedI (l.take (i + 1)) = insM x (mergedI (l.take i)) := by rw [take_get hx']; simp [mergedI, List.foldl_append]
    obtain ⟨out, hout⟩ : ∃ out, mergedI (l.take i) = out := ⟨_, rfl⟩
    rw [hout] at hT hml hmt
    obtain ⟨sid, s1, s2, s3, s4⟩ := (hO.fr hF).get (fun _ => rfl) hx' (k := .i64)
    have s5 : gload (.load 1 false) [.ptr sid (i * 1)] σ' = some (.int .i64 x) := s4 0 (by omega)
    simp only [Nat.mul_one] at s2 s5
    simp [hlt, s2, s5]
    refine ref_Abs_ok ?_
    have hTlen : gpure .len [t] = some (.int .i64 out.length) := hT.len
    simp
    refine gfor out.length (fun j e σ2 => e = mkEnv 58 [(3, t), (5, .int .i64 x), (6, .int .i64 (gabs x)), (7, .int .i64 j), (8, s), (9, .int .i64 l.length), (10, .int .i64 i)] ∧ σ2 = σ' ∧ j ≤ insI x out) _ ?_ ⟨rfl, rfl, by omega⟩ ?_
    · simp [mkEnv, List.replicate]
    rintro j _ σz hj ⟨rfl, hσz, hji⟩
    rw [hσz]
    clear hσz σz
    simp [mkEnv, List.replicate, hTlen]
    have hile := insI_le x out
    have hget : ∀ (q : Nat) (y : Int), out[q]? = some y → ∃ tid, gpure (.iaddr 1) [t, .int .i64 (q : Int)] = some (.ptr tid q) ∧ gload (.load 1 false) [.ptr tid q] σ' = some (.int .i64 y) := fun q y hq => by
      obtain ⟨tid, t1, t2, t3, t4⟩ := hT.get (fun _ => rfl) hq (k := .i64)
      have t5 : gload (.load 1 false) [.ptr tid (q * 1)] σ' = some (.int .i64 y) := t4 0 (by omega)
      simp only [Nat.mul_one] at t2 t5
      exact ⟨tid, t2, t5⟩
    by_cases hjl : j < insI x out
    · obtain ⟨y, hy⟩ := get_lt (xs := out) (i := j) (by omega)
      obtain ⟨tid, t2, t5⟩ := hget j y hy
      have hlt3 := insI_before hjl hy
      have hjo : j < out.length := by omega
      have esj : IntKind.i64.wrap ((j : Int) + 1) = (j : Int) + 1 := by rw [wrap_small] <;> omega
      simp [hjo, t2, t5]
      refine ref_Abs_ok ?_
      simp [hlt3, esj]
      exact forK_go _ hjo (by simp [mkEnv, List.replicate]) ⟨rfl, rfl, by omega⟩
    · have hje : j = insI x out := by omega
      obtain ⟨J, hJ⟩ : ∃ J, insI x out = J := ⟨_, rfl⟩
      rw [hJ] at hje hile
      subst hje
      have heq := insM_eq x out
      rw [hJ] at heq
      obtain ⟨lo, hi', p1, p2, p3⟩ := hT.part hN hile
      obtain ⟨τ, hτ⟩ : ∃ τ, σ' ++ [.row false [], .row false [.int .i64 x]] = τ := ⟨_, rfl⟩
      have hτl : τ.length = σ'.length + 2 := by rw [← hτ]; simp
      have hτk : ∀ i, i < σ'.length → τ[i]? = σ'[i]? := fun i hi => by rw [← hτ]; exact List.getElem?_append_left hi
      have hFl := hF.len
      have hE : Own σ.length 1 eint τ (.slice σ'.length 0 0 1 (some 0)) [] := by
        have := Own.at_ (n := σ.length) (enc := eint) (sz := 1) (xs := []) (σ := τ) (id := σ'.length) (cap := some 0) hFl (by rw [← hτ]; simp) (fun c hc => by cases hc; rfl)
        simpa using this
      obtain ⟨r1, r2, r3, r4⟩ := p3 τ (fun i hi => hτk i (hT.has_lt hi))
      have hol : out.length < 2 ^ 40 := by omega
      obtain ⟨u1, τ1, a1, a2, a3, a4, a5, a6, _⟩ := hE.append (by_ := 8) (x := lo) (ys := out.take j) (fun _ => rfl) r1 r2 (by simp) (by omega) (by simp; omega) (by decide)
      have hsm1 : τ1[σ'.length + 1]? = τ[σ'.length + 1]? := a5 _ (by omega) (fun ⟨_, _, _, _, e⟩ => by injection e with e1; omega)
      have hx1 : gread 1 (.slice (σ'.length + 1) 0 1 1 (some 1)) τ1 = some ([x].flatMap eint) := by
        have hrow : τ1[σ'.length + 1]? = some (.row false [.int .i64 x]) := by
          rw [a5 _ (by omega) (fun ⟨_, _, _, _, e⟩ => by injection e with e1; omega), ← hτ]; simp
        simp [gread, hrow]
      obtain ⟨u2, τ2, b1, b2, b3, b4, b5, b6, _⟩ := a2.append (by_ := 8) (x := .slice (σ'.length + 1) 0 1 1 (some 1)) (ys := [x]) (fun _ => rfl) hx1 rfl (by simp) (by omega) (by simp; omega) (by decide)
      have hsame : ∀ i, t.has i → τ2[i]? = σ'[i]? := fun i hi => by
        have hil := hT.has_lt hi
        rw [b5 i (by omega) (fun hh => ?_), a5 i (by omega) (fun ⟨_, _, _, _, e⟩ => by injection e with e1; omega), hτk i hil]
        rcases a6 i hh with ⟨_, _, _, _, e⟩ | h'
        · injection e with e1; omega
        · omega
      obtain ⟨_, _, v1, v2⟩ := p3 τ2 hsame
      obtain ⟨u3, τ3, c1, c2, c3, c4, c5, c6, _⟩ := b2.append (by_ := 8) (x := hi') (ys := out.drop j) (fun _ => rfl) v1 v2 (by simp) (by omega) (by simp; omega) (by decide)
      have n1 := append_capZ (.inr ⟨_, rfl⟩) a1
      have n2 := append_capN n1 b1 (by simp [glen])
      have n3 := append_nocap n2 c1
      have hF3 : Fr σ.length σ τ3 := (hF.app _).trans (by rw [hτ]; exact a3.trans (b3.trans c3))
      have hO3 : Own σ.length 1 eint τ3 u3 (out.take j ++ x :: out.drop j) := by simpa using c2
      by_cases hjo : j < out.length
      · obtain ⟨y, hy⟩ := get_lt hjo
        obtain ⟨tid, t2, t5⟩ := hget j y hy
        have hge : ¬ gabs y < gabs x := insI_at (x := x) (l := out) (by rw [hJ]; exact hy)
        simp [hjo, t2, t5]
        refine ref_Abs_ok ?_
        simp [hge, hTlen, hjo, t2, t5]
        refine ref_Abs_ok ?_
        by_cases hyx : gabs y = gabs x
        · rw [if_pos ⟨y, hy, hyx⟩] at heq
          simp [hyx, es]
          exact forK_go _ hlt (by simp [mkEnv, List.replicate]) ⟨t, rfl, by rw [hmt, heq]; exact hT, hN, by rw [hmt, heq]; omega, hF⟩
        · rw [if_neg (by rintro ⟨z, hz, hz2⟩; rw [hy] at hz; cases hz; exact hyx hz2)] at heq
          simp [hyx, p1, p2, show gzeros [DV.int .i64 0] 0 = [] from rfl, hτ, a1, b1, c1, es, hsm1]
          exact forK_go _ hlt (by simp [mkEnv, List.replicate]) ⟨u3, rfl, by rw [hmt, heq]; exact hO3, n3, by rw [hmt]; have := insM_len x out; omega, hF3⟩
      · have hje2 : j = out.length := by omega
        rw [if_neg (by rintro ⟨z, hz, _⟩; rw [hje2, List.getElem?_eq_none (Nat.le_refl _)] at hz; cases hz)] at heq
        simp [hjo, hTlen, p1, p2, show gzeros [DV.int .i64 0] 0 = [] from rfl, hτ, a1, b1, c1, es, hsm1]
        exact forK_go _ hlt (by simp [mkEnv, List.replicate]) ⟨u3, rfl, by rw [hmt, heq]; exact hO3, n3, by rw [hmt]; have := insM_len x out; omega, hF3⟩
  · have : i = l.length := by omega
    subst this
    rw [List.take_length] at hT
    simp
    exact ⟨hF, hT.rd (fun _ => rfl) fun i hi => .inl (by omega)⟩
theorem fit_live {l : List Int} {n m : Nat} {sl : DV} {σ : GS} {Post : DV → GS → Prop} (hS : Own m 1 eint σ sl l) (hl : l.length < 2 ^ 40) (h0 : 0 < n) (hn : n < 2 ^ 40) (h : Post (fints (l.map (fitE n))) σ) : GCall Tryz.prog F_skolemlaw06_fit [sl, .int .i64 n] σ Post := by
  refine GCall.pure (r := fints (l.map (fitE n))) ?_ (closed_fints _) h
  refine gc_skolemlaw06_fit ?_
  have hlen : gpure .len [sl] = some (.int .i64 l.length) := hS.len
  simp [G_skolemlaw06_fit, genv0, List.replicate, hlen]
  refine gfor l.length (fun i e σ' => ∃ s, e = mkEnv 29 [(1, .int .i64 n), (5, s), (8, sl), (9, .int .i64 l.length), (10, .int .i64 i)] ∧ Own σ.length 1 eint σ' s ((l.take i).map (fitE n)) ∧ Fr σ.length σ σ') _ ?_ ⟨.nils, rfl, by simpa using Own.nil, .rfl'⟩ ?_
  · simp [mkEnv, List.replicate]
  rintro i _ σ' hi ⟨s, rfl, hO, hF⟩
  simp [mkEnv, List.replicate]
  by_cases hlt : i < l.length
  · obtain ⟨x, hx⟩ := nth_lt hlt
    have hx' := nth_get hx
    obtain ⟨sid, s1, s2, s3, s4⟩ := (hS.fr hF).get (fun _ => rfl) hx' (k := .i64)
    have s5 : gload (.load 1 false) [.ptr sid (i * 1)] σ' = some (.int .i64 x) := s4 0 (by omega)
    simp only [Nat.mul_one] at s2 s5
    have es : IntKind.i64.wrap ((i : Int) + 1) = (i : Int) + 1 := by rw [wrap_small] <;> omega
    have e2 : IntKind.i64.wrap (2 * (n : Int)) = 2 * n := by rw [wrap_small] <;> omega
    have hm : (0 : Int) < 2 * n := by omega
    have b1 := Int.lt_tmod_of_pos x hm
    have b2 := Int.tmod_lt_of_pos x hm
    have e3 : IntKind.i64.wrap (x.tmod (2 * n)) = x.tmod (2 * n) := by rw [wrap_small] <;> omega
    have e4 : IntKind.i64.wrap (x.tmod (2 * n) + 2 * n) = x.tmod (2 * n) + 2 * n := by rw [wrap_small] <;> omega
    have hfr := fit_range h0 x
    have e5 : IntKind.i64.wrap ((x.tmod (2 * n) + 2 * n).tmod (2 * n)) = fitE n x := by
      rw [fit_eq hm]; unfold fitE at hfr ⊢; rw [wrap_small] <;> omega
    have e6 : (x.tmod (2 * n) + 2 * n).tmod (2 * n) = fitE n x := fit_eq hm
    have hne : ¬ ((2 * (n : Int)) = 0) := by omega
    have hne2 : ¬ n = 0 := by omega
    obtain ⟨s', σ2, q1, q2, q3, _⟩ := hO.push (by_ := 8) (fitE n x) (fun _ => rfl) (by simp) hF.len (by simp; omega) (by decide)
    have e7 : IntKind.i64.wrap (fitE n x) = fitE n x := by rw [wrap_small] <;> omega
    simp [hlt, s2, s5, e2, e3, e4, e6, e7, hne, hne2, q1, es]
    exact forK_go _ hlt (by simp [mkEnv, List.replicate]) ⟨s', rfl, by rw [take_get hx']; simpa using q2, hF.trans q3⟩
  · have : i = l.length := by omega
    subst this
    rw [List.take_length] at hO
    simp
    exact ⟨hF, hO.rd (fun _ => rfl) fun i hi => .inl (by omega)⟩
end Go.Gh
namespace Go.Gh
set_option linter.unusedVariables false
set_option linter.unusedSimpArgs false
theorem fst_cons (x : Int) (l : List Int) (v : Int) : fstOf (x :: l) v = if gabs x = v then some x else fstOf l v := by
  unfold fstOf
  simp only [List.find?_cons]
  by_cases c : gabs x = v <;> simp [c]
theorem fst_app (l k : List Int) (v : Int) : fstOf (l ++ k) v = (fstOf l v).or (fstOf k v) := by unfold fstOf; rw [List.find?_append]
theorem fst_normal : ∀ {a : List Int} {s : Int}, normR s a = true → ∀ z ∈ a, fstOf a (gabs z) = some z
  | y :: a, s, h, z, hz => by
    simp only [normR, Bool.and_eq_true, decide_eq_true_eq] at h
    rw [fst_cons]
    rcases List.mem_cons.1 hz with rfl | hz
    · rw [if_pos rfl]
    · have := normR_gt h.2 z hz
      rw [if_neg (by omega)]
      exact fst_normal h.2 z hz
theorem fst_mem {a : List Int} {v x : Int} (h : fstOf a v = some x) : x ∈ a ∧ gabs x = v := by
  unfold fstOf at h
  exact ⟨List.mem_of_find?_eq_some h, by simpa using List.find?_some h⟩
/-- A literal of a variable is the variable, or its opposite. -/
theorem lit_cases {y v : Int} (h6 : -9223372036854775808 ≤ y ∧ y < 9223372036854775808) (hv : isVar v = true) (h : gabs y = v) : y = v ∨ y = -v := by
  have := gabs_eq h6 (by rw [h]; exact hv)
  rw [h] at this
  split at this <;> omega
theorem normal_R {a : List Int} (h : normal a = true) : normR 0 a = true := by rw [← normal_eq]; exact h
theorem normal_vars {a : List Int} (h : normal a = true) : ∀ x ∈ a, isVar (gabs x) = true := normR_vars (normal_R h)
/-- In a normal list a variable is true exactly if it is its first literal. -/
theorem contains_fst {a : List Int} (hn : normal a = true) {v : Int} (hv : isVar v = true) : a.contains v = decide (fstOf a v = some v) := by
  rw [Bool.eq_iff_iff, List.contains_iff_mem, decide_eq_true_eq]
  constructor
  · intro h
    have := fst_normal (normal_R hn) v h
    rwa [gabs_pos hv] at this
  · intro h; exact (fst_mem h).1
theorem isVar_pos {v : Int} (h : isVar v = true) : 1 ≤ v := by simp only [isVar, Bool.and_eq_true, decide_eq_true_eq] at h; exact h.1
theorem fixed_on {fix a : List Int} (hf : normal fix = true) (ha : normal a = true) (hf6 : I64 fix) {v : Int} (hv : isVar v = true) : (mergedI (fix ++ a)).contains v = onFix fix a v := by
  have hvars : ∀ x ∈ fix ++ a, isVar (gabs x) = true := fun x hx => by
    rcases List.mem_append.1 hx with h | h
    · exact normal_vars hf x h
    · exact normal_vars ha x h
  have hv1 := isVar_pos hv
  rw [merged_mem hvars v hv1, fst_app]
  unfold onFix
  rw [contains_fst hf hv, contains_fst ha hv]
  cases hfo : fstOf fix v with
  | none =>
    have hno : fix.contains (-v) = false := by
      rw [Bool.eq_false_iff]
      intro hc
      have := fst_normal (normal_R hf) (-v) (List.contains_iff_mem.1 hc)
      rw [gabs_negvar hv, hfo] at this; cases this
    have hno2 : (-v) ∉ fix := fun h => by rw [List.contains_iff_mem.2 h] at hno; cases hno
    by_cases c : fstOf a v = some v <;> simp [hno2, c]
  | some x =>
    obtain ⟨hx, hxv⟩ := fst_mem hfo
    rcases lit_cases (hf6 x hx) hv hxv with rfl | rfl
    · simp
    · have hc : fix.contains (-v) = true := List.contains_iff_mem.2 hx
      have hne : ¬ (-v = v) := by omega
      simp [hne, hx]
/-- The list of what replaces inputs, and the literals that say so. -/
structure OwnSt (g : AigP) (a : List Int) (own : List (Int × Int)) (b : List Int) : Prop where
  nd : (own.map (·.1)).Nodup
  ins : ∀ o ∈ own, o.1 ∈ g.ins
  has : ∀ o ∈ own, 0 ≤ o.2 ∧ o.2 < 2 * g.nodes
  fst : ∀ v, isVar v = true → fstOf b v = match outOf own v with | some e => some (if edgeV (g.vals a.contains) e then v else -v) | none => fstOf a v
  vars : ∀ x ∈ b, isVar (gabs x) = true
  i64 : I64 b
theorem OwnSt.init {g : AigP} {a : List Int} (ha : normal a = true) (h6 : I64 a) : OwnSt g a [] a :=
  ⟨by simp, (fun o h => absurd h List.not_mem_nil), (fun o h => absurd h List.not_mem_nil), fun v _ => rfl, normal_vars ha, h6⟩
theorem OwnSt.step {g : AigP} {a : List Int} {own : List (Int × Int)} {b : List Int} (h : OwnSt g a own b) (hins : insOk 0 g.ins = true) {v e : Int} (hv : v ∈ g.ins) (hnew : v ∉ own.map (·.1)) (h0 : 0 ≤ e) (h1 : e < 2 * g.nodes) :
    OwnSt g a (own ++ [(v, e)]) ((if edgeV (g.vals a.contains) e then v else -v) :: b) := by
  have hvar := insOk_vars hins v hv
  have hv1 := isVar_pos hvar
  have hv2 : v ≤ 65536 := by simp only [isVar, Bool.and_eq_true, decide_eq_true_eq] at hvar; exact hvar.2
  have hg : gabs (if edgeV (g.vals a.contains) e then v else -v) = v := by
    split
    · exact gabs_pos hvar
    · exact gabs_negvar hvar
  refine ⟨?_, fun o ho => ?_, fun o ho => ?_, fun w hw => ?_, fun x hx => ?_, fun x hx => ?_⟩
  · rw [List.map_append, List.nodup_append]
    refine ⟨h.nd, by simp, fun a ha b hb => ?_⟩
    simp at hb; subst hb; exact fun e => hnew (e ▸ ha)
  · rcases List.mem_append.1 ho with ho | ho
    · exact h.ins o ho
    · simp at ho; subst ho; exact hv
  · rcases List.mem_append.1 ho with ho | ho
    · exact h.has o ho
    · simp at ho; subst ho; exact ⟨h0, h1⟩
  · rw [fst_cons, hg, outOf_snoc (o := (v, e)) hnew]
    by_cases c : w = v
    · subst c; simp
    · rw [if_neg (fun e => c e.symm), if_neg c]; exact h.fst w hw
  · rcases List.mem_cons.1 hx with rfl | hx
    · rw [hg]; exact hvar
    · exact h.vars x hx
  · rcases List.mem_cons.1 hx with rfl | hx
    · split <;> omega
    · exact h.i64 x hx
theorem OwnSt.on {g : AigP} {a : List Int} {own : List (Int × Int)} {b : List Int} (h : OwnSt g a own b) (ha : normal a = true) {v : Int} (hv : isVar v = true) : (mergedI b).contains v = onBy g own a.contains v := by
  have hv1 := isVar_pos hv
  rw [merged_mem h.vars v hv1, h.fst v hv]
  unfold onBy
  cases outOf own v with
  | none => simp only; rw [contains_fst ha hv]
  | some e =>
    simp only
    have hne : ¬ (-v = v) := by omega
    by_cases c : edgeV (g.vals a.contains) e = true <;> simp [hne, c]
theorem eval_of {g : AigP} {e : Int} {a : List Int} (hm : g.may = true) (h0 : 0 ≤ e) (h1 : e < 2 * g.nodes) (ha : normal a = true) : g.eval e a = (edgeV (g.vals a.contains) e, 0) := by
  unfold AigP.eval
  rw [if_pos]
  simp [AigP.all, AigP.has, hm, ha, h0, h1]
/-- Two edges of equal values. -/
theorem Means.equal {g c : AigP} {on onc : Int → Bool} {l u a b : List Int} (h : Means g on l c onc u) (hall : g.all l = true) (ha : normal a = true) (hb : normal b = true) (e1 : g.vals a.contains = g.vals on) (e2 : c.vals b.contains = c.vals onc) {k : Nat} {x y : Int} (hx : l[k]? = some x) (hy : u[k]? = some y) :
    (decide ((g.eval x a).2 = 0) && decide ((c.eval y b).2 = 0) && decide ((g.eval x a).1 = (c.eval y b).1)) = true := by
  obtain ⟨x0, x1⟩ := AigP.all_has hall (List.mem_of_getElem? hx)
  obtain ⟨y0, y1, hv⟩ := h.val k x y hx hy
  rw [eval_of (AigP.all_may hall) x0 x1 ha, eval_of h.may y0 y1 hb, e1, e2, hv]
  simp
theorem mergedI_len (l : List Int) : (mergedI l).length ≤ l.length := by
  have : ∀ (l out : List Int), (l.foldl (fun out x => insM x out) out).length ≤ out.length + l.length := by
    intro l
    induction l with
    | nil => intro out; simp
    | cons x l ih =>
      intro out
      have h1 := ih (insM x out)
      have h2 := insM_len x out
      simp only [List.foldl_cons, List.length_cons]; omega
  have h := this l []
  simpa [mergedI] using h
theorem insM_mem {x z : Int} : ∀ {l : List Int}, z ∈ insM x l → z = x ∨ z ∈ l
  | [], h => by simpa [insM] using h
  | y :: l, h => by
    unfold insM at h
    split at h
    · rcases List.mem_cons.1 h with h | h
      · exact .inr (by simp [h])
      · rcases insM_mem h with h | h
        · exact .inl h
        · exact .inr (List.mem_cons_of_mem _ h)
    · split at h
      · exact .inr h
      · rcases List.mem_cons.1 h with h | h
        · exact .inl h
        · exact .inr h
theorem mergedI_i64 {l : List Int} (h : I64 l) : I64 (mergedI l) := by
  have : ∀ (l out : List Int), I64 l → I64 out → I64 (l.foldl (fun out x => insM x out) out) := by
    intro l
    induction l with
    | nil => intro out _ h; simpa using h
    | cons x l ih =>
      intro out hl ho
      rw [List.foldl_cons]
      refine ih _ (fun y hy => hl y (List.mem_cons_of_mem _ hy)) fun z hz => ?_
      rcases insM_mem hz with rfl | hz
      · exact hl z (by simp)
      · exact ho z hz
  exact this l [] h (fun x hx => by cases hx)
end Go.Gh
namespace Go.Gh
open Go.Proofs
end Go.Gh
namespace Go.Gh
open Go.RowKit Go.Proofs
set_option linter.unusedVariables false
set_option linter.unusedSimpArgs false
set_option maxRecDepth 100000
end Go.Gh
namespace Go.Gh
open Go.RowKit Go.Proofs
set_option linter.unusedVariables false
set_option linter.unusedSimpArgs false
set_option maxRecDepth 100000
theorem fit_all {g : AigP} (hm : g.may = true) (l : List Int) : g.all (l.map (fitE g.nodes)) = true := by
  have hp : 0 < g.nodes := by unfold AigP.nodes; omega
  unfold AigP.all
  rw [hm, Bool.true_and, List.all_eq_true]
  intro e he
  obtain ⟨x, _, rfl⟩ := List.mem_map.1 he
  have := fit_range hp x
  simp [AigP.has, this]
set_option maxHeartbeats 8000000 in
theorem means_ok {g h : AigP} {l a fix : List Int} {by_ : List (Int × Int)} {σ : GS} {Post : DV → GS → Prop} (h1 : g.ins.length < 2 ^ 47) (h2 : g.ands.length < 2 ^ 47) (h3 : h.ins.length < 2 ^ 47) (h4 : h.ands.length < 2 ^ 47) (hl : l.length < 2 ^ 47) (ha : a.length < 2 ^ 47) (hfx : fix.length < 2 ^ 47) (hb : by_.length < 2 ^ 47)
    (ha6 : I64 a) (hf6 : I64 fix) (k : ∀ σ', Post (.bool true) σ') : GCall Tryz.prog F_skolemlaw06_AigMeans [g.enc, h.enc, fints l, fints a, fints fix, fands by_] σ Post := by
  refine gc_skolemlaw06_AigMeans ?_
  simp [G_skolemlaw06_AigMeans, genv0, List.replicate, galloc, gfill, DV.cells, over, gzeros]
  refine great_two (g := g) (k := h) (by simp) ?_
  by_cases c1 : (g.great || h.great) = true
  · simp [c1]
    refine works_ok ?_
    simp
    exact k _
  have hs : g.Sm := ⟨by omega, by omega⟩
  have hsb : h.Sm := ⟨by omega, by omega⟩
  have hgr : g.great = false ∧ h.great = false := by simpa using c1
  have hga : g.ins.length ≤ 100 ∧ g.ands.length ≤ 600 := by have := hgr.1; unfold AigP.great at this; simp at this; omega
  have hgb : h.ins.length ≤ 100 ∧ h.ands.length ≤ 600 := by have := hgr.2; unfold AigP.great at this; simp at this; omega
  rw [Bool.eq_false_iff.2 c1]
  simp
  by_cases c2 : (50 : Int) < l.length
  · simp [c2]
    refine works_ok ?_
    simp
    exact k _
  simp [c2]
  by_cases c3 : (50 : Int) < a.length
  · simp [c3]
    refine works_ok ?_
    simp
    exact k _
  simp [c3]
  by_cases c4 : (50 : Int) < fix.length
  · simp [c4]
    refine works_ok ?_
    simp
    exact k _
  simp [c4]
  by_cases c5 : (50 : Int) < by_.length
  · simp [c5]
    refine works_ok ?_
    simp
    exact k _
  simp [c5]
  refine ref_May_ok hs ?_
  by_cases c6 : g.may = true
  rotate_left
  · simp [c6]
    refine works_ok ?_
    simp
    exact k _
  simp [c6]
  refine ref_May_ok hsb ?_
  by_cases c7 : h.may = true
  rotate_left
  · simp [c7]
    refine works_ok ?_
    simp
    exact k _
  simp [c7]
  refine ref_Normal_ok (by omega) ?_
  by_cases c8 : normal a = true
  rotate_left
  · simp [c8]
    refine works_ok ?_
    simp
    exact k _
  simp [c8]
  refine ref_Normal_ok (by omega) ?_
  by_cases c9 : normal fix = true
  rotate_left
  · simp [c9]
    refine works_ok ?_
    simp
    exact k _
  simp [c9]
  have hgn : g.nodes = 1 + g.ins.length + g.ands.length := rfl
  have hhn : h.nodes = 1 + h.ins.length + h.ands.length := rfl
  refine ref_Nodes_ok hs ?_
  simp
  refine fit_ok (by omega) (by omega) (by omega) ?_
  simp
  refine ref_Nodes_ok hsb ?_
  simp
  refine fit_ok (by omega) (by omega) (by omega) ?_
  have hax := fit_all c6 l
  have hay := fit_all c7 l
  obtain ⟨x, hx⟩ : ∃ x, l.map (fitE g.nodes) = x := ⟨_, rfl⟩
  obtain ⟨y, hy⟩ : ∃ y, l.map (fitE h.nodes) = y := ⟨_, rfl⟩
  have hxl : x.length = l.length := by rw [← hx]; simp
  have hyl : y.length = l.length := by rw [← hy]; simp
  rw [hx] at hax ⊢
  rw [hy] at hay ⊢
  clear hx hy
  simp
  refine aig_Cone_ok hs (by omega) ?_
  rw [AigP.compose_nil]
  obtain ⟨C, hC⟩ : ∃ C, g.cone x = C := ⟨_, rfl⟩
  obtain ⟨hCe, hCm⟩ := cone_means a.contains hax (by omega)
  rw [hC] at hCe hCm ⊢
  simp
  refine aig_Restrict_ok hs (by omega) (by omega) hf6 ?_
  obtain ⟨R, hR⟩ : ∃ R, g.restrict x fix = R := ⟨_, rfl⟩
  obtain ⟨hRe, hRm⟩ := restrict_means (a := a) fix hax c9 (by omega)
  rw [hR] at hRe hRm ⊢
  simp
  refine aig_Join_ok hs hsb (by omega) (by omega) (by omega) ?_
  obtain ⟨J, hJ⟩ : ∃ J, g.join x h y = J := ⟨_, rfl⟩
  obtain ⟨hJe, hJm, hJm2⟩ := join_means a.contains hax hay (by omega)
  rw [hJ] at hJe hJm hJm2 ⊢
  have q1 : C.l.length = x.length := hCm.len
  have q2 : R.l.length = x.length := hRm.len
  have q3 : J.u.length = x.length := hJm.len
  have q4 : J.v.length = x.length := by rw [hJm2.len, hyl, hxl]
  have sm : ∀ {G : AigP}, G.may = true → G.Sm := fun {G} hG => by
    have := AigP.may_nodes hG
    have e : G.nodes = 1 + G.ins.length + G.ands.length := rfl
    exact ⟨by omega, by omega⟩
  simp [hCe, hRe, hJe, q1, q2, q3, q4]
  refine ref_Reduced_ok (sm hCm.may) ?_
  simp [hCm.red]
  refine ref_Reduced_ok (sm hRm.may) ?_
  simp [hRm.red]
  refine ref_Reduced_ok (sm hJm.may) ?_
  simp [hJm.red]
  have hd : List.drop 4 (List.map (fun i => ([DV.nils, DV.nils][i % 2]?).getD DV.any) (List.range 4)) = [] := rfl
  have hz : gzeros [DV.int IntKind.i64 0] 0 = [] := rfl
  simp only [hd, hz]
  obtain ⟨τ0, hτ0⟩ : ∃ τ0, σ ++ [GObj.row false [fints g.ins, fands g.ands], .row false [fints h.ins, fands h.ands], .row false [fints g.ins, fands g.ands, fints h.ins, fands h.ands], .row false [fints C.g.ins, fands C.g.ands], .row false [fints R.g.ins, fands R.g.ands], .row false [fints J.g.ins, fands J.g.ands], .row false []] = τ0 := ⟨_, rfl⟩
  have hl0 : τ0.length = σ.length + 7 := by rw [← hτ0]; simp
  have hbx : (τ0[σ.length]? = some (.row false [fints g.ins, fands g.ands]) ∧ τ0[σ.length + 1]? = some (.row false [fints h.ins, fands h.ands])) ∧ τ0[σ.length + 3]? = some (.row false [fints C.g.ins, fands C.g.ands]) ∧ τ0[σ.length + 4]? = some (.row false [fints R.g.ins, fands R.g.ands]) ∧ τ0[σ.length + 5]? = some (.row false [fints J.g.ins, fands J.g.ands]) ∧ τ0[σ.length + 6]? = some (.row false []) := by
    rw [← hτ0]; simp
  obtain ⟨⟨bg, bh⟩, bC, bR, bJ, bE⟩ := hbx
  rw [hτ0]
  clear hτ0
  have ldOf : ∀ (τ : GS) (G : AigP) (i : Nat), i < 6 → τ0[σ.length + i]? = some (.row false [fints G.ins, fands G.ands]) → Fr (σ.length + 6) τ0 τ → gload (.load 2 true) [.ptr (σ.length + i) 0] τ = some G.enc := fun τ G i hi hb hF => by
    rw [ld_agg ((hF.get _ (by omega)).trans hb)]; rfl
  -- fixed
  have hE0 : Own (σ.length + 6) 1 eint τ0 (.slice (σ.length + 6) 0 0 1 (some 0)) [] := by
    have := Own.at_ (n := σ.length + 6) (enc := eint) (sz := 1) (xs := []) (σ := τ0) (id := σ.length + 6) (cap := some 0) (Nat.le_refl _) (by simpa using bE) (fun c hc => by cases hc; rfl)
    simpa using this
  have rdI : ∀ (xs : List Int) (τ : GS), gread 1 (fints xs) τ = some (xs.flatMap eint) := fun xs τ => by simp [gread]; exact flatMap_flatten eint xs
  obtain ⟨s1, τ1, a1, a2, a3, a4, _⟩ := hE0.append (by_ := 8) (x := fints fix) (ys := fix) (fun _ => rfl) (rdI _ _) (by simp [glen]) (by simp) (by omega) (by simp; omega) (by decide)
  obtain ⟨s2, τ2, b1, b2, b3, b4, _⟩ := a2.append (by_ := 8) (x := fints a) (ys := a) (fun _ => rfl) (rdI _ _) (by simp [glen]) (by simp) (by omega) (by simp; omega) (by decide)
  have hF2 : Fr (σ.length + 6) τ0 τ2 := a3.trans b3
  simp at b2
  simp [a1, b1]
  clear a1 a2 a3 b1 hE0
  have hfl : (fix ++ a).length ≤ 200 := by simp; omega
  have hf6' : I64 (fix ++ a) := fun z hz => by
    rcases List.mem_append.1 hz with hz | hz
    · exact hf6 z hz
    · exact ha6 z hz
  have hfv : ∀ z ∈ fix ++ a, isVar (gabs z) = true := fun z hz => by
    rcases List.mem_append.1 hz with hz | hz
    · exact normal_vars c9 z hz
    · exact normal_vars c8 z hz
  have hvv : ∀ {G : AigP}, G.may = true → ∀ v ∈ G.ins, isVar v = true := fun {G} hG v hv => insOk_vars (AigP.may_ins hG) v hv
  refine gfor x.length (fun i e σ' => e = mkEnv 340 [(3, fints a), (5, fands by_), (6, .ptr σ.length 0), (7, .ptr (σ.length + 1) 0), (13, fints x), (14, fints y), (15, .ptr (σ.length + 3) 0), (16, fints C.l), (18, .ptr (σ.length + 4) 0), (19, fints R.l), (21, .ptr (σ.length + 5) 0), (22, fints J.u), (23, fints J.v), (25, s2), (174, .int .i64 x.length), (175, .int .i64 i)] ∧ σ' = τ2) _ ?_ ⟨rfl, rfl⟩ ?_
  · simp [mkEnv, List.replicate]
  rintro i _ σz hi ⟨rfl, hσz⟩
  rw [hσz]
  clear hσz σz
  simp [mkEnv, List.replicate]
  have lg := ldOf τ2 g 0 (by omega) bg hF2
  have lh := ldOf τ2 h 1 (by omega) bh hF2
  have lC := ldOf τ2 C.g 3 (by omega) bC hF2
  have lR := ldOf τ2 R.g 4 (by omega) bR hF2
  have lJ := ldOf τ2 J.g 5 (by omega) bJ hF2
  rw [Nat.add_zero] at lg
  by_cases hlt : i < x.length
  · obtain ⟨ex, hex⟩ := nth_lt hlt
    obtain ⟨ey, hey⟩ := nth_lt (l := y) (i := i) (by omega)
    obtain ⟨eC, heC⟩ := nth_lt (l := C.l) (i := i) (by omega)
    obtain ⟨eR, heR⟩ := nth_lt (l := R.l) (i := i) (by omega)
    obtain ⟨eu, heu⟩ := nth_lt (l := J.u) (i := i) (by omega)
    obtain ⟨ev, hev⟩ := nth_lt (l := J.v) (i := i) (by omega)
    have es : IntKind.i64.wrap ((i : Int) + 1) = (i : Int) + 1 := by rw [wrap_small] <;> omega
    have t1 := hCm.equal hax c8 c8 rfl rfl (nth_get hex) (nth_get heC)
    have t2 := hRm.equal hax (merged_normal hfv) c8 (vals_congr fun v hv => fixed_on c9 c8 hf6 (hvv c6 v hv)) rfl (nth_get hex) (nth_get heR)
    have t3 := hJm.equal hax c8 c8 rfl rfl (nth_get hex) (nth_get heu)
    have t4 := hJm2.equal hay c8 c8 rfl rfl (nth_get hey) (nth_get hev)
    simp [hlt, lg, lh, lC, lR, lJ, hex, hey, heC, heR, heu, hev]
    refine gequal_ok hs (sm hCm.may) (by omega) ha6 (by omega) ha6 ?_
    rw [t1]
    simp [lg, lR, hex, heR]
    refine merged_live b2 (by omega) ?_
    simp
    have hml := mergedI_len (fix ++ a)
    refine gequal_ok hs (sm hRm.may) (by omega) (mergedI_i64 hf6') (by omega) ha6 ?_
    rw [t2]
    simp [lg, lJ, hex, heu]
    refine gequal_ok hs (sm hJm.may) (by omega) ha6 (by omega) ha6 ?_
    rw [t3]
    simp [lh, lJ, hey, hev]
    refine gequal_ok hsb (sm hJm.may) (by omega) ha6 (by omega) ha6 ?_
    rw [t4]
    simp [es]
    exact forK_go _ hlt (by simp [mkEnv, List.replicate]) ⟨rfl, rfl⟩
  have : i = x.length := by omega
  subst this
  simp
  obtain ⟨τ3, hτ3⟩ : ∃ τ3, τ2 ++ [GObj.row false []] = τ3 := ⟨_, rfl⟩
  have hl3 : τ3.length = τ2.length + 1 := by rw [← hτ3]; simp
  have hF3 : Fr (σ.length + 6) τ0 τ3 := by rw [← hτ3]; exact hF2.app _
  have hF3l := hF2.len
  have hE3 : Own (σ.length + 6) 1 eint τ3 (.slice τ2.length 0 0 1 (some 0)) [] := by
    have := Own.at_ (n := σ.length + 6) (enc := eint) (sz := 1) (xs := []) (σ := τ3) (id := τ2.length) (cap := some 0) hF3l (by rw [← hτ3]; simp) (fun c hc => by cases hc; rfl)
    simpa using this
  obtain ⟨s4, τ4, d1, d2, d3, d4, _⟩ := hE3.append (by_ := 8) (x := fints a) (ys := a) (fun _ => rfl) (rdI _ _) (by simp [glen]) (by simp) (by omega) (by simp; omega) (by decide)
  simp at d2
  have hF4 : Fr (σ.length + 6) τ0 τ4 := hF3.trans d3
  simp [hz, hτ3, d1]
  clear d1 d3 hE3 hτ3 hl3 hF3 b2 lh lC lR lJ lg
  refine gfor by_.length (fun i e σ' => ∃ sown sb own b, e = mkEnv 340 [(3, fints a), (6, .ptr σ.length 0), (13, fints x), (27, sown), (28, sb), (245, fands by_), (246, .int .i64 by_.length), (247, .int .i64 i)] ∧
      Own (σ.length + 6) 2 eand σ' sown own ∧ Own (σ.length + 6) 1 eint σ' sb b ∧ (∀ j, sown.has j → ¬ sb.has j) ∧ OwnSt g a own b ∧ own.length ≤ i ∧ b.length ≤ a.length + i ∧ Fr (σ.length + 6) τ0 σ') _ ?_ ⟨.nils, s4, [], a, rfl, .nil, d2, (fun j ⟨_, _, _, _, e⟩ => by cases e), .init c8 ha6, by simp, by simp, hF4⟩ ?_
  · simp [mkEnv, List.replicate]
  clear d2 hF4 hF2
  rintro i _ σ' hi ⟨sown, sb, own, b, rfl, hO, hB, hD, hst, hol, hbl, hF⟩
  simp [mkEnv, List.replicate]
  have hFl := hF.len
  by_cases hlt : i < by_.length
  · obtain ⟨p, hp⟩ := nth_lt hlt
    have hp' := nth_get hp
    have es : IntKind.i64.wrap ((i : Int) + 1) = (i : Int) + 1 := by rw [wrap_small] <;> omega
    have lg := fun (X : List GObj) => ldOf (σ' ++ X) g 0 (by omega) bg (hF.app _)
    simp only [Nat.add_zero] at lg
    simp [hlt, hp, lg]
    refine ref_Edge_ok (by omega) ?_
    have hOa : Own (σ.length + 6) 2 eand (σ' ++ [.row false [.int .i64 p.1, .int .i64 p.2]]) sown own := hO.fit fun j hj => List.getElem?_append_left (hO.has_lt hj)
    have hBa : Own (σ.length + 6) 1 eint (σ' ++ [.row false [.int .i64 p.1, .int .i64 p.2]]) sb b := hB.fit fun j hj => List.getElem?_append_left (hB.has_lt hj)
    have skip : ∀ (X : List GObj), ∃ sown' sb' own' b', mkEnv 340 [(3, fints a), (6, .ptr σ.length 0), (13, fints x), (27, sown), (28, sb), (245, fands by_), (246, .int .i64 by_.length), (247, .int .i64 ((i + 1 : Nat) : Int))] = mkEnv 340 [(3, fints a), (6, .ptr σ.length 0), (13, fints x), (27, sown'), (28, sb'), (245, fands by_), (246, .int .i64 by_.length), (247, .int .i64 ((i + 1 : Nat) : Int))] ∧
      Own (σ.length + 6) 2 eand (σ' ++ X) sown' own' ∧ Own (σ.length + 6) 1 eint (σ' ++ X) sb' b' ∧ (∀ j, sown'.has j → ¬ sb'.has j) ∧ OwnSt g a own' b' ∧ own'.length ≤ i + 1 ∧ b'.length ≤ a.length + (i + 1) ∧ Fr (σ.length + 6) τ0 (σ' ++ X) := fun X =>
      ⟨sown, sb, own, b, rfl, hO.fit fun j hj => List.getElem?_append_left (hO.has_lt hj), hB.fit fun j hj => List.getElem?_append_left (hB.has_lt hj), hD, hst, by omega, by omega, hF.app _⟩
    by_cases hneg : edgeOf g.ins p.1 < 0
    · simp [hneg, es]
      exact forK_go (mkEnv 340 [(3, fints a), (6, .ptr σ.length 0), (13, fints x), (27, sown), (28, sb), (245, fands by_), (246, .int .i64 by_.length), (247, .int .i64 ((i + 1 : Nat) : Int))]) hlt (by simp [mkEnv, List.replicate]) (skip _)
    have hin : p.1 ∈ g.ins := Classical.byContradiction fun hh => by have := edgeOf_neg ((edgeOf_none (l := g.ins)).2 hh); omega
    simp [hneg]
    refine has_live hOa (by omega) ?_
    by_cases hdup : (own.any fun o => decide (o.1 = p.1)) = true
    · rw [hdup]
      simp [es]
      exact forK_go (mkEnv 340 [(3, fints a), (6, .ptr σ.length 0), (13, fints x), (27, sown), (28, sb), (245, fands by_), (246, .int .i64 by_.length), (247, .int .i64 ((i + 1 : Nat) : Int))]) hlt (by simp [mkEnv, List.replicate]) (skip _)
    rw [Bool.eq_false_iff.2 hdup]
    have hnew : p.1 ∉ own.map (·.1) := fun hh => hdup (by
      obtain ⟨o, ho, he⟩ := List.mem_map.1 hh
      exact List.any_eq_true.2 ⟨o, ho, by simpa using he⟩)
    have hpos : 0 < g.nodes := by omega
    have hfr := fit_range hpos p.2
    obtain ⟨e, he⟩ : ∃ e, fitE g.nodes p.2 = e := ⟨_, rfl⟩
    rw [he] at hfr
    simp [lg]
    refine ref_Nodes_ok hs ?_
    have hS1 : Own (σ.length + 6) 1 eint (σ' ++ [.row false [.int .i64 p.1, .int .i64 p.2], .row false [.int .i64 p.2]]) (.slice (σ'.length + 1) 0 1 1 (some 1)) [p.2] := by
      have := Own.at_ (n := σ.length + 6) (enc := eint) (sz := 1) (xs := [p.2]) (σ := σ' ++ [.row false [.int .i64 p.1, .int .i64 p.2], .row false [.int .i64 p.2]]) (id := σ'.length + 1) (cap := some 1) (by omega) (by simp) (fun c hc => by cases hc; rfl)
      simpa using this
    simp
    refine fit_live hS1 (by simp) hpos (by omega) ?_
    simp only [List.map_cons, List.map_nil, he]
    have hOx : Own (σ.length + 6) 2 eand (σ' ++ [.row false [.int .i64 p.1, .int .i64 e], .row false [.int .i64 p.2]]) sown own := hO.fit fun j hj => List.getElem?_append_left (hO.has_lt hj)
    have hBx : Own (σ.length + 6) 1 eint (σ' ++ [.row false [.int .i64 p.1, .int .i64 e], .row false [.int .i64 p.2]]) sb b := hB.fit fun j hj => List.getElem?_append_left (hB.has_lt hj)
    obtain ⟨sown2, σ2, u1, u2, u3, u4, u5, u6⟩ := hOx.push (by_ := 16) (p.1, e) (fun _ => rfl) (by simp) (by simp; omega) (by omega) (by decide)
    simp [List.append_assoc] at u1
    simp at u4 u5 u6
    have hF2 : Fr (σ.length + 6) τ0 σ2 := (hF.app _).trans u3
    have hn1 : σ2[σ'.length]? = some (.row false [.int .i64 p.1, .int .i64 e]) := by
      rw [u5 _ (by omega) (fun hh => by have := hO.has_lt hh; omega)]; simp
    have l0 : gload (.load 1 false) [.ptr σ'.length 0] σ2 = some (.int .i64 p.1) := by rw [ld_at hn1]; rfl
    have l1 : gload (.load 1 false) [.ptr σ'.length 1] σ2 = some (.int .i64 e) := by rw [ld_at hn1]; rfl
    have lg2 := ldOf σ2 g 0 (by omega) bg hF2
    rw [Nat.add_zero] at lg2
    have hB2 : Own (σ.length + 6) 1 eint σ2 sb b := hBx.fit fun j hj => u5 j (by have := hB.has_lt hj; omega) fun hh => hD j hh hj
    simp [u1, lg2, l1]
    refine aig_Eval_ok hs (by omega) ha6 ?_
    rw [eval_of c6 hfr.1 hfr.2 c8]
    have hpv := insOk_vars (AigP.may_ins c6) _ hin
    have hp1 : 1 ≤ p.1 ∧ p.1 ≤ 65536 := by simp only [isVar, Bool.and_eq_true, decide_eq_true_eq] at hpv; exact hpv
    have en : IntKind.i64.wrap (-p.1) = -p.1 := by rw [wrap_small] <;> omega
    obtain ⟨val, hval⟩ : ∃ val, edgeV (g.vals a.contains) e = val := ⟨_, rfl⟩
    have hst2 := hst.step (AigP.may_ins c6) hin hnew hfr.1 hfr.2
    rw [hval] at hst2 ⊢
    obtain ⟨lit, hlit⟩ : ∃ lit, (if val = true then p.1 else -p.1) = lit := ⟨_, rfl⟩
    rw [hlit] at hst2
    have hE2 : Own (σ.length + 6) 1 eint (σ2 ++ [.row false [.int .i64 lit]]) (.slice σ2.length 0 1 1 (some 1)) [lit] := by
      have := Own.at_ (n := σ.length + 6) (enc := eint) (sz := 1) (xs := [lit]) (σ := σ2 ++ [.row false [.int .i64 lit]]) (id := σ2.length) (cap := some 1) hF2.len (by simp) (fun c hc => by cases hc; rfl)
      simpa using this
    have hBr := (hB2.fit (σ' := σ2 ++ [.row false [.int .i64 lit]]) fun j hj => List.getElem?_append_left (hB2.has_lt hj)).read (fun _ => rfl)
    obtain ⟨sb3, σ3, w1, w2, w3, w4, w5, w6, _⟩ := hE2.append (by_ := 8) (x := sb) (ys := b) (fun _ => rfl) hBr.1 hBr.2 (by simp) (by have := hF2.len; simp; omega) (by simp; omega) (by decide)
    simp at w4 w5 w6
    have hO3 : Own (σ.length + 6) 2 eand σ3 sown2 (own ++ [(p.1, e)]) := u2.fit fun j hj => by
      have hjl := u2.has_lt hj
      rw [w5 j (by omega) (fun ⟨_, _, _, _, ee⟩ => by injection ee with e1; omega), List.getElem?_append_left hjl]
    have hD3 : ∀ j, sown2.has j → ¬ sb3.has j := fun j hj hh => by
      have hjl := u2.has_lt hj
      rcases w6 j hh with ⟨_, _, _, _, ee⟩ | h'
      · injection ee with e1; omega
      · omega
    have hF3 : Fr (σ.length + 6) τ0 σ3 := (hF2.app _).trans w3
    have fin : ∃ sown' sb' own' b', mkEnv 340 [(3, fints a), (6, .ptr σ.length 0), (13, fints x), (27, sown2), (28, sb3), (245, fands by_), (246, .int .i64 by_.length), (247, .int .i64 ((i + 1 : Nat) : Int))] = mkEnv 340 [(3, fints a), (6, .ptr σ.length 0), (13, fints x), (27, sown'), (28, sb'), (245, fands by_), (246, .int .i64 by_.length), (247, .int .i64 ((i + 1 : Nat) : Int))] ∧
      Own (σ.length + 6) 2 eand σ3 sown' own' ∧ Own (σ.length + 6) 1 eint σ3 sb' b' ∧ (∀ j, sown'.has j → ¬ sb'.has j) ∧ OwnSt g a own' b' ∧ own'.length ≤ i + 1 ∧ b'.length ≤ a.length + (i + 1) ∧ Fr (σ.length + 6) τ0 σ3 :=
      ⟨sown2, sb3, own ++ [(p.1, e)], lit :: b, rfl, hO3, by simpa using w2, hD3, hst2, by simp; omega, by simp; omega, hF3⟩
    cases val with
    | true =>
      have hlit' : lit = p.1 := by rw [← hlit]; rfl
      subst hlit'
      simp [l0, en, w1, es]
      exact forK_go (mkEnv 340 [(3, fints a), (6, .ptr σ.length 0), (13, fints x), (27, sown2), (28, sb3), (245, fands by_), (246, .int .i64 by_.length), (247, .int .i64 ((i + 1 : Nat) : Int))]) hlt (by simp [mkEnv, List.replicate]) fin
    | false =>
      have hlit' : lit = -p.1 := by rw [← hlit]; rfl
      subst hlit'
      simp [l0, en, w1, es]
      exact forK_go (mkEnv 340 [(3, fints a), (6, .ptr σ.length 0), (13, fints x), (27, sown2), (28, sb3), (245, fands by_), (246, .int .i64 by_.length), (247, .int .i64 ((i + 1 : Nat) : Int))]) hlt (by simp [mkEnv, List.replicate]) fin
  have : i = by_.length := by omega
  subst this
  have lg := ldOf σ' g 0 (by omega) bg hF
  rw [Nat.add_zero] at lg
  simp [lg]
  have hoff : ∀ j, ¬ sown.has j → (frz (fun i => sown.idOf == some i) σ')[j]? = σ'[j]? := fun j hj => frz_off (hO.idOf_has hj)
  have hlz : (frz (fun i => sown.idOf == some i) σ').length = σ'.length := by rw [frz_len]
  refine GCall.frz (fun i => sown.idOf == some i) (args' := [g.enc, fints x, fands own]) (.cons (.same _) (.cons (.same _) (.cons (hO.rdF fun _ => rfl) .nil))) ?_
  obtain ⟨σ5, hσ5⟩ : ∃ σ5, frz (fun i => sown.idOf == some i) σ' = σ5 := ⟨_, rfl⟩
  rw [hσ5] at hoff hlz ⊢
  have hB5 : Own (σ.length + 6) 1 eint σ5 sb b := hB.fit fun j hj => hoff j fun hh => hD j hh hj
  have hF5 : Fr (σ.length + 6) τ0 σ5 := ⟨by omega, fun j hj => (hoff j fun hh => by have := hO.has_ge hh; omega).trans (hF.get j hj)⟩
  clear hσ5 hoff
  have hes : g.all (own.map (·.2)) = true := by
    unfold AigP.all
    rw [c6, Bool.true_and, List.all_eq_true]
    intro z hz
    obtain ⟨o, ho, rfl⟩ := List.mem_map.1 hz
    have := hst.has o ho
    simp [AigP.has, this]
  refine aig_Compose_ok hs (by omega) (by omega) ?_
  obtain ⟨Z, hZ⟩ : ∃ Z, g.compose x own = Z := ⟨_, rfl⟩
  obtain ⟨hZe, hZm⟩ := compose_means a.contains hax hes hst.nd hst.ins (by omega)
  rw [hZ] at hZe hZm ⊢
  have q5 : Z.l.length = x.length := hZm.len
  simp [hZe, q5]
  refine ref_Reduced_ok (sm hZm.may) ?_
  simp [hZm.red]
  obtain ⟨τ6, hτ6⟩ : ∃ τ6, σ5 ++ [GObj.row false [fints Z.g.ins, fands Z.g.ands]] = τ6 := ⟨_, rfl⟩
  have bZ : τ6[σ5.length]? = some (.row false [fints Z.g.ins, fands Z.g.ands]) := by rw [← hτ6]; simp
  have hF6 : Fr (σ.length + 6) τ0 τ6 := by rw [← hτ6]; exact hF5.app _
  have hB6 : Own (σ.length + 6) 1 eint τ6 sb b := hB5.fit fun j hj => by rw [← hτ6]; exact List.getElem?_append_left (hB5.has_lt hj)
  rw [hτ6]
  clear hτ6
  have lg6 := ldOf τ6 g 0 (by omega) bg hF6
  rw [Nat.add_zero] at lg6
  have lZ : gload (.load 2 true) [.ptr σ5.length 0] τ6 = some Z.g.enc := by rw [ld_agg bZ]; rfl
  refine gfor x.length (fun i e σ' => e = mkEnv 340 [(3, fints a), (6, .ptr σ.length 0), (13, fints x), (28, sb), (34, .ptr σ5.length 0), (35, fints Z.l), (319, .int .i64 x.length), (320, .int .i64 i)] ∧ σ' = τ6) _ ?_ ⟨rfl, rfl⟩ ?_
  · simp [mkEnv, List.replicate]
  rintro i _ σz hi ⟨rfl, hσz⟩
  rw [hσz]
  clear hσz σz
  simp [mkEnv, List.replicate]
  by_cases hlt : i < x.length
  · obtain ⟨ex, hex⟩ := nth_lt hlt
    obtain ⟨eZ, heZ⟩ := nth_lt (l := Z.l) (i := i) (by omega)
    have es : IntKind.i64.wrap ((i : Int) + 1) = (i : Int) + 1 := by rw [wrap_small] <;> omega
    have t1 := hZm.equal hax (merged_normal hst.vars) c8 (vals_congr fun v hv => hst.on c8 (hvv c6 v hv)) rfl (nth_get hex) (nth_get heZ)
    have hml := mergedI_len b
    simp [hlt, lg6, lZ, hex, heZ]
    refine merged_live hB6 (by omega) ?_
    simp
    refine gequal_ok hs (sm hZm.may) (by omega) (mergedI_i64 hst.i64) (by omega) ha6 ?_
    rw [t1]
    simp [es]
    exact forK_go _ hlt (by simp [mkEnv, List.replicate]) ⟨rfl, rfl⟩
  have : i = x.length := by omega
  subst this
  simp
  refine works_ok ?_
  simp
  exact k _
end Go.Gh
