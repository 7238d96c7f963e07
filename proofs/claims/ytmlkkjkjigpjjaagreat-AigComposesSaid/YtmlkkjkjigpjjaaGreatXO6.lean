/-
  Proved: AigComposes: Compose and Join return what the reference returns.
  Part 6 of 7. Conditions: none. A verified frame that runs compiled texts over a ghost heap, the contracts of the functions that the statement reaches, and the plain law.
-/
import Derived.Test.YtmlkkjkjigpjjaaGreatXO5
import Derived.Test.YtmlkkjkjigpjjaaGreatProg
import Derived.KernelRfl
namespace Go.Gh
open Go.RowKit Go.Proofs
set_option linter.unusedVariables false
set_option linter.unusedSimpArgs false
set_option maxRecDepth 100000
/-- A reference maker in the heap, its parts named. Its inputs may be frozen. -/
structure RkR (n : Nat) (σ : GS) (id : Nat) (m : Mk) (si sa : DV) : Prop where
  ge : n ≤ id
  row : σ[id]? = some (.row false [si, sa, .bool m.full])
  ins : si = fints m.ins ∨ Own n 1 eint σ si m.ins
  ands : Own n 2 eand σ sa m.ands
  si_id : ¬ si.has id
  sa_id : ¬ sa.has id
  si_sa : ∀ i, si.has i → ¬ sa.has i
def RkO (n : Nat) (σ : GS) (id : Nat) (m : Mk) : Prop := ∃ si sa, RkR n σ id m si sa
def Rt (σ : GS) (id i : Nat) : Prop := i = id ∨ ∃ si sa f, σ[id]? = some (.row false [si, sa, f]) ∧ (si.has i ∨ sa.has i)
structure Rtp (σ : GS) (id : Nat) (σ' : GS) : Prop where
  len : σ.length ≤ σ'.length
  get : ∀ i, i < σ.length → ¬ Rt σ id i → σ'[i]? = σ[i]?
  ft : ∀ i, i < σ.length → ¬ Rt σ id i → ¬ Rt σ' id i
theorem Rtp.refl (σ : GS) (id : Nat) : Rtp σ id σ := ⟨Nat.le_refl _, fun _ _ _ => rfl, fun _ _ h => h⟩
theorem Rtp.trans {a b c : GS} {id : Nat} (h : Rtp a id b) (k : Rtp b id c) : Rtp a id c :=
  ⟨Nat.le_trans h.len k.len, fun i hi hf => (k.get i (by have := h.len; omega) (h.ft i hi hf)).trans (h.get i hi hf), fun i hi hf => k.ft i (by have := h.len; omega) (h.ft i hi hf)⟩
theorem fsl_not_has {sz : Nat} {es : List (List DV)} {i : Nat} : ¬ (DV.fsl sz es).has i := fun ⟨_, _, _, _, e⟩ => by cases e
section
variable {n id : Nat} {σ σ' : GS} {m : Mk} {si sa : DV}
theorem RkR.si_lt (h : RkR n σ id m si sa) {i : Nat} (hi : si.has i) : i < σ.length ∧ n ≤ i := by
  rcases h.ins with e | h1
  · rw [e] at hi; exact absurd hi fsl_not_has
  · exact ⟨h1.has_lt hi, h1.has_ge hi⟩
theorem RkR.ft (h : RkR n σ id m si sa) (i : Nat) : Rt σ id i ↔ i = id ∨ si.has i ∨ sa.has i := by
  unfold Rt
  constructor
  · rintro (h1 | ⟨si', sa', f, h1, h2⟩)
    · exact .inl h1
    · rw [h.row] at h1; cases h1; exact .inr h2
  · rintro (h1 | h2)
    · exact .inl h1
    · exact .inr ⟨_, _, _, h.row, h2⟩
theorem RkR.dom (h : RkR n σ id m si sa) {i : Nat} (hi : Rt σ id i) : i < σ.length ∧ n ≤ i := by
  rcases (h.ft i).1 hi with rfl | h1 | h1
  · exact ⟨get_dom h.row, h.ge⟩
  · exact h.si_lt h1
  · exact ⟨h.ands.has_lt h1, h.ands.has_ge h1⟩
theorem RkR.fit (h : RkR n σ id m si sa) (k : ∀ i, Rt σ id i → σ'[i]? = σ[i]?) : RkR n σ' id m si sa := by
  have k' : ∀ i, (i = id ∨ si.has i ∨ sa.has i) → σ'[i]? = σ[i]? := fun i hi => k i ((h.ft i).2 hi)
  exact ⟨h.ge, (k' id (.inl rfl)).trans h.row, h.ins.imp (fun h => h) fun h1 => h1.fit fun i hi => k' i (.inr (.inl hi)), h.ands.fit fun i hi => k' i (.inr (.inr hi)), h.si_id, h.sa_id, h.si_sa⟩
end
theorem RkO.fit {n id : Nat} {σ σ' : GS} {m : Mk} (h : RkO n σ id m) (k : ∀ i, Rt σ id i → σ'[i]? = σ[i]?) : RkO n σ' id m := by
  obtain ⟨si, sa, h⟩ := h
  exact ⟨_, _, h.fit k⟩
theorem RkO.dom {n id : Nat} {σ : GS} {m : Mk} (h : RkO n σ id m) {i : Nat} (hi : Rt σ id i) : i < σ.length ∧ n ≤ i := by
  obtain ⟨si, sa, h⟩ := h
  exact h.dom hi
theorem RkO.keep {n id : Nat} {σ σ' : GS} {m : Mk} (h : RkO n σ id m) (k : ∀ i, i < σ.length → σ'[i]? = σ[i]?) : RkO n σ' id m := h.fit fun i hi => k i (h.dom hi).1
theorem RkO.app {n id : Nat} {σ : GS} {m : Mk} (h : RkO n σ id m) (τ : GS) : RkO n (σ ++ τ) id m := h.keep fun i hi => List.getElem?_append_left hi
theorem RkO.ft_eq {n id : Nat} {σ σ' : GS} {m : Mk} (h : RkO n σ id m) (k : σ'[id]? = σ[id]?) (i : Nat) : Rt σ' id i ↔ Rt σ id i := by
  unfold Rt; rw [k]
theorem RkO.stp {n id : Nat} {σ σ' : GS} {m : Mk} (h : RkO n σ id m) (hl : σ.length ≤ σ'.length) (k : ∀ i, i < σ.length → σ'[i]? = σ[i]?) : Rtp σ id σ' := by
  refine ⟨hl, fun i hi _ => k i hi, fun i hi hf => ?_⟩
  rwa [h.ft_eq (k id (h.dom (.inl rfl)).1)]
theorem RkR.rd {n id : Nat} {σ : GS} {m : Mk} {si sa : DV} (h : RkR n σ id m si sa) (ok : Nat → Prop) (hok : ∀ i, n ≤ i → ok i) : Rd σ ok (.agg [si, sa]) (AigP.enc ⟨m.ins, m.ands⟩) := by
  have h1 : Rd σ ok si (fints m.ins) := by
    rcases h.ins with e | h1
    · rw [e]; exact .same _
    · exact h1.rd (fun _ => rfl) hok
  exact .agg (.cons h1 (.cons (h.ands.rd (fun _ => rfl) hok) .nil))
theorem RkR.si_flat {n id : Nat} {σ : GS} {m : Mk} {si sa : DV} (h : RkR n σ id m si sa) : si.flat = true := by
  rcases h.ins with e | h1
  · rw [e]; rfl
  · exact h1.flat
theorem RkR.si_len {n id : Nat} {σ : GS} {m : Mk} {si sa : DV} (h : RkR n σ id m si sa) : gpure .len [si] = some (.int .i64 m.ins.length) := by
  rcases h.ins with e | h1
  · rw [e]; simp
  · exact h1.len
theorem ref_nodes_live {n id : Nat} {σ : GS} {m : Mk} {si sa : DV} {Post : DV → GS → Prop} (h : RkR n σ id m si sa) (hs : m.n < 2 ^ 40) (k : Post (.int .i64 m.n) σ) : GCall Tryz.prog F_skolemref06_Nodes [.agg [si, sa]] σ Post := by
  refine GCall.borrow (args' := [AigP.enc ⟨m.ins, m.ands⟩]) (r := .int .i64 m.n) (.cons (h.rd _ fun _ _ => trivial) .nil) (by simp) rfl ?_ k
  have hn : m.n = 1 + m.ins.length + m.ands.length := rfl
  exact ref_Nodes_ok (g := ⟨m.ins, m.ands⟩) ⟨by show m.ins.length < _; omega, by show m.ands.length < _; omega⟩ rfl
theorem ref_find_live {n id : Nat} {σ : GS} {m : Mk} {a b : Int} {si sa : DV} {Post : DV → GS → Prop} (h : RkR n σ id m si sa) (hs : m.n < 2 ^ 40) (hok : m.ok) (hb0 : 0 ≤ b) (hb1 : b < 2 ^ 60) (k : Post (.int .i64 (m.at a b)) σ) : GCall Tryz.prog F_skolemref06_find [.agg [si, sa], .int .i64 a, .int .i64 b] σ Post := by
  refine GCall.borrow (args' := [AigP.enc ⟨m.ins, m.ands⟩, .int .i64 a, .int .i64 b]) (r := .int .i64 (m.at a b)) (.cons (h.rd _ fun _ _ => trivial) (.cons (.same _) (.cons (.same _) .nil))) (by simp) rfl ?_ k
  have hn : m.n = 1 + m.ins.length + m.ands.length := rfl
  exact ref_find_ok (g := ⟨m.ins, m.ands⟩) ⟨by show m.ins.length < _; omega, by show m.ands.length < _; omega⟩ hok hb0 hb1 rfl
theorem ref_edge_live {n id : Nat} {σ : GS} {m : Mk} {v : Int} {si sa : DV} {Post : DV → GS → Prop} (h : RkR n σ id m si sa) (hs : m.n < 2 ^ 40) (k : Post (.int .i64 (edgeOf m.ins v)) σ) : GCall Tryz.prog F_skolemref06_Edge [.agg [si, sa], .int .i64 v] σ Post := by
  refine GCall.borrow (args' := [AigP.enc ⟨m.ins, m.ands⟩, .int .i64 v]) (r := .int .i64 (edgeOf m.ins v)) (.cons (h.rd _ fun _ _ => trivial) (.cons (.same _) .nil)) (by simp) rfl ?_ k
  have hn : m.n = 1 + m.ins.length + m.ands.length := rfl
  exact ref_Edge_ok (g := ⟨m.ins, m.ands⟩) (by show m.ins.length < _; omega) rfl
set_option maxHeartbeats 2000000 in
theorem ref_Conj_ok {n id : Nat} {m : Mk} {a b : Int} {σ : GS} {Post : DV → GS → Prop} (hm : RkO n σ id m) (hok : m.ok) (ha0 : 0 ≤ a) (ha1 : a < 2 ^ 60) (hb0 : 0 ≤ b) (hb1 : b < 2 ^ 60) (hsz : m.n < 2 ^ 40)
    (k : ∀ σ', RkO n σ' id (m.conj a b).2 → Rtp σ id σ' → Post (.int .i64 (m.conj a b).1) σ') : GCall Tryz.prog F_skolemref06_Maker_Conj [.ptr id 0, .int .i64 a, .int .i64 b] σ Post := by
  have hm0 := hm
  obtain ⟨si, sa, h⟩ := hm
  have hid := get_dom h.row
  have hnn : n ≤ σ.length := by have := h.ge; omega
  have hrow : ∀ j, gload (.load 1 false) [.ptr id j] σ = [si, sa, .bool m.full][j]? := fun j => ld_at h.row
  have hagg : gload (.load 2 true) [.ptr id 0] σ = some (.agg [si, sa]) := by rw [ld_agg h.row]; rfl
  have hmn : (m.n : Int) = 1 + m.ins.length + m.ands.length := by unfold Mk.n; omega
  have hsil := h.si_len
  -- what comes once the order of the edges is settled
  have main : ∀ (x y : Int), x = min a b → y = max a b → ∀ (K : Prop), True := fun _ _ _ _ _ => trivial
  refine gc_skolemref06_Maker_Conj ?_
  obtain ⟨x, hx⟩ : ∃ x, min a b = x := ⟨_, rfl⟩
  obtain ⟨y, hy⟩ : ∃ y, max a b = y := ⟨_, rfl⟩
  have hx0 : 0 ≤ x := by omega
  have hx1 : x < 2 ^ 60 := by omega
  have hy0 : 0 ≤ y := by omega
  have hy1 : y < 2 ^ 60 := by omega
  have hcj : m.conj a b = if x = 0 ∨ notE x = y then (0, m) else if x = 1 ∨ x = y then (y, m) else if 0 ≤ m.at x y then (2 * (1 + m.ins.length + m.at x y), m) else if 200000 ≤ m.n then (0, { m with full := true }) else (2 * (m.n : Int), { m with ands := m.ands ++ [(x, y)] }) := by unfold Mk.conj; rw [hx, hy]
  rw [hcj] at k
  by_cases hab : b < a
  all_goals
    first
    | (have e1 : x = b := by omega
       have e2 : y = a := by omega)
    | (have e1 : x = a := by omega
       have e2 : y = b := by omega)
    rw [← e1, ← e2] at *
    first
    | (have hlt : x < y := by omega
       simp [G_skolemref06_Maker_Conj, genv0, List.replicate, hlt])
    | (have hlt : ¬ y < x := by omega
       simp [G_skolemref06_Maker_Conj, genv0, List.replicate, hlt])
    clear e1 e2
    by_cases c1 : x = 0
    · rw [if_pos (.inl c1)] at k
      simp [c1]
      exact k σ hm0 (.refl _ _)
    simp [c1]
    refine ref_Not_ok hx0 (by omega) ?_
    by_cases c2 : notE x = y
    · rw [if_pos (.inr c2)] at k
      simp [c2]
      exact k σ hm0 (.refl _ _)
    rw [if_neg (by simp [c1, c2])] at k
    simp [c2]
    by_cases c3 : x = 1
    · rw [if_pos (.inl c3)] at k
      simp [c3]
      exact k σ hm0 (.refl _ _)
    by_cases c4 : x = y
    · rw [if_pos (.inr c4)] at k
      have c3' : ¬ y = 1 := by rw [← c4]; exact c3
      simp [c3', c4]
      exact k σ hm0 (.refl _ _)
    rw [if_neg (by simp [c3, c4])] at k
    simp [c3, c4, hagg]
    refine ref_find_live h hsz hok hy0 hy1 ?_
    have hatl := m.at_lt x y
    have ew1 : IntKind.i64.wrap (1 + (m.ins.length : Int)) = 1 + m.ins.length := by rw [wrap_small] <;> omega
    by_cases c5 : 0 ≤ m.at x y
    · rw [if_pos c5] at k
      have c5' : ¬ m.at x y < 0 := by omega
      have ew2 : IntKind.i64.wrap (1 + (m.ins.length : Int) + m.at x y) = 1 + m.ins.length + m.at x y := by rw [wrap_small] <;> omega
      have ew3 : IntKind.i64.wrap (2 * (1 + (m.ins.length : Int) + m.at x y)) = 2 * (1 + m.ins.length + m.at x y) := by rw [wrap_small] <;> omega
      simp [c5', hrow, hsil, ew1, ew2, ew3]
      exact k σ hm0 (.refl _ _)
    rw [if_neg c5] at k
    have c5' : m.at x y < 0 := by omega
    simp [c5', hagg]
    refine ref_nodes_live h hsz ?_
    by_cases c6 : 200000 ≤ m.n
    · rw [if_pos c6] at k
      have hst : gimp (.store 1) [.ptr id 2, .bool true] σ = some (.tuple [], σ.set id (.row false [si, sa, .bool true])) := by simp [gimp, h.row, DV.cells, over]
      have c6' : (200000 : Int) ≤ m.n := by omega
      simp [c6', hst]
      have hR : RkR n (σ.set id (.row false [si, sa, .bool true])) id { m with full := true } si sa := by
        have hne : ∀ i, i ≠ id → (σ.set id (GObj.row false [si, sa, .bool true]))[i]? = σ[i]? := fun i hi => List.getElem?_set_ne (Ne.symm hi)
        exact ⟨h.ge, by rw [List.getElem?_set_self hid], h.ins.imp (fun h => h) fun h1 => h1.fit fun i hi => hne i fun e => h.si_id (e ▸ hi), h.ands.fit fun i hi => hne i fun e => h.sa_id (e ▸ hi), h.si_id, h.sa_id, h.si_sa⟩
      refine k _ ⟨_, _, hR⟩ ⟨by simp, fun i hi hf => List.getElem?_set_ne fun e => hf (.inl e.symm), fun i hi hf hf' => hf ?_⟩
      exact (h.ft i).2 ((hR.ft i).1 hf')
    rw [if_neg c6] at k
    have c6' : ¬ (200000 : Int) ≤ m.n := by omega
    have hlen := h.ands.len
    obtain ⟨s', σ1, q1, q2, q3, q4, q5, q6⟩ := h.ands.push (by_ := 16) (x, y) (fun _ => rfl) (by simp) hnn (by omega) (by decide)
    have hk1 : ∀ i, i < σ.length → ¬ sa.has i → σ1[i]? = σ[i]? := q5
    have hrow1 : σ1[id]? = some (.row false [si, sa, .bool m.full]) := (hk1 id hid h.sa_id).trans h.row
    have hs'id : ¬ s'.has id := fun hh => by rcases q6 id hh with h1 | h1; exact h.sa_id h1; omega
    have hst : gimp (.store 1) [.ptr id 1, s'] σ1 = some (.tuple [], σ1.set id (.row false [si, s', .bool m.full])) := by
      simp [gimp, hrow1, cells_of_flat q2.flat, over, q2.flat]
    obtain ⟨σ2, hσ2⟩ : ∃ σ2, σ1.set id (.row false [si, s', .bool m.full]) = σ2 := ⟨_, rfl⟩
    rw [hσ2] at hst
    have hne2 : ∀ i, i ≠ id → σ2[i]? = σ1[i]? := fun i hi => by rw [← hσ2]; exact List.getElem?_set_ne (Ne.symm hi)
    have hrow2 : σ2[id]? = some (.row false [si, s', .bool m.full]) := by rw [← hσ2, List.getElem?_set_self (by omega)]
    have hld2 : gload (.load 1 false) [.ptr id 0] σ2 = some si := ld_at hrow2
    have ew2 : IntKind.i64.wrap (1 + (m.ins.length : Int) + m.ands.length) = 1 + m.ins.length + m.ands.length := by rw [wrap_small] <;> omega
    have ew3 : IntKind.i64.wrap (2 * (1 + (m.ins.length : Int) + m.ands.length)) = 2 * (1 + m.ins.length + m.ands.length) := by rw [wrap_small] <;> omega
    simp [c6', hrow, hlen, q1, hst, hld2, hsil, ew1, ew2, ew3]
    have hR : RkR n σ2 id { m with ands := m.ands ++ [(x, y)] } si s' := by
      refine ⟨h.ge, hrow2, h.ins.imp (fun h => h) fun h1 => h1.fit fun i hi => ?_, q2.fit fun i hi => hne2 _ (fun e => hs'id (e ▸ hi)), h.si_id, hs'id, fun i hi hi' => ?_⟩
      · rw [hne2 _ (fun e => h.si_id (e ▸ hi)), hk1 _ (h1.has_lt hi) (h.si_sa i hi)]
      · rcases q6 i hi' with h1 | h1
        · exact h.si_sa i hi h1
        · have := (h.si_lt hi).1; omega
    rw [hmn] at k
    refine k _ ⟨_, _, hR⟩ ⟨?_, fun i hi hf => ?_, fun i hi hf hf' => hf ?_⟩
    · have : σ2.length = σ1.length := by rw [← hσ2]; simp
      omega
    · have hnf := fun hh => hf ((h.ft i).2 hh)
      rw [hne2 _ (fun e => hnf (.inl e)), hk1 _ hi (fun hh => hnf (.inr (.inr hh)))]
    · refine (h.ft i).2 ?_
      rcases (hR.ft i).1 hf' with h1 | h1 | h1
      · exact .inl h1
      · exact .inr (.inl h1)
      · rcases q6 i h1 with h2 | h2
        · exact .inr (.inr h2)
        · omega
theorem ref_Reached_ok {g : AigP} {l : List Int} {σ : GS} {Post : DV → GS → Prop} (hm : g.may = true) (hl : l.length < 2 ^ 50) (he : ∀ e ∈ l, 0 ≤ e ∧ e < 2 * g.nodes) (h : Post (fbools (g.reach l)) σ) : GCall Tryz.prog F_skolemref06_Reached [g.enc, fints l] σ Post := by
  have hnn := AigP.may_nodes hm
  have hn : g.nodes = 1 + g.ins.length + g.ands.length := rfl
  have hs : g.Sm := ⟨by omega, by omega⟩
  have hok : ∀ {i : Nat} {p : Int × Int}, g.ands[i]? = some p → _ := fun {i p} h => andsOk_get (AigP.may_ands hm) (i := i) (p := p) h
  obtain ⟨n, hne⟩ : ∃ n, g.nodes = n := ⟨_, rfl⟩
  obtain ⟨base, hbase⟩ : ∃ b, 1 + g.ins.length = b := ⟨_, rfl⟩
  refine GCall.pure (r := fbools (g.reach l)) ?_ (by simp) h
  refine gc_skolemref06_Reached ?_
  simp [G_skolemref06_Reached, genv0, List.replicate]
  refine ref_Nodes_ok hs ?_
  rw [hne] at he ⊢
  simp [mslice_bools (show n < 2 ^ 40 by omega)]
  have hr0 : List.replicate n (DV.bool false) = bools (List.replicate n false) := by simp [bools]
  rw [hr0]
  obtain ⟨A, hA⟩ : ∃ A, GObj.row false [fints g.ins, fands g.ands] = A := ⟨_, rfl⟩
  rw [hA]
  refine gfor l.length (fun i e σ' => (∃ m, σ' = σ ++ (A :: .row false (bools m) :: []) ∧ m.length = n ∧ marks m (l.drop i) = marks (List.replicate n false) l) ∧ e = mkEnv 60 [(1, fints l), (2, .ptr σ.length 0), (5, .slice (σ.length + 1) 0 n 1 (some n)), (6, .int .i64 i)]) _ ?_ ⟨⟨List.replicate n false, by simp, by simp, rfl⟩, rfl⟩ ?_
  · simp [mkEnv, List.replicate]
  rintro i _ _ hi ⟨⟨m, rfl, hml, hI⟩, rfl⟩
  simp [mkEnv, List.replicate]
  by_cases hlt : i < l.length
  · obtain ⟨y, hy⟩ := nth_lt hlt
    have hy' := nth_get hy
    obtain ⟨y0, y1⟩ := he y (List.mem_of_getElem? hy')
    have hi1 := iaddr_half (id := σ.length + 1) (n := n) (e := y) (k := .i64) (cap := some n) y0 (by omega)
    have s1 : (y / 2).toNat < m.length := by omega
    have ew : IntKind.i64.wrap (y / 2) = y / 2 := by rw [wrap_small] <;> omega
    rw [drop_get hy', marks_cons] at hI
    have es : IntKind.i64.wrap ((i : Int) + 1) = (i : Int) + 1 := by rw [wrap_small] <;> omega
    simp [hlt, hy, tdiv_two y0, ew, hi1, s1, es]
    exact forK_go _ hlt (by simp [mkEnv, List.replicate]) ⟨⟨_, by simp [List.map_set], by simp [hml], hI⟩, rfl⟩
  · have : i = l.length := by omega
    subst this
    rw [List.drop_length] at hI
    have hI' : m = marks (List.replicate n false) l := hI
    have e1 : IntKind.i64.wrap (1 + (g.ins.length : Int)) = ((base : Nat) : Int) := by rw [wrap_small] <;> omega
    have hld : ∀ τ, gload (.load 1 false) [.ptr σ.length 0] (σ ++ A :: τ) = some (fints g.ins) := fun τ => by simp [← hA]
    have hld1 : ∀ τ, gload (.load 1 false) [.ptr σ.length 1] (σ ++ A :: τ) = some (fands g.ands) := fun τ => by simp [← hA]
    have ewl : IntKind.i64.wrap ((g.ands.length : Int) - 1) = (g.ands.length : Int) - 1 := by rw [wrap_small] <;> omega
    simp [hld1, ewl]
    have hfin : rcDown base g.ands g.ands.length m = g.reach l := by rw [hI']; unfold AigP.reach; rw [hbase, hne]
    refine gwhile (mkEnv 60 [(2, .ptr σ.length 0), (5, .slice (σ.length + 1) 0 n 1 (some n)), (7, .int .i64 ((g.ands.length : Int) - 1))]) g.ands.length (fun i e σ' => i ≤ g.ands.length ∧ (∃ m, σ' = σ ++ (A :: .row false (bools m) :: []) ∧ m.length = n ∧ rcDown base g.ands i m = g.reach l) ∧ e = mkEnv 60 [(2, .ptr σ.length 0), (5, .slice (σ.length + 1) 0 n 1 (some n)), (7, .int .i64 ((i : Int) - 1))]) ?_ ⟨Nat.le_refl _, ⟨m, rfl, hml, hfin⟩, rfl⟩ ?_
    · simp [mkEnv, List.replicate]
    clear hfin hI' hI hml m hi hlt
    rintro i _ _ ⟨hi, ⟨m, rfl, hml, hI⟩, rfl⟩
    simp [mkEnv, List.replicate]
    cases i with
    | zero =>
      have hI' : m = g.reach l := hI
      simp
      subst hI'
      subst hml
      exact rd_bools (ro := false) (by simp) (.inl (by omega))
    | succ i =>
      obtain ⟨p, hp⟩ := nth_lt (l := g.ands) (i := i) (by omega)
      have hp' := nth_get hp
      obtain ⟨p1, p2, p3, p4⟩ := hok hp'
      have hg : g.ands.getD i (0, 0) = p := by rw [List.getD_eq_getElem?_getD, hp']; rfl
      have g1 : (1 : Int) ≤ (i : Int) + 1 := by omega
      have g2 : (i : Int) + 1 - 1 = i := by omega
      have ew2 : IntKind.i64.wrap ((base : Int) + i) = ((base + i : Nat) : Int) := by rw [wrap_small] <;> omega
      have ew3 : IntKind.i64.wrap ((i : Int) - 1) = (i : Int) - 1 := by rw [wrap_small] <;> omega
      obtain ⟨b, hb⟩ := nth_lt (l := m) (i := base + i) (by omega)
      have hb' : m[base + i]? = some b := hb
      have hia := iaddr_own (id := σ.length + 1) (n := n) (sz := 1) (i := base + i) (k := .i64) (cap := some n) (by omega)
      have hi1 := iaddr_half (id := σ.length + 1) (n := n) (e := p.1) (k := .i64) (cap := some n) p1 (by omega)
      have hi2 := iaddr_half (id := σ.length + 1) (n := n) (e := p.2) (k := .i64) (cap := some n) p2 (by omega)
      have ed1 : IntKind.i64.wrap (p.1 / 2) = p.1 / 2 := by rw [wrap_small] <;> omega
      have ed2 : IntKind.i64.wrap (p.2 / 2) = p.2 / 2 := by rw [wrap_small] <;> omega
      simp at hia
      have hgd : m.getD (base + i) false = b := by rw [List.getD_eq_getElem?_getD, hb']; rfl
      have hI' : rcDown base g.ands i (rcStep base g.ands m i) = g.reach l := hI
      simp [g1, g2, hld, hld1, e1, ew2, hia, hb']
      cases b with
      | false =>
        have e : rcStep base g.ands m i = m := by unfold rcStep; rw [hgd]; rfl
        rw [e] at hI'
        simp [g2, ew3]
        exact whK_go i _ (by omega) (by simp [mkEnv, List.replicate]) ⟨by omega, ⟨m, rfl, hml, hI'⟩, rfl⟩
      | true =>
        have e : rcStep base g.ands m i = (m.set (p.1 / 2).toNat true).set (p.2 / 2).toNat true := by unfold rcStep; rw [hgd, hg]; rfl
        rw [e] at hI'
        have s1 : (p.1 / 2).toNat < m.length := by omega
        have s2 : (p.2 / 2).toNat < m.length := by omega
        simp [g2, hld1, hp, tdiv_two p1, tdiv_two p2, ed1, ed2, hi1, hi2, s1, s2, ew3]
        exact whK_go i _ (by omega) (by simp [mkEnv, List.replicate]) ⟨by omega, ⟨_, by simp [List.map_set], by simp [hml], hI'⟩, rfl⟩
end Go.Gh
namespace Go.Gh
open Go.RowKit Go.Proofs
set_option linter.unusedVariables false
set_option linter.unusedSimpArgs false
set_option maxRecDepth 100000
theorem ref_Image_live {T : List Int} {e : Int} {tid n : Nat} {cap : Option Nat} {σ : GS} {Post : DV → GS → Prop} (ht : σ[tid]? = some (.row false (ints T))) (hn : T.length = n) (h0 : 0 ≤ e) (h1 : e < 2 * T.length) (hl : T.length < 2 ^ 50) (hT : ∀ t ∈ T, 0 ≤ t ∧ t < 2 ^ 60) (h : Post (.int .i64 (imgE T e)) σ) : GCall Tryz.prog F_skolemref06_Image [.slice tid 0 n 1 cap, .int .i64 e] σ Post := by
  subst hn
  exact GCall.borrow (args' := [fints T, .int .i64 e]) (.cons (rd_ints ht trivial) (.cons (.same _) .nil)) (by simp) rfl (ref_Image_ok h0 h1 hl hT rfl) h
/-- The state of copying in the reference. -/
structure RpSt (n0 : Nat) (σ σ' : GS) (id : Nat) (g : AigP) (n : Nat) (T : List Int) (m : Mk) : Prop where
  box : σ'[σ.length]? = some (.row false [fints g.ins, fands g.ands])
  row : σ'[σ.length + 1]? = some (.row false (ints T))
  mak : RkO n0 σ' id m
  stp : Rtp σ id σ'
  nf : ∀ j, j < 2 → ¬ Rt σ' id (σ.length + j)
  tl : T.length = n
theorem RpSt.step {n0 id n : Nat} {σ σ' σ2 : GS} {g : AigP} {T : List Int} {m m' : Mk} (h : RpSt n0 σ σ' id g n T m) (hm : RkO n0 σ2 id m') (hs : Rtp σ' id σ2) : RpSt n0 σ σ2 id g n T m' := by
  have hk : ∀ j o, j < 2 → σ'[σ.length + j]? = some o → σ2[σ.length + j]? = some o := fun j o hj ho => (hs.get _ (get_dom ho) (h.nf j hj)).trans ho
  exact ⟨hk 0 _ (by omega) h.box, hk 1 _ (by omega) h.row, hm, h.stp.trans hs, fun j hj => hs.ft _ (by have := get_dom h.row; omega) (h.nf j hj), h.tl⟩
theorem RpSt.set {n0 id n : Nat} {σ σ' : GS} {g : AigP} {T : List Int} {m : Mk} (h : RpSt n0 σ σ' id g n T m) (i : Nat) (x : Int) : RpSt n0 σ (σ'.set (σ.length + 1) (.row false (ints (T.set i x)))) id g n (T.set i x) m := by
  have hne : ∀ j, j ≠ σ.length + 1 → (σ'.set (σ.length + 1) (.row false (ints (T.set i x))))[j]? = σ'[j]? := fun j hj => List.getElem?_set_ne (Ne.symm hj)
  have hfne : ∀ j, Rt σ' id j → j ≠ σ.length + 1 := fun j hj e => h.nf 1 (by omega) (e ▸ hj)
  have hid := hne id (hfne id (.inl rfl))
  exact ⟨(hne _ (by omega)).trans h.box, List.getElem?_set_self (get_dom h.row), h.mak.fit fun j hj => hne j (hfne j hj), ⟨by simpa using h.stp.len, fun i hi hf => (hne i (by omega)).trans (h.stp.get i hi hf), fun i hi hf => by rw [h.mak.ft_eq hid]; exact h.stp.ft i hi hf⟩, fun j hj => by rw [h.mak.ft_eq hid]; exact h.nf j hj, by simp [h.tl]⟩
set_option maxHeartbeats 2000000 in
theorem ref_copied_ok {n0 id : Nat} {m : Mk} {g : AigP} {l im : List Int} {σ : GS} {Post : DV → GS → Prop} (hmk : RkO n0 σ id m) (hmok : m.ok) (hms : m.n < 2 ^ 30) (hm : g.may = true) (hl : l.length < 2 ^ 50) (he : ∀ e ∈ l, 0 ≤ e ∧ e < 2 * g.nodes)
    (him : im.length = g.ins.length) (hiv : ∀ v ∈ im, 0 ≤ v ∧ v < 2 * m.n)
    (k : ∀ σ', RkO n0 σ' id (m.copy g (g.reach l) (0 :: im)).2 → Rtp σ id σ' → Post (fints (m.copy g (g.reach l) (0 :: im)).1) σ') :
    GCall Tryz.prog F_skolemref06_Maker_copied [.ptr id 0, g.enc, fints l, fints im] σ Post := by
  have hnn := AigP.may_nodes hm
  have hn : g.nodes = 1 + g.ins.length + g.ands.length := rfl
  have hs : g.Sm := ⟨by omega, by omega⟩
  have hok : ∀ {i : Nat} {p : Int × Int}, g.ands[i]? = some p → _ := fun {i p} h => andsOk_get (AigP.may_ands hm) (i := i) (p := p) h
  have hrl := g.reach_len l
  obtain ⟨r, hr⟩ : ∃ r, g.reach l = r := ⟨_, rfl⟩
  rw [hr] at hrl k
  have hidl := (hmk.dom (.inl rfl)).1
  have hpos : 0 < (m.n : Int) := by unfold Mk.n; omega
  obtain ⟨n, hne⟩ : ∃ n, g.nodes = n := ⟨_, rfl⟩
  rw [hne] at hrl
  refine GCall.out (GCall.mono (Post := fun v σ' => RpSt n0 σ σ' id g n (m.copy g r (0 :: im)).1 (m.copy g r (0 :: im)).2 ∧ v = .slice (σ.length + 1) 0 n 1 (some n)) ?_ ?_)
  rotate_left
  · rintro v σ' ⟨hC, rfl⟩
    have hS : ∀ i, Rt σ' id i → (fun i => decide (i = σ.length + 1)) i = false := fun i hi => by
      have h1 : i ≠ σ.length + 1 := fun e => hC.nf 1 (by omega) (e ▸ hi)
      simp [h1]
    refine ⟨fun i => decide (i = σ.length + 1), fints (m.copy g r (0 :: im)).1, ?_, k _ ?_ ?_⟩
    · have hrow := frz_row (S := fun i => decide (i = σ.length + 1)) hC.row (by simp)
      have := rd_ints (ok := RO (frz (fun i => decide (i = σ.length + 1)) σ')) (cap := some n) hrow (fun ro cs h => by rw [hrow] at h; cases h; rfl)
      rw [hC.tl] at this
      exact this
    · exact hC.mak.fit fun i hi => frz_off (hS i hi)
    · refine ⟨by rw [frz_len]; exact hC.stp.len, fun i hi hf => ?_, fun i hi hf => ?_⟩
      · rw [frz_off (by simp; omega)]; exact hC.stp.get i hi hf
      · rw [hC.mak.ft_eq (frz_off (hS id (.inl rfl)))]; exact hC.stp.ft i hi hf
  refine gc_skolemref06_Maker_copied ?_
  simp [G_skolemref06_Maker_copied, genv0, List.replicate]
  refine ref_Reached_ok hm hl he ?_
  simp
  refine ref_Nodes_ok hs ?_
  rw [hr, hne]
  simp [mslice_ints (show n < 2 ^ 40 by omega)]
  have hr0 : List.replicate n (DV.int .i64 0) = ints (List.replicate n 0) := by simp [ints]
  rw [hr0]
  obtain ⟨A, hA⟩ : ∃ A, GObj.row false [fints g.ins, fands g.ands] = A := ⟨_, rfl⟩
  have hldA : ∀ τ, gload (.load 1 false) [.ptr σ.length 0] (σ ++ A :: τ) = some (fints g.ins) := fun τ => by simp [← hA]
  rw [hA]
  refine gfor im.length (fun i e σ' => (∃ z, σ' = σ ++ (A :: .row false (ints (0 :: im.take i ++ z)) :: []) ∧ 1 + i + z.length = n ∧ ∀ t ∈ z, t = 0) ∧ e = mkEnv 73 [(0, .ptr id 0), (3, fints im), (5, .ptr σ.length 0), (9, fbools r), (10, .slice (σ.length + 1) 0 n 1 (some n)), (11, .int .i64 i)]) _ ?_ ⟨⟨List.replicate (n - 1) 0, ?_, by simp; omega, fun t ht => List.eq_of_mem_replicate ht⟩, rfl⟩ ?_
  · simp [mkEnv, List.replicate]
  · obtain ⟨q, rfl⟩ : ∃ q, n = q + 1 := ⟨n - 1, by omega⟩
    simp [List.replicate_succ]
  rintro i _ _ hi ⟨⟨z, rfl, hzl, hz⟩, rfl⟩
  simp [mkEnv, List.replicate]
  by_cases hlt : i < im.length
  · obtain ⟨y, hy⟩ := nth_lt hlt
    have hy' := nth_get hy
    have es : IntKind.i64.wrap ((i : Int) + 1) = (i : Int) + 1 := by rw [wrap_small] <;> omega
    cases z with
    | nil => simp at hzl; omega
    | cons z0 z =>
    have hz0 : z0 = 0 := hz z0 List.mem_cons_self
    subst hz0
    simp at hzl
    have hia := iaddr_own (id := σ.length + 1) (n := n) (sz := 1) (i := i + 1) (k := .i64) (cap := some n) (by omega)
    simp only [Nat.mul_one, Int.natCast_add, Int.natCast_one] at hia
    have hst : ∀ τ : GS, gimp (.store 1) [.ptr (σ.length + 1) (i + 1), .int .i64 y] (σ ++ (A :: .row false (.int .i64 0 :: (List.take i (List.map (DV.int .i64) im) ++ .int .i64 0 :: List.map (DV.int .i64) z)) :: τ)) = some (.tuple [], σ ++ (A :: .row false (.int .i64 0 :: (List.take i (List.map (DV.int .i64) im) ++ .int .i64 y :: List.map (DV.int .i64) z)) :: τ)) := fun τ => by
      have hl2 : (List.take i (List.map (DV.int .i64) im)).length = i := by simp; omega
      have hlt2 : i < i + (z.length + 1) := by omega
      simp [hl2]
    simp [hlt, hy, es, hia, hst]
    refine forK_go _ hlt (by simp [mkEnv, List.replicate]) ⟨⟨z, ?_, by omega, fun t ht => hz t (List.mem_cons_of_mem _ ht)⟩, rfl⟩
    rw [take_get hy']
    simp
  · have : i = im.length := by omega
    subst this
    have htk : List.take im.length (List.map (DV.int .i64) im) = List.map (DV.int .i64) im := by rw [← List.map_take, List.take_length]
    simp [htk]
    have hC0 : RpSt n0 σ (σ ++ (A :: .row false (ints (0 :: im ++ z)) :: [])) id g n (0 :: im ++ z) m := by
      have e0 : (σ ++ (A :: .row false (ints (0 :: im ++ z)) :: []))[id]? = σ[id]? := List.getElem?_append_left hidl
      refine ⟨by simp [← hA], by simp, hmk.app _, hmk.stp (by simp) fun i hi => List.getElem?_append_left hi, fun j hj hf' => ?_, by simp; omega⟩
      rw [hmk.ft_eq e0] at hf'
      have := (hmk.dom hf').1; omega
    simp at hC0
    obtain ⟨xs, hxs⟩ : ∃ xs, g.ands.zip (r.drop (1 + g.ins.length)) = xs := ⟨_, rfl⟩
    obtain ⟨s0, hs0⟩ : ∃ s0, ((0 :: im, m) : List Int × Mk) = s0 := ⟨_, rfl⟩
    have hcp0 : CpOk s0 := by
      rw [← hs0]
      refine ⟨fun t ht => ?_, hmok⟩
      simp only [List.mem_cons] at ht
      rcases ht with rfl | ht
      · show (0 : Int) ≤ 0 ∧ (0 : Int) < 2 * (m.n : Int); omega
      · exact hiv t ht
    have hl0 : s0.1.length = 1 + g.ins.length := by rw [← hs0]; simp; omega
    have hn0' : s0.2.n = m.n := by rw [← hs0]
    refine gfor g.ands.length (fun i e σ' => (∃ z, RpSt n0 σ σ' id g n (((xs.take i).foldl cpStep s0).1 ++ z) ((xs.take i).foldl cpStep s0).2 ∧ ∀ t ∈ z, t = 0) ∧ e = mkEnv 73 [(0, .ptr id 0), (5, .ptr σ.length 0), (9, fbools r), (10, .slice (σ.length + 1) 0 n 1 (some n)), (12, .int .i64 i)]) _ ?_ ⟨⟨z, by simpa [← hs0] using hC0, hz⟩, rfl⟩ ?_
    · simp [mkEnv, List.replicate]
    clear hC0 hldA hzl hz z hlt hi
    rintro i _ σ' hi ⟨⟨z, hC, hz⟩, rfl⟩
    simp [mkEnv, List.replicate]
    have hxl : xs.length = g.ands.length := by rw [← hxs]; simp; omega
    have hldI : gload (.load 1 false) [.ptr σ.length 0] σ' = some (fints g.ins) := by rw [ld_at hC.box]; rfl
    have hldN : gload (.load 1 false) [.ptr σ.length 1] σ' = some (fands g.ands) := by rw [ld_at hC.box]; rfl
    by_cases hlt : i < g.ands.length
    · obtain ⟨p, hp⟩ := nth_lt hlt
      have hp' := nth_get hp
      obtain ⟨p1, p2, p3, p4⟩ := hok hp'
      have es : IntKind.i64.wrap ((i : Int) + 1) = (i : Int) + 1 := by rw [wrap_small] <;> omega
      have ew : IntKind.i64.wrap (1 + (g.ins.length : Int)) = 1 + g.ins.length := by rw [wrap_small] <;> omega
      have ew2 : IntKind.i64.wrap (1 + (g.ins.length : Int) + i) = 1 + g.ins.length + i := by rw [wrap_small] <;> omega
      have hge : (0 : Int) ≤ 1 + (g.ins.length : Int) + i := by omega
      have htn : (1 + (g.ins.length : Int) + i).toNat = 1 + g.ins.length + i := by omega
      obtain ⟨b, hb⟩ := nth_lt (l := r) (i := 1 + g.ins.length + i) (by omega)
      have hb' := nth_get hb
      have hx : xs[i]? = some (p, b) := by rw [← hxs, List.getElem?_zip_eq_some, List.getElem?_drop]; exact ⟨hp', hb'⟩
      have htk := take_get hx
      have hfold : (xs.take (i + 1)).foldl cpStep s0 = cpStep ((xs.take i).foldl cpStep s0) (p, b) := by rw [htk, List.foldl_append]; rfl
      have hcp := cpFold_ok (xs.take i) hcp0
      have hcl := cpFold_len (xs.take i) s0
      have hcn := (cpFold_n (xs.take i) s0).2
      rw [List.length_take, Nat.min_eq_left (by omega)] at hcl hcn
      obtain ⟨s, hss⟩ : ∃ s, (xs.take i).foldl cpStep s0 = s := ⟨_, rfl⟩
      rw [hss] at hC hfold hcp hcl hcn
      have hMpos : 0 < (s.2.n : Int) := by unfold Mk.n; omega
      have hzl := hC.tl
      rw [List.length_append] at hzl
      cases z with
      | nil => simp at hzl; omega
      | cons z0 z =>
      have hz0 : z0 = 0 := hz z0 List.mem_cons_self
      subst hz0
      simp at hzl
      have hTr : ∀ t ∈ s.1 ++ 0 :: z, 0 ≤ t ∧ t < 2 ^ 60 := fun t ht => by
        rcases List.mem_append.1 ht with ht | ht
        · have := hcp.to t ht; omega
        · have : t = 0 := hz t ht
          omega
      have htlen : (s.1 ++ 0 :: z).length = n := by simp; omega
      simp [hlt, hldI, hldN, ew, ew2, hge, htn, hb]
      cases b with
      | false =>
        simp [es]
        refine forK_go _ hlt (by simp [mkEnv, List.replicate]) ⟨⟨z, ?_, fun t ht => hz t (List.mem_cons_of_mem _ ht)⟩, rfl⟩
        rw [hfold]
        simpa [cpStep] using hC
      | true =>
        have r1 := imgE_range hMpos hcp.to p.1
        have r2 := imgE_range hMpos hcp.to p.2
        have him : ∀ e : Int, 0 ≤ e → e < 2 * (1 + g.ins.length) + 2 * i → imgE (s.1 ++ 0 :: z) e = imgE s.1 e := fun e h0 h1 => imgE_app (by omega)
        simp [hldN, hp]
        refine ref_Image_live hC.row htlen p1 (by omega) (by omega) hTr ?_
        rw [him _ p1 (by omega)]
        simp [hldN, hp]
        refine ref_Image_live hC.row htlen p2 (by omega) (by omega) hTr ?_
        rw [him _ p2 (by omega)]
        simp
        refine ref_Conj_ok hC.mak hcp.ok r1.1 (by omega) r2.1 (by omega) (by omega) fun σ2 hm2 hst2 => ?_
        have hC2 := hC.step hm2 hst2
        have hia := iaddr_own (id := σ.length + 1) (n := n) (sz := 1) (i := 1 + g.ins.length + i) (k := .i64) (cap := some n) (by omega)
        rw [show (((1 + g.ins.length + i : Nat)) : Int) = 1 + (g.ins.length : Int) + i by omega, Nat.mul_one] at hia
        have hsto := store_int (b := (s.2.conj (imgE s.1 p.1) (imgE s.1 p.2)).1) hC2.row (i := 1 + g.ins.length + i) (by omega)
        have hCS := hC2.set (1 + g.ins.length + i) (s.2.conj (imgE s.1 p.1) (imgE s.1 p.2)).1
        rw [set_mid (show 1 + g.ins.length + i = s.1.length by omega)] at hsto hCS
        simp [ew2, hia, hsto, es]
        refine forK_go _ hlt (by simp [mkEnv, List.replicate]) ⟨⟨z, ?_, fun t ht => hz t (List.mem_cons_of_mem _ ht)⟩, rfl⟩
        rw [hfold]
        simpa [cpStep] using hCS
    · have : i = g.ands.length := by omega
      subst this
      rw [← hxl, List.take_length] at hC
      have hzl := hC.tl
      have hcl := cpFold_len xs s0
      rw [List.length_append] at hzl
      have hze : z = [] := List.length_eq_zero_iff.1 (by omega)
      subst hze
      rw [List.append_nil] at hC
      simp [hldN]
      have hco : m.copy g r (0 :: im) = xs.foldl cpStep s0 := by unfold Mk.copy; rw [hxs, hs0]
      rw [hco]
      exact hC
end Go.Gh
namespace Go.Gh
open Go.RowKit Go.Proofs
set_option linter.unusedVariables false
set_option linter.unusedSimpArgs false
set_option maxRecDepth 100000
@[simp] theorem fill_agg2 (z0 z1 z2 a b : DV) : gfill [(0, 2)] [z0, z1, z2] [.agg [a, b]] = some [a, b, z2] := by simp [gfill, DV.cells, over]
theorem ref_In_ok {a : List Int} {x : Int} {σ : GS} {Post : DV → GS → Prop} (hl : a.length < 2 ^ 60) (h : Post (.bool (a.contains x)) σ) : GCall Tryz.prog F_skolemref05_In [fints a, .int .i64 x] σ Post := by
  refine gc_skolemref05_In ?_
  simp [G_skolemref05_In, genv0, List.replicate]
  refine gfor a.length (fun i e σ' => σ' = σ ∧ a.contains x = (a.drop i).contains x ∧ e = mkEnv 18 [(0, fints a), (1, .int .i64 x), (5, .int .i64 i)]) _ ?_ ⟨rfl, by simp, rfl⟩ ?_
  · simp [mkEnv, List.replicate]
  rintro i _ _ hi ⟨rfl, hI, rfl⟩
  simp [mkEnv, List.replicate]
  by_cases hlt : i < a.length
  · obtain ⟨y, hy⟩ := nth_lt hlt
    rw [drop_get hy, List.contains_cons] at hI
    have es : IntKind.i64.wrap ((i : Int) + 1) = (i : Int) + 1 := by rw [wrap_small] <;> omega
    by_cases c : y = x
    · have c' : (x == y) = true := by simp [c]
      simp [hlt, hy, c]
      rw [hI, c'] at h; simpa using h
    · have c' : (x == y) = false := by simpa using fun e => c e.symm
      simp [hlt, hy, c, es]
      exact forK_go _ hlt (by simp [mkEnv, List.replicate]) ⟨rfl, by rw [hI, c']; simp, rfl⟩
  · have : i = a.length := by omega
    subst this
    simp
    rw [hI] at h; simpa using h
theorem ref_Ints_ok {xs ys : List Int} {σ : GS} {Post : DV → GS → Prop} (hl : xs.length < 2 ^ 60) (h : Post (.bool (decide (xs = ys))) σ) : GCall Tryz.prog F_skolemref05_Ints [fints xs, fints ys] σ Post := by
  refine gc_skolemref05_Ints ?_
  by_cases hlen : xs.length = ys.length
  rotate_left
  · have hne : xs ≠ ys := fun e => hlen (by rw [e])
    have hlen' : ¬ ((xs.length : Int) = ys.length) := by omega
    simp [G_skolemref05_Ints, genv0, List.replicate, hlen']
    simpa [hne] using h
  simp [G_skolemref05_Ints, genv0, List.replicate, hlen]
  refine gfor xs.length (fun i e σ' => σ' = σ ∧ (xs = ys ↔ xs.drop i = ys.drop i) ∧ e = mkEnv 26 [(0, fints xs), (1, fints ys), (5, .int .i64 i)]) _ ?_ ⟨rfl, by simp, rfl⟩ ?_
  · simp [mkEnv, List.replicate]
  rintro i _ _ hi ⟨rfl, hI, rfl⟩
  simp [mkEnv, List.replicate]
  by_cases hlt : i < xs.length
  · obtain ⟨x, hx⟩ := nth_lt hlt
    obtain ⟨y, hy⟩ := nth_lt (l := ys) (i := i) (by omega)
    rw [drop_get hx, drop_get hy, List.cons.injEq] at hI
    have es : IntKind.i64.wrap ((i : Int) + 1) = (i : Int) + 1 := by rw [wrap_small] <;> omega
    by_cases c : x = y
    · simp [hlt, hx, hy, c, es]
      exact forK_go _ hlt (by simp [mkEnv, List.replicate]) ⟨rfl, by rw [hI]; simp [c], rfl⟩
    · have hne : xs ≠ ys := fun e => c (hI.1 e).1
      simp [hlt, hx, hy, c]
      simpa [hne] using h
  · have : i = xs.length := by omega
    subst this
    have he : xs = ys := hI.2 (by rw [List.drop_length, hlen, List.drop_length])
    simp
    simpa [he] using h
theorem ref_Same_ok {g k : AigP} {σ : GS} {Post : DV → GS → Prop} (hs : g.Sm) (hk : k.Sm) (h : Post (.bool (decide (g.ins = k.ins ∧ g.ands = k.ands))) σ) : GCall Tryz.prog F_skolemref06_Same [g.enc, k.enc] σ Post := by
  have h1 := hs.ins
  have h2 := hs.ands
  refine GCall.say (r := .bool (decide (g.ins = k.ins ∧ g.ands = k.ands))) ?_ rfl h
  refine gc_skolemref06_Same ?_
  simp [G_skolemref06_Same, genv0, List.replicate]
  refine ref_Ints_ok (by omega) ?_
  by_cases hi : g.ins = k.ins
  rotate_left
  · simp [hi]
  simp [hi]
  by_cases hlen : g.ands.length = k.ands.length
  rotate_left
  · have hne : g.ands ≠ k.ands := fun e => hlen (by rw [e])
    have hlen' : ¬ ((g.ands.length : Int) = k.ands.length) := by omega
    simp [hlen', hne]
  simp [hlen]
  have hld1 : ∀ τ : GS, True := fun _ => trivial
  refine gfor g.ands.length (fun i e σ' => σ' = σ ++ [.row false [fints k.ins, fands g.ands], .row false [fints k.ins, fands k.ands]] ∧ (g.ands = k.ands ↔ g.ands.drop i = k.ands.drop i) ∧ e = mkEnv 39 [(2, .ptr σ.length 0), (3, .ptr (σ.length + 1) 0), (5, .int .i64 i)]) _ ?_ ⟨by simp [hi], by simp, rfl⟩ ?_
  · simp [mkEnv, List.replicate]
  rintro i _ _ hi' ⟨rfl, hI, rfl⟩
  simp [mkEnv, List.replicate]
  by_cases hlt : i < g.ands.length
  · obtain ⟨p, hp⟩ := nth_lt hlt
    obtain ⟨q, hq⟩ := nth_lt (l := k.ands) (i := i) (by omega)
    rw [drop_get hp, drop_get hq, List.cons.injEq] at hI
    have es : IntKind.i64.wrap ((i : Int) + 1) = (i : Int) + 1 := by rw [wrap_small] <;> omega
    have hcmp : gbin .neq (.arr2 .i64) (.agg [.int .i64 p.1, .int .i64 p.2]) (.agg [.int .i64 q.1, .int .i64 q.2]) = some (.bool (!(p.1 == q.1 && p.2 == q.2))) := by simp [gbin, geq, eq2]
    by_cases c : p = q
    · have cc : (p.1 == q.1 && p.2 == q.2) = true := by simp [c]
      simp [hlt, hp, hq, hcmp, cc, es]
      exact forK_go _ hlt (by simp [mkEnv, List.replicate]) ⟨rfl, by rw [hI]; simp [c], rfl⟩
    · have hne : g.ands ≠ k.ands := fun e => c (hI.1 e).1
      have cc : (p.1 == q.1 && p.2 == q.2) = false := by
        rw [Bool.eq_false_iff]; intro hh; simp at hh; exact c (Prod.ext hh.1 hh.2)
      simp [hlt, hp, hq, hcmp, cc, hne]
  · have : i = g.ands.length := by omega
    subst this
    have he : g.ands = k.ands := hI.2 (by rw [List.drop_length, hlen, List.drop_length])
    simp [he, hi]
end Go.Gh
namespace Go.Gh
open Go.RowKit Go.Proofs
set_option linter.unusedVariables false
set_option linter.unusedSimpArgs false
set_option maxRecDepth 100000
end Go.Gh
namespace Go.Gh
open Go.Proofs
set_option maxRecDepth 100000
theorem works_run : sayTrueL Tryz.prog [(F_aig_ToNet, G_aig_ToNet), (F_circ_May, G_circ_May)] 60 11 [] = true := by kernel_rfl
theorem works_ok {σ : GS} {Post : DV → GS → Prop} (k : Post (.bool true) σ) : GCall Tryz.prog 11 [] σ Post := by
  refine GCall.closed (sayTrueL_ok seatfollows (fun p hp => ?_) works_run) k
  simp only [List.mem_cons, List.not_mem_nil, or_false] at hp
  rcases hp with rfl | rfl
  · exact ⟨_, Tryz.func47, by kernel_rfl, c_aig_ToNet⟩
  · exact ⟨_, Tryz.func125, by kernel_rfl, c_circ_May⟩
end Go.Gh
namespace Go.Gh
open Go.RowKit Go.Proofs
set_option linter.unusedVariables false
set_option linter.unusedSimpArgs false
set_option maxRecDepth 100000
/-- Is a graph larger than the laws speak of? -/
def AigP.great (g : AigP) : Bool := decide (600 < g.ands.length) || decide (100 < g.ins.length)
abbrev eaig (g : AigP) : List DV := [fints g.ins, fands g.ands]
theorem great_ok {gs : List AigP} {σ : GS} {Post : DV → GS → Prop} (hl : gs.length < 2 ^ 50) (h : Post (.bool (gs.any AigP.great)) σ) : GCall Tryz.prog F_skolemlaw06_great [.fsl 2 (gs.map eaig)] σ Post := by
  obtain ⟨B, hB⟩ : ∃ B, gs.any AigP.great = B := ⟨_, rfl⟩
  rw [hB] at h
  refine GCall.say (r := .bool B) ?_ rfl h
  refine gc_skolemlaw06_great ?_
  simp [G_skolemlaw06_great, genv0, List.replicate]
  refine gfor gs.length (fun i e σ' => Fr σ.length σ σ' ∧ B = (gs.drop i).any AigP.great ∧ e = mkEnv 22 [(5, .fsl 2 (gs.map eaig)), (6, .int .i64 gs.length), (7, .int .i64 i)]) _ ?_ ⟨.rfl', by rw [← hB]; rfl, rfl⟩ ?_
  · simp [mkEnv, List.replicate]
  rintro i _ σ' hi ⟨hF, hI, rfl⟩
  simp [mkEnv, List.replicate]
  by_cases hlt : i < gs.length
  · obtain ⟨g, hg⟩ := nth_lt hlt
    rw [drop_get hg, List.any_cons] at hI
    have es : IntKind.i64.wrap ((i : Int) + 1) = (i : Int) + 1 := by rw [wrap_small] <;> omega
    by_cases c1 : (600 : Int) < g.ands.length
    · have c : g.great = true := by unfold AigP.great; simp; omega
      simp [hlt, hg, c1]
      refine ⟨hF.app _, ?_⟩
      rw [hI, c]; rfl
    · by_cases c2 : (100 : Int) < g.ins.length
      · have c : g.great = true := by unfold AigP.great; simp; omega
        simp [hlt, hg, c1, c2]
        refine ⟨hF.app _, ?_⟩
        rw [hI, c]; rfl
      · have c : g.great = false := by unfold AigP.great; simp; omega
        simp [hlt, hg, c1, c2, es]
        exact forK_go _ hlt (by simp [mkEnv, List.replicate]) ⟨hF.app _, by rw [hI, c]; rfl, rfl⟩
  · have : i = gs.length := by omega
    subst this
    simp
    refine ⟨hF, ?_⟩
    rw [hI, List.drop_length]; rfl
end Go.Gh
namespace Go.Gh
open Go.Proofs
end Go.Gh
namespace Go.Gh
open Go.RowKit Go.Proofs
set_option linter.unusedVariables false
set_option linter.unusedSimpArgs false
set_option maxRecDepth 100000
def Mk.disj (m : Mk) (a b : Int) : Int × Mk := (notE (m.conj (notE a) (notE b)).1, (m.conj (notE a) (notE b)).2)
/-- What an operation on a maker leaves: at most k Ands more. -/
structure Gd (m : Mk) (r : Int × Mk) (k : Nat) : Prop where
  ok : r.2.ok
  lo : m.n ≤ r.2.n
  hi : r.2.n ≤ m.n + k
  ins : r.2.ins = m.ins
  e0 : 0 ≤ r.1
  e1 : r.1 < 2 * r.2.n
  full : m.n + k ≤ 200000 → r.2.full = m.full
theorem Gd.conj {m : Mk} {r : Int × Mk} {k : Nat} (h : Gd m r k) {a b : Int} (a0 : 0 ≤ a) (a1 : a < 2 * r.2.n) (b0 : 0 ≤ b) (b1 : b < 2 * r.2.n) : Gd m (r.2.conj a b) (k + 1) := by
  have h1 := Mk.conj_n r.2 a b
  have h2 := Mk.conj_range a0 a1 b0 b1
  have := h.lo; have := h.hi
  exact ⟨Mk.conj_ok a0 a1 b0 b1 h.ok, by omega, by omega, by rw [Mk.conj_ins, h.ins], h2.1, h2.2, fun hh => by rw [Mk.conj_full _ _ _ (by omega)]; exact h.full (by omega)⟩
theorem Gd.not {m : Mk} {r : Int × Mk} {k : Nat} (h : Gd m r k) : Gd m (notE r.1, r.2) k :=
  ⟨h.ok, h.lo, h.hi, h.ins, (notE_range h.e0 h.e1).1, (notE_range h.e0 h.e1).2, h.full⟩
theorem Gd.self {m : Mk} (h : m.ok) {e : Int} (e0 : 0 ≤ e) (e1 : e < 2 * m.n) : Gd m (e, m) 0 := ⟨h, Nat.le_refl _, Nat.le_refl _, rfl, e0, e1, fun _ => rfl⟩
theorem Gd.grow {m : Mk} {r : Int × Mk} {k j : Nat} (h : Gd m r k) (hj : k ≤ j) : Gd m r j := ⟨h.ok, h.lo, by have := h.hi; omega, h.ins, h.e0, h.e1, fun hh => h.full (by omega)⟩
theorem Gd.disj {m : Mk} {r : Int × Mk} {k : Nat} (h : Gd m r k) {a b : Int} (a0 : 0 ≤ a) (a1 : a < 2 * r.2.n) (b0 : 0 ≤ b) (b1 : b < 2 * r.2.n) : Gd m (r.2.disj a b) (k + 1) :=
  (h.conj (notE_range a0 a1).1 (notE_range a0 a1).2 (notE_range b0 b1).1 (notE_range b0 b1).2).not
end Go.Gh
namespace Go.Gh
open Go.RowKit Go.Proofs
set_option linter.unusedVariables false
set_option linter.unusedSimpArgs false
set_option maxRecDepth 100000
@[simp] theorem ga_box_int (k : IntKind) (x : Int) : galloc .box [.int k x] = some (.row false [.int k x], fun id => .ptr id 0) := rfl
@[simp] theorem ga_box_ptr (i j : Nat) : galloc .box [.ptr i j] = some (.row false [.ptr i j], fun id => .ptr id 0) := rfl
@[simp] theorem ga_box_fsl (sz : Nat) (es : List (List DV)) : galloc .box [.fsl sz es] = some (.row false [.fsl sz es], fun id => .ptr id 0) := rfl
@[simp] theorem ga_b2_int {z : DV} (k : IntKind) (x y : Int) : galloc (.bslice 1 [z] 2 [(0, 1), (1, 1)]) [.int k x, .int k y] = some (.row false [.int k x, .int k y], fun id => .slice id 0 2 1 (some 2)) := rfl
@[simp] theorem ga_b3_int {z : DV} (k : IntKind) (x y w : Int) : galloc (.bslice 1 [z] 3 [(0, 1), (1, 1), (2, 1)]) [.int k x, .int k y, .int k w] = some (.row false [.int k x, .int k y, .int k w], fun id => .slice id 0 3 1 (some 3)) := rfl
@[simp] theorem ptr_nil (id k : Nat) : gbin .eql .ptr (.ptr id k) .nilp = some (.bool false) := rfl
@[simp] theorem nil_nil : gbin .eql .ptr .nilp .nilp = some (.bool true) := rfl
theorem Mk.all_has {m : Mk} {L : List Int} : L.all m.graph.has = true ↔ ∀ x ∈ L, 0 ≤ x ∧ x < 2 * (m.n : Int) := by
  rw [List.all_eq_true]
  have : (m.graph.nodes : Int) = m.n := rfl
  simp [AigP.has, this]
end Go.Gh
namespace Go.Gh
open Go.RowKit Go.Proofs
set_option linter.unusedVariables false
set_option linter.unusedSimpArgs false
set_option maxRecDepth 100000
end Go.Gh
namespace Go.Gh
open Go.RowKit Go.Proofs
set_option linter.unusedVariables false
set_option linter.unusedSimpArgs false
set_option maxRecDepth 100000
end Go.Gh
namespace Go.Gh
open Go.RowKit Go.Proofs
set_option linter.unusedVariables false
set_option linter.unusedSimpArgs false
set_option maxRecDepth 100000
@[simp] theorem gres_c2 (env : Env) (σ : GS) (t u : Tmp) (n : Nat) (b : Bool) : gresL env σ [.cell t n b, .tmp u] = (gload (.load n b) [env[t]?.getD (.tuple [])] σ).map fun v => [v, env[u]?.getD (.tuple [])] := by
  simp only [gresL, gres1, garg]
  cases gload (.load n b) [env[t]?.getD (.tuple [])] σ <;> rfl
@[simp] theorem ga_mmap : galloc .mmap [] = some (.mp [] ([], 0), fun id => .map id) := rfl
/-- The heap while Graft looks through what is given. -/
structure GrI (σ : GS) (id : Nat) (m : Mk) (g : AigP) (L : List Int) (by_ : List (Int × Int)) (i : Nat) (τ : GS) : Prop where
  b0 : τ[σ.length]? = some (.row false [.ptr id 0])
  b1 : τ[σ.length + 1]? = some (.row false [fints g.ins, fands g.ands])
  b2 : τ[σ.length + 2]? = some (.row false [fints L])
  b3 : τ[σ.length + 3]? = some (.row false [.nils])
  mp : MpO kint τ (σ.length + 4) (ents (by_.take i))
  b5 : τ[σ.length + 5]? = some (.row false [.map (σ.length + 4)])
  fr : Fr σ.length σ τ
  nd : ((by_.take i).map (·.1)).Nodup
  has : ((by_.take i).map (·.2)).all m.graph.has = true
theorem GrI.app {σ τ : GS} {id : Nat} {m : Mk} {g : AigP} {L : List Int} {by_ : List (Int × Int)} {i : Nat} (h : GrI σ id m g L by_ i τ) (X : GS) : GrI σ id m g L by_ i (τ ++ X) :=
  ⟨getE_append h.b0, getE_append h.b1, getE_append h.b2, getE_append h.b3, h.mp.fit (List.getElem?_append_left (by have := get_dom h.b5; omega)), getE_append h.b5, h.fr.app X, h.nd, h.has⟩
end Go.Gh
namespace Go.Gh
open Go.RowKit Go.Proofs
set_option linter.unusedVariables false
set_option linter.unusedSimpArgs false
set_option maxRecDepth 100000
end Go.Gh
namespace Go.Gh
open Go.RowKit Go.Proofs
set_option linter.unusedVariables false
set_option linter.unusedSimpArgs false
set_option maxRecDepth 100000
@[simp] theorem gres_c1 (env : Env) (σ : GS) (t : Tmp) (n : Nat) (b : Bool) : gresL env σ [.cell t n b] = (gload (.load n b) [env[t]?.getD (.tuple [])] σ).map fun v => [v] := by
  simp only [gresL, gres1, garg]
  cases gload (.load n b) [env[t]?.getD (.tuple [])] σ <;> rfl
end Go.Gh
namespace Go.Gh
open Go.RowKit Go.Proofs
set_option linter.unusedVariables false
set_option linter.unusedSimpArgs false
set_option maxRecDepth 100000
end Go.Gh
namespace Go.Gh
open Go.Proofs
abbrev F_skolemref06_Compose : Nat := 36
abbrev F_aig_Join : Nat := 37
abbrev F_skolemref06_Join : Nat := 38
abbrev F_slices_Concat_int_int : Nat := 102
abbrev F_slices_Sort_int_int : Nat := 103
abbrev F_slices_Compact_int_int : Nat := 104
abbrev F_skolemref06_Union : Nat := 105
abbrev F_slices_Grow_int_int : Nat := 161
noncomputable abbrev G_slices_Concat_int_int : GFun := ⟨36, [(.tmp 2)], (.seq (.region [⟨0, ⟨(some 2), none, (.pure .id), [(.const .nils)]⟩, []⟩]) (.seq (.region [⟨0, ⟨(some 3), none, (.pure .id), [(.const (.int .i64 0))]⟩, []⟩]) (.seq (.seq (.region [⟨0, ⟨(some 9), none, (.pure .id), [(.tmp 0)]⟩, []⟩, ⟨0, ⟨(some 10), none, (.pure .len), [(.tmp 9)]⟩, []⟩, ⟨0, ⟨(some 11), none, (.pure .id), [(.const (.int .i64 0))]⟩, []⟩]) (.block 0 (.loop (.seq (.region [⟨0, ⟨(some 12), none, (.pure (.bin .lss .none)), [(.tmp 11), (.tmp 10)]⟩, []⟩]) (.seq (.cond (.tmp 12) .skip (.exit 0)) (.seq (.block 1 (.seq (.region [⟨0, ⟨(some 13), none, (.pure (.iaddr 1)), [(.tmp 9), (.tmp 11)]⟩, []⟩, ⟨0, ⟨(some 14), none, (.load (.load 1 false)), [(.tmp 13)]⟩, []⟩, ⟨0, ⟨(some 5), none, (.pure .id), [(.tmp 14)]⟩, []⟩]) (.seq (.region [⟨0, ⟨(some 15), none, (.pure .id), [(.tmp 3)]⟩, []⟩, ⟨0, ⟨(some 16), none, (.pure .id), [(.tmp 5)]⟩, []⟩, ⟨0, ⟨(some 17), none, (.pure .len), [(.tmp 16)]⟩, []⟩, ⟨0, ⟨(some 18), none, (.pure (.bin .add .none)), [(.tmp 15), (.tmp 17)]⟩, []⟩, ⟨0, ⟨(some 3), none, (.pure .id), [(.tmp 18)]⟩, []⟩]) (.seq (.region [⟨0, ⟨(some 19), none, (.pure .id), [(.tmp 3)]⟩, []⟩, ⟨0, ⟨(some 20), none, (.pure (.bin .lss .none)), [(.tmp 19), (.const (.int .i64 0))]⟩, []⟩]) (.cond (.tmp 20) (.region [⟨0, ⟨(some 21), none, .bad, []⟩, []⟩, ⟨0, ⟨none, none, .bad, []⟩, []⟩]) .skip))))) (.region [⟨0, ⟨(some 22), none, (.pure (.bin .add .none)), [(.tmp 11), (.const (.int .i64 1))]⟩, []⟩, ⟨0, ⟨(some 11), none, (.pure .id), [(.tmp 22)]⟩, []⟩]))))))) (.seq (.region [⟨0, ⟨(some 23), none, (.pure .id), [(.tmp 3)]⟩, []⟩, ⟨0, ⟨(some 24), none, (.call F_slices_Grow_int_int), [(.const .nils), (.tmp 23)]⟩, []⟩, ⟨0, ⟨(some 6), none, (.pure .id), [(.tmp 24)]⟩, []⟩]) (.seq (.seq (.region [⟨0, ⟨(some 25), none, (.pure .id), [(.tmp 0)]⟩, []⟩, ⟨0, ⟨(some 26), none, (.pure .len), [(.tmp 25)]⟩, []⟩, ⟨0, ⟨(some 27), none, (.pure .id), [(.const (.int .i64 0))]⟩, []⟩]) (.block 2 (.loop (.seq (.region [⟨0, ⟨(some 28), none, (.pure (.bin .lss .none)), [(.tmp 27), (.tmp 26)]⟩, []⟩]) (.seq (.cond (.tmp 28) .skip (.exit 2)) (.seq (.block 3 (.seq (.region [⟨0, ⟨(some 29), none, (.pure (.iaddr 1)), [(.tmp 25), (.tmp 27)]⟩, []⟩, ⟨0, ⟨(some 30), none, (.load (.load 1 false)), [(.tmp 29)]⟩, []⟩, ⟨0, ⟨(some 8), none, (.pure .id), [(.tmp 30)]⟩, []⟩]) (.region [⟨0, ⟨(some 31), none, (.pure .id), [(.tmp 6)]⟩, []⟩, ⟨0, ⟨(some 32), none, (.pure .id), [(.tmp 8)]⟩, []⟩, ⟨0, ⟨(some 33), none, (.imp (.append 1 8)), [(.tmp 31), (.tmp 32)]⟩, []⟩, ⟨0, ⟨(some 6), none, (.pure .id), [(.tmp 33)]⟩, []⟩]))) (.region [⟨0, ⟨(some 34), none, (.pure (.bin .add .none)), [(.tmp 27), (.const (.int .i64 1))]⟩, []⟩, ⟨0, ⟨(some 27), none, (.pure .id), [(.tmp 34)]⟩, []⟩]))))))) (.seq (.region [⟨0, ⟨(some 35), none, (.pure .id), [(.tmp 6)]⟩, []⟩, ⟨0, ⟨(some 2), none, (.pure .id), [(.tmp 35)]⟩, []⟩]) .ret))))))⟩
theorem c_slices_Concat_int_int : compF Tryz.prog Tryz.f102 = some G_slices_Concat_int_int := by kernel_rfl
theorem gc_slices_Concat_int_int {args : List DV} {σ : GS} {Post : DV → GS → Prop} (h : @exB Tryz.prog ⟨G_slices_Concat_int_int.body⟩ (genv0 args G_slices_Concat_int_int.ntmps) σ ⟨@gretB G_slices_Concat_int_int.results ⟨Post⟩⟩) : GCall Tryz.prog F_slices_Concat_int_int args σ Post := gcall_ofB seatfollows Tryz.func102 (by kernel_rfl) c_slices_Concat_int_int h
noncomputable abbrev G_slices_Grow_int_int : GFun := ⟨27, [(.tmp 4)], (.seq (.region [⟨0, ⟨(some 4), none, (.pure .id), [(.const .nils)]⟩, []⟩]) (.seq (.seq (.region [⟨0, ⟨(some 5), none, (.pure .id), [(.tmp 1)]⟩, []⟩, ⟨0, ⟨(some 6), none, (.pure (.bin .lss .none)), [(.tmp 5), (.const (.int .i64 0))]⟩, []⟩]) (.cond (.tmp 6) (.region [⟨0, ⟨(some 7), none, .bad, []⟩, []⟩, ⟨0, ⟨none, none, .bad, []⟩, []⟩]) .skip)) (.seq (.seq (.region [⟨0, ⟨(some 8), none, (.pure .id), [(.tmp 1)]⟩, []⟩, ⟨0, ⟨(some 9), none, (.pure .id), [(.tmp 0)]⟩, []⟩, ⟨0, ⟨(some 10), none, (.pure .cap), [(.tmp 9)]⟩, []⟩, ⟨0, ⟨(some 11), none, (.pure .id), [(.tmp 0)]⟩, []⟩, ⟨0, ⟨(some 12), none, (.pure .len), [(.tmp 11)]⟩, []⟩, ⟨0, ⟨(some 13), none, (.pure (.bin .sub .none)), [(.tmp 10), (.tmp 12)]⟩, []⟩, ⟨0, ⟨(some 14), none, (.pure (.bin .sub .none)), [(.tmp 8), (.tmp 13)]⟩, []⟩, ⟨0, ⟨(some 1), none, (.pure .id), [(.tmp 14)]⟩, []⟩]) (.seq (.region [⟨0, ⟨(some 15), none, (.pure .id), [(.tmp 1)]⟩, []⟩, ⟨0, ⟨(some 16), none, (.pure (.bin .gtr .none)), [(.tmp 15), (.const (.int .i64 0))]⟩, []⟩]) (.cond (.tmp 16) (.region [⟨0, ⟨(some 17), none, (.pure .id), [(.tmp 0)]⟩, []⟩, ⟨0, ⟨(some 18), none, (.pure .id), [(.tmp 0)]⟩, []⟩, ⟨0, ⟨(some 19), none, (.pure .cap), [(.tmp 18)]⟩, []⟩, ⟨0, ⟨(some 20), none, (.pure (.slice 1 false true false)), [(.tmp 17), (.tmp 19)]⟩, []⟩, ⟨0, ⟨(some 21), none, (.pure .id), [(.tmp 1)]⟩, []⟩, ⟨0, ⟨(some 22), none, (.imp (.appendz 1 8 [(.int .i64 0)])), [(.tmp 20), (.tmp 21)]⟩, []⟩, ⟨0, ⟨(some 23), none, (.pure .id), [(.tmp 0)]⟩, []⟩, ⟨0, ⟨(some 24), none, (.pure .len), [(.tmp 23)]⟩, []⟩, ⟨0, ⟨(some 25), none, (.pure (.slice 1 false true false)), [(.tmp 22), (.tmp 24)]⟩, []⟩, ⟨0, ⟨(some 0), none, (.pure .id), [(.tmp 25)]⟩, []⟩]) .skip))) (.seq (.region [⟨0, ⟨(some 26), none, (.pure .id), [(.tmp 0)]⟩, []⟩, ⟨0, ⟨(some 4), none, (.pure .id), [(.tmp 26)]⟩, []⟩]) .ret))))⟩
theorem c_slices_Grow_int_int : compF Tryz.prog Tryz.f161 = some G_slices_Grow_int_int := by kernel_rfl
theorem gc_slices_Grow_int_int {args : List DV} {σ : GS} {Post : DV → GS → Prop} (h : @exB Tryz.prog ⟨G_slices_Grow_int_int.body⟩ (genv0 args G_slices_Grow_int_int.ntmps) σ ⟨@gretB G_slices_Grow_int_int.results ⟨Post⟩⟩) : GCall Tryz.prog F_slices_Grow_int_int args σ Post := gcall_ofB seatfollows Tryz.func161 (by kernel_rfl) c_slices_Grow_int_int h
noncomputable abbrev G_slices_Compact_int_int : GFun := ⟨61, [(.tmp 2)], (.seq (.region [⟨0, ⟨(some 2), none, (.pure .id), [(.const .nils)]⟩, []⟩]) (.seq (.seq (.region [⟨0, ⟨(some 6), none, (.pure .id), [(.tmp 0)]⟩, []⟩, ⟨0, ⟨(some 7), none, (.pure .len), [(.tmp 6)]⟩, []⟩, ⟨0, ⟨(some 8), none, (.pure (.bin .lss .none)), [(.tmp 7), (.const (.int .i64 2))]⟩, []⟩]) (.cond (.tmp 8) (.seq (.region [⟨0, ⟨(some 9), none, (.pure .id), [(.tmp 0)]⟩, []⟩, ⟨0, ⟨(some 2), none, (.pure .id), [(.tmp 9)]⟩, []⟩]) .ret) .skip)) (.seq (.seq (.region [⟨0, ⟨(some 3), none, (.pure .id), [(.const (.int .i64 1))]⟩, []⟩]) (.block 0 (.loop (.seq (.seq (.region [⟨0, ⟨(some 10), none, (.pure .id), [(.tmp 3)]⟩, []⟩, ⟨0, ⟨(some 11), none, (.pure .id), [(.tmp 0)]⟩, []⟩, ⟨0, ⟨(some 12), none, (.pure .len), [(.tmp 11)]⟩, []⟩, ⟨0, ⟨(some 13), none, (.pure (.bin .lss .none)), [(.tmp 10), (.tmp 12)]⟩, []⟩]) (.cond (.tmp 13) .skip (.exit 0))) (.seq (.block 1 (.seq (.region [⟨0, ⟨(some 16), none, (.pure .id), [(.tmp 0)]⟩, []⟩, ⟨1, ⟨(some 17), none, (.pure .id), [(.tmp 3)]⟩, []⟩, ⟨2, ⟨(some 18), none, (.pure (.iaddr 1)), [(.tmp 16), (.tmp 17)]⟩, []⟩, ⟨3, ⟨(some 19), none, (.load (.load 1 false)), [(.tmp 18)]⟩, []⟩, ⟨4, ⟨(some 20), none, (.pure .id), [(.tmp 0)]⟩, []⟩, ⟨5, ⟨(some 21), none, (.pure .id), [(.tmp 3)]⟩, []⟩, ⟨6, ⟨(some 22), none, (.pure (.bin .sub .none)), [(.tmp 21), (.const (.int .i64 1))]⟩, []⟩, ⟨7, ⟨(some 23), none, (.pure (.iaddr 1)), [(.tmp 20), (.tmp 22)]⟩, []⟩, ⟨8, ⟨(some 24), none, (.load (.load 1 false)), [(.tmp 23)]⟩, []⟩, ⟨9, ⟨(some 25), none, (.pure (.bin .eql .none)), [(.tmp 19), (.tmp 24)]⟩, []⟩]) (.cond (.tmp 25) (.seq (.region [⟨0, ⟨(some 26), none, (.pure .id), [(.tmp 0)]⟩, []⟩, ⟨0, ⟨(some 27), none, (.pure .id), [(.tmp 3)]⟩, []⟩, ⟨0, ⟨(some 28), none, (.pure (.slice 1 true false false)), [(.tmp 26), (.tmp 27)]⟩, []⟩, ⟨0, ⟨(some 4), none, (.pure .id), [(.tmp 28)]⟩, []⟩]) (.seq (.seq (.region [⟨0, ⟨(some 5), none, (.pure .id), [(.const (.int .i64 1))]⟩, []⟩]) (.block 2 (.loop (.seq (.seq (.region [⟨0, ⟨(some 29), none, (.pure .id), [(.tmp 5)]⟩, []⟩, ⟨0, ⟨(some 30), none, (.pure .id), [(.tmp 4)]⟩, []⟩, ⟨0, ⟨(some 31), none, (.pure .len), [(.tmp 30)]⟩, []⟩, ⟨0, ⟨(some 32), none, (.pure (.bin .lss .none)), [(.tmp 29), (.tmp 31)]⟩, []⟩]) (.cond (.tmp 32) .skip (.exit 2))) (.seq (.block 3 (.seq (.region [⟨0, ⟨(some 35), none, (.pure .id), [(.tmp 4)]⟩, []⟩, ⟨1, ⟨(some 36), none, (.pure .id), [(.tmp 5)]⟩, []⟩, ⟨2, ⟨(some 37), none, (.pure (.iaddr 1)), [(.tmp 35), (.tmp 36)]⟩, []⟩, ⟨3, ⟨(some 38), none, (.load (.load 1 false)), [(.tmp 37)]⟩, []⟩, ⟨4, ⟨(some 39), none, (.pure .id), [(.tmp 4)]⟩, []⟩, ⟨5, ⟨(some 40), none, (.pure .id), [(.tmp 5)]⟩, []⟩, ⟨6, ⟨(some 41), none, (.pure (.bin .sub .none)), [(.tmp 40), (.const (.int .i64 1))]⟩, []⟩, ⟨7, ⟨(some 42), none, (.pure (.iaddr 1)), [(.tmp 39), (.tmp 41)]⟩, []⟩, ⟨8, ⟨(some 43), none, (.load (.load 1 false)), [(.tmp 42)]⟩, []⟩, ⟨9, ⟨(some 44), none, (.pure (.bin .neq .none)), [(.tmp 38), (.tmp 43)]⟩, []⟩]) (.cond (.tmp 44) (.seq (.region [⟨0, ⟨(some 45), none, (.pure .id), [(.tmp 0)]⟩, []⟩, ⟨0, ⟨(some 46), none, (.pure .id), [(.tmp 3)]⟩, []⟩, ⟨0, ⟨(some 47), none, (.pure .id), [(.tmp 4)]⟩, []⟩, ⟨0, ⟨(some 48), none, (.pure .id), [(.tmp 5)]⟩, []⟩, ⟨0, ⟨(some 49), none, (.pure (.iaddr 1)), [(.tmp 47), (.tmp 48)]⟩, []⟩, ⟨0, ⟨(some 50), none, (.load (.load 1 false)), [(.tmp 49)]⟩, []⟩, ⟨0, ⟨(some 51), none, (.pure (.iaddr 1)), [(.tmp 45), (.tmp 46)]⟩, []⟩, ⟨0, ⟨none, none, (.imp (.store 1)), [(.tmp 51), (.tmp 50)]⟩, []⟩]) (.region [⟨0, ⟨(some 52), none, (.pure .id), [(.tmp 3)]⟩, []⟩, ⟨0, ⟨(some 53), none, (.pure (.bin .add .none)), [(.tmp 52), (.const (.int .i64 1))]⟩, []⟩, ⟨0, ⟨(some 3), none, (.pure .id), [(.tmp 53)]⟩, []⟩])) .skip))) (.region [⟨0, ⟨(some 33), none, (.pure .id), [(.tmp 5)]⟩, []⟩, ⟨0, ⟨(some 34), none, (.pure (.bin .add .none)), [(.tmp 33), (.const (.int .i64 1))]⟩, []⟩, ⟨0, ⟨(some 5), none, (.pure .id), [(.tmp 34)]⟩, []⟩])))))) (.seq (.region [⟨0, ⟨(some 54), none, (.pure .id), [(.tmp 0)]⟩, []⟩, ⟨0, ⟨(some 55), none, (.pure .id), [(.tmp 3)]⟩, []⟩, ⟨0, ⟨(some 56), none, (.pure (.slice 1 true false false)), [(.tmp 54), (.tmp 55)]⟩, []⟩, ⟨0, ⟨none, none, (.imp (.clear 1 [(.int .i64 0)])), [(.tmp 56)]⟩, []⟩]) (.seq (.region [⟨0, ⟨(some 57), none, (.pure .id), [(.tmp 0)]⟩, []⟩, ⟨0, ⟨(some 58), none, (.pure .id), [(.tmp 3)]⟩, []⟩, ⟨0, ⟨(some 59), none, (.pure (.slice 1 false true false)), [(.tmp 57), (.tmp 58)]⟩, []⟩, ⟨0, ⟨(some 2), none, (.pure .id), [(.tmp 59)]⟩, []⟩]) .ret)))) .skip))) (.region [⟨0, ⟨(some 14), none, (.pure .id), [(.tmp 3)]⟩, []⟩, ⟨0, ⟨(some 15), none, (.pure (.bin .add .none)), [(.tmp 14), (.const (.int .i64 1))]⟩, []⟩, ⟨0, ⟨(some 3), none, (.pure .id), [(.tmp 15)]⟩, []⟩])))))) (.seq (.region [⟨0, ⟨(some 60), none, (.pure .id), [(.tmp 0)]⟩, []⟩, ⟨0, ⟨(some 2), none, (.pure .id), [(.tmp 60)]⟩, []⟩]) .ret))))⟩
theorem c_slices_Compact_int_int : compF Tryz.prog Tryz.f104 = some G_slices_Compact_int_int := by kernel_rfl
theorem gc_slices_Compact_int_int {args : List DV} {σ : GS} {Post : DV → GS → Prop} (h : @exB Tryz.prog ⟨G_slices_Compact_int_int.body⟩ (genv0 args G_slices_Compact_int_int.ntmps) σ ⟨@gretB G_slices_Compact_int_int.results ⟨Post⟩⟩) : GCall Tryz.prog F_slices_Compact_int_int args σ Post := gcall_ofB seatfollows Tryz.func104 (by kernel_rfl) c_slices_Compact_int_int h
noncomputable abbrev G_skolemref06_Union : GFun := ⟨64, [(.tmp 4)], (.seq (.region [⟨0, ⟨(some 4), none, (.pure .id), [(.const .nils)]⟩, []⟩]) (.seq (.region [⟨0, ⟨(some 5), none, (.pure .id), [(.const .nils)]⟩, []⟩]) (.seq (.block 0 (.loop (.seq (.seq (.region [⟨0, ⟨(some 6), none, (.pure .id), [(.tmp 0)]⟩, []⟩, ⟨0, ⟨(some 7), none, (.pure .len), [(.tmp 6)]⟩, []⟩, ⟨0, ⟨(some 8), none, (.pure (.bin .gtr .none)), [(.tmp 7), (.const (.int .i64 0))]⟩, []⟩, ⟨0, ⟨(some 9), none, (.pure .id), [(.tmp 8)]⟩, []⟩, ⟨0, ⟨(some 10), (some (9, false)), (.pure .id), [(.tmp 1)]⟩, []⟩, ⟨0, ⟨(some 11), (some (9, false)), (.pure .len), [(.tmp 10)]⟩, []⟩, ⟨0, ⟨(some 12), (some (9, false)), (.pure (.bin .gtr .none)), [(.tmp 11), (.const (.int .i64 0))]⟩, []⟩, ⟨0, ⟨(some 13), none, (.pure .pick), [(.tmp 9), (.const (.bool true)), (.tmp 12)]⟩, []⟩]) (.cond (.tmp 13) .skip (.exit 0))) (.block 1 (.block 2 (.seq (.region [⟨0, ⟨(some 17), none, (.pure .id), [(.tmp 1)]⟩, []⟩, ⟨1, ⟨(some 18), none, (.pure .len), [(.tmp 17)]⟩, []⟩, ⟨2, ⟨(some 19), none, (.pure (.bin .eql .none)), [(.tmp 18), (.const (.int .i64 0))]⟩, []⟩, ⟨3, ⟨(some 20), none, (.pure .id), [(.tmp 19)]⟩, []⟩, ⟨4, ⟨(some 21), (some (20, false)), (.pure .id), [(.tmp 0)]⟩, []⟩, ⟨5, ⟨(some 22), (some (20, false)), (.pure .len), [(.tmp 21)]⟩, []⟩, ⟨6, ⟨(some 23), (some (20, false)), (.pure (.bin .gtr .none)), [(.tmp 22), (.const (.int .i64 0))]⟩, []⟩, ⟨7, ⟨(some 24), (some (20, false)), (.pure .id), [(.tmp 23)]⟩, []⟩, ⟨8, ⟨(some 25), (some (24, true)), (.pure .id), [(.tmp 0)]⟩, []⟩, ⟨9, ⟨(some 26), (some (24, true)), (.pure (.iaddr 1)), [(.tmp 25), (.const (.int .i64 0))]⟩, []⟩, ⟨10, ⟨(some 27), (some (24, true)), (.load (.load 1 false)), [(.tmp 26)]⟩, []⟩, ⟨11, ⟨(some 28), (some (24, true)), (.pure .id), [(.tmp 1)]⟩, []⟩, ⟨12, ⟨(some 29), (some (24, true)), (.pure (.iaddr 1)), [(.tmp 28), (.const (.int .i64 0))]⟩, []⟩, ⟨13, ⟨(some 30), (some (24, true)), (.load (.load 1 false)), [(.tmp 29)]⟩, []⟩, ⟨14, ⟨(some 31), (some (24, true)), (.pure (.bin .lss .none)), [(.tmp 27), (.tmp 30)]⟩, []⟩, ⟨15, ⟨(some 32), (some (20, false)), (.pure .pick), [(.tmp 24), (.tmp 31), (.const (.bool false))]⟩, []⟩, ⟨16, ⟨(some 33), none, (.pure .pick), [(.tmp 20), (.const (.bool true)), (.tmp 32)]⟩, []⟩, ⟨17, ⟨(some 16), none, (.pure .id), [(.tmp 33)]⟩, []⟩]) (.cond (.tmp 16) (.seq (.region [⟨0, ⟨(some 34), none, (.pure .id), [(.tmp 5)]⟩, []⟩, ⟨0, ⟨(some 35), none, (.pure .id), [(.tmp 0)]⟩, []⟩, ⟨0, ⟨(some 36), none, (.pure (.iaddr 1)), [(.tmp 35), (.const (.int .i64 0))]⟩, []⟩, ⟨0, ⟨(some 37), none, (.load (.load 1 false)), [(.tmp 36)]⟩, []⟩, ⟨0, ⟨(some 38), none, (.new (.bslice 1 [(.int .i64 0)] 1 [(0, 1)])), [(.tmp 37)]⟩, []⟩, ⟨0, ⟨(some 39), none, (.imp (.append 1 8)), [(.tmp 34), (.tmp 38)]⟩, []⟩, ⟨0, ⟨(some 5), none, (.pure .id), [(.tmp 39)]⟩, []⟩]) (.region [⟨0, ⟨(some 40), none, (.pure .id), [(.tmp 0)]⟩, []⟩, ⟨0, ⟨(some 41), none, (.pure (.slice 1 true false false)), [(.tmp 40), (.const (.int .i64 1))]⟩, []⟩, ⟨0, ⟨(some 0), none, (.pure .id), [(.tmp 41)]⟩, []⟩])) (.seq (.region [⟨0, ⟨(some 43), none, (.pure .id), [(.tmp 0)]⟩, []⟩, ⟨1, ⟨(some 44), none, (.pure .len), [(.tmp 43)]⟩, []⟩, ⟨2, ⟨(some 45), none, (.pure (.bin .eql .none)), [(.tmp 44), (.const (.int .i64 0))]⟩, []⟩, ⟨3, ⟨(some 46), none, (.pure .id), [(.tmp 45)]⟩, []⟩, ⟨4, ⟨(some 47), (some (46, false)), (.pure .id), [(.tmp 1)]⟩, []⟩, ⟨5, ⟨(some 48), (some (46, false)), (.pure (.iaddr 1)), [(.tmp 47), (.const (.int .i64 0))]⟩, []⟩, ⟨6, ⟨(some 49), (some (46, false)), (.load (.load 1 false)), [(.tmp 48)]⟩, []⟩, ⟨7, ⟨(some 50), (some (46, false)), (.pure .id), [(.tmp 0)]⟩, []⟩, ⟨8, ⟨(some 51), (some (46, false)), (.pure (.iaddr 1)), [(.tmp 50), (.const (.int .i64 0))]⟩, []⟩, ⟨9, ⟨(some 52), (some (46, false)), (.load (.load 1 false)), [(.tmp 51)]⟩, []⟩, ⟨10, ⟨(some 53), (some (46, false)), (.pure (.bin .lss .none)), [(.tmp 49), (.tmp 52)]⟩, []⟩, ⟨11, ⟨(some 54), none, (.pure .pick), [(.tmp 46), (.const (.bool true)), (.tmp 53)]⟩, []⟩, ⟨12, ⟨(some 42), none, (.pure .id), [(.tmp 54)]⟩, []⟩]) (.cond (.tmp 42) (.seq (.region [⟨0, ⟨(some 55), none, (.pure .id), [(.tmp 5)]⟩, []⟩, ⟨0, ⟨(some 56), none, (.pure .id), [(.tmp 1)]⟩, []⟩, ⟨0, ⟨(some 57), none, (.pure (.iaddr 1)), [(.tmp 56), (.const (.int .i64 0))]⟩, []⟩, ⟨0, ⟨(some 58), none, (.load (.load 1 false)), [(.tmp 57)]⟩, []⟩, ⟨0, ⟨(some 59), none, (.new (.bslice 1 [(.int .i64 0)] 1 [(0, 1)])), [(.tmp 58)]⟩, []⟩, ⟨0, ⟨(some 60), none, (.imp (.append 1 8)), [(.tmp 55), (.tmp 59)]⟩, []⟩, ⟨0, ⟨(some 5), none, (.pure .id), [(.tmp 60)]⟩, []⟩]) (.region [⟨0, ⟨(some 61), none, (.pure .id), [(.tmp 1)]⟩, []⟩, ⟨0, ⟨(some 62), none, (.pure (.slice 1 true false false)), [(.tmp 61), (.const (.int .i64 1))]⟩, []⟩, ⟨0, ⟨(some 1), none, (.pure .id), [(.tmp 62)]⟩, []⟩])) (.region [⟨0, ⟨(some 14), none, (.pure .id), [(.tmp 1)]⟩, []⟩, ⟨0, ⟨(some 15), none, (.pure (.slice 1 true false false)), [(.tmp 14), (.const (.int .i64 1))]⟩, []⟩, ⟨0, ⟨(some 1), none, (.pure .id), [(.tmp 15)]⟩, []⟩])))))))))) (.seq (.region [⟨0, ⟨(some 63), none, (.pure .id), [(.tmp 5)]⟩, []⟩, ⟨0, ⟨(some 4), none, (.pure .id), [(.tmp 63)]⟩, []⟩]) .ret))))⟩
theorem c_skolemref06_Union : compF Tryz.prog Tryz.f105 = some G_skolemref06_Union := by kernel_rfl
theorem gc_skolemref06_Union {args : List DV} {σ : GS} {Post : DV → GS → Prop} (h : @exB Tryz.prog ⟨G_skolemref06_Union.body⟩ (genv0 args G_skolemref06_Union.ntmps) σ ⟨@gretB G_skolemref06_Union.results ⟨Post⟩⟩) : GCall Tryz.prog F_skolemref06_Union args σ Post := gcall_ofB seatfollows Tryz.func105 (by kernel_rfl) c_skolemref06_Union h
noncomputable abbrev G_aig_Join : GFun := ⟨64, [(.cell 8 2 true), (.tmp 9), (.tmp 10), (.tmp 11)], (.seq (.region [⟨0, ⟨(some 4), none, (.new .box), [(.tmp 0)]⟩, []⟩, ⟨0, ⟨(some 6), none, (.new .box), [(.tmp 2)]⟩, []⟩, ⟨0, ⟨(some 8), none, (.new (.alloc [.nils, .nils])), []⟩, []⟩, ⟨0, ⟨(some 9), none, (.pure .id), [(.const .nils)]⟩, []⟩, ⟨0, ⟨(some 10), none, (.pure .id), [(.const .nils)]⟩, []⟩, ⟨0, ⟨(some 11), none, (.pure .id), [(.const (.int .i64 0))]⟩, []⟩]) (.seq (.seq (.region [⟨0, ⟨(some 14), none, (.load (.load 2 true)), [(.tmp 4)]⟩, []⟩, ⟨0, ⟨(some 15), none, (.pure .id), [(.tmp 1)]⟩, []⟩, ⟨0, ⟨(some 16), none, (.call F_aig_all), [(.tmp 14), (.tmp 15)]⟩, []⟩, ⟨0, ⟨(some 17), none, (.pure (.un .not)), [(.tmp 16)]⟩, []⟩, ⟨0, ⟨(some 18), none, (.pure .id), [(.tmp 17)]⟩, []⟩, ⟨0, ⟨(some 19), (some (18, false)), (.load (.load 2 true)), [(.tmp 6)]⟩, []⟩, ⟨0, ⟨(some 20), (some (18, false)), (.pure .id), [(.tmp 3)]⟩, []⟩, ⟨0, ⟨(some 21), (some (18, false)), (.call F_aig_all), [(.tmp 19), (.tmp 20)]⟩, []⟩, ⟨0, ⟨(some 22), (some (18, false)), (.pure (.un .not)), [(.tmp 21)]⟩, []⟩, ⟨0, ⟨(some 23), none, (.pure .pick), [(.tmp 18), (.const (.bool true)), (.tmp 22)]⟩, []⟩]) (.cond (.tmp 23) (.seq (.region [⟨0, ⟨(some 24), none, (.pure (.build [.nils, .nils] [])), []⟩, []⟩, ⟨0, ⟨none, none, (.imp (.store 2)), [(.tmp 8), (.tmp 24)]⟩, []⟩, ⟨0, ⟨(some 9), none, (.pure .id), [(.const .nils)]⟩, []⟩, ⟨0, ⟨(some 10), none, (.pure .id), [(.const .nils)]⟩, []⟩, ⟨0, ⟨(some 11), none, (.pure .id), [(.const (.int .i64 2))]⟩, []⟩]) .ret) .skip)) (.seq (.region [⟨0, ⟨(some 25), none, (.pure (.faddr 0)), [(.tmp 4)]⟩, []⟩, ⟨0, ⟨(some 26), none, (.load (.load 1 false)), [(.tmp 25)]⟩, []⟩, ⟨0, ⟨(some 27), none, (.pure (.faddr 0)), [(.tmp 6)]⟩, []⟩, ⟨0, ⟨(some 28), none, (.load (.load 1 false)), [(.tmp 27)]⟩, []⟩, ⟨0, ⟨(some 29), none, (.new (.bslice 1 [.nils] 2 [(0, 1), (1, 1)])), [(.tmp 26), (.tmp 28)]⟩, []⟩, ⟨0, ⟨(some 30), none, (.call F_slices_Concat_int_int), [(.tmp 29)]⟩, []⟩, ⟨0, ⟨(some 12), none, (.pure .id), [(.tmp 30)]⟩, []⟩]) (.seq (.region [⟨0, ⟨(some 31), none, (.pure .id), [(.tmp 12)]⟩, []⟩, ⟨0, ⟨(some 32), none, (.call F_slices_Sort_int_int), [(.tmp 31)]⟩, []⟩]) (.seq (.region [⟨0, ⟨(some 33), none, (.pure .id), [(.tmp 12)]⟩, []⟩, ⟨0, ⟨(some 34), none, (.call F_slices_Compact_int_int), [(.tmp 33)]⟩, []⟩, ⟨0, ⟨(some 35), none, (.pure (.build [.nils, .nils] [(0, 1)])), [(.tmp 34)]⟩, []⟩, ⟨0, ⟨(some 36), none, (.call F_aig_maker), [(.tmp 35)]⟩, []⟩, ⟨0, ⟨(some 13), none, (.pure .id), [(.tmp 36)]⟩, []⟩]) (.seq (.region [⟨0, ⟨(some 37), none, (.pure .id), [(.tmp 1)]⟩, []⟩, ⟨0, ⟨(some 38), none, (.pure .id), [(.tmp 13)]⟩, []⟩, ⟨0, ⟨(some 39), none, (.load (.load 2 true)), [(.tmp 4)]⟩, []⟩, ⟨0, ⟨(some 40), none, (.pure .id), [(.tmp 1)]⟩, []⟩, ⟨0, ⟨(some 41), none, (.pure .id), [(.tmp 13)]⟩, []⟩, ⟨0, ⟨(some 42), none, (.pure (.mkfunc F_aig_Maker_own 1)), [(.tmp 41)]⟩, []⟩, ⟨0, ⟨(some 43), none, (.call F_aig_Maker_copied), [(.tmp 38), (.tmp 39), (.tmp 40), (.tmp 42)]⟩, []⟩, ⟨0, ⟨(some 44), none, (.call F_aig_each), [(.tmp 37), (.tmp 43)]⟩, []⟩, ⟨0, ⟨(some 9), none, (.pure .id), [(.tmp 44)]⟩, []⟩]) (.seq (.region [⟨0, ⟨(some 45), none, (.pure .id), [(.tmp 3)]⟩, []⟩, ⟨0, ⟨(some 46), none, (.pure .id), [(.tmp 13)]⟩, []⟩, ⟨0, ⟨(some 47), none, (.load (.load 2 true)), [(.tmp 6)]⟩, []⟩, ⟨0, ⟨(some 48), none, (.pure .id), [(.tmp 3)]⟩, []⟩, ⟨0, ⟨(some 49), none, (.pure .id), [(.tmp 13)]⟩, []⟩, ⟨0, ⟨(some 50), none, (.pure (.mkfunc F_aig_Maker_own 1)), [(.tmp 49)]⟩, []⟩, ⟨0, ⟨(some 51), none, (.call F_aig_Maker_copied), [(.tmp 46), (.tmp 47), (.tmp 48), (.tmp 50)]⟩, []⟩, ⟨0, ⟨(some 52), none, (.call F_aig_each), [(.tmp 45), (.tmp 51)]⟩, []⟩, ⟨0, ⟨(some 10), none, (.pure .id), [(.tmp 52)]⟩, []⟩]) (.seq (.seq (.region [⟨0, ⟨(some 53), none, (.pure .id), [(.tmp 13)]⟩, []⟩, ⟨0, ⟨(some 54), none, (.pure .nilck), [(.tmp 53)]⟩, []⟩, ⟨0, ⟨(some 55), none, (.pure (.faddr 5)), [(.tmp 54)]⟩, []⟩, ⟨0, ⟨(some 56), none, (.load (.load 1 false)), [(.tmp 55)]⟩, []⟩]) (.cond (.tmp 56) (.seq (.region [⟨0, ⟨(some 57), none, (.pure (.build [.nils, .nils] [])), []⟩, []⟩, ⟨0, ⟨none, none, (.imp (.store 2)), [(.tmp 8), (.tmp 57)]⟩, []⟩, ⟨0, ⟨(some 9), none, (.pure .id), [(.const .nils)]⟩, []⟩, ⟨0, ⟨(some 10), none, (.pure .id), [(.const .nils)]⟩, []⟩, ⟨0, ⟨(some 11), none, (.pure .id), [(.const (.int .i64 3))]⟩, []⟩]) .ret) .skip)) (.seq (.region [⟨0, ⟨(some 58), none, (.pure .id), [(.tmp 13)]⟩, []⟩, ⟨0, ⟨(some 59), none, (.pure .nilck), [(.tmp 58)]⟩, []⟩, ⟨0, ⟨(some 60), none, (.pure (.faddr 1)), [(.tmp 59)]⟩, []⟩, ⟨0, ⟨(some 61), none, (.load (.load 2 true)), [(.tmp 60)]⟩, []⟩, ⟨0, ⟨(some 62), none, (.pure .id), [(.tmp 9)]⟩, []⟩, ⟨0, ⟨(some 63), none, (.pure .id), [(.tmp 10)]⟩, []⟩, ⟨0, ⟨none, none, (.imp (.store 2)), [(.tmp 8), (.tmp 61)]⟩, []⟩, ⟨0, ⟨(some 9), none, (.pure .id), [(.tmp 62)]⟩, []⟩, ⟨0, ⟨(some 10), none, (.pure .id), [(.tmp 63)]⟩, []⟩, ⟨0, ⟨(some 11), none, (.pure .id), [(.const (.int .i64 0))]⟩, []⟩]) .ret)))))))))⟩
theorem c_aig_Join : compF Tryz.prog Tryz.f37 = some G_aig_Join := by kernel_rfl
theorem gc_aig_Join {args : List DV} {σ : GS} {Post : DV → GS → Prop} (h : @exB Tryz.prog ⟨G_aig_Join.body⟩ (genv0 args G_aig_Join.ntmps) σ ⟨@gretB G_aig_Join.results ⟨Post⟩⟩) : GCall Tryz.prog F_aig_Join args σ Post := gcall_ofB seatfollows Tryz.func37 (by kernel_rfl) c_aig_Join h
noncomputable abbrev G_skolemref06_Join : GFun := ⟨79, [(.cell 8 2 true), (.tmp 9), (.tmp 10), (.tmp 11)], (.seq (.region [⟨0, ⟨(some 4), none, (.new .box), [(.tmp 0)]⟩, []⟩, ⟨0, ⟨(some 6), none, (.new .box), [(.tmp 2)]⟩, []⟩, ⟨0, ⟨(some 8), none, (.new (.alloc [.nils, .nils])), []⟩, []⟩, ⟨0, ⟨(some 9), none, (.pure .id), [(.const .nils)]⟩, []⟩, ⟨0, ⟨(some 10), none, (.pure .id), [(.const .nils)]⟩, []⟩, ⟨0, ⟨(some 11), none, (.pure .id), [(.const (.int .i64 0))]⟩, []⟩]) (.seq (.seq (.region [⟨0, ⟨(some 15), none, (.load (.load 2 true)), [(.tmp 4)]⟩, []⟩, ⟨0, ⟨(some 16), none, (.pure .id), [(.tmp 1)]⟩, []⟩, ⟨0, ⟨(some 17), none, (.call F_skolemref06_HasAll), [(.tmp 15), (.tmp 16)]⟩, []⟩, ⟨0, ⟨(some 18), none, (.pure (.un .not)), [(.tmp 17)]⟩, []⟩, ⟨0, ⟨(some 19), none, (.pure .id), [(.tmp 18)]⟩, []⟩, ⟨0, ⟨(some 20), (some (19, false)), (.load (.load 2 true)), [(.tmp 6)]⟩, []⟩, ⟨0, ⟨(some 21), (some (19, false)), (.pure .id), [(.tmp 3)]⟩, []⟩, ⟨0, ⟨(some 22), (some (19, false)), (.call F_skolemref06_HasAll), [(.tmp 20), (.tmp 21)]⟩, []⟩, ⟨0, ⟨(some 23), (some (19, false)), (.pure (.un .not)), [(.tmp 22)]⟩, []⟩, ⟨0, ⟨(some 24), none, (.pure .pick), [(.tmp 19), (.const (.bool true)), (.tmp 23)]⟩, []⟩]) (.cond (.tmp 24) (.seq (.region [⟨0, ⟨(some 25), none, (.pure (.build [.nils, .nils] [])), []⟩, []⟩, ⟨0, ⟨none, none, (.imp (.store 2)), [(.tmp 8), (.tmp 25)]⟩, []⟩, ⟨0, ⟨(some 9), none, (.pure .id), [(.const .nils)]⟩, []⟩, ⟨0, ⟨(some 10), none, (.pure .id), [(.const .nils)]⟩, []⟩, ⟨0, ⟨(some 11), none, (.pure .id), [(.const (.int .i64 2))]⟩, []⟩]) .ret) .skip)) (.seq (.region [⟨0, ⟨(some 26), none, (.pure (.faddr 0)), [(.tmp 4)]⟩, []⟩, ⟨0, ⟨(some 27), none, (.load (.load 1 false)), [(.tmp 26)]⟩, []⟩, ⟨0, ⟨(some 28), none, (.pure (.faddr 0)), [(.tmp 6)]⟩, []⟩, ⟨0, ⟨(some 29), none, (.load (.load 1 false)), [(.tmp 28)]⟩, []⟩, ⟨0, ⟨(some 30), none, (.call F_skolemref06_Union), [(.tmp 27), (.tmp 29)]⟩, []⟩, ⟨0, ⟨(some 31), none, (.pure (.build [.nils, .nils] [(0, 1)])), [(.tmp 30)]⟩, []⟩, ⟨0, ⟨(some 32), none, (.pure (.build [.nils, .nils, (.bool false)] [(0, 2)])), [(.tmp 31)]⟩, []⟩, ⟨0, ⟨(some 33), none, (.new .box), [(.tmp 32)]⟩, []⟩, ⟨0, ⟨(some 12), none, (.pure .id), [(.tmp 33)]⟩, []⟩]) (.seq (.region [⟨0, ⟨(some 34), none, (.pure .id), [(.tmp 12)]⟩, []⟩, ⟨1, ⟨(some 35), none, (.load (.load 2 true)), [(.tmp 4)]⟩, []⟩, ⟨2, ⟨(some 36), none, (.pure .id), [(.tmp 1)]⟩, []⟩, ⟨3, ⟨(some 37), none, (.pure .id), [(.tmp 12)]⟩, []⟩, ⟨4, ⟨(some 38), none, (.pure .nilck), [(.tmp 37)]⟩, []⟩, ⟨5, ⟨(some 39), none, (.pure (.faddr 0)), [(.tmp 38)]⟩, []⟩, ⟨6, ⟨(some 40), none, (.load (.load 2 true)), [(.tmp 39)]⟩, []⟩, ⟨7, ⟨(some 41), none, (.pure (.faddr 0)), [(.tmp 4)]⟩, []⟩, ⟨8, ⟨(some 42), none, (.load (.load 1 false)), [(.tmp 41)]⟩, []⟩, ⟨9, ⟨(some 43), none, (.call F_skolemref06_edges), [(.tmp 40), (.tmp 42)]⟩, [⟨(some 35), none, (.load (.load 2 true)), [(.tmp 4)]⟩]⟩, ⟨10, ⟨(some 44), none, (.call F_skolemref06_Maker_copied), [(.tmp 34), (.tmp 35), (.tmp 36), (.tmp 43)]⟩, []⟩, ⟨11, ⟨(some 13), none, (.pure .id), [(.tmp 44)]⟩, []⟩]) (.seq (.region [⟨0, ⟨(some 45), none, (.pure .id), [(.tmp 12)]⟩, []⟩, ⟨1, ⟨(some 46), none, (.load (.load 2 true)), [(.tmp 6)]⟩, []⟩, ⟨2, ⟨(some 47), none, (.pure .id), [(.tmp 3)]⟩, []⟩, ⟨3, ⟨(some 48), none, (.pure .id), [(.tmp 12)]⟩, []⟩, ⟨4, ⟨(some 49), none, (.pure .nilck), [(.tmp 48)]⟩, []⟩, ⟨5, ⟨(some 50), none, (.pure (.faddr 0)), [(.tmp 49)]⟩, []⟩, ⟨6, ⟨(some 51), none, (.load (.load 2 true)), [(.tmp 50)]⟩, []⟩, ⟨7, ⟨(some 52), none, (.pure (.faddr 0)), [(.tmp 6)]⟩, []⟩, ⟨8, ⟨(some 53), none, (.load (.load 1 false)), [(.tmp 52)]⟩, []⟩, ⟨9, ⟨(some 54), none, (.call F_skolemref06_edges), [(.tmp 51), (.tmp 53)]⟩, [⟨(some 46), none, (.load (.load 2 true)), [(.tmp 6)]⟩]⟩, ⟨10, ⟨(some 55), none, (.call F_skolemref06_Maker_copied), [(.tmp 45), (.tmp 46), (.tmp 47), (.tmp 54)]⟩, []⟩, ⟨11, ⟨(some 14), none, (.pure .id), [(.tmp 55)]⟩, []⟩]) (.seq (.seq (.region [⟨0, ⟨(some 56), none, (.pure .id), [(.tmp 12)]⟩, []⟩, ⟨0, ⟨(some 57), none, (.pure .nilck), [(.tmp 56)]⟩, []⟩, ⟨0, ⟨(some 58), none, (.pure (.faddr 2)), [(.tmp 57)]⟩, []⟩, ⟨0, ⟨(some 59), none, (.load (.load 1 false)), [(.tmp 58)]⟩, []⟩, ⟨0, ⟨(some 60), none, (.pure .id), [(.tmp 59)]⟩, []⟩, ⟨0, ⟨(some 61), (some (60, false)), (.pure .id), [(.tmp 12)]⟩, []⟩, ⟨0, ⟨(some 62), (some (60, false)), (.pure .nilck), [(.tmp 61)]⟩, []⟩, ⟨0, ⟨(some 63), (some (60, false)), (.pure (.faddr 0)), [(.tmp 62)]⟩, []⟩, ⟨0, ⟨(some 64), (some (60, false)), (.load (.load 2 true)), [(.tmp 63)]⟩, []⟩, ⟨0, ⟨(some 65), (some (60, false)), (.call F_skolemref06_Nodes), [(.tmp 64)]⟩, []⟩, ⟨0, ⟨(some 66), (some (60, false)), (.pure (.bin .gtr .none)), [(.tmp 65), (.const (.int .i64 200000))]⟩, []⟩, ⟨0, ⟨(some 67), none, (.pure .pick), [(.tmp 60), (.const (.bool true)), (.tmp 66)]⟩, []⟩]) (.cond (.tmp 67) (.seq (.region [⟨0, ⟨(some 68), none, (.pure (.build [.nils, .nils] [])), []⟩, []⟩, ⟨0, ⟨none, none, (.imp (.store 2)), [(.tmp 8), (.tmp 68)]⟩, []⟩, ⟨0, ⟨(some 9), none, (.pure .id), [(.const .nils)]⟩, []⟩, ⟨0, ⟨(some 10), none, (.pure .id), [(.const .nils)]⟩, []⟩, ⟨0, ⟨(some 11), none, (.pure .id), [(.const (.int .i64 3))]⟩, []⟩]) .ret) .skip)) (.seq (.region [⟨0, ⟨(some 69), none, (.pure .id), [(.tmp 12)]⟩, []⟩, ⟨1, ⟨(some 70), none, (.pure .nilck), [(.tmp 69)]⟩, []⟩, ⟨2, ⟨(some 71), none, (.pure (.faddr 0)), [(.tmp 70)]⟩, []⟩, ⟨3, ⟨(some 72), none, (.load (.load 2 true)), [(.tmp 71)]⟩, []⟩, ⟨4, ⟨(some 73), none, (.pure .id), [(.tmp 13)]⟩, []⟩, ⟨5, ⟨(some 74), none, (.pure .id), [(.tmp 1)]⟩, []⟩, ⟨7, ⟨(some 76), none, (.pure .id), [(.tmp 14)]⟩, []⟩, ⟨8, ⟨(some 77), none, (.pure .id), [(.tmp 3)]⟩, []⟩, ⟨6, ⟨(some 75), none, (.call F_skolemref06_images), [(.tmp 73), (.tmp 74)]⟩, [⟨(some 72), none, (.load (.load 2 true)), [(.tmp 71)]⟩]⟩, ⟨9, ⟨(some 78), none, (.call F_skolemref06_images), [(.tmp 76), (.tmp 77)]⟩, [⟨(some 72), none, (.load (.load 2 true)), [(.tmp 71)]⟩]⟩, ⟨10, ⟨none, none, (.imp (.store 2)), [(.tmp 8), (.tmp 72)]⟩, []⟩, ⟨11, ⟨(some 9), none, (.pure .id), [(.tmp 75)]⟩, []⟩, ⟨12, ⟨(some 10), none, (.pure .id), [(.tmp 78)]⟩, []⟩, ⟨13, ⟨(some 11), none, (.pure .id), [(.const (.int .i64 0))]⟩, []⟩]) .ret)))))))⟩
theorem c_skolemref06_Join : compF Tryz.prog Tryz.f38 = some G_skolemref06_Join := by kernel_rfl
theorem gc_skolemref06_Join {args : List DV} {σ : GS} {Post : DV → GS → Prop} (h : @exB Tryz.prog ⟨G_skolemref06_Join.body⟩ (genv0 args G_skolemref06_Join.ntmps) σ ⟨@gretB G_skolemref06_Join.results ⟨Post⟩⟩) : GCall Tryz.prog F_skolemref06_Join args σ Post := gcall_ofB seatfollows Tryz.func38 (by kernel_rfl) c_skolemref06_Join h
noncomputable abbrev G_skolemref06_Compose : GFun := ⟨131, [(.cell 6 2 true), (.tmp 7), (.tmp 8)], (.seq (.region [⟨0, ⟨(some 3), none, (.new .box), [(.tmp 0)]⟩, []⟩, ⟨0, ⟨(some 6), none, (.new (.alloc [.nils, .nils])), []⟩, []⟩, ⟨0, ⟨(some 7), none, (.pure .id), [(.const .nils)]⟩, []⟩, ⟨0, ⟨(some 8), none, (.pure .id), [(.const (.int .i64 0))]⟩, []⟩]) (.seq (.region [⟨0, ⟨(some 9), none, (.pure .id), [(.const .nils)]⟩, []⟩, ⟨0, ⟨(some 10), none, (.pure .id), [(.const .nils)]⟩, []⟩]) (.seq (.seq (.region [⟨0, ⟨(some 11), none, (.pure .id), [(.const (.int .i64 0))]⟩, []⟩]) (.block 0 (.loop (.seq (.seq (.region [⟨0, ⟨(some 18), none, (.pure .id), [(.tmp 11)]⟩, []⟩, ⟨0, ⟨(some 19), none, (.pure .id), [(.tmp 2)]⟩, []⟩, ⟨0, ⟨(some 20), none, (.pure .len), [(.tmp 19)]⟩, []⟩, ⟨0, ⟨(some 21), none, (.pure (.bin .lss .none)), [(.tmp 18), (.tmp 20)]⟩, []⟩]) (.cond (.tmp 21) .skip (.exit 0))) (.seq (.block 1 (.seq (.seq (.region [⟨0, ⟨(some 24), none, (.pure .id), [(.tmp 9)]⟩, []⟩, ⟨0, ⟨(some 25), none, (.pure .id), [(.tmp 2)]⟩, []⟩, ⟨0, ⟨(some 26), none, (.pure .id), [(.tmp 11)]⟩, []⟩, ⟨0, ⟨(some 27), none, (.pure (.iaddr 2)), [(.tmp 25), (.tmp 26)]⟩, []⟩, ⟨0, ⟨(some 28), none, (.pure (.faddr 0)), [(.tmp 27)]⟩, []⟩, ⟨0, ⟨(some 29), none, (.load (.load 1 false)), [(.tmp 28)]⟩, []⟩, ⟨0, ⟨(some 30), none, (.call F_skolemref05_In), [(.tmp 24), (.tmp 29)]⟩, []⟩]) (.cond (.tmp 30) (.seq (.region [⟨0, ⟨(some 31), none, (.pure (.build [.nils, .nils] [])), []⟩, []⟩, ⟨0, ⟨none, none, (.imp (.store 2)), [(.tmp 6), (.tmp 31)]⟩, []⟩, ⟨0, ⟨(some 7), none, (.pure .id), [(.const .nils)]⟩, []⟩, ⟨0, ⟨(some 8), none, (.pure .id), [(.const (.int .i64 2))]⟩, []⟩]) .ret) .skip)) (.seq (.region [⟨0, ⟨(some 32), none, (.pure .id), [(.tmp 9)]⟩, []⟩, ⟨0, ⟨(some 33), none, (.pure .id), [(.tmp 2)]⟩, []⟩, ⟨0, ⟨(some 34), none, (.pure .id), [(.tmp 11)]⟩, []⟩, ⟨0, ⟨(some 35), none, (.pure (.iaddr 2)), [(.tmp 33), (.tmp 34)]⟩, []⟩, ⟨0, ⟨(some 36), none, (.pure (.faddr 0)), [(.tmp 35)]⟩, []⟩, ⟨0, ⟨(some 37), none, (.load (.load 1 false)), [(.tmp 36)]⟩, []⟩, ⟨0, ⟨(some 38), none, (.new (.bslice 1 [(.int .i64 0)] 1 [(0, 1)])), [(.tmp 37)]⟩, []⟩, ⟨0, ⟨(some 39), none, (.imp (.append 1 8)), [(.tmp 32), (.tmp 38)]⟩, []⟩, ⟨0, ⟨(some 9), none, (.pure .id), [(.tmp 39)]⟩, []⟩]) (.region [⟨0, ⟨(some 40), none, (.pure .id), [(.tmp 10)]⟩, []⟩, ⟨0, ⟨(some 41), none, (.pure .id), [(.tmp 2)]⟩, []⟩, ⟨0, ⟨(some 42), none, (.pure .id), [(.tmp 11)]⟩, []⟩, ⟨0, ⟨(some 43), none, (.pure (.iaddr 2)), [(.tmp 41), (.tmp 42)]⟩, []⟩, ⟨0, ⟨(some 44), none, (.pure (.faddr 1)), [(.tmp 43)]⟩, []⟩, ⟨0, ⟨(some 45), none, (.load (.load 1 false)), [(.tmp 44)]⟩, []⟩, ⟨0, ⟨(some 46), none, (.new (.bslice 1 [(.int .i64 0)] 1 [(0, 1)])), [(.tmp 45)]⟩, []⟩, ⟨0, ⟨(some 47), none, (.imp (.append 1 8)), [(.tmp 40), (.tmp 46)]⟩, []⟩, ⟨0, ⟨(some 10), none, (.pure .id), [(.tmp 47)]⟩, []⟩])))) (.region [⟨0, ⟨(some 22), none, (.pure .id), [(.tmp 11)]⟩, []⟩, ⟨0, ⟨(some 23), none, (.pure (.bin .add .none)), [(.tmp 22), (.const (.int .i64 1))]⟩, []⟩, ⟨0, ⟨(some 11), none, (.pure .id), [(.tmp 23)]⟩, []⟩])))))) (.seq (.seq (.region [⟨0, ⟨(some 48), none, (.load (.load 2 true)), [(.tmp 3)]⟩, []⟩, ⟨0, ⟨(some 49), none, (.pure .id), [(.tmp 1)]⟩, []⟩, ⟨0, ⟨(some 50), none, (.call F_skolemref06_HasAll), [(.tmp 48), (.tmp 49)]⟩, []⟩, ⟨0, ⟨(some 51), none, (.pure (.un .not)), [(.tmp 50)]⟩, []⟩, ⟨0, ⟨(some 52), none, (.pure .id), [(.tmp 51)]⟩, []⟩, ⟨0, ⟨(some 53), (some (52, false)), (.load (.load 2 true)), [(.tmp 3)]⟩, []⟩, ⟨0, ⟨(some 54), (some (52, false)), (.pure .id), [(.tmp 10)]⟩, []⟩, ⟨0, ⟨(some 55), (some (52, false)), (.call F_skolemref06_HasAll), [(.tmp 53), (.tmp 54)]⟩, []⟩, ⟨0, ⟨(some 56), (some (52, false)), (.pure (.un .not)), [(.tmp 55)]⟩, []⟩, ⟨0, ⟨(some 57), none, (.pure .pick), [(.tmp 52), (.const (.bool true)), (.tmp 56)]⟩, []⟩]) (.cond (.tmp 57) (.seq (.region [⟨0, ⟨(some 58), none, (.pure (.build [.nils, .nils] [])), []⟩, []⟩, ⟨0, ⟨none, none, (.imp (.store 2)), [(.tmp 6), (.tmp 58)]⟩, []⟩, ⟨0, ⟨(some 7), none, (.pure .id), [(.const .nils)]⟩, []⟩, ⟨0, ⟨(some 8), none, (.pure .id), [(.const (.int .i64 2))]⟩, []⟩]) .ret) .skip)) (.seq (.seq (.region [⟨0, ⟨(some 12), none, (.pure .id), [(.const (.int .i64 0))]⟩, []⟩]) (.block 2 (.loop (.seq (.seq (.region [⟨0, ⟨(some 59), none, (.pure .id), [(.tmp 12)]⟩, []⟩, ⟨0, ⟨(some 60), none, (.pure .id), [(.tmp 9)]⟩, []⟩, ⟨0, ⟨(some 61), none, (.pure .len), [(.tmp 60)]⟩, []⟩, ⟨0, ⟨(some 62), none, (.pure (.bin .lss .none)), [(.tmp 59), (.tmp 61)]⟩, []⟩]) (.cond (.tmp 62) .skip (.exit 2))) (.seq (.block 3 (.seq (.region [⟨0, ⟨(some 65), none, (.load (.load 2 true)), [(.tmp 3)]⟩, []⟩, ⟨1, ⟨(some 66), none, (.pure .id), [(.tmp 9)]⟩, []⟩, ⟨2, ⟨(some 67), none, (.pure .id), [(.tmp 12)]⟩, []⟩, ⟨3, ⟨(some 68), none, (.pure (.iaddr 1)), [(.tmp 66), (.tmp 67)]⟩, []⟩, ⟨4, ⟨(some 69), none, (.load (.load 1 false)), [(.tmp 68)]⟩, []⟩, ⟨5, ⟨(some 70), none, (.call F_skolemref06_Edge), [(.tmp 65), (.tmp 69)]⟩, []⟩, ⟨6, ⟨(some 71), none, (.pure (.bin .lss .none)), [(.tmp 70), (.const (.int .i64 0))]⟩, []⟩]) (.cond (.tmp 71) (.seq (.region [⟨0, ⟨(some 72), none, (.pure (.build [.nils, .nils] [])), []⟩, []⟩, ⟨0, ⟨none, none, (.imp (.store 2)), [(.tmp 6), (.tmp 72)]⟩, []⟩, ⟨0, ⟨(some 7), none, (.pure .id), [(.const .nils)]⟩, []⟩, ⟨0, ⟨(some 8), none, (.pure .id), [(.const (.int .i64 6))]⟩, []⟩]) .ret) .skip))) (.region [⟨0, ⟨(some 63), none, (.pure .id), [(.tmp 12)]⟩, []⟩, ⟨0, ⟨(some 64), none, (.pure (.bin .add .none)), [(.tmp 63), (.const (.int .i64 1))]⟩, []⟩, ⟨0, ⟨(some 12), none, (.pure .id), [(.tmp 64)]⟩, []⟩])))))) (.seq (.region [⟨0, ⟨(some 73), none, (.pure (.faddr 0)), [(.tmp 3)]⟩, []⟩, ⟨0, ⟨(some 74), none, (.load (.load 1 false)), [(.tmp 73)]⟩, []⟩, ⟨0, ⟨(some 75), none, (.pure (.build [.nils, .nils] [(0, 1)])), [(.tmp 74)]⟩, []⟩, ⟨0, ⟨(some 76), none, (.pure (.build [.nils, .nils, (.bool false)] [(0, 2)])), [(.tmp 75)]⟩, []⟩, ⟨0, ⟨(some 77), none, (.new .box), [(.tmp 76)]⟩, []⟩, ⟨0, ⟨(some 13), none, (.pure .id), [(.tmp 77)]⟩, []⟩]) (.seq (.region [⟨0, ⟨(some 78), none, (.pure .id), [(.tmp 13)]⟩, []⟩, ⟨1, ⟨(some 79), none, (.pure .nilck), [(.tmp 78)]⟩, []⟩, ⟨2, ⟨(some 80), none, (.pure (.faddr 0)), [(.tmp 79)]⟩, []⟩, ⟨3, ⟨(some 81), none, (.load (.load 2 true)), [(.tmp 80)]⟩, []⟩, ⟨4, ⟨(some 82), none, (.pure (.faddr 0)), [(.tmp 3)]⟩, []⟩, ⟨5, ⟨(some 83), none, (.load (.load 1 false)), [(.tmp 82)]⟩, []⟩, ⟨6, ⟨(some 84), none, (.call F_skolemref06_edges), [(.tmp 81), (.tmp 83)]⟩, []⟩, ⟨7, ⟨(some 14), none, (.pure .id), [(.tmp 84)]⟩, []⟩]) (.seq (.region [⟨0, ⟨(some 85), none, (.pure .id), [(.tmp 13)]⟩, []⟩, ⟨0, ⟨(some 86), none, (.load (.load 2 true)), [(.tmp 3)]⟩, []⟩, ⟨0, ⟨(some 87), none, (.pure .id), [(.tmp 10)]⟩, []⟩, ⟨0, ⟨(some 88), none, (.pure .id), [(.tmp 14)]⟩, []⟩, ⟨0, ⟨(some 89), none, (.call F_skolemref06_Maker_copied), [(.tmp 85), (.tmp 86), (.tmp 87), (.tmp 88)]⟩, []⟩, ⟨0, ⟨(some 15), none, (.pure .id), [(.tmp 89)]⟩, []⟩]) (.seq (.seq (.region [⟨0, ⟨(some 16), none, (.pure .id), [(.const (.int .i64 0))]⟩, []⟩]) (.block 4 (.loop (.seq (.seq (.region [⟨0, ⟨(some 90), none, (.pure .id), [(.tmp 16)]⟩, []⟩, ⟨0, ⟨(some 91), none, (.pure .id), [(.tmp 2)]⟩, []⟩, ⟨0, ⟨(some 92), none, (.pure .len), [(.tmp 91)]⟩, []⟩, ⟨0, ⟨(some 93), none, (.pure (.bin .lss .none)), [(.tmp 90), (.tmp 92)]⟩, []⟩]) (.cond (.tmp 93) .skip (.exit 4))) (.seq (.block 5 (.region [⟨0, ⟨(some 96), none, (.pure .id), [(.tmp 14)]⟩, []⟩, ⟨1, ⟨(some 97), none, (.load (.load 2 true)), [(.tmp 3)]⟩, []⟩, ⟨2, ⟨(some 98), none, (.pure .id), [(.tmp 2)]⟩, []⟩, ⟨3, ⟨(some 99), none, (.pure .id), [(.tmp 16)]⟩, []⟩, ⟨4, ⟨(some 100), none, (.pure (.iaddr 2)), [(.tmp 98), (.tmp 99)]⟩, []⟩, ⟨5, ⟨(some 101), none, (.pure (.faddr 0)), [(.tmp 100)]⟩, []⟩, ⟨6, ⟨(some 102), none, (.load (.load 1 false)), [(.tmp 101)]⟩, []⟩, ⟨10, ⟨(some 106), none, (.pure .id), [(.tmp 15)]⟩, []⟩, ⟨11, ⟨(some 107), none, (.pure .id), [(.tmp 2)]⟩, []⟩, ⟨12, ⟨(some 108), none, (.pure .id), [(.tmp 16)]⟩, []⟩, ⟨13, ⟨(some 109), none, (.pure (.iaddr 2)), [(.tmp 107), (.tmp 108)]⟩, []⟩, ⟨14, ⟨(some 110), none, (.pure (.faddr 1)), [(.tmp 109)]⟩, []⟩, ⟨15, ⟨(some 111), none, (.load (.load 1 false)), [(.tmp 110)]⟩, []⟩, ⟨7, ⟨(some 103), none, (.call F_skolemref06_Edge), [(.tmp 97), (.tmp 102)]⟩, [⟨(some 111), none, (.load (.load 1 false)), [(.tmp 110)]⟩]⟩, ⟨8, ⟨(some 104), none, (.pure (.bin .quo .none)), [(.tmp 103), (.const (.int .i64 2))]⟩, []⟩, ⟨9, ⟨(some 105), none, (.pure (.bin .sub .none)), [(.tmp 104), (.const (.int .i64 1))]⟩, []⟩, ⟨16, ⟨(some 112), none, (.call F_skolemref06_Image), [(.tmp 106), (.tmp 111)]⟩, []⟩, ⟨17, ⟨(some 113), none, (.pure (.iaddr 1)), [(.tmp 96), (.tmp 105)]⟩, []⟩, ⟨18, ⟨none, none, (.imp (.store 1)), [(.tmp 113), (.tmp 112)]⟩, []⟩])) (.region [⟨0, ⟨(some 94), none, (.pure .id), [(.tmp 16)]⟩, []⟩, ⟨0, ⟨(some 95), none, (.pure (.bin .add .none)), [(.tmp 94), (.const (.int .i64 1))]⟩, []⟩, ⟨0, ⟨(some 16), none, (.pure .id), [(.tmp 95)]⟩, []⟩])))))) (.seq (.region [⟨0, ⟨(some 114), none, (.pure .id), [(.tmp 13)]⟩, []⟩, ⟨0, ⟨(some 115), none, (.load (.load 2 true)), [(.tmp 3)]⟩, []⟩, ⟨0, ⟨(some 116), none, (.pure .id), [(.tmp 1)]⟩, []⟩, ⟨0, ⟨(some 117), none, (.pure .id), [(.tmp 14)]⟩, []⟩, ⟨0, ⟨(some 118), none, (.call F_skolemref06_Maker_copied), [(.tmp 114), (.tmp 115), (.tmp 116), (.tmp 117)]⟩, []⟩, ⟨0, ⟨(some 17), none, (.pure .id), [(.tmp 118)]⟩, []⟩]) (.seq (.seq (.region [⟨0, ⟨(some 119), none, (.pure .id), [(.tmp 13)]⟩, []⟩, ⟨0, ⟨(some 120), none, (.pure .nilck), [(.tmp 119)]⟩, []⟩, ⟨0, ⟨(some 121), none, (.pure (.faddr 2)), [(.tmp 120)]⟩, []⟩, ⟨0, ⟨(some 122), none, (.load (.load 1 false)), [(.tmp 121)]⟩, []⟩]) (.cond (.tmp 122) (.seq (.region [⟨0, ⟨(some 123), none, (.pure (.build [.nils, .nils] [])), []⟩, []⟩, ⟨0, ⟨none, none, (.imp (.store 2)), [(.tmp 6), (.tmp 123)]⟩, []⟩, ⟨0, ⟨(some 7), none, (.pure .id), [(.const .nils)]⟩, []⟩, ⟨0, ⟨(some 8), none, (.pure .id), [(.const (.int .i64 3))]⟩, []⟩]) .ret) .skip)) (.seq (.region [⟨0, ⟨(some 124), none, (.pure .id), [(.tmp 13)]⟩, []⟩, ⟨1, ⟨(some 125), none, (.pure .nilck), [(.tmp 124)]⟩, []⟩, ⟨2, ⟨(some 126), none, (.pure (.faddr 0)), [(.tmp 125)]⟩, []⟩, ⟨3, ⟨(some 127), none, (.load (.load 2 true)), [(.tmp 126)]⟩, []⟩, ⟨4, ⟨(some 128), none, (.pure .id), [(.tmp 17)]⟩, []⟩, ⟨5, ⟨(some 129), none, (.pure .id), [(.tmp 1)]⟩, []⟩, ⟨6, ⟨(some 130), none, (.call F_skolemref06_images), [(.tmp 128), (.tmp 129)]⟩, [⟨(some 127), none, (.load (.load 2 true)), [(.tmp 126)]⟩]⟩, ⟨7, ⟨none, none, (.imp (.store 2)), [(.tmp 6), (.tmp 127)]⟩, []⟩, ⟨8, ⟨(some 7), none, (.pure .id), [(.tmp 130)]⟩, []⟩, ⟨9, ⟨(some 8), none, (.pure .id), [(.const (.int .i64 0))]⟩, []⟩]) .ret))))))))))))⟩
theorem c_skolemref06_Compose : compF Tryz.prog Tryz.f36 = some G_skolemref06_Compose := by kernel_rfl
theorem gc_skolemref06_Compose {args : List DV} {σ : GS} {Post : DV → GS → Prop} (h : @exB Tryz.prog ⟨G_skolemref06_Compose.body⟩ (genv0 args G_skolemref06_Compose.ntmps) σ ⟨@gretB G_skolemref06_Compose.results ⟨Post⟩⟩) : GCall Tryz.prog F_skolemref06_Compose args σ Post := gcall_ofB seatfollows Tryz.func36 (by kernel_rfl) c_skolemref06_Compose h
end Go.Gh
namespace Go.Gh
open Go.Proofs
abbrev F_skolemlaw06_AigComposes : Nat := 6
noncomputable abbrev G_skolemlaw06_AigComposes : GFun := ⟨117, [(.tmp 10)], (.seq (.region [⟨0, ⟨(some 5), none, (.new .box), [(.tmp 0)]⟩, []⟩, ⟨0, ⟨(some 7), none, (.new .box), [(.tmp 2)]⟩, []⟩, ⟨0, ⟨(some 10), none, (.pure .id), [(.const (.bool false))]⟩, []⟩]) (.seq (.seq (.region [⟨0, ⟨(some 25), none, (.load (.load 2 true)), [(.tmp 5)]⟩, []⟩, ⟨0, ⟨(some 26), none, (.load (.load 2 true)), [(.tmp 7)]⟩, []⟩, ⟨0, ⟨(some 27), none, (.new (.bslice 2 [.nils, .nils] 2 [(0, 2), (2, 2)])), [(.tmp 25), (.tmp 26)]⟩, []⟩, ⟨0, ⟨(some 28), none, (.call F_skolemlaw06_great), [(.tmp 27)]⟩, []⟩, ⟨0, ⟨(some 29), none, (.pure .id), [(.tmp 28)]⟩, []⟩, ⟨0, ⟨(some 30), (some (29, false)), (.pure .id), [(.tmp 1)]⟩, []⟩, ⟨0, ⟨(some 31), (some (29, false)), (.pure .len), [(.tmp 30)]⟩, []⟩, ⟨0, ⟨(some 32), (some (29, false)), (.pure (.bin .gtr .none)), [(.tmp 31), (.const (.int .i64 100))]⟩, []⟩, ⟨0, ⟨(some 33), none, (.pure .pick), [(.tmp 29), (.const (.bool true)), (.tmp 32)]⟩, []⟩, ⟨0, ⟨(some 34), none, (.pure .id), [(.tmp 33)]⟩, []⟩, ⟨0, ⟨(some 35), (some (34, false)), (.pure .id), [(.tmp 3)]⟩, []⟩, ⟨0, ⟨(some 36), (some (34, false)), (.pure .len), [(.tmp 35)]⟩, []⟩, ⟨0, ⟨(some 37), (some (34, false)), (.pure (.bin .gtr .none)), [(.tmp 36), (.const (.int .i64 100))]⟩, []⟩, ⟨0, ⟨(some 38), none, (.pure .pick), [(.tmp 34), (.const (.bool true)), (.tmp 37)]⟩, []⟩, ⟨0, ⟨(some 39), none, (.pure .id), [(.tmp 38)]⟩, []⟩, ⟨0, ⟨(some 40), (some (39, false)), (.pure .id), [(.tmp 4)]⟩, []⟩, ⟨0, ⟨(some 41), (some (39, false)), (.pure .len), [(.tmp 40)]⟩, []⟩, ⟨0, ⟨(some 42), (some (39, false)), (.pure (.bin .gtr .none)), [(.tmp 41), (.const (.int .i64 100))]⟩, []⟩, ⟨0, ⟨(some 43), none, (.pure .pick), [(.tmp 39), (.const (.bool true)), (.tmp 42)]⟩, []⟩]) (.cond (.tmp 43) (.seq (.region [⟨0, ⟨(some 44), none, (.call F_skolemlaw06_works), []⟩, []⟩, ⟨0, ⟨(some 10), none, (.pure .id), [(.tmp 44)]⟩, []⟩]) .ret) .skip)) (.seq (.region [⟨0, ⟨(some 46), none, (.load (.load 2 true)), [(.tmp 5)]⟩, []⟩, ⟨0, ⟨(some 47), none, (.pure .id), [(.tmp 1)]⟩, []⟩, ⟨0, ⟨(some 48), none, (.pure .id), [(.tmp 4)]⟩, []⟩, ⟨0, ⟨(some 49), none, (.call F_aig_Compose), [(.tmp 46), (.tmp 47), (.tmp 48)]⟩, []⟩, ⟨0, ⟨(some 45), none, (.pure .id), [(.tmp 49)]⟩, []⟩, ⟨0, ⟨(some 50), none, (.pure (.extract 0)), [(.tmp 45)]⟩, []⟩, ⟨0, ⟨(some 51), none, (.pure (.extract 1)), [(.tmp 45)]⟩, []⟩, ⟨0, ⟨(some 52), none, (.pure (.extract 2)), [(.tmp 45)]⟩, []⟩, ⟨0, ⟨(some 11), none, (.new (.alloc [.nils, .nils])), []⟩, []⟩, ⟨0, ⟨none, none, (.imp (.store 2)), [(.tmp 11), (.tmp 50)]⟩, []⟩, ⟨0, ⟨(some 12), none, (.pure .id), [(.tmp 51)]⟩, []⟩, ⟨0, ⟨(some 13), none, (.pure .id), [(.tmp 52)]⟩, []⟩]) (.seq (.region [⟨0, ⟨(some 54), none, (.load (.load 2 true)), [(.tmp 5)]⟩, []⟩, ⟨0, ⟨(some 55), none, (.pure .id), [(.tmp 1)]⟩, []⟩, ⟨0, ⟨(some 56), none, (.pure .id), [(.tmp 4)]⟩, []⟩, ⟨0, ⟨(some 57), none, (.call F_skolemref06_Compose), [(.tmp 54), (.tmp 55), (.tmp 56)]⟩, []⟩, ⟨0, ⟨(some 53), none, (.pure .id), [(.tmp 57)]⟩, []⟩, ⟨0, ⟨(some 58), none, (.pure (.extract 0)), [(.tmp 53)]⟩, []⟩, ⟨0, ⟨(some 59), none, (.pure (.extract 1)), [(.tmp 53)]⟩, []⟩, ⟨0, ⟨(some 60), none, (.pure (.extract 2)), [(.tmp 53)]⟩, []⟩, ⟨0, ⟨(some 14), none, (.new (.alloc [.nils, .nils])), []⟩, []⟩, ⟨0, ⟨none, none, (.imp (.store 2)), [(.tmp 14), (.tmp 58)]⟩, []⟩, ⟨0, ⟨(some 15), none, (.pure .id), [(.tmp 59)]⟩, []⟩, ⟨0, ⟨(some 16), none, (.pure .id), [(.tmp 60)]⟩, []⟩]) (.seq (.region [⟨0, ⟨(some 62), none, (.load (.load 2 true)), [(.tmp 5)]⟩, []⟩, ⟨0, ⟨(some 63), none, (.pure .id), [(.tmp 1)]⟩, []⟩, ⟨0, ⟨(some 64), none, (.load (.load 2 true)), [(.tmp 7)]⟩, []⟩, ⟨0, ⟨(some 65), none, (.pure .id), [(.tmp 3)]⟩, []⟩, ⟨0, ⟨(some 66), none, (.call F_aig_Join), [(.tmp 62), (.tmp 63), (.tmp 64), (.tmp 65)]⟩, []⟩, ⟨0, ⟨(some 61), none, (.pure .id), [(.tmp 66)]⟩, []⟩, ⟨0, ⟨(some 67), none, (.pure (.extract 0)), [(.tmp 61)]⟩, []⟩, ⟨0, ⟨(some 68), none, (.pure (.extract 1)), [(.tmp 61)]⟩, []⟩, ⟨0, ⟨(some 69), none, (.pure (.extract 2)), [(.tmp 61)]⟩, []⟩, ⟨0, ⟨(some 70), none, (.pure (.extract 3)), [(.tmp 61)]⟩, []⟩, ⟨0, ⟨(some 17), none, (.new (.alloc [.nils, .nils])), []⟩, []⟩, ⟨0, ⟨none, none, (.imp (.store 2)), [(.tmp 17), (.tmp 67)]⟩, []⟩, ⟨0, ⟨(some 18), none, (.pure .id), [(.tmp 68)]⟩, []⟩, ⟨0, ⟨(some 19), none, (.pure .id), [(.tmp 69)]⟩, []⟩, ⟨0, ⟨(some 20), none, (.pure .id), [(.tmp 70)]⟩, []⟩]) (.seq (.region [⟨0, ⟨(some 72), none, (.load (.load 2 true)), [(.tmp 5)]⟩, []⟩, ⟨0, ⟨(some 73), none, (.pure .id), [(.tmp 1)]⟩, []⟩, ⟨0, ⟨(some 74), none, (.load (.load 2 true)), [(.tmp 7)]⟩, []⟩, ⟨0, ⟨(some 75), none, (.pure .id), [(.tmp 3)]⟩, []⟩, ⟨0, ⟨(some 76), none, (.call F_skolemref06_Join), [(.tmp 72), (.tmp 73), (.tmp 74), (.tmp 75)]⟩, []⟩, ⟨0, ⟨(some 71), none, (.pure .id), [(.tmp 76)]⟩, []⟩, ⟨0, ⟨(some 77), none, (.pure (.extract 0)), [(.tmp 71)]⟩, []⟩, ⟨0, ⟨(some 78), none, (.pure (.extract 1)), [(.tmp 71)]⟩, []⟩, ⟨0, ⟨(some 79), none, (.pure (.extract 2)), [(.tmp 71)]⟩, []⟩, ⟨0, ⟨(some 80), none, (.pure (.extract 3)), [(.tmp 71)]⟩, []⟩, ⟨0, ⟨(some 21), none, (.new (.alloc [.nils, .nils])), []⟩, []⟩, ⟨0, ⟨none, none, (.imp (.store 2)), [(.tmp 21), (.tmp 77)]⟩, []⟩, ⟨0, ⟨(some 22), none, (.pure .id), [(.tmp 78)]⟩, []⟩, ⟨0, ⟨(some 23), none, (.pure .id), [(.tmp 79)]⟩, []⟩, ⟨0, ⟨(some 24), none, (.pure .id), [(.tmp 80)]⟩, []⟩]) (.seq (.region [⟨0, ⟨(some 81), none, (.load (.load 2 true)), [(.tmp 11)]⟩, []⟩, ⟨0, ⟨(some 82), none, (.load (.load 2 true)), [(.tmp 14)]⟩, []⟩, ⟨0, ⟨(some 83), none, (.call F_skolemref06_Same), [(.tmp 81), (.tmp 82)]⟩, []⟩, ⟨0, ⟨(some 84), none, (.pure .id), [(.tmp 83)]⟩, []⟩, ⟨0, ⟨(some 85), (some (84, true)), (.pure .id), [(.tmp 12)]⟩, []⟩, ⟨0, ⟨(some 86), (some (84, true)), (.pure .id), [(.tmp 15)]⟩, []⟩, ⟨0, ⟨(some 87), (some (84, true)), (.call F_skolemref05_Ints), [(.tmp 85), (.tmp 86)]⟩, []⟩, ⟨0, ⟨(some 88), none, (.pure .pick), [(.tmp 84), (.tmp 87), (.const (.bool false))]⟩, []⟩, ⟨0, ⟨(some 89), none, (.pure .id), [(.tmp 88)]⟩, []⟩, ⟨0, ⟨(some 90), (some (89, true)), (.pure .id), [(.tmp 13)]⟩, []⟩, ⟨0, ⟨(some 91), (some (89, true)), (.pure .id), [(.tmp 16)]⟩, []⟩, ⟨0, ⟨(some 92), (some (89, true)), (.pure (.bin .eql .none)), [(.tmp 90), (.tmp 91)]⟩, []⟩, ⟨0, ⟨(some 93), none, (.pure .pick), [(.tmp 89), (.tmp 92), (.const (.bool false))]⟩, []⟩, ⟨0, ⟨(some 94), none, (.pure .id), [(.tmp 93)]⟩, []⟩, ⟨0, ⟨(some 95), (some (94, true)), (.load (.load 2 true)), [(.tmp 17)]⟩, []⟩, ⟨0, ⟨(some 96), (some (94, true)), (.load (.load 2 true)), [(.tmp 21)]⟩, []⟩, ⟨0, ⟨(some 97), (some (94, true)), (.call F_skolemref06_Same), [(.tmp 95), (.tmp 96)]⟩, []⟩, ⟨0, ⟨(some 98), none, (.pure .pick), [(.tmp 94), (.tmp 97), (.const (.bool false))]⟩, []⟩, ⟨0, ⟨(some 99), none, (.pure .id), [(.tmp 98)]⟩, []⟩, ⟨0, ⟨(some 100), (some (99, true)), (.pure .id), [(.tmp 18)]⟩, []⟩, ⟨0, ⟨(some 101), (some (99, true)), (.pure .id), [(.tmp 22)]⟩, []⟩, ⟨0, ⟨(some 102), (some (99, true)), (.call F_skolemref05_Ints), [(.tmp 100), (.tmp 101)]⟩, []⟩, ⟨0, ⟨(some 103), none, (.pure .pick), [(.tmp 99), (.tmp 102), (.const (.bool false))]⟩, []⟩, ⟨0, ⟨(some 104), none, (.pure .id), [(.tmp 103)]⟩, []⟩, ⟨0, ⟨(some 105), (some (104, true)), (.pure .id), [(.tmp 19)]⟩, []⟩, ⟨0, ⟨(some 106), (some (104, true)), (.pure .id), [(.tmp 23)]⟩, []⟩, ⟨0, ⟨(some 107), (some (104, true)), (.call F_skolemref05_Ints), [(.tmp 105), (.tmp 106)]⟩, []⟩, ⟨0, ⟨(some 108), none, (.pure .pick), [(.tmp 104), (.tmp 107), (.const (.bool false))]⟩, []⟩, ⟨0, ⟨(some 109), none, (.pure .id), [(.tmp 108)]⟩, []⟩, ⟨0, ⟨(some 110), (some (109, true)), (.pure .id), [(.tmp 20)]⟩, []⟩, ⟨0, ⟨(some 111), (some (109, true)), (.pure .id), [(.tmp 24)]⟩, []⟩, ⟨0, ⟨(some 112), (some (109, true)), (.pure (.bin .eql .none)), [(.tmp 110), (.tmp 111)]⟩, []⟩, ⟨0, ⟨(some 113), none, (.pure .pick), [(.tmp 109), (.tmp 112), (.const (.bool false))]⟩, []⟩, ⟨0, ⟨(some 114), none, (.pure .id), [(.tmp 113)]⟩, []⟩, ⟨0, ⟨(some 115), (some (114, true)), (.call F_skolemlaw06_works), []⟩, []⟩, ⟨0, ⟨(some 116), none, (.pure .pick), [(.tmp 114), (.tmp 115), (.const (.bool false))]⟩, []⟩, ⟨0, ⟨(some 10), none, (.pure .id), [(.tmp 116)]⟩, []⟩]) .ret)))))))⟩
theorem c_skolemlaw06_AigComposes : compF Tryz.prog Tryz.f6 = some G_skolemlaw06_AigComposes := by kernel_rfl
theorem gc_skolemlaw06_AigComposes {args : List DV} {σ : GS} {Post : DV → GS → Prop} (h : @exB Tryz.prog ⟨G_skolemlaw06_AigComposes.body⟩ (genv0 args G_skolemlaw06_AigComposes.ntmps) σ ⟨@gretB G_skolemlaw06_AigComposes.results ⟨Post⟩⟩) : GCall Tryz.prog F_skolemlaw06_AigComposes args σ Post := gcall_ofB seatfollows Tryz.func6 (by kernel_rfl) c_skolemlaw06_AigComposes h
end Go.Gh
namespace Go.Gh
open Go.RowKit Go.Sort Go.Shelf Go.Proofs
set_option linter.unusedVariables false
set_option linter.unusedSimpArgs false
abbrev F_Sort : FuncId := 103
def sort_ren : Go.Shelf.Ren := ⟨fun | 189 => 103 | 125 => 163 | 257 => 162 | 128 => 185 | 129 => 186 | 294 => 176 | 295 => 177 | 296 => 178 | 297 => 179 | 298 => 180 | 299 => 181 | 216 => 182 | 300 => 183 | 301 => 184 | 328 => 192 | 329 => 193 | 330 => 194 | 331 => 195 | 332 => 196 | 215 => 197 | 343 => 198 | n => n, fun | 28 => 22 | 3 => 3 | 46 => 164 | 0 => 0 | 51 => 195 | 53 => 197 | 4 => 4 | 183 => 188 | 182 => 187 | 131 => 120 | 5 => 5 | 9 => 9 | 218 => 199 | 222 => 203 | 228 => 205 | 229 => 44 | n => n, fun | n => n⟩
theorem sort_lays : Go.Proofs.Lays.n189 Tryz.prog sort_ren := {
  mixed := by kernel_rfl
  f125 := Tryz.func163.trans (congrArg some (by kernel_rfl))
  f128 := Tryz.func185.trans (congrArg some (by kernel_rfl))
  f129 := Tryz.func186.trans (congrArg some (by kernel_rfl))
  f189 := Tryz.func103.trans (congrArg some (by kernel_rfl))
  f215 := Tryz.func197.trans (congrArg some (by kernel_rfl))
  f216 := Tryz.func182.trans (congrArg some (by kernel_rfl))
  f257 := Tryz.func162.trans (congrArg some (by kernel_rfl))
  f294 := Tryz.func176.trans (congrArg some (by kernel_rfl))
  f295 := Tryz.func177.trans (congrArg some (by kernel_rfl))
  f296 := Tryz.func178.trans (congrArg some (by kernel_rfl))
  f297 := Tryz.func179.trans (congrArg some (by kernel_rfl))
  f298 := Tryz.func180.trans (congrArg some (by kernel_rfl))
  f299 := Tryz.func181.trans (congrArg some (by kernel_rfl))
  f300 := Tryz.func183.trans (congrArg some (by kernel_rfl))
  f301 := Tryz.func184.trans (congrArg some (by kernel_rfl))
  f328 := Tryz.func192.trans (congrArg some (by kernel_rfl))
  f329 := Tryz.func193.trans (congrArg some (by kernel_rfl))
  f330 := Tryz.func194.trans (congrArg some (by kernel_rfl))
  f331 := Tryz.func195.trans (congrArg some (by kernel_rfl))
  f332 := Tryz.func196.trans (congrArg some (by kernel_rfl))
  f343 := Tryz.func198.trans (congrArg some (by kernel_rfl))
  t0 := Tryz.underlying0
  a0 := Tryz.isAgg0
  z0 := Tryz.sizeOf0
  v0 := Tryz.zeroValue0
  t3 := Tryz.underlying3
  a3 := Tryz.isAgg3
  z3 := Tryz.sizeOf3
  v3 := Tryz.zeroValue3
  t4 := Tryz.underlying4
  a4 := Tryz.isAgg4
  z4 := Tryz.sizeOf4
  v4 := Tryz.zeroValue4
  t5 := Tryz.underlying5
  a5 := Tryz.isAgg5
  z5 := Tryz.sizeOf5
  v5 := Tryz.zeroValue5
  t9 := Tryz.underlying9
  a9 := Tryz.isAgg9
  z9 := Tryz.sizeOf9
  v9 := Tryz.zeroValue9
  t28 := Tryz.underlying22
  a28 := Tryz.isAgg22
  z28 := Tryz.sizeOf22
  v28 := Tryz.zeroValue22
  t46 := Tryz.underlying164
  a46 := Tryz.isAgg164
  z46 := Tryz.sizeOf164
  v46 := Tryz.zeroValue164
  t51 := Tryz.underlying195
  a51 := Tryz.isAgg195
  z51 := Tryz.sizeOf195
  v51 := Tryz.zeroValue195
  t53 := Tryz.underlying197
  a53 := Tryz.isAgg197
  z53 := Tryz.sizeOf197
  v53 := Tryz.zeroValue197
  t131 := Tryz.underlying120
  a131 := Tryz.isAgg120
  z131 := Tryz.sizeOf120
  v131 := Tryz.zeroValue120
  t182 := Tryz.underlying187
  a182 := Tryz.isAgg187
  z182 := Tryz.sizeOf187
  v182 := Tryz.zeroValue187
  t183 := Tryz.underlying188
  a183 := Tryz.isAgg188
  z183 := Tryz.sizeOf188
  v183 := Tryz.zeroValue188
  t218 := Tryz.underlying199
  a218 := Tryz.isAgg199
  z218 := Tryz.sizeOf199
  v218 := Tryz.zeroValue199
  t222 := Tryz.underlying203
  a222 := Tryz.isAgg203
  z222 := Tryz.sizeOf203
  v222 := Tryz.zeroValue203
  t228 := Tryz.underlying205
  a228 := Tryz.isAgg205
  z228 := Tryz.sizeOf205
  v228 := Tryz.zeroValue205
  t229 := Tryz.underlying44
  a229 := Tryz.isAgg44
  z229 := Tryz.sizeOf44
  v229 := Tryz.zeroValue44 }
theorem sortC : SortC Tryz.prog F_Sort :=
  ⟨fun blk off cap zs w h1 h2 h3 => Any.slices_Sort_int sort_lays blk off cap zs w h1 h2 h3, fun p cap w => Any.slices_Sort_int_none sort_lays p cap w⟩
theorem sortX : ∃ fn, Tryz.prog.funcs[F_Sort]? = some fn ∧ (fn.name == "runtime.NumGoroutine") = false ∧ fn.body.isSome = true :=
  ⟨Tryz.f103, Tryz.func103, by decide, rfl⟩
end Go.Gh
namespace Go.Gh
open Go.RowKit Go.Proofs
set_option linter.unusedVariables false
set_option linter.unusedSimpArgs false
set_option maxRecDepth 100000
@[simp] theorem gp_cap_nils : gpure .cap [.nils] = some (.int .i64 0) := rfl
def NoCap : DV → Prop
  | .slice _ _ _ _ (some _) => False
  | _ => True
theorem append_nocap {sz b : Nat} {s x s' : DV} {σ σ' : GS} (hs : NoCap s) (h : gimp (.append sz b) [s, x] σ = some (s', σ')) : NoCap s' := by
  simp only [gimp, gappend] at h
  split at h
  · cases h
  rename_i new hr
  cases s with
  | slice id off len sz' cap =>
    cases cap with
    | some c => exact absurd hs (by simp [NoCap])
    | none =>
      simp only at h
      split at h
      · cases h; exact hs
      split at h
      · split at h
        · split at h
          · cases h; exact trivial
          · cases h
        · cases h
      · cases h
  | nils =>
    simp only at h
    split at h
    · cases h; exact hs
    split at h
    · cases h; exact trivial
    · cases h
  | fsl z es =>
    simp only at h
    split at h
    · cases h; exact hs
    · cases h
  | _ => simp at h
theorem slices_Grow_ok {n : Nat} {σ : GS} {Post : DV → GS → Prop} (hn : n < 2 ^ 40) (k : ∀ s σ', Own σ.length 1 eint σ' s [] → Fr σ.length σ σ' → NoCap s → Post s σ') : GCall Tryz.prog F_slices_Grow_int_int [.nils, .int .i64 n] σ Post := by
  refine gc_slices_Grow_int_int ?_
  have ew : IntKind.i64.wrap (n : Int) = n := by rw [wrap_small] <;> omega
  by_cases h0 : n = 0
  · subst h0
    simp [G_slices_Grow_int_int, genv0, List.replicate]
    exact k _ _ .nil .rfl' trivial
  · have hneg : ¬ ((n : Int) < 0) := by omega
    have hpos : (0 : Int) < n := by omega
    have haz : gimp (.appendz 1 8 [.int .i64 0]) [.nils, .int .i64 n] σ = some (.slice σ.length 0 n 1 none, σ ++ [.row false (List.replicate n (.int .i64 0))]) := by
      have hg : growOk n 8 = true := by simp [growOk]; omega
      simp [gimp, h0, hpos, hg, gzeros]
    have hs0 : gpure (.slice 1 false true false) [.nils, .int .i64 0] = some .nils := rfl
    have hsl : gpure (.slice 1 false true false) [.slice σ.length 0 n 1 none, .int .i64 0] = some (.slice σ.length 0 0 1 none) := by
      simp [gpure, gslice, gbm, gbh, gbl, gbound]
    simp [G_slices_Grow_int_int, genv0, List.replicate, ew, hneg, hpos, (show 0 < n by omega), hs0, haz, hsl]
    exact k _ _ (.inr ⟨σ.length, none, List.replicate n (.int .i64 0), Nat.le_refl _, rfl, by simp, by simp⟩) (Fr.self [.row false (List.replicate n (.int .i64 0))]) trivial
theorem slices_Concat_ok {a b : List Int} {id : Nat} {cap : Option Nat} {σ : GS} {Post : DV → GS → Prop} (ha : a.length < 2 ^ 30) (hb : b.length < 2 ^ 30) (hr : σ[id]? = some (.row false [fints a, fints b]))
    (k : ∀ s σ', Own σ.length 1 eint σ' s (a ++ b) → Fr σ.length σ σ' → NoCap s → Post s σ') : GCall Tryz.prog F_slices_Concat_int_int [.slice id 0 2 1 cap] σ Post := by
  refine gc_slices_Concat_int_int ?_
  have hid := get_dom hr
  have ld0 : ∀ τ : GS, Fr σ.length σ τ → gload (.load 1 false) [.ptr id 0] τ = some (fints a) ∧ gload (.load 1 false) [.ptr id 1] τ = some (fints b) := fun τ h => by
    have := (h.get _ hid).trans hr
    exact ⟨ld_at this, ld_at this⟩
  obtain ⟨l0, l1⟩ := ld0 σ .rfl'
  have ia : ∀ (i : Nat), i < 2 → gpure (.iaddr 1) [.slice id 0 2 1 cap, .int .i64 (i : Int)] = some (.ptr id i) := fun i hi => by
    have := iaddr_own (id := id) (n := 2) (sz := 1) (i := i) (k := .i64) (cap := cap) hi
    simpa using this
  have ia0 := ia 0 (by omega)
  have ia1 := ia 1 (by omega)
  simp at ia0 ia1
  simp [G_slices_Concat_int_int, genv0, List.replicate]
  refine gfor 2 (fun i e σ' => σ' = σ ∧ e = mkEnv 36 [(0, .slice id 0 2 1 cap), (3, .int .i64 (if i = 0 then 0 else if i = 1 then a.length else a.length + b.length)), (9, .slice id 0 2 1 cap), (10, .int .i64 2), (11, .int .i64 i)]) _ ?_ ⟨rfl, rfl⟩ ?_
  · simp [mkEnv, List.replicate]
  rintro i _ σz hi ⟨hσz, rfl⟩
  rw [hσz]
  clear hσz σz
  have ew : IntKind.i64.wrap (a.length : Int) = a.length := by rw [wrap_small] <;> omega
  have ew2 : IntKind.i64.wrap ((a.length : Int) + b.length) = a.length + b.length := by rw [wrap_small] <;> omega
  have n1 : ¬ ((a.length : Int) < 0) := by omega
  have n2 : ¬ ((a.length : Int) + b.length < 0) := by omega
  simp [mkEnv, List.replicate]
  rcases (show i = 0 ∨ i = 1 ∨ i = 2 by omega) with rfl | rfl | rfl
  · simp [ia0, l0, ew, n1]
    exact forK_go _ (by omega) (by simp [mkEnv, List.replicate]) ⟨rfl, rfl⟩
  · simp [ia1, l1, ew2, n2, show IntKind.i64.wrap 2 = 2 from by decide]
    exact forK_go _ (by omega) (by simp [mkEnv, List.replicate]) ⟨rfl, rfl⟩
  · simp
    rw [show ((a.length : Int) + b.length) = ((a.length + b.length : Nat) : Int) by omega]
    refine slices_Grow_ok (by omega) fun s σ1 hO hF hN => ?_
    simp
    have happ : ∀ (τ : GS) (s : DV) (xs ys : List Int), Own σ.length 1 eint τ s xs → Fr σ.length σ τ → NoCap s → xs.length + ys.length < 2 ^ 40 → ∃ s' τ', gimp (.append 1 8) [s, fints ys] τ = some (s', τ') ∧ Own σ.length 1 eint τ' s' (xs ++ ys) ∧ Fr σ.length σ τ' ∧ NoCap s' := fun τ s xs ys hO hF hN hl => by
      obtain ⟨s', τ', q1, q2, q3, q4, _⟩ := hO.append (by_ := 8) (x := fints ys) (ys := ys) (fun _ => rfl) (by simp [gread]; exact flatMap_flatten eint ys) (by simp [glen]) (by simp) hF.len (by omega) (by decide)
      exact ⟨s', τ', q1, q2, hF.trans q3, append_nocap hN q1⟩
    refine gfor 2 (fun i e σ' => ∃ s, e = mkEnv 36 [(6, s), (25, .slice id 0 2 1 cap), (26, .int .i64 2), (27, .int .i64 i)] ∧ Own σ.length 1 eint σ' s (if i = 0 then [] else if i = 1 then a else a ++ b) ∧ Fr σ.length σ σ' ∧ NoCap s) _ ?_ ⟨s, rfl, hO, hF, hN⟩ ?_
    · simp [mkEnv, List.replicate]
    clear hO hF hN s σ1
    rintro i σ1 _ hi ⟨s, rfl, hO, hF, hN⟩
    obtain ⟨l0, l1⟩ := ld0 _ hF
    simp [mkEnv, List.replicate]
    rcases (show i = 0 ∨ i = 1 ∨ i = 2 by omega) with rfl | rfl | rfl
    · obtain ⟨s', τ', q1, q2, q3, q4⟩ := happ _ _ _ a hO hF hN (by simp; omega)
      simp [ia0, l0, q1]
      exact forK_go _ (by omega) (by simp [mkEnv, List.replicate]) ⟨s', rfl, by simpa using q2, q3, q4⟩
    · obtain ⟨s', τ', q1, q2, q3, q4⟩ := happ _ _ _ b hO hF hN (by simp; omega)
      simp [ia1, l1, q1, show IntKind.i64.wrap 2 = 2 from by decide]
      exact forK_go _ (by omega) (by simp [mkEnv, List.replicate]) ⟨s', rfl, by simpa using q2, q3, q4⟩
    · simp
      exact k _ _ (by simpa using hO) hF hN
end Go.Gh
namespace Go.Gh
open Go.RowKit Go.Proofs
set_option linter.unusedVariables false
set_option linter.unusedSimpArgs false
set_option maxRecDepth 100000
theorem compact_snoc (x y : Int) : ∀ l : List Int, compactI (l ++ [x, y]) = if x = y then compactI (l ++ [x]) else compactI (l ++ [x]) ++ [y] := by
  by_cases h : x = y
  · subst h
    intro l
    rw [if_pos rfl]
    induction l with
    | nil => simp [compactI]
    | cons a l ih =>
      cases l with
      | nil => simp [compactI]
      | cons b l =>
        simp only [List.cons_append, compactI] at ih ⊢
        rw [ih]
  · intro l
    rw [if_neg h]
    induction l with
    | nil => simp [compactI, h]
    | cons a l ih =>
      cases l with
      | nil =>
        simp only [List.cons_append, List.nil_append, compactI, if_neg h]
        split <;> rfl
      | cons b l =>
        simp only [List.cons_append, compactI] at ih ⊢
        rw [ih]
        split <;> rfl
theorem compact_take {xs : List Int} {m : Nat} {x y : Int} (hx : xs[m]? = some x) (hy : xs[m + 1]? = some y) : compactI (xs.take (m + 2)) = if x = y then compactI (xs.take (m + 1)) else compactI (xs.take (m + 1)) ++ [y] := by
  rw [take_get hy, take_get hx, List.append_assoc]
  exact compact_snoc x y _
theorem slice_lo {id off L k : Nat} (h : k ≤ L) : gpure (.slice 1 true false false) [.slice id off L 1 none, .int .i64 (k : Int)] = some (.slice id (off + k) (L - k) 1 none) := by
  simp [gpure, gslice, gbm, gbh, gbl, gbound, h]
theorem slice_hi {id off L k : Nat} (h : k ≤ L) : gpure (.slice 1 false true false) [.slice id off L 1 none, .int .i64 (k : Int)] = some (.slice id off k 1 none) := by
  simp [gpure, gslice, gbm, gbh, gbl, gbound, h]
theorem iaddr_off {id off n i : Nat} {k : IntKind} {cap : Option Nat} (h : i < n) : gpure (.iaddr 1) [.slice id off n 1 cap, .int k (i : Int)] = some (.ptr id (off + i)) := by
  have : ((i : Int) < n) := by omega
  simp [gpure, this]
set_option maxHeartbeats 1000000 in
theorem slices_Compact_ok {n : Nat} {s : DV} {xs : List Int} {σ : GS} {Post : DV → GS → Prop} (hO : Own n 1 eint σ s xs) (hN : NoCap s) (hl : xs.length < 2 ^ 40) (hn : n ≤ σ.length)
    (k : ∀ s' σ', Own n 1 eint σ' s' (compactI xs) → Fr n σ σ' → Post s' σ') : GCall Tryz.prog F_slices_Compact_int_int [s] σ Post := by
  refine gc_slices_Compact_int_int ?_
  rcases hO with ⟨rfl, rfl⟩ | ⟨id, cap, rest, h1, rfl, h3, h4⟩
  · simp [G_slices_Compact_int_int, genv0, List.replicate]
    exact k _ _ .nil (.refl hn)
  cases cap with
  | some c => exact absurd hN (by simp [NoCap])
  | none =>
  have hid := get_dom h3
  have hfm : ∀ l : List Int, l.flatMap eint = ints l := fun l => by
    induction l with
    | nil => rfl
    | cons x l ih => rw [List.flatMap_cons, ih]; rfl
  have hcs : ∀ (j : Nat) (x : Int), xs[j]? = some x → (xs.flatMap eint ++ rest)[j]? = some (.int .i64 x) := fun j x hj => by
    have hjl := get_dom hj
    rw [hfm, List.getElem?_append_left (by simpa using hjl)]
    simp [hj]
  have hrow : ∀ (j : Nat) (x : Int), xs[j]? = some x → gload (.load 1 false) [.ptr id j] σ = some (.int .i64 x) := fun j x hj => by
    rw [ld_at h3]; exact hcs j x hj
  have same : ∀ {τ : DV}, compactI xs = xs → Post (.slice id 0 xs.length 1 none) σ := fun h => k _ _ (by rw [h]; exact .inr ⟨id, none, rest, h1, rfl, h3, fun c e => by cases e⟩) (.refl hn)
  by_cases c2 : xs.length < 2
  · have c2' : ((xs.length : Int) < 2) := by omega
    simp [G_slices_Compact_int_int, genv0, List.replicate, c2']
    refine same (τ := .nils) ?_
    match xs, c2 with
    | [], _ => rfl
    | [x], _ => rfl
  have c2' : ¬ ((xs.length : Int) < 2) := by omega
  simp [G_slices_Compact_int_int, genv0, List.replicate, c2']
  refine gfor xs.length (fun i e σ' => σ' = σ ∧ e = mkEnv 61 [(0, .slice id 0 xs.length 1 none), (3, .int .i64 ((i : Int) + 1))] ∧ compactI (xs.take (i + 1)) = xs.take (i + 1) ∧ i + 1 ≤ xs.length) _ ?_ ⟨rfl, rfl, ?_, by omega⟩ ?_
  · simp [mkEnv, List.replicate]
  · match xs with
    | [] => rfl
    | x :: xs => rfl
  rintro i _ σz hi ⟨hσz, rfl, hI, hik⟩
  rw [hσz]
  clear hσz σz
  simp [mkEnv, List.replicate]
  by_cases hlt : i + 1 < xs.length
  · obtain ⟨x, hx⟩ := get_lt (xs := xs) (i := i) (by omega)
    obtain ⟨y, hy⟩ := get_lt (xs := xs) (i := i + 1) (by omega)
    have hlt' : ((i : Int) + 1 < xs.length) := by omega
    have ia0 := iaddr_off (id := id) (off := 0) (n := xs.length) (i := i) (k := .i64) (cap := none) (by omega)
    have ia1 := iaddr_off (id := id) (off := 0) (n := xs.length) (i := i + 1) (k := .i64) (cap := none) (by omega)
    have l0 := hrow _ _ hx
    have l1 := hrow _ _ hy
    have hct := compact_take hx hy
    have ew : IntKind.i64.wrap ((i : Int) + 1 + 1) = (i : Int) + 1 + 1 := by rw [wrap_small] <;> omega
    have em : IntKind.i64.wrap (i : Int) = (i : Int) := by rw [wrap_small] <;> omega
    simp at ia0 ia1
    simp [hlt', ia0, ia1, l0, l1, em]
    by_cases hxy : y = x
    · have hsl := slice_lo (id := id) (off := 0) (L := xs.length) (k := i + 1) (by omega)
      simp at hsl
      simp [hxy, hsl]
      have hC0 : compactI (xs.take (i + 2)) = xs.take (i + 1) := by rw [hct, if_pos hxy.symm, hI]
      refine gfor xs.length (fun i2 e σ' => ∃ cs kk, e = mkEnv 61 [(0, .slice id 0 xs.length 1 none), (3, .int .i64 (kk : Nat)), (4, .slice id (i + 1) (xs.length - (i + 1)) 1 none), (5, .int .i64 ((i2 : Int) + 1))] ∧
          σ'[id]? = some (.row false cs) ∧ Fr n σ σ' ∧ cs.length = xs.length + rest.length ∧ kk = (compactI (xs.take (i + i2 + 2))).length ∧ cs.take kk = ints (compactI (xs.take (i + i2 + 2))) ∧ (∀ (j : Nat) (x : Int), kk ≤ j → xs[j]? = some x → cs[j]? = some (.int .i64 x)) ∧ i + i2 + 2 ≤ xs.length ∧ kk ≤ i + i2 + 1) _ ?_
          ⟨xs.flatMap eint ++ rest, i + 1, rfl, h3, .refl hn, by simp [hfm], ?_, ?_, fun j x _ hj => hcs j x hj, by omega, by omega⟩ ?_
      · simp [mkEnv, List.replicate]
      · rw [Nat.add_zero, hC0]; simp; omega
      · rw [Nat.add_zero, hC0, hfm, List.take_append_of_le_length (by simp; omega)]; simp
      rintro i2 _ σ' hi2 ⟨cs, kk, rfl, r1, r2, r3, r4, r5, r6, r7, r8⟩
      have hid' := get_dom r1
      simp [mkEnv, List.replicate]
      by_cases hlt2 : i + i2 + 2 < xs.length
      · obtain ⟨u, hu⟩ := get_lt (xs := xs) (i := i + i2 + 1) (by omega)
        obtain ⟨v, hv⟩ := get_lt (xs := xs) (i := i + i2 + 2) (by omega)
        have hct2 := compact_take hu hv
        have q0 := iaddr_off (id := id) (off := i + 1) (n := xs.length - (i + 1)) (i := i2) (k := .i64) (cap := none) (by omega)
        have q1 := iaddr_off (id := id) (off := i + 1) (n := xs.length - (i + 1)) (i := i2 + 1) (k := .i64) (cap := none) (by omega)
        have m0 : gload (.load 1 false) [.ptr id (i + 1 + i2)] σ' = some (.int .i64 u) := by
          rw [ld_at r1]; exact r6 _ _ (by omega) (by rw [show i + 1 + i2 = i + i2 + 1 by omega]; exact hu)
        have m1 : gload (.load 1 false) [.ptr id (i + 1 + (i2 + 1))] σ' = some (.int .i64 v) := by
          rw [ld_at r1]; exact r6 _ _ (by omega) (by rw [show i + 1 + (i2 + 1) = i + i2 + 2 by omega]; exact hv)
        have hlt2' : ((i2 : Int) + 1 < ((xs.length - (i + 1) : Nat) : Int)) := by omega
        have ew2 : IntKind.i64.wrap ((i2 : Int) + 1 + 1) = (i2 : Int) + 1 + 1 := by rw [wrap_small] <;> omega
        have em2 : IntKind.i64.wrap (i2 : Int) = (i2 : Int) := by rw [wrap_small] <;> omega
        have ek : IntKind.i64.wrap ((kk : Int) + 1) = ((kk + 1 : Nat) : Int) := by rw [wrap_small] <;> omega
        simp at q0 q1
        have ck := hlt2'
        by_cases huv : v = u
        · simp [ck, q0, q1, m0, m1, em2, huv, ew2]
          refine forK_go _ (by omega) (by simp [mkEnv, List.replicate]) ⟨cs, kk, rfl, r1, r2, r3, ?_, ?_, r6, by omega, by omega⟩
          · rw [show i + (i2 + 1) + 2 = i + i2 + 1 + 2 by omega, hct2, if_pos huv.symm]; exact r4
          · rw [show i + (i2 + 1) + 2 = i + i2 + 1 + 2 by omega, hct2, if_pos huv.symm]; exact r5
        · have q2 := iaddr_off (id := id) (off := 0) (n := xs.length) (i := kk) (k := .i64) (cap := none) (by omega)
          have hst : gimp (.store 1) [.ptr id kk, .int .i64 v] σ' = some (.tuple [], σ'.set id (.row false (cs.set kk (.int .i64 v)))) := by
            simp only [gimp, r1, DV.cells]
            rw [if_pos ⟨rfl, by show kk + 1 ≤ cs.length; omega, rfl⟩, over_one (by omega)]
          simp at q2
          simp [ck, q0, q1, m0, m1, em2, huv, ew2, q2, hst, ek]
          refine forK_go _ (by omega) (by simp [mkEnv, List.replicate]) ⟨cs.set kk (.int .i64 v), kk + 1, rfl, List.getElem?_set_self hid', r2.set h1 _, by simp [r3], ?_, ?_, fun j x hj hx => ?_, by omega, by omega⟩
          · rw [show i + (i2 + 1) + 2 = i + i2 + 1 + 2 by omega, hct2, if_neg (fun e => huv e.symm)]; simp [r4]
          · rw [show i + (i2 + 1) + 2 = i + i2 + 1 + 2 by omega, hct2, if_neg (fun e => huv e.symm)]
            rw [List.take_add_one, List.getElem?_set_self (by omega), List.take_set_of_le (Nat.le_refl _), r5]
            simp
          · rw [List.getElem?_set_ne (by omega)]; exact r6 j x (by omega) hx
      · have hlt2' : ¬ ((i2 : Int) + 1 < ((xs.length - (i + 1) : Nat) : Int)) := by omega
        have ck := hlt2'
        have he : i + i2 + 2 = xs.length := by omega
        rw [he, List.take_length] at r4 r5
        have hsl2 := slice_lo (id := id) (off := 0) (L := xs.length) (k := kk) (by omega)
        have hsh2 := slice_hi (id := id) (off := 0) (L := xs.length) (k := kk) (by omega)
        have hcl : gimp (.clear 1 [.int .i64 0]) [.slice id kk (xs.length - kk) 1 none] σ' = some (.tuple [], σ'.set id (.row false (over cs kk (List.replicate (xs.length - kk) (.int .i64 0))))) := by
          have g0 : ¬ (xs.length - kk = 0) := by omega
          have g1 : kk + (xs.length - kk) ≤ cs.length := by omega
          simp [gimp, gzeros, r1, g0, g1]
        simp at hsl2
        simp [ck, hsl2, hcl, hsh2]
        refine k _ _ (.inr ⟨id, none, (over cs kk (List.replicate (xs.length - kk) (.int .i64 0))).drop kk, h1, by rw [r4], ?_, fun c e => by cases e⟩) (r2.set h1 _)
        rw [List.getElem?_set_self hid', hfm, ← r5]
        congr 2
        unfold over
        rw [List.drop_left' (by simp; omega)]
    · simp [hxy, ew]
      refine forK_go (mkEnv 61 [(0, .slice id 0 xs.length 1 none), (3, .int .i64 ((i : Int) + 1 + 1))]) (by omega) (by simp [mkEnv, List.replicate]) ⟨rfl, by rw [Int.natCast_add]; rfl, ?_, by omega⟩
      rw [hct, if_neg (fun e => hxy e.symm), hI, take_get hy]
  · have : i + 1 = xs.length := by omega
    have hlt' : ¬ ((i : Int) + 1 < xs.length) := by omega
    rw [this, List.take_length] at hI
    simp [hlt']
    exact same (τ := .nils) hI
end Go.Gh
namespace Go.Gh
open Go.RowKit Go.Proofs
set_option linter.unusedVariables false
set_option linter.unusedSimpArgs false
set_option maxRecDepth 100000
@[simp] theorem gres_c4 (env : Env) (σ : GS) (t u x z : Tmp) (n : Nat) (b : Bool) : gresL env σ [.cell t n b, .tmp u, .tmp x, .tmp z] = (gload (.load n b) [env[t]?.getD (.tuple [])] σ).map fun v => [v, env[u]?.getD (.tuple []), env[x]?.getD (.tuple []), env[z]?.getD (.tuple [])] := by
  simp only [gresL, gres1, garg]
  cases gload (.load n b) [env[t]?.getD (.tuple [])] σ <;> rfl
abbrev JOut.enc (o : JOut) : DV := .tuple [o.g.enc, fints o.u, fints o.v, .int .i64 o.e]
theorem closed_jout (o : JOut) : (JOut.enc o).closed = true := by simp
theorem rd_jerr (σ : GS) (ok : Nat → Prop) (e : Int) : Rd σ ok (.tuple [.agg [.nils, .nils], .nils, .nils, .int .i64 e]) (JOut.enc ⟨⟨[], []⟩, [], [], e⟩) :=
  .tuple (.cons (.agg (.cons (.nils 1) (.cons (.nils 2) .nil))) (.cons (.nils 1) (.cons (.nils 1) (.cons (.same _) .nil))))
set_option maxHeartbeats 2000000 in
theorem aig_Join_ok {a b : AigP} {x y : List Int} {σ : GS} {Post : DV → GS → Prop} (ha : a.Sm) (hb : b.Sm) (hx : x.length < 2 ^ 40) (hy : y.length < 2 ^ 40) (hsz : a.nodes + b.nodes ≤ 200000) (h : Post (JOut.enc (a.join x b y)) σ) :
    GCall Tryz.prog F_aig_Join [a.enc, fints x, b.enc, fints y] σ Post := by
  refine GCall.pure (r := JOut.enc (a.join x b y)) ?_ (closed_jout _) h
  refine gc_aig_Join ?_
  have hna : a.nodes = 1 + a.ins.length + a.ands.length := rfl
  have hnb : b.nodes = 1 + b.ins.length + b.ands.length := rfl
  simp [G_aig_Join, genv0, List.replicate, galloc]
  refine aig_all_ok ha (by omega) ?_
  by_cases c1 : a.all x = true
  rotate_left
  · have : a.join x b y = ⟨⟨[], []⟩, [], [], 2⟩ := by unfold AigP.join; rw [if_neg (by simp [c1])]
    rw [this]
    simp [c1]
    exact rd_jerr _ _ _
  simp [c1]
  refine aig_all_ok hb (by omega) ?_
  by_cases c2 : b.all y = true
  rotate_left
  · have : a.join x b y = ⟨⟨[], []⟩, [], [], 2⟩ := by unfold AigP.join; rw [if_neg (by simp [c2])]
    rw [this]
    simp [c2]
    exact rd_jerr _ _ _
  simp [c2, galloc, gfill, DV.cells, over, gzeros, List.replicate]
  have hmayA := AigP.all_may c1
  have hmayB := AigP.all_may c2
  have hinsA := AigP.may_ins hmayA
  have hinsB := AigP.may_ins hmayB
  obtain ⟨τ0, hτ0⟩ : ∃ τ0, σ ++ [.row false [fints a.ins, fands a.ands], .row false [fints b.ins, fands b.ands], .row false [.nils, .nils], .row false [fints a.ins, fints b.ins]] = τ0 := ⟨_, rfl⟩
  have hl0 : τ0.length = σ.length + 4 := by rw [← hτ0]; simp
  have hA0 : τ0[σ.length]? = some (.row false [fints a.ins, fands a.ands]) := by rw [← hτ0]; simp
  have hB0 : τ0[σ.length + 1]? = some (.row false [fints b.ins, fands b.ands]) := by rw [← hτ0]; simp
  have hC0 : τ0[σ.length + 2]? = some (.row false [.nils, .nils]) := by rw [← hτ0]; simp
  have hD0 : τ0[σ.length + 3]? = some (.row false [fints a.ins, fints b.ins]) := by rw [← hτ0]; simp
  have hF0 : Fr σ.length σ τ0 := by rw [← hτ0]; exact Fr.self _
  rw [hτ0]
  clear hτ0
  refine slices_Concat_ok (by omega) (by omega) hD0 fun s1 σ1 hO1 hF1 hN1 => ?_
  rw [hl0] at hO1 hF1
  simp
  refine GCall.mono (Own.sort sortC sortX hO1 (by simp; omega) hF1.len) ?_
  rintro _ σ2 ⟨rfl, hO2, hF2, hl2, hk2⟩
  simp
  refine slices_Compact_ok hO2 hN1 (by simp; omega) hF2.len fun s3 σ3 hO3 hF3 => ?_
  rw [compact_sort (insOk_asc hinsA).1 (insOk_asc hinsB).1] at hO3
  obtain ⟨U, hU⟩ : ∃ U, unionI a.ins b.ins = U := ⟨_, rfl⟩
  have hUl : U.length ≤ a.ins.length + b.ins.length := by rw [← hU]; exact unionI_len _ _
  have hUn : U.Nodup := by
    rw [← hU]
    exact (asc_unionI _ _ (insOk_asc hinsA).1 (insOk_asc hinsB).1).imp fun h => by omega
  have hUa : ∀ v ∈ a.ins, v ∈ U := fun v hv => by rw [← hU, mem_unionI]; exact .inl hv
  have hUb : ∀ v ∈ b.ins, v ∈ U := fun v hv => by rw [← hU, mem_unionI]; exact .inr hv
  have hspec : a.join x b y = (let c := (Mk.mk U [] false).copy a (a.reach x) (0 :: a.ins.map (edgeOf U))
    let d := c.2.copy b (b.reach y) (0 :: b.ins.map (edgeOf U))
    ⟨d.2.graph, x.map (imgE c.1), y.map (imgE d.1), 0⟩) := by
    unfold AigP.join
    rw [if_pos (by simp [c1, c2]), hU]
  rw [hU] at hO3
  clear hU
  have hF03 : Fr (σ.length + 4) τ0 σ3 := hF1.trans (hF2.trans hF3)
  have hl3 : σ.length + 4 ≤ σ3.length := hF3.len
  have hb3 : ∀ j, j < σ.length + 4 → σ3[j]? = τ0[j]? := fun j hj => hF03.get j hj
  have hgf : gfill [(0, 1)] [DV.nils, DV.nils] [s3] = some [s3, .nils] := by
    rcases hO3 with ⟨rfl, _⟩ | ⟨_, _, _, _, rfl, _⟩ <;> simp [gfill, DV.cells, over]
  simp [hgf]
  have hoff : ∀ j, ¬ s3.has j → (frz (fun i => s3.idOf == some i) σ3)[j]? = σ3[j]? := fun j hj => frz_off (hO3.idOf_has hj)
  have hl4 : (frz (fun i => s3.idOf == some i) σ3).length = σ3.length := by rw [frz_len]
  refine GCall.frz (fun i => s3.idOf == some i) (args' := [AigP.enc ⟨U, []⟩]) (.cons (.agg (.cons (hO3.rdF fun _ => rfl) (.cons (.nils 2) .nil))) .nil) ?_
  obtain ⟨σ4, hσ4⟩ : ∃ σ4, frz (fun i => s3.idOf == some i) σ3 = σ4 := ⟨_, rfl⟩
  rw [hσ4] at hoff hl4 ⊢
  have hb4 : ∀ j, j < σ.length + 4 → σ4[j]? = τ0[j]? := fun j hj => (hoff j fun hh => by have := hO3.has_ge hh; omega).trans (hb3 j hj)
  refine aig_maker_ok (g := ⟨U, []⟩) (by show U.length < _; omega) (by simp) hUn fun σ5 hm5 hF5 => ?_
  rw [hl4] at hm5 hF5 ⊢
  obtain ⟨mid, hmid⟩ : ∃ mid, σ3.length + 3 = mid := ⟨_, rfl⟩
  rw [hmid] at hm5 ⊢
  obtain ⟨n5, hn5⟩ : ∃ n5, σ3.length = n5 := ⟨_, rfl⟩
  rw [hn5] at hm5 hF5 hmid hl3
  have hl5 := hF5.len
  have hb5 : ∀ j, j < σ.length + 4 → σ5[j]? = τ0[j]? := fun j hj => (hF5.get j (by omega)).trans (hb4 j hj)
  clear hb4 hσ4 hoff hl4 hb3 hF03 hF5 hO3 hF3 hk2 hl2 hF2 hO2 hO1 hF1 hN1
  have hA5 := (hb5 _ (by omega)).trans hA0
  have hB5 := (hb5 _ (by omega)).trans hB0
  have hC5 := (hb5 _ (by omega)).trans hC0
  have hF05 : Fr σ.length σ σ5 := ⟨by omega, fun j hj => (hb5 j (by omega)).trans (hF0.get j hj)⟩
  clear hb5 hA0 hB0 hC0 hD0 hF0 hl0
  have hldA5 : gload (.load 2 true) [.ptr σ.length 0] σ5 = some a.enc := by rw [ld_agg hA5]; rfl
  simp [hldA5]
  have hms : (Mk.mk U [] false).n = 1 + U.length := by simp [Mk.n]
  have hnf5 : ∀ j, j < σ.length + 4 → ¬ Ft σ5 mid j := fun j hj hf => by have := (hm5.dom hf).2; omega
  have hiv : ∀ v : Int, 0 ≤ max (edgeOf U v) 0 ∧ max (edgeOf U v) 0 < 2 * (1 + U.length : Int) := fun v => by
    have := edgeOf_lt U v; omega
  have hiva : (a.ins.map fun v => max (edgeOf U v) 0) = a.ins.map (edgeOf U) := List.map_congr_left fun v hv => Int.max_eq_left (edgeOf_pos (hUa v hv))
  have hivb : (b.ins.map fun v => max (edgeOf U v) 0) = b.ins.map (edgeOf U) := List.map_congr_left fun v hv => Int.max_eq_left (edgeOf_pos (hUb v hv))
  refine aig_copied_ok (pre := [.ptr mid 0]) (caps := []) (iv := fun v => max (edgeOf U v) 0) hm5 (by omega) (by simp [Mk.ok, andsOk]) (by rw [hms]; omega) hmayA (by omega) (fun e he => AigP.all_has c1 he) (fun v hv σ' hk K hK => aig_own_ok (hm5.keep hk) hK) (fun v hv => by have := hiv v; rw [hms]; omega) fun σ6 T1 hm6 hst6 hag6 hT6 => ?_
  rw [hiva] at hm6 hag6 hT6
  obtain ⟨c, hc⟩ : ∃ c, (Mk.mk U [] false).copy a (a.reach x) (0 :: a.ins.map (edgeOf U)) = c := ⟨_, rfl⟩
  have hcl : c.1.length = a.nodes := by rw [← hc]; exact Mk.copy_len (by simp; omega)
  have hcn : (Mk.mk U [] false).n ≤ c.2.n ∧ c.2.n ≤ (Mk.mk U [] false).n + a.ands.length := by rw [← hc]; exact Mk.copy_n
  have hci : c.2.ins = U := by rw [← hc]; exact Mk.copy_ins
  have hcf : c.2.full = false := by
    rw [← hc]
    unfold Mk.copy
    rw [cpFold_full _ _ (by rw [List.length_zip, hms]; omega)]
  have hcok : CpOk c := by
    rw [← hc]
    refine Mk.copy_ok (by simp [Mk.ok, andsOk]) fun t ht => ?_
    simp only [List.mem_cons, List.mem_map] at ht
    rcases ht with rfl | ⟨v, hv, rfl⟩
    · rw [hms]; omega
    · have := edgeOf_lt U v; have := edgeOf_pos (hUa v hv); rw [hms]; omega
  rw [hc] at hm6 hag6 hT6 hspec
  rw [hms] at hcn
  have hT1l : T1.length = a.nodes := by rw [hag6.len, hcl]
  have hl6 := hst6.len
  have hb6 : ∀ j, j < σ.length + 4 → σ6[j]? = σ5[j]? := fun j hj => hst6.get j (by omega) (hnf5 j hj)
  have hnf6 : ∀ j, j < σ.length + 4 → ¬ Ft σ6 mid j := fun j hj => hst6.ft j (by omega) (hnf5 j hj)
  have hB6 := (hb6 _ (by omega)).trans hB5
  have hC6 := (hb6 _ (by omega)).trans hC5
  have hF06 : Fr σ.length σ σ6 := ⟨by omega, fun j hj => (hb6 j (by omega)).trans (hF05.get j hj)⟩
  simp
  refine each_ok (pre := []) (c := imgE T1) (by omega) (fun e he σ' K hK => ?_) ?_
  · obtain ⟨x0, x1⟩ := AigP.all_has c1 he
    exact aig_of_ok x0 (by omega) (by omega) (fun t ht => by have := hT6 t ht; omega) hK
  have hmapx : x.map (imgE T1) = x.map (imgE c.1) := List.map_congr_left fun e he => by
    obtain ⟨e0, e1⟩ := AigP.all_has c1 he
    exact hag6.img (AigP.reach_edge he e0 e1)
  rw [hmapx]
  have hldB6 : gload (.load 2 true) [.ptr (σ.length + 1) 0] σ6 = some b.enc := by rw [ld_agg hB6]; rfl
  simp [hldB6]
  refine aig_copied_ok (pre := [.ptr mid 0]) (caps := []) (iv := fun v => max (edgeOf U v) 0) hm6 (by omega) hcok.ok (by omega) hmayB (by omega) (fun e he => AigP.all_has c2 he) (fun v hv σ' hk K hK => aig_own_ok (hm6.keep hk) (by rw [hci]; exact hK)) (fun v hv => by have := hiv v; omega) fun σ7 T2 hm7 hst7 hag7 hT7 => ?_
  rw [hivb] at hm7 hag7 hT7
  obtain ⟨d, hd⟩ : ∃ d, c.2.copy b (b.reach y) (0 :: b.ins.map (edgeOf U)) = d := ⟨_, rfl⟩
  have hdl : d.1.length = b.nodes := by rw [← hd]; exact Mk.copy_len (by simp; omega)
  have hdn : d.2.n ≤ c.2.n + b.ands.length := by rw [← hd]; exact Mk.copy_n.2
  have hdf : d.2.full = false := by
    rw [← hd]
    unfold Mk.copy
    rw [cpFold_full _ _ (by rw [List.length_zip]; show c.2.n + _ ≤ _; omega)]
    exact hcf
  simp only [hd] at hm7 hag7 hT7 hspec
  have hT2l : T2.length = b.nodes := by rw [hag7.len, hdl]
  have hl7 := hst7.len
  have hC7 : σ7[σ.length + 2]? = some (.row false [.nils, .nils]) := (hst7.get _ (by omega) (hnf6 _ (by omega))).trans hC6
  have hF07 : Fr σ.length σ σ7 := ⟨by omega, fun j hj => (hst7.get j (by omega) (hnf6 j (by omega))).trans (hF06.get j hj)⟩
  simp
  refine each_ok (pre := []) (c := imgE T2) (by omega) (fun e he σ' K hK => ?_) ?_
  · obtain ⟨x0, x1⟩ := AigP.all_has c2 he
    exact aig_of_ok x0 (by omega) (by omega) (fun t ht => by have := hT7 t ht; omega) hK
  have hmapy : y.map (imgE T2) = y.map (imgE d.1) := List.map_congr_left fun e he => by
    obtain ⟨e0, e1⟩ := AigP.all_has c2 he
    exact hag7.img (AigP.reach_edge he e0 e1)
  rw [hmapy]
  obtain ⟨si, sa, at_, in_, la, li, hR⟩ := hm7
  have hfull : gload (.load 1 false) [.ptr mid 5] σ7 = some (.bool d.2.full) := ld_at hR.row
  have hgr : gload (.load 2 true) [.ptr mid 1] σ7 = some (.agg [si, sa]) := by rw [ld_agg hR.row]; rfl
  have hst : gimp (.store 2) [.ptr (σ.length + 2) 0, .agg [si, sa]] σ7 = some (.tuple [], σ7.set (σ.length + 2) (.row false [si, sa])) := by simp [gimp, hC7, over, hR.ins.flat, hR.ands.flat]
  have hldC : gload (.load 2 true) [.ptr (σ.length + 2) 0] (σ7.set (σ.length + 2) (.row false [si, sa])) = some (.agg [si, sa]) := by
    rw [ld_agg (List.getElem?_set_self (by omega))]; rfl
  rw [hdf] at hfull
  simp [hfull, hgr, hst, hldC]
  refine ⟨hF07.set (by omega) _, ?_⟩
  rw [hspec]
  have hR' : MkR n5 (σ7.set (σ.length + 2) (.row false [si, sa])) mid d.2 si sa at_ in_ la li := hR.fit fun j hj => List.getElem?_set_ne fun e => by have := (hR.dom hj).2; omega
  exact .tuple (.cons (hR'.rd _ fun i hi => .inl (by omega)) (.cons (.same _) (.cons (.same _) (.cons (.same _) .nil))))
end Go.Gh
namespace Go.Gh
open Go.RowKit Go.Proofs
set_option linter.unusedVariables false
set_option linter.unusedSimpArgs false
set_option maxRecDepth 100000
@[simp] theorem nth_zero {α : Type} (x : α) (l : List α) : nth (x :: l) 0 = some x := rfl
theorem slice_one (x : Int) (l : List Int) : gpure (.slice 1 true false false) [fints (x :: l), .int .i64 1] = some (fints l) := by
  have : ((1 : Int) ≤ (l.length : Int) + 1) := by omega
  simp [gpure, gslice, gbm, gbh, gbl, gbound, this]
  rw [List.take_of_length_le (by simp)]
set_option maxHeartbeats 1000000 in
theorem ref_Union_ok {a b : List Int} {σ : GS} {Post : DV → GS → Prop} (ha : a.length < 2 ^ 30) (hb : b.length < 2 ^ 30) (h : Post (fints (unionI a b)) σ) : GCall Tryz.prog F_skolemref06_Union [fints a, fints b] σ Post := by
  refine GCall.pure (r := fints (unionI a b)) ?_ (closed_fints _) h
  refine gc_skolemref06_Union ?_
  simp [G_skolemref06_Union, genv0, List.replicate]
  refine gfor (a.length + b.length) (fun i e σ' => ∃ a' b' s done, e = mkEnv 64 [(0, fints a'), (1, fints b'), (5, s)] ∧ Own σ.length 1 eint σ' s done ∧ Fr σ.length σ σ' ∧ done ++ unionI a' b' = unionI a b ∧ i + a'.length + b'.length = a.length + b.length ∧ done.length ≤ i) _ ?_ ⟨a, b, .nils, [], rfl, .nil, .rfl', rfl, by omega, by simp⟩ ?_
  · simp [mkEnv, List.replicate]
  rintro i _ σ' hi ⟨a', b', s, done, rfl, hO, hF, hd, hn, hdl⟩
  simp [mkEnv, List.replicate]
  have hpush : ∀ x : Int, ∃ s' σ2, gimp (.append 1 8) [s, .slice σ'.length 0 1 1 (some 1)] (σ' ++ [.row false [.int .i64 x]]) = some (s', σ2) ∧ Own σ.length 1 eint σ2 s' (done ++ [x]) ∧ Fr σ.length σ σ2 := fun x => by
    obtain ⟨s', σ2, q1, q2, q3, _⟩ := hO.push (by_ := 8) x (fun _ => rfl) (by simp) hF.len (by omega) (by decide)
    exact ⟨s', σ2, q1, q2, hF.trans q3⟩
  have hz : (0 : Int) = (0 : Nat) := rfl
  have hl2 : ∀ l : List Int, (0 : Int) < (l.length : Int) + 1 := fun l => by omega
  have hl3 : ∀ l : List Int, ¬ ((l.length : Int) + 1 = 0) := fun l => by omega
  match a', b', hd, hn with
  | [], [], hd, hn =>
    simp [unionI] at hd
    subst hd
    simp
    exact ⟨hF, hO.rd (fun _ => rfl) fun i hi => .inl hi⟩
  | x :: a', [], hd, hn =>
    obtain ⟨s', σ2, q1, q2, q3⟩ := hpush x
    simp at hn
    simp [hl2, q1, slice_one x a']
    refine forK_go _ (by omega) (by simp [mkEnv, List.replicate]) ⟨a', [], s', done ++ [x], rfl, q2, q3, ?_, by simp; omega, by simp; omega⟩
    rw [← hd]; simp [unionI]
  | [], y :: b', hd, hn =>
    obtain ⟨s', σ2, q1, q2, q3⟩ := hpush y
    simp at hn
    simp [hl2, hl3, q1, slice_one y b']
    refine forK_go _ (by omega) (by simp [mkEnv, List.replicate]) ⟨[], b', s', done ++ [y], rfl, q2, q3, ?_, by simp; omega, by simp; omega⟩
    rw [← hd]; simp [unionI]
  | x :: a', y :: b', hd, hn =>
    simp at hn
    by_cases c1 : x < y
    · obtain ⟨s', σ2, q1, q2, q3⟩ := hpush x
      simp [hl2, hl3, c1, q1, slice_one x a']
      refine forK_go _ (by omega) (by simp [mkEnv, List.replicate]) ⟨a', y :: b', s', done ++ [x], rfl, q2, q3, ?_, by simp; omega, by simp; omega⟩
      rw [← hd]; simp [unionI, c1]
    · by_cases c2 : y < x
      · obtain ⟨s', σ2, q1, q2, q3⟩ := hpush y
        simp [hl2, hl3, c1, c2, q1, slice_one y b']
        refine forK_go _ (by omega) (by simp [mkEnv, List.replicate]) ⟨x :: a', b', s', done ++ [y], rfl, q2, q3, ?_, by simp; omega, by simp; omega⟩
        rw [← hd, unionI.eq_4, if_neg c1, if_pos c2]; simp
      · simp [hl2, hl3, c1, c2, slice_one y b']
        refine forK_go _ (by omega) (by simp [mkEnv, List.replicate]) ⟨x :: a', b', s, done, rfl, hO, hF, ?_, by simp; omega, by omega⟩
        rw [← hd, unionI.eq_4, if_neg c1, if_neg c2]
theorem ref_edges_live {n id : Nat} {m : Mk} {vars : List Int} {si sa : DV} {σ : GS} {Post : DV → GS → Prop} (hR : RkR n σ id m si sa) (hsz : m.n < 2 ^ 40) (hv : vars.length < 2 ^ 40) (h : Post (fints (vars.map (edgeOf m.ins))) σ) : GCall Tryz.prog F_skolemref06_edges [.agg [si, sa], fints vars] σ Post := by
  refine GCall.pure (r := fints (vars.map (edgeOf m.ins))) ?_ (by simp) h
  refine gc_skolemref06_edges ?_
  have hids := (hR.dom ((hR.ft _).2 (.inl rfl))).1
  simp [G_skolemref06_edges, genv0, List.replicate, galloc]
  refine gfor vars.length (fun i e σ' => Fr σ.length σ σ' ∧ σ'[σ.length]? = some (.row false [si, sa]) ∧ ∃ s, Own (σ.length + 1) 1 eint σ' s ((vars.take i).map (edgeOf m.ins)) ∧ e = mkEnv 23 [(1, fints vars), (2, .ptr σ.length 0), (5, s), (6, .int .i64 i)]) _ ?_ ⟨Fr.self _, by simp, .nils, .nil, rfl⟩ ?_
  · simp [mkEnv, List.replicate]
  rintro i _ σ' hi ⟨hF, hA, s, hs, rfl⟩
  simp [mkEnv, List.replicate]
  have hld : gload (.load 2 true) [.ptr σ.length 0] σ' = some (.agg [si, sa]) := by rw [ld_agg hA]; rfl
  by_cases hlt : i < vars.length
  · obtain ⟨y, hy⟩ := nth_lt hlt
    have hy' := nth_get hy
    have es : IntKind.i64.wrap ((i : Int) + 1) = (i : Int) + 1 := by rw [wrap_small] <;> omega
    simp [hlt, hy, hld]
    refine ref_edge_live (hR.fit fun j hj => hF.get j (hR.dom hj).1) hsz ?_
    have hal := get_dom hA
    obtain ⟨s', σ1, q1, q2, q3, q4, q5, q6⟩ := hs.push (by_ := 8) (edgeOf m.ins y) (fun _ => rfl) (by simp) (by omega) (by simp; omega) (by decide)
    simp [q1, es]
    exact forK_go _ hlt (by simp [mkEnv, List.replicate]) ⟨hF.trans (q3.mono (by omega)), (q3.get _ (by omega)).trans hA, s', by simpa [take_get hy'] using q2, rfl⟩
  · have : i = vars.length := by omega
    subst this
    rw [List.take_length] at hs
    simp
    exact ⟨hF, hs.rd (fun _ => rfl) fun i hi => .inl (by omega)⟩
set_option maxHeartbeats 2000000 in
theorem ref_Join_ok {a b : AigP} {x y : List Int} {σ : GS} {Post : DV → GS → Prop} (ha : a.Sm) (hb : b.Sm) (hx : x.length < 2 ^ 40) (hy : y.length < 2 ^ 40) (hsz : a.nodes + b.nodes ≤ 200000) (h : Post (JOut.enc (a.join x b y)) σ) :
    GCall Tryz.prog F_skolemref06_Join [a.enc, fints x, b.enc, fints y] σ Post := by
  refine GCall.pure (r := JOut.enc (a.join x b y)) ?_ (closed_jout _) h
  refine gc_skolemref06_Join ?_
  have hna : a.nodes = 1 + a.ins.length + a.ands.length := rfl
  have hnb : b.nodes = 1 + b.ins.length + b.ands.length := rfl
  simp [G_skolemref06_Join, genv0, List.replicate, galloc]
  refine ref_HasAll_ok ha (by omega) ?_
  by_cases c1 : a.all x = true
  rotate_left
  · have : a.join x b y = ⟨⟨[], []⟩, [], [], 2⟩ := by unfold AigP.join; rw [if_neg (by simp [c1])]
    rw [this]
    simp [c1]
    exact rd_jerr _ _ _
  simp [c1]
  refine ref_HasAll_ok hb (by omega) ?_
  by_cases c2 : b.all y = true
  rotate_left
  · have : a.join x b y = ⟨⟨[], []⟩, [], [], 2⟩ := by unfold AigP.join; rw [if_neg (by simp [c2])]
    rw [this]
    simp [c2]
    exact rd_jerr _ _ _
  simp [c2]
  have hmayA := AigP.all_may c1
  have hmayB := AigP.all_may c2
  have hinsA := AigP.may_ins hmayA
  have hinsB := AigP.may_ins hmayB
  obtain ⟨U, hU⟩ : ∃ U, unionI a.ins b.ins = U := ⟨_, rfl⟩
  have hUl : U.length ≤ a.ins.length + b.ins.length := by rw [← hU]; exact unionI_len _ _
  have hUa : ∀ v ∈ a.ins, v ∈ U := fun v hv => by rw [← hU, mem_unionI]; exact .inl hv
  have hUb : ∀ v ∈ b.ins, v ∈ U := fun v hv => by rw [← hU, mem_unionI]; exact .inr hv
  have hspec : a.join x b y = (let c := (Mk.mk U [] false).copy a (a.reach x) (0 :: a.ins.map (edgeOf U))
    let d := c.2.copy b (b.reach y) (0 :: b.ins.map (edgeOf U))
    ⟨d.2.graph, x.map (imgE c.1), y.map (imgE d.1), 0⟩) := by
    unfold AigP.join
    rw [if_pos (by simp [c1, c2]), hU]
  refine ref_Union_ok (by omega) (by omega) ?_
  rw [hU]
  clear hU
  simp
  obtain ⟨τ0, hτ0⟩ : ∃ τ0, σ ++ [.row false [fints a.ins, fands a.ands], .row false [fints b.ins, fands b.ands], .row false [.nils, .nils], .row false [fints U, .nils, .bool false]] = τ0 := ⟨_, rfl⟩
  have hl0 : τ0.length = σ.length + 4 := by rw [← hτ0]; simp
  have hA0 : τ0[σ.length]? = some (.row false [fints a.ins, fands a.ands]) := by rw [← hτ0]; simp
  have hB0 : τ0[σ.length + 1]? = some (.row false [fints b.ins, fands b.ands]) := by rw [← hτ0]; simp
  have hC0 : τ0[σ.length + 2]? = some (.row false [.nils, .nils]) := by rw [← hτ0]; simp
  have hD0 : τ0[σ.length + 3]? = some (.row false [fints U, .nils, .bool false]) := by rw [← hτ0]; simp
  have hF0 : Fr σ.length σ τ0 := by rw [← hτ0]; exact Fr.self _
  rw [hτ0]
  clear hτ0
  have hR0 : RkR (σ.length + 3) τ0 (σ.length + 3) ⟨U, [], false⟩ (fints U) .nils := ⟨by omega, hD0, .inl rfl, .nil, fsl_not_has, (fun ⟨_, _, _, _, e⟩ => by cases e), fun i hi => absurd hi fsl_not_has⟩
  have hm0 : RkO (σ.length + 3) τ0 (σ.length + 3) ⟨U, [], false⟩ := ⟨_, _, hR0⟩
  have hldA : gload (.load 2 true) [.ptr σ.length 0] τ0 = some a.enc := by rw [ld_agg hA0]; rfl
  have hldA0 : gload (.load 1 false) [.ptr σ.length 0] τ0 = some (fints a.ins) := by rw [ld_at hA0]; rfl
  have hldM : gload (.load 2 true) [.ptr (σ.length + 3) 0] τ0 = some (.agg [fints U, .nils]) := by rw [ld_agg hD0]; rfl
  refine GCall.reads (args' := [AigP.enc ⟨U, []⟩, fints a.ins]) (.cons (.agg (.cons (.same _) (.cons (.nils 2) .nil))) (.cons (.same _) .nil)) ?_
  refine ref_edges_ok (g := ⟨U, []⟩) (by show U.length < _; omega) (by omega) ?_
  have hms : (Mk.mk U [] false).n = 1 + U.length := by simp [Mk.n]
  have hrange : ∀ (L : List Int), (∀ v ∈ L, v ∈ U) → ∀ e ∈ L.map (edgeOf U), 0 ≤ e ∧ e < 2 * (1 + U.length : Int) := fun L hL e he => by
    obtain ⟨v, hv, rfl⟩ := List.mem_map.1 he
    have := edgeOf_lt U v; have := edgeOf_pos (hL v hv); omega
  simp
  refine ref_copied_ok (im := a.ins.map (edgeOf U)) hm0 (by simp [Mk.ok, andsOk]) (by rw [hms]; omega) hmayA (by omega) (fun e he => AigP.all_has c1 he) (by simp) (fun v hv => by have := hrange _ hUa v hv; rw [hms]; omega) fun σ6 hm6 hst6 => ?_
  obtain ⟨c, hc⟩ : ∃ c, (Mk.mk U [] false).copy a (a.reach x) (0 :: a.ins.map (edgeOf U)) = c := ⟨_, rfl⟩
  have hcl : c.1.length = a.nodes := by rw [← hc]; exact Mk.copy_len (by simp; omega)
  have hcn : (Mk.mk U [] false).n ≤ c.2.n ∧ c.2.n ≤ (Mk.mk U [] false).n + a.ands.length := by rw [← hc]; exact Mk.copy_n
  have hci : c.2.ins = U := by rw [← hc]; exact Mk.copy_ins
  have hcf : c.2.full = false := by
    rw [← hc]
    unfold Mk.copy
    rw [cpFold_full _ _ (by rw [List.length_zip, hms]; omega)]
  have hcok : CpOk c := by
    rw [← hc]
    refine Mk.copy_ok (by simp [Mk.ok, andsOk]) fun t ht => ?_
    rcases List.mem_cons.1 ht with rfl | ht
    · rw [hms]; omega
    · have := hrange _ hUa t ht; rw [hms]; omega
  rw [hc] at hm6 hspec ⊢
  rw [hms] at hcn
  have hnf0 : ∀ j, j < σ.length + 3 → ¬ Rt τ0 (σ.length + 3) j := fun j hj hf => by have := (hm0.dom hf).2; omega
  have hl6 := hst6.len
  have hb6 : ∀ j, j < σ.length + 3 → σ6[j]? = τ0[j]? := fun j hj => hst6.get j (by omega) (hnf0 j hj)
  have hnf6 : ∀ j, j < σ.length + 3 → ¬ Rt σ6 (σ.length + 3) j := fun j hj => hst6.ft j (by omega) (hnf0 j hj)
  have hB6 := (hb6 _ (by omega)).trans hB0
  have hC6 := (hb6 _ (by omega)).trans hC0
  have hF06 : Fr σ.length σ σ6 := ⟨by omega, fun j hj => (hb6 j (by omega)).trans (hF0.get j hj)⟩
  have hldB : gload (.load 2 true) [.ptr (σ.length + 1) 0] σ6 = some b.enc := by rw [ld_agg hB6]; rfl
  have hldB0 : gload (.load 1 false) [.ptr (σ.length + 1) 0] σ6 = some (fints b.ins) := by rw [ld_at hB6]; rfl
  have hm6' := hm6
  obtain ⟨si, sa, hR6⟩ := hm6
  have hgr6 : gload (.load 2 true) [.ptr (σ.length + 3) 0] σ6 = some (.agg [si, sa]) := by rw [ld_agg hR6.row]; rfl
  simp [hldB, hldB0, hgr6]
  refine ref_edges_live hR6 (by omega) (by omega) ?_
  rw [hci]
  simp
  refine ref_copied_ok (im := b.ins.map (edgeOf U)) hm6' hcok.ok (by omega) hmayB (by omega) (fun e he => AigP.all_has c2 he) (by simp) (fun v hv => by have := hrange _ hUb v hv; omega) fun σ7 hm7 hst7 => ?_
  obtain ⟨d, hd⟩ : ∃ d, c.2.copy b (b.reach y) (0 :: b.ins.map (edgeOf U)) = d := ⟨_, rfl⟩
  have hdl : d.1.length = b.nodes := by rw [← hd]; exact Mk.copy_len (by simp; omega)
  have hdn : d.2.n ≤ c.2.n + b.ands.length := by rw [← hd]; exact Mk.copy_n.2
  have hdi : d.2.ins = U := by rw [← hd, Mk.copy_ins, hci]
  have hdf : d.2.full = false := by
    rw [← hd]
    unfold Mk.copy
    rw [cpFold_full _ _ (by rw [List.length_zip]; show c.2.n + _ ≤ _; omega)]
    exact hcf
  have hdok : CpOk d := by
    rw [← hd]
    refine Mk.copy_ok hcok.ok fun t ht => ?_
    rcases List.mem_cons.1 ht with rfl | ht
    · omega
    · have := hrange _ hUb t ht; omega
  simp only [hd] at hm7 hspec ⊢
  have hl7 := hst7.len
  have hC7 : σ7[σ.length + 2]? = some (.row false [.nils, .nils]) := (hst7.get _ (by omega) (hnf6 _ (by omega))).trans hC6
  have hF07 : Fr σ.length σ σ7 := ⟨by omega, fun j hj => (hst7.get j (by omega) (hnf6 j (by omega))).trans (hF06.get j hj)⟩
  obtain ⟨ti, ta, hR7⟩ := hm7
  have hfull : gload (.load 1 false) [.ptr (σ.length + 3) 2] σ7 = some (.bool d.2.full) := ld_at hR7.row
  have hgr7 : gload (.load 2 true) [.ptr (σ.length + 3) 0] σ7 = some (.agg [ti, ta]) := by rw [ld_agg hR7.row]; rfl
  rw [hdf] at hfull
  have hdn2 : AigP.nodes ⟨d.2.ins, d.2.ands⟩ = d.2.n := rfl
  simp [hfull, hgr7]
  refine GCall.borrow (args' := [AigP.enc ⟨d.2.ins, d.2.ands⟩]) (r := .int .i64 (d.2.n : Nat)) (.cons (hR7.rd _ fun _ _ => trivial) .nil) (by simp) rfl (ref_Nodes_ok (g := ⟨d.2.ins, d.2.ands⟩) ⟨by have := hdn2; unfold AigP.nodes at this; simp at this; show d.2.ins.length < _; omega, by have := hdn2; unfold AigP.nodes at this; simp at this; show d.2.ands.length < _; omega⟩ (by rw [hdn2])) ?_
  have hle : ¬ ((200000 : Int) < d.2.n) := by omega
  simp [hle, hgr7]
  refine ref_images_ok (by omega) (by omega) (fun t ht => by have := hcok.to t ht; omega) (fun e he => by rw [hcl]; exact AigP.all_has c1 he) ?_
  simp
  refine ref_images_ok (by omega) (by omega) (fun t ht => by have := hdok.to t ht; omega) (fun e he => by rw [hdl]; exact AigP.all_has c2 he) ?_
  have hst : gimp (.store 2) [.ptr (σ.length + 2) 0, .agg [ti, ta]] σ7 = some (.tuple [], σ7.set (σ.length + 2) (.row false [ti, ta])) := by simp [gimp, hC7, over, hR7.si_flat, hR7.ands.flat]
  have hldC : gload (.load 2 true) [.ptr (σ.length + 2) 0] (σ7.set (σ.length + 2) (.row false [ti, ta])) = some (.agg [ti, ta]) := by
    rw [ld_agg (List.getElem?_set_self (by omega))]; rfl
  simp [hst, hldC]
  refine ⟨hF07.set (by omega) _, ?_⟩
  rw [hspec]
  have hR' : RkR (σ.length + 3) (σ7.set (σ.length + 2) (.row false [ti, ta])) (σ.length + 3) d.2 ti ta := hR7.fit fun j hj => List.getElem?_set_ne fun e => by have := (hR7.dom hj).2; omega
  exact .tuple (.cons (hR'.rd _ fun i hi => .inl (by omega)) (.cons (.same _) (.cons (.same _) (.cons (.same _) .nil))))
end Go.Gh
namespace Go.Gh
open Go.RowKit Go.Proofs
set_option linter.unusedVariables false
set_option linter.unusedSimpArgs false
set_option maxRecDepth 100000
theorem ref_edges_own {g : AigP} {vars : List Int} {σ : GS} {Post : DV → GS → Prop} (hl : g.ins.length < 2 ^ 40) (hv : vars.length < 2 ^ 40) (h : ∀ s σ', Own σ.length 1 eint σ' s (vars.map (edgeOf g.ins)) → Fr σ.length σ σ' → Post s σ') : GCall Tryz.prog F_skolemref06_edges [g.enc, fints vars] σ Post := by
  refine gc_skolemref06_edges ?_
  simp [G_skolemref06_edges, genv0, List.replicate]
  refine gfor vars.length (fun i e σ' => Fr σ.length σ σ' ∧ σ'[σ.length]? = some (.row false [fints g.ins, fands g.ands]) ∧ ∃ s, Own (σ.length + 1) 1 eint σ' s ((vars.take i).map (edgeOf g.ins)) ∧ e = mkEnv 23 [(1, fints vars), (2, .ptr σ.length 0), (5, s), (6, .int .i64 i)]) _ ?_ ⟨Fr.self _, by simp, .nils, .nil, rfl⟩ ?_
  · simp [mkEnv, List.replicate]
  rintro i _ σ' hi ⟨hF, hA, s, hs, rfl⟩
  simp [mkEnv, List.replicate]
  have hld : gload (.load 2 true) [.ptr σ.length 0] σ' = some g.enc := by rw [ld_agg hA]; rfl
  by_cases hlt : i < vars.length
  · obtain ⟨y, hy⟩ := nth_lt hlt
    have hy' := nth_get hy
    have es : IntKind.i64.wrap ((i : Int) + 1) = (i : Int) + 1 := by rw [wrap_small] <;> omega
    simp [hlt, hy, hld]
    refine ref_Edge_ok (by omega) ?_
    have hal := get_dom hA
    obtain ⟨s', σ1, q1, q2, q3, q4, q5, q6⟩ := hs.push (by_ := 8) (edgeOf g.ins y) (fun _ => rfl) (by simp) (by omega) (by simp; omega) (by decide)
    simp [q1, es]
    exact forK_go _ hlt (by simp [mkEnv, List.replicate]) ⟨hF.trans (q3.mono (by omega)), (q3.get _ (by omega)).trans hA, s', by simpa [take_get hy'] using q2, rfl⟩
  · have : i = vars.length := by omega
    subst this
    rw [List.take_length] at hs
    simp
    exact h _ _ (hs.weaken (by omega)) hF
theorem ref_In_live {a : List Int} {x : Int} {n : Nat} {s : DV} {σ : GS} {Post : DV → GS → Prop} (hO : Own n 1 eint σ s a) (hl : a.length < 2 ^ 60) (h : Post (.bool (a.contains x)) σ) : GCall Tryz.prog F_skolemref05_In [s, .int .i64 x] σ Post :=
  GCall.borrow (args' := [fints a, .int .i64 x]) (.cons (hO.rd (fun _ => rfl) fun _ _ => trivial) (.cons (.same _) .nil)) (by simp) rfl (ref_In_ok hl rfl) h
theorem ref_HasAll_live {g : AigP} {l : List Int} {n : Nat} {s : DV} {σ : GS} {Post : DV → GS → Prop} (hs : g.Sm) (hl : l.length < 2 ^ 60) (hO : Own n 1 eint σ s l) (h : Post (.bool (g.all l)) σ) : GCall Tryz.prog F_skolemref06_HasAll [g.enc, s] σ Post :=
  GCall.borrow (args' := [g.enc, fints l]) (.cons (.same _) (.cons (hO.rd (fun _ => rfl) fun _ _ => trivial) .nil)) (by simp) rfl (ref_HasAll_ok hs hl rfl) h
set_option maxHeartbeats 2000000 in
theorem ref_copied_live {n0 id nb : Nat} {m : Mk} {g : AigP} {l im : List Int} {sm : DV} {σ : GS} {Post : DV → GS → Prop} (hmk : RkO n0 σ id m) (hmok : m.ok) (hms : m.n < 2 ^ 30) (hm : g.may = true) (hl : l.length < 2 ^ 50) (he : ∀ e ∈ l, 0 ≤ e ∧ e < 2 * g.nodes)
    (hsm : Own nb 1 eint σ sm im) (him : im.length = g.ins.length) (hiv : ∀ v ∈ im, 0 ≤ v ∧ v < 2 * m.n)
    (k : ∀ σ', RkO n0 σ' id (m.copy g (g.reach l) (0 :: im)).2 → Rtp σ id σ' → Post (fints (m.copy g (g.reach l) (0 :: im)).1) σ') :
    GCall Tryz.prog F_skolemref06_Maker_copied [.ptr id 0, g.enc, fints l, sm] σ Post := by
  have hnn := AigP.may_nodes hm
  have hn : g.nodes = 1 + g.ins.length + g.ands.length := rfl
  have hs : g.Sm := ⟨by omega, by omega⟩
  have hok : ∀ {i : Nat} {p : Int × Int}, g.ands[i]? = some p → _ := fun {i p} h => andsOk_get (AigP.may_ands hm) (i := i) (p := p) h
  have hrl := g.reach_len l
  obtain ⟨r, hr⟩ : ∃ r, g.reach l = r := ⟨_, rfl⟩
  rw [hr] at hrl k
  have hidl := (hmk.dom (.inl rfl)).1
  have hpos : 0 < (m.n : Int) := by unfold Mk.n; omega
  obtain ⟨n, hne⟩ : ∃ n, g.nodes = n := ⟨_, rfl⟩
  rw [hne] at hrl
  refine GCall.out (GCall.mono (Post := fun v σ' => RpSt n0 σ σ' id g n (m.copy g r (0 :: im)).1 (m.copy g r (0 :: im)).2 ∧ v = .slice (σ.length + 1) 0 n 1 (some n)) ?_ ?_)
  rotate_left
  · rintro v σ' ⟨hC, rfl⟩
    have hS : ∀ i, Rt σ' id i → (fun i => decide (i = σ.length + 1)) i = false := fun i hi => by
      have h1 : i ≠ σ.length + 1 := fun e => hC.nf 1 (by omega) (e ▸ hi)
      simp [h1]
    refine ⟨fun i => decide (i = σ.length + 1), fints (m.copy g r (0 :: im)).1, ?_, k _ ?_ ?_⟩
    · have hrow := frz_row (S := fun i => decide (i = σ.length + 1)) hC.row (by simp)
      have := rd_ints (ok := RO (frz (fun i => decide (i = σ.length + 1)) σ')) (cap := some n) hrow (fun ro cs h => by rw [hrow] at h; cases h; rfl)
      rw [hC.tl] at this
      exact this
    · exact hC.mak.fit fun i hi => frz_off (hS i hi)
    · refine ⟨by rw [frz_len]; exact hC.stp.len, fun i hi hf => ?_, fun i hi hf => ?_⟩
      · rw [frz_off (by simp; omega)]; exact hC.stp.get i hi hf
      · rw [hC.mak.ft_eq (frz_off (hS id (.inl rfl)))]; exact hC.stp.ft i hi hf
  have hlen : gpure .len [sm] = some (.int .i64 im.length) := hsm.len
  refine gc_skolemref06_Maker_copied ?_
  simp [G_skolemref06_Maker_copied, genv0, List.replicate]
  refine ref_Reached_ok hm hl he ?_
  simp
  refine ref_Nodes_ok hs ?_
  rw [hr, hne]
  simp [mslice_ints (show n < 2 ^ 40 by omega)]
  have hr0 : List.replicate n (DV.int .i64 0) = ints (List.replicate n 0) := by simp [ints]
  rw [hr0]
  obtain ⟨A, hA⟩ : ∃ A, GObj.row false [fints g.ins, fands g.ands] = A := ⟨_, rfl⟩
  have hldA : ∀ τ, gload (.load 1 false) [.ptr σ.length 0] (σ ++ A :: τ) = some (fints g.ins) := fun τ => by simp [← hA]
  rw [hA]
  refine gfor im.length (fun i e σ' => (∃ z, σ' = σ ++ (A :: .row false (ints (0 :: im.take i ++ z)) :: []) ∧ 1 + i + z.length = n ∧ ∀ t ∈ z, t = 0) ∧ e = mkEnv 73 [(0, .ptr id 0), (3, sm), (5, .ptr σ.length 0), (9, fbools r), (10, .slice (σ.length + 1) 0 n 1 (some n)), (11, .int .i64 i)]) _ ?_ ⟨⟨List.replicate (n - 1) 0, ?_, by simp; omega, fun t ht => List.eq_of_mem_replicate ht⟩, rfl⟩ ?_
  · simp [mkEnv, List.replicate]
  · obtain ⟨q, rfl⟩ : ∃ q, n = q + 1 := ⟨n - 1, by omega⟩
    simp [List.replicate_succ]
  rintro i _ _ hi ⟨⟨z, rfl, hzl, hz⟩, rfl⟩
  simp [mkEnv, List.replicate, hlen]
  by_cases hlt : i < im.length
  · obtain ⟨y, hy⟩ := nth_lt hlt
    have hy' := nth_get hy
    obtain ⟨sid, s1, s2, s3, s4⟩ := hsm.get (fun _ => rfl) hy' (k := .i64)
    have s5 : ∀ τ : GS, gload (.load 1 false) [.ptr sid (i * 1)] (σ ++ A :: τ) = some (.int .i64 y) := fun τ => by
      have h0 := s4 0 (by omega)
      simp only [gload] at h0 ⊢
      rw [List.getElem?_append_left (hsm.has_lt s1)]
      exact h0
    simp only [Nat.mul_one] at s2 s5
    have es : IntKind.i64.wrap ((i : Int) + 1) = (i : Int) + 1 := by rw [wrap_small] <;> omega
    cases z with
    | nil => simp at hzl; omega
    | cons z0 z =>
    have hz0 : z0 = 0 := hz z0 List.mem_cons_self
    subst hz0
    simp at hzl
    have hia := iaddr_own (id := σ.length + 1) (n := n) (sz := 1) (i := i + 1) (k := .i64) (cap := some n) (by omega)
    simp only [Nat.mul_one, Int.natCast_add, Int.natCast_one] at hia
    have hst : ∀ τ : GS, gimp (.store 1) [.ptr (σ.length + 1) (i + 1), .int .i64 y] (σ ++ (A :: .row false (.int .i64 0 :: (List.take i (List.map (DV.int .i64) im) ++ .int .i64 0 :: List.map (DV.int .i64) z)) :: τ)) = some (.tuple [], σ ++ (A :: .row false (.int .i64 0 :: (List.take i (List.map (DV.int .i64) im) ++ .int .i64 y :: List.map (DV.int .i64) z)) :: τ)) := fun τ => by
      have hl2 : (List.take i (List.map (DV.int .i64) im)).length = i := by simp; omega
      have hlt2 : i < i + (z.length + 1) := by omega
      simp [hl2]
    simp [hlt, s2, s5, es, hia, hst]
    refine forK_go _ hlt (by simp [mkEnv, List.replicate]) ⟨⟨z, ?_, by omega, fun t ht => hz t (List.mem_cons_of_mem _ ht)⟩, rfl⟩
    rw [take_get hy']
    simp
  · have : i = im.length := by omega
    subst this
    have htk : List.take im.length (List.map (DV.int .i64) im) = List.map (DV.int .i64) im := by rw [← List.map_take, List.take_length]
    simp [htk]
    have hC0 : RpSt n0 σ (σ ++ (A :: .row false (ints (0 :: im ++ z)) :: [])) id g n (0 :: im ++ z) m := by
      have e0 : (σ ++ (A :: .row false (ints (0 :: im ++ z)) :: []))[id]? = σ[id]? := List.getElem?_append_left hidl
      refine ⟨by simp [← hA], by simp, hmk.app _, hmk.stp (by simp) fun i hi => List.getElem?_append_left hi, fun j hj hf' => ?_, by simp; omega⟩
      rw [hmk.ft_eq e0] at hf'
      have := (hmk.dom hf').1; omega
    simp at hC0
    obtain ⟨xs, hxs⟩ : ∃ xs, g.ands.zip (r.drop (1 + g.ins.length)) = xs := ⟨_, rfl⟩
    obtain ⟨s0, hs0⟩ : ∃ s0, ((0 :: im, m) : List Int × Mk) = s0 := ⟨_, rfl⟩
    have hcp0 : CpOk s0 := by
      rw [← hs0]
      refine ⟨fun t ht => ?_, hmok⟩
      simp only [List.mem_cons] at ht
      rcases ht with rfl | ht
      · show (0 : Int) ≤ 0 ∧ (0 : Int) < 2 * (m.n : Int); omega
      · exact hiv t ht
    have hl0 : s0.1.length = 1 + g.ins.length := by rw [← hs0]; simp; omega
    have hn0' : s0.2.n = m.n := by rw [← hs0]
    refine gfor g.ands.length (fun i e σ' => (∃ z, RpSt n0 σ σ' id g n (((xs.take i).foldl cpStep s0).1 ++ z) ((xs.take i).foldl cpStep s0).2 ∧ ∀ t ∈ z, t = 0) ∧ e = mkEnv 73 [(0, .ptr id 0), (5, .ptr σ.length 0), (9, fbools r), (10, .slice (σ.length + 1) 0 n 1 (some n)), (12, .int .i64 i)]) _ ?_ ⟨⟨z, by simpa [← hs0] using hC0, hz⟩, rfl⟩ ?_
    · simp [mkEnv, List.replicate]
    clear hC0 hldA hzl hz z hlt hi
    rintro i _ σ' hi ⟨⟨z, hC, hz⟩, rfl⟩
    simp [mkEnv, List.replicate]
    have hxl : xs.length = g.ands.length := by rw [← hxs]; simp; omega
    have hldI : gload (.load 1 false) [.ptr σ.length 0] σ' = some (fints g.ins) := by rw [ld_at hC.box]; rfl
    have hldN : gload (.load 1 false) [.ptr σ.length 1] σ' = some (fands g.ands) := by rw [ld_at hC.box]; rfl
    by_cases hlt : i < g.ands.length
    · obtain ⟨p, hp⟩ := nth_lt hlt
      have hp' := nth_get hp
      obtain ⟨p1, p2, p3, p4⟩ := hok hp'
      have es : IntKind.i64.wrap ((i : Int) + 1) = (i : Int) + 1 := by rw [wrap_small] <;> omega
      have ew : IntKind.i64.wrap (1 + (g.ins.length : Int)) = 1 + g.ins.length := by rw [wrap_small] <;> omega
      have ew2 : IntKind.i64.wrap (1 + (g.ins.length : Int) + i) = 1 + g.ins.length + i := by rw [wrap_small] <;> omega
      have hge : (0 : Int) ≤ 1 + (g.ins.length : Int) + i := by omega
      have htn : (1 + (g.ins.length : Int) + i).toNat = 1 + g.ins.length + i := by omega
      obtain ⟨b, hb⟩ := nth_lt (l := r) (i := 1 + g.ins.length + i) (by omega)
      have hb' := nth_get hb
      have hx : xs[i]? = some (p, b) := by rw [← hxs, List.getElem?_zip_eq_some, List.getElem?_drop]; exact ⟨hp', hb'⟩
      have htk := take_get hx
      have hfold : (xs.take (i + 1)).foldl cpStep s0 = cpStep ((xs.take i).foldl cpStep s0) (p, b) := by rw [htk, List.foldl_append]; rfl
      have hcp := cpFold_ok (xs.take i) hcp0
      have hcl := cpFold_len (xs.take i) s0
      have hcn := (cpFold_n (xs.take i) s0).2
      rw [List.length_take, Nat.min_eq_left (by omega)] at hcl hcn
      obtain ⟨s, hss⟩ : ∃ s, (xs.take i).foldl cpStep s0 = s := ⟨_, rfl⟩
      rw [hss] at hC hfold hcp hcl hcn
      have hMpos : 0 < (s.2.n : Int) := by unfold Mk.n; omega
      have hzl := hC.tl
      rw [List.length_append] at hzl
      cases z with
      | nil => simp at hzl; omega
      | cons z0 z =>
      have hz0 : z0 = 0 := hz z0 List.mem_cons_self
      subst hz0
      simp at hzl
      have hTr : ∀ t ∈ s.1 ++ 0 :: z, 0 ≤ t ∧ t < 2 ^ 60 := fun t ht => by
        rcases List.mem_append.1 ht with ht | ht
        · have := hcp.to t ht; omega
        · have : t = 0 := hz t ht
          omega
      have htlen : (s.1 ++ 0 :: z).length = n := by simp; omega
      simp [hlt, hldI, hldN, ew, ew2, hge, htn, hb]
      cases b with
      | false =>
        simp [es]
        refine forK_go _ hlt (by simp [mkEnv, List.replicate]) ⟨⟨z, ?_, fun t ht => hz t (List.mem_cons_of_mem _ ht)⟩, rfl⟩
        rw [hfold]
        simpa [cpStep] using hC
      | true =>
        have r1 := imgE_range hMpos hcp.to p.1
        have r2 := imgE_range hMpos hcp.to p.2
        have him : ∀ e : Int, 0 ≤ e → e < 2 * (1 + g.ins.length) + 2 * i → imgE (s.1 ++ 0 :: z) e = imgE s.1 e := fun e h0 h1 => imgE_app (by omega)
        simp [hldN, hp]
        refine ref_Image_live hC.row htlen p1 (by omega) (by omega) hTr ?_
        rw [him _ p1 (by omega)]
        simp [hldN, hp]
        refine ref_Image_live hC.row htlen p2 (by omega) (by omega) hTr ?_
        rw [him _ p2 (by omega)]
        simp
        refine ref_Conj_ok hC.mak hcp.ok r1.1 (by omega) r2.1 (by omega) (by omega) fun σ2 hm2 hst2 => ?_
        have hC2 := hC.step hm2 hst2
        have hia := iaddr_own (id := σ.length + 1) (n := n) (sz := 1) (i := 1 + g.ins.length + i) (k := .i64) (cap := some n) (by omega)
        rw [show (((1 + g.ins.length + i : Nat)) : Int) = 1 + (g.ins.length : Int) + i by omega, Nat.mul_one] at hia
        have hsto := store_int (b := (s.2.conj (imgE s.1 p.1) (imgE s.1 p.2)).1) hC2.row (i := 1 + g.ins.length + i) (by omega)
        have hCS := hC2.set (1 + g.ins.length + i) (s.2.conj (imgE s.1 p.1) (imgE s.1 p.2)).1
        rw [set_mid (show 1 + g.ins.length + i = s.1.length by omega)] at hsto hCS
        simp [ew2, hia, hsto, es]
        refine forK_go _ hlt (by simp [mkEnv, List.replicate]) ⟨⟨z, ?_, fun t ht => hz t (List.mem_cons_of_mem _ ht)⟩, rfl⟩
        rw [hfold]
        simpa [cpStep] using hCS
    · have : i = g.ands.length := by omega
      subst this
      rw [← hxl, List.take_length] at hC
      have hzl := hC.tl
      have hcl := cpFold_len xs s0
      rw [List.length_append] at hzl
      have hze : z = [] := List.length_eq_zero_iff.1 (by omega)
      subst hze
      rw [List.append_nil] at hC
      simp [hldN]
      have hco : m.copy g r (0 :: im) = xs.foldl cpStep s0 := by unfold Mk.copy; rw [hxs, hs0]
      rw [hco]
      exact hC
end Go.Gh
namespace Go.Gh
open Go.RowKit Go.Proofs
set_option linter.unusedVariables false
set_option linter.unusedSimpArgs false
set_option maxRecDepth 100000
theorem edgeOf_idx {l : List Int} {v : Int} (h : v ∈ l) : ∃ i : Nat, l[i]? = some v ∧ edgeOf l v = 2 * ((i : Int) + 1) := by
  rcases idxF_cases (fun x => decide (x = v)) l 0 with ⟨h1, h2⟩ | ⟨i, x, h1, h2, h3, _⟩
  · have := h2 v h; simp at this
  · refine ⟨i, ?_, ?_⟩
    · simp at h3; rw [← h3]; exact h2
    · unfold edgeOf; rw [h1, if_pos (by omega)]; simp
theorem outOf_snoc {l : List (Int × Int)} {o : Int × Int} (h : o.1 ∉ l.map (·.1)) (v : Int) : outOf (l ++ [o]) v = if v = o.1 then some o.2 else outOf l v := by
  unfold outOf
  rw [List.find?_append]
  by_cases hv : v = o.1
  · subst hv
    have : l.find? (fun p => decide (p.1 = o.1)) = none := by
      rw [List.find?_eq_none]
      intro p hp hh
      simp at hh
      exact h (List.mem_map.2 ⟨p, hp, hh⟩)
    rw [if_pos rfl, this]
    simp
  · rw [if_neg hv]
    have : ([o] : List (Int × Int)).find? (fun p => decide (p.1 = v)) = none := by
      simp; exact fun e => hv e.symm
    rw [this]; simp
theorem outs_set {ins : List Int} (hnd : ins.Nodup) {f : Int → Int} {F : Int → Int} {l : List (Int × Int)} {o : Int × Int} (h : o.1 ∉ l.map (·.1)) {i : Nat} (hi : ins[i]? = some o.1) :
    (ins.map fun v => match outOf l v with | some e => f e | none => F v).set i (f o.2) = ins.map fun v => match outOf (l ++ [o]) v with | some e => f e | none => F v := by
  apply List.ext_getElem?
  intro j
  rw [List.getElem?_set]
  simp only [List.length_map, List.getElem?_map]
  have hil := get_dom hi
  by_cases hij : i = j
  · subst hij
    rw [if_pos rfl, if_pos hil, hi]
    simp [outOf_snoc h]
  · rw [if_neg hij]
    cases hj : ins[j]? with
    | none => rfl
    | some v =>
      have hne : v ≠ o.1 := fun e => by
        obtain ⟨a1, a2⟩ := List.getElem?_eq_some_iff.1 hi
        obtain ⟨b1, b2⟩ := List.getElem?_eq_some_iff.1 hj
        exact hij ((List.getElem_inj hnd (h₀ := a1) (h₁ := b1)).1 (by rw [a2, b2, e]))
      simp [outOf_snoc h, hne]
set_option maxHeartbeats 4000000 in
theorem ref_Compose_ok {g : AigP} {l : List Int} {by_ : List (Int × Int)} {σ : GS} {Post : DV → GS → Prop} (hs : g.Sm) (hl : l.length < 2 ^ 40) (hb : by_.length < 2 ^ 40) (h : Post (GOut.enc (g.compose l by_)) σ) : GCall Tryz.prog F_skolemref06_Compose [g.enc, fints l, fands by_] σ Post := by
  refine GCall.pure (r := GOut.enc (g.compose l by_)) ?_ (closed_gout _) h
  refine gc_skolemref06_Compose ?_
  have hbox : ∀ τ : GS, τ[σ.length]? = some (.row false [fints g.ins, fands g.ands]) → gload (.load 2 true) [.ptr σ.length 0] τ = some g.enc ∧ gload (.load 1 false) [.ptr σ.length 0] τ = some (fints g.ins) := fun τ h => ⟨by rw [ld_agg h]; rfl, by rw [ld_at h]; rfl⟩
  simp [G_skolemref06_Compose, genv0, List.replicate, galloc]
  refine gfor by_.length (fun i e σ' => ∃ s t, e = mkEnv 131 [(1, fints l), (2, fands by_), (3, .ptr σ.length 0), (6, .ptr (σ.length + 1) 0), (9, s), (10, t), (11, .int .i64 i)] ∧
      σ'[σ.length]? = some (.row false [fints g.ins, fands g.ands]) ∧ σ'[σ.length + 1]? = some (.row false [.nils, .nils]) ∧ Own (σ.length + 2) 1 eint σ' s ((by_.take i).map (·.1)) ∧ Own (σ.length + 2) 1 eint σ' t ((by_.take i).map (·.2)) ∧ (∀ j, s.has j → ¬ t.has j) ∧ Fr σ.length σ σ' ∧ ((by_.take i).map (·.1)).Nodup) _ ?_ ⟨.nils, .nils, rfl, by simp, by simp, .nil, .nil, (fun j ⟨_, _, _, _, e⟩ => by cases e), Fr.self _, by simp⟩ ?_
  · simp [mkEnv, List.replicate]
  rintro i _ σ' hi ⟨s, t, rfl, hA, hC, hS, hT, hD, hF, hnd⟩
  have hlen : σ.length + 2 ≤ σ'.length := by have := get_dom hC; omega
  obtain ⟨hldA, hldA0⟩ := hbox _ hA
  have herr : gimp (.store 2) [.ptr (σ.length + 1) 0, .agg [.nils, .nils]] σ' = some (.tuple [], σ'.set (σ.length + 1) (.row false [.nils, .nils])) := by simp [gimp, hC, over]
  have hldC : gload (.load 2 true) [.ptr (σ.length + 1) 0] (σ'.set (σ.length + 1) (.row false [.nils, .nils])) = some (.agg [.nils, .nils]) := by
    rw [ld_agg (List.getElem?_set_self (by omega))]; rfl
  have hFe : Fr σ.length σ (σ'.set (σ.length + 1) (.row false [.nils, .nils])) := hF.set (by omega) _
  simp [mkEnv, List.replicate]
  by_cases hlt : i < by_.length
  · obtain ⟨p, hp⟩ := nth_lt hlt
    have hp' := nth_get hp
    have es : IntKind.i64.wrap ((i : Int) + 1) = (i : Int) + 1 := by rw [wrap_small] <;> omega
    simp [hlt, hp]
    refine ref_In_live hS (by simp; omega) ?_
    by_cases hk : p.1 ∈ (by_.take i).map (·.1)
    · have hbad : ¬ (by_.map (·.1)).Nodup := fun hn => by
        have e : by_.map (·.1) = (by_.take i).map (·.1) ++ p.1 :: (by_.drop (i + 1)).map (·.1) := by rw [← List.map_cons (f := fun x : Int × Int => x.1), ← drop_get hp', ← List.map_append, List.take_append_drop]
        rw [e, List.nodup_append] at hn
        exact hn.2.2 p.1 hk p.1 (by simp) rfl
      have : g.compose l by_ = .err 2 := by unfold AigP.compose; rw [if_neg (by simp [hbad])]
      rw [this]
      have hk2 : ((by_.take i).map (·.1)).contains p.1 = true := by simpa using hk
      simp only [hk2]
      simp [herr, hldC]
      exact ⟨hFe, rd_err _ _ _⟩
    · have hk2 : ((by_.take i).map (·.1)).contains p.1 = false := by simpa using hk
      simp only [hk2]
      obtain ⟨s', σ2, q1, q2, q3, q4, q5, q6⟩ := hS.push (by_ := 8) p.1 (fun _ => rfl) (by simp) (by omega) (by simp; omega) (by decide)
      have hT2 : Own (σ.length + 2) 1 eint σ2 t ((by_.take i).map (·.2)) := hT.fit fun j hj => q5 j (hT.has_lt hj) fun hh => hD j hh hj
      obtain ⟨t', σ3, u1, u2, u3, u4, u5, u6⟩ := hT2.push (by_ := 8) p.2 (fun _ => rfl) (by simp) (by omega) (by simp; omega) (by decide)
      simp [hp, q1, u1, es]
      have hs'lt : ∀ j, s'.has j → s.has j ∨ σ'.length ≤ j := q6
      have hD2 : ∀ j, s'.has j → ¬ t.has j := fun j hj ht => by
        rcases q6 j hj with h' | h'
        · exact hD j h' ht
        · have := hT.has_lt ht; omega
      have hS3 : Own (σ.length + 2) 1 eint σ3 s' ((by_.take i).map (·.1) ++ [p.1]) := q2.fit fun j hj => u5 j (q2.has_lt hj) (hD2 j hj)
      have hkeep : ∀ j, j < σ.length + 2 → σ3[j]? = σ'[j]? := fun j hj => (u5 j (by omega) fun hh => by have := hT.has_ge hh; omega).trans (q5 j (by omega) fun hh => by have := hS.has_ge hh; omega)
      refine forK_go _ hlt (by simp [mkEnv, List.replicate]) ⟨s', t', rfl, (hkeep _ (by omega)).trans hA, (hkeep _ (by omega)).trans hC, ?_, ?_, fun j hj ht => ?_, ⟨by omega, fun j hj => (hkeep j (by omega)).trans (hF.get j hj)⟩, ?_⟩
      · rw [take_get hp']; simpa using hS3
      · rw [take_get hp']; simpa using u2
      · rcases u6 j ht with h' | h'
        · exact hD2 j hj h'
        · have := q2.has_lt hj; omega
      · rw [take_get hp', List.map_append, List.nodup_append]
        refine ⟨hnd, by simp, fun a ha b hb => ?_⟩
        simp at hb; subst hb; exact fun e => hk (e ▸ ha)
  · have : i = by_.length := by omega
    subst this
    rw [List.take_length] at hS hT hnd
    simp [hldA]
    refine ref_HasAll_ok hs (by omega) ?_
    by_cases c1 : g.all l = true
    rotate_left
    · have : g.compose l by_ = .err 2 := by unfold AigP.compose; rw [if_neg (by simp [c1])]
      rw [this]
      simp [c1, herr, hldC]
      exact ⟨hFe, rd_err _ _ _⟩
    simp [c1, hldA]
    refine ref_HasAll_live hs (by simp; omega) hT ?_
    by_cases c2 : g.all (by_.map (·.2)) = true
    rotate_left
    · have : g.compose l by_ = .err 2 := by unfold AigP.compose; rw [if_neg (by simp [c2])]
      rw [this]
      simp [c2, herr, hldC]
      exact ⟨hFe, rd_err _ _ _⟩
    simp [c2]
    have hmay := AigP.all_may c1
    have hnn := AigP.may_nodes hmay
    have hgn : g.nodes = 1 + g.ins.length + g.ands.length := rfl
    have hins := AigP.may_ins hmay
    have hnd' : g.ins.Nodup := insOk_nodup hins
    refine gfor by_.length (fun i e σ2 => σ2 = σ' ∧ e = mkEnv 131 [(1, fints l), (2, fands by_), (3, .ptr σ.length 0), (6, .ptr (σ.length + 1) 0), (9, s), (10, t), (12, .int .i64 i)] ∧ ∀ o ∈ by_.take i, o.1 ∈ g.ins) _ ?_ ⟨rfl, rfl, by simp⟩ ?_
    · simp [mkEnv, List.replicate]
    rintro i _ σz hi2 ⟨hσz, rfl, hin⟩
    rw [hσz]
    clear hσz σz
    have hSlen : gpure .len [s] = some (.int .i64 by_.length) := by have := hS.len; simpa using this
    simp [mkEnv, List.replicate, hSlen]
    by_cases hlt2 : i < by_.length
    · obtain ⟨p, hp'⟩ := get_lt hlt2
      have es : IntKind.i64.wrap ((i : Int) + 1) = (i : Int) + 1 := by rw [wrap_small] <;> omega
      obtain ⟨sid, s1, s2, s3, s4⟩ := hS.get (fun _ => rfl) (i := i) (x := p.1) (by simp [hp']) (k := .i64)
      have s5 : gload (.load 1 false) [.ptr sid (i * 1)] σ' = some (.int .i64 p.1) := s4 0 (by omega)
      simp only [Nat.mul_one] at s2 s5
      simp [hlt2, hldA, s2, s5]
      refine ref_Edge_ok (by omega) ?_
      by_cases hpi : p.1 ∈ g.ins
      · have hpos : ¬ (edgeOf g.ins p.1 < 0) := by have := edgeOf_pos hpi; omega
        simp [hpos, es]
        refine forK_go _ hlt2 (by simp [mkEnv, List.replicate]) ⟨rfl, rfl, fun o ho => ?_⟩
        rw [take_get hp'] at ho
        rcases List.mem_append.1 ho with ho | ho
        · exact hin o ho
        · simp at ho; subst ho; exact hpi
      · have hneg : edgeOf g.ins p.1 < 0 := by have := (edgeOf_none (l := g.ins)).2 hpi; omega
        simp [hneg, herr, hldC]
        have : g.compose l by_ = .err 6 := by
          unfold AigP.compose
          rw [if_pos (by simp [hnd, c1, c2]), if_neg]
          intro hall
          exact hpi (by simpa using List.all_eq_true.1 hall p (List.mem_of_getElem? hp'))
        rw [this]
        exact ⟨hFe, rd_err _ _ _⟩
    have : i = by_.length := by omega
    subst this
    rw [List.take_length] at hin
    simp [hldA0]
    obtain ⟨mid, hmid⟩ : ∃ mid, σ'.length = mid := ⟨_, rfl⟩
    obtain ⟨σ1, hσ1⟩ : ∃ σ1, σ' ++ [.row false [fints g.ins, .nils, .bool false]] = σ1 := ⟨_, rfl⟩
    have hl1 : σ1.length = mid + 1 := by rw [← hσ1]; simp [hmid]
    have hk1 : ∀ j, j < mid → σ1[j]? = σ'[j]? := fun j hj => by rw [← hσ1]; exact List.getElem?_append_left (by omega)
    have hM1 : σ1[mid]? = some (.row false [fints g.ins, .nils, .bool false]) := by rw [← hσ1, ← hmid]; simp
    have hA1 := (hk1 _ (by omega)).trans hA
    have hC1 := (hk1 _ (by omega)).trans hC
    have hF1 : Fr σ.length σ σ1 := ⟨by omega, fun j hj => (hk1 j (by omega)).trans (hF.get j hj)⟩
    have hT1 : Own (σ.length + 2) 1 eint σ1 t (by_.map (·.2)) := hT.fit fun j hj => hk1 j (by have := hT.has_lt hj; omega)
    have htlt : ∀ j, t.has j → σ.length + 2 ≤ j ∧ j < mid := fun j hj => by have := hT.has_lt hj; have := hT.has_ge hj; omega
    have hR1 : RkR mid σ1 mid ⟨g.ins, [], false⟩ (fints g.ins) .nils := ⟨by omega, hM1, .inl rfl, .nil, fsl_not_has, (fun ⟨_, _, _, _, e⟩ => by cases e), fun i hi => absurd hi fsl_not_has⟩
    have hmid2 : σ.length + 2 ≤ mid := by omega
    rw [hmid, hσ1]
    clear hldC herr hFe hS hT hD hA hC hF hSlen hk1 hldA hldA0 hi2 hi hlen hσ1 hlt
    obtain ⟨_, hldA10⟩ := hbox _ hA1
    simp [hldA10]
    refine GCall.reads (args' := [AigP.enc ⟨g.ins, []⟩, fints g.ins]) (.cons (.agg (.cons (.same _) (.cons (.nils 2) .nil))) (.cons (.same _) .nil)) ?_
    refine ref_edges_own (g := ⟨g.ins, []⟩) (by show g.ins.length < _; omega) (by omega) fun sm σ2 hO2 hF2 => ?_
    rw [hl1] at hO2 hF2
    have hl2 := hF2.len
    have hA2 := (hF2.get _ (by omega)).trans hA1
    have hC2 := (hF2.get _ (by omega)).trans hC1
    have hT2 : Own (σ.length + 2) 1 eint σ2 t (by_.map (·.2)) := hT1.fit fun j hj => hF2.get j (by have := htlt j hj; omega)
    have hR2 : RkR mid σ2 mid ⟨g.ins, [], false⟩ (fints g.ins) .nils := hR1.fit fun j hj => hF2.get j (by have := (hR1.dom hj).1; omega)
    have hm2 : RkO mid σ2 mid ⟨g.ins, [], false⟩ := ⟨_, _, hR2⟩
    have hrt2 : ∀ j, Rt σ2 mid j ↔ j = mid := fun j => by
      rw [hR2.ft]
      constructor
      · rintro (h1 | h1 | ⟨_, _, _, _, e⟩)
        · exact h1
        · exact absurd h1 fsl_not_has
        · cases e
      · exact .inl
    have hF02 : Fr σ.length σ σ2 := ⟨by omega, fun j hj => (hF2.get j (by omega)).trans (hF1.get j hj)⟩
    obtain ⟨hldA2, _⟩ := hbox _ hA2
    simp [hldA2]
    have hms : (Mk.mk g.ins [] false).n = 1 + g.ins.length := by simp [Mk.n]
    have hoff : ∀ j, ¬ t.has j → (frz (fun i => t.idOf == some i) σ2)[j]? = σ2[j]? := fun j hj => frz_off (hT2.idOf_has hj)
    have hl3 : (frz (fun i => t.idOf == some i) σ2).length = σ2.length := by rw [frz_len]
    refine GCall.frz (fun i => t.idOf == some i) (args' := [.ptr mid 0, g.enc, fints (by_.map (·.2)), sm]) (.cons (.same _) (.cons (.same _) (.cons (hT2.rdF fun _ => rfl) (.cons (.same _) .nil)))) ?_
    obtain ⟨σ3, hσ3⟩ : ∃ σ3, frz (fun i => t.idOf == some i) σ2 = σ3 := ⟨_, rfl⟩
    rw [hσ3] at hoff hl3 ⊢
    clear hσ3
    have hge3 : ∀ j, (j < σ.length + 2 ∨ mid ≤ j) → σ3[j]? = σ2[j]? := fun j hj => hoff j fun hh => by have := htlt j hh; omega
    have hO3 : Own (mid + 1) 1 eint σ3 sm (g.ins.map (edgeOf g.ins)) := hO2.fit fun j hj => hge3 j (by have := hO2.has_ge hj; omega)
    have hR3 : RkR mid σ3 mid ⟨g.ins, [], false⟩ (fints g.ins) .nils := hR2.fit fun j hj => hge3 j (by have := (hR2.dom hj).2; omega)
    have hrt3 : ∀ j, Rt σ3 mid j ↔ j = mid := fun j => (hm2.ft_eq (hge3 _ (by omega)) j).trans (hrt2 j)
    have hA3 := (hge3 _ (by omega)).trans hA2
    have hC3 := (hge3 _ (by omega)).trans hC2
    have hF03 : Fr σ.length σ σ3 := ⟨by omega, fun j hj => (hge3 j (by omega)).trans (hF02.get j hj)⟩
    have hier : ∀ v ∈ g.ins.map (edgeOf g.ins), 0 ≤ v ∧ v < 2 * ((1 + g.ins.length : Nat) : Int) := fun v hv => by
      obtain ⟨u, hu, rfl⟩ := List.mem_map.1 hv
      have := edgeOf_lt g.ins u; have := edgeOf_pos hu; omega
    refine ref_copied_live (im := g.ins.map (edgeOf g.ins)) (⟨_, _, hR3⟩ : RkO mid σ3 mid ⟨g.ins, [], false⟩) (by simp [Mk.ok, andsOk]) (by rw [hms]; omega) hmay (by simp; omega) (fun e he => AigP.all_has c2 he) hO3 (by simp) (fun v hv => by rw [hms]; exact hier v hv) fun σ4 hm4 hst4 => ?_
    obtain ⟨c, hc⟩ : ∃ c, (Mk.mk g.ins [] false).copy g (g.reach (by_.map (·.2))) (0 :: g.ins.map (edgeOf g.ins)) = c := ⟨_, rfl⟩
    have hcl : c.1.length = g.nodes := by rw [← hc]; exact Mk.copy_len (by simp; omega)
    have hcn : (Mk.mk g.ins [] false).n ≤ c.2.n ∧ c.2.n ≤ (Mk.mk g.ins [] false).n + g.ands.length := by rw [← hc]; exact Mk.copy_n
    have hci : c.2.ins = g.ins := by rw [← hc]; exact Mk.copy_ins
    have hcok : CpOk c := by
      rw [← hc]
      refine Mk.copy_ok (by simp [Mk.ok, andsOk]) fun t ht => ?_
      rcases List.mem_cons.1 ht with rfl | ht
      · rw [hms]; omega
      · rw [hms]; exact hier t ht
    rw [hc] at hm4 ⊢
    rw [hms] at hcn
    have hl4 := hst4.len
    have hb4 : ∀ j, j < σ3.length → j ≠ mid → σ4[j]? = σ3[j]? := fun j hj hm => hst4.get j hj fun hf => hm ((hrt3 j).1 hf)
    have hnf4 : ∀ j, j < σ3.length → j ≠ mid → ¬ Rt σ4 mid j := fun j hj hm => hst4.ft j hj fun hf => hm ((hrt3 j).1 hf)
    have hO4 : Own (mid + 1) 1 eint σ4 sm (g.ins.map (edgeOf g.ins)) := hO3.fit fun j hj => hb4 j (hO3.has_lt hj) (by have := hO3.has_ge hj; omega)
    have hsmlt : ∀ j, sm.has j → mid < j ∧ j < σ3.length := fun j hj => ⟨by have := hO3.has_ge hj; omega, hO3.has_lt hj⟩
    have hA4 := (hb4 _ (by omega) (by omega)).trans hA3
    have hC4 := (hb4 _ (by omega) (by omega)).trans hC3
    have hF04 : Fr σ.length σ σ4 := ⟨by omega, fun j hj => (hb4 j (by omega) (by omega)).trans (hF03.get j hj)⟩
    have hnb4 : ∀ j, j < σ.length + 2 → ¬ Rt σ4 mid j := fun j hj => hnf4 j (by omega) (by omega)
    have hns4 : ∀ j, sm.has j → ¬ Rt σ4 mid j := fun j hj => hnf4 j (hsmlt j hj).2 (by have := (hsmlt j hj).1; omega)
    clear hb4 hnf4 hrt3 hR3 hO3 hge3 hoff hrt2 hm2 hR2 hT2 hO2 hF2 hR1 hT1 hA1 hC1 hF1 hM1 hldA2 hA2 hC2 hA3 hC3 hF03 hF02 htlt
    simp
    obtain ⟨F, hF⟩ : ∃ F : List (Int × Int) → List Int, F = fun b => g.ins.map fun v => match outOf b v with | some e => imgE c.1 e | none => edgeOf g.ins v := ⟨_, rfl⟩
    have hFl : ∀ b, (F b).length = g.ins.length := fun b => by rw [hF]; simp
    have hF0 : F [] = g.ins.map (edgeOf g.ins) := by rw [hF]; rfl
    have hcb : ∀ t ∈ c.1, 0 ≤ t ∧ t < 2 ^ 60 := fun t ht => by have := hcok.to t ht; omega
    refine gfor by_.length (fun i e σ5 => e = mkEnv 131 [(1, fints l), (2, fands by_), (3, .ptr σ.length 0), (6, .ptr (σ.length + 1) 0), (13, .ptr mid 0), (14, sm), (15, fints c.1), (16, .int .i64 i)] ∧
        Own (mid + 1) 1 eint σ5 sm (F (by_.take i)) ∧ σ5.length = σ4.length ∧ ∀ j, ¬ sm.has j → σ5[j]? = σ4[j]?) _ ?_ ⟨rfl, by rw [List.take_zero, hF0]; exact hO4, rfl, fun _ _ => rfl⟩ ?_
    · simp [mkEnv, List.replicate]
    rintro i _ σ5 hi5 ⟨rfl, hO5, hl5, hk5⟩
    have hns : ∀ j, j < σ.length + 2 → ¬ sm.has j := fun j hj hh => by have := hsmlt j hh; omega
    have hA5 := (hk5 _ (hns σ.length (by omega))).trans hA4
    have hC5 := (hk5 _ (hns (σ.length + 1) (by omega))).trans hC4
    obtain ⟨hldA5, _⟩ := hbox _ hA5
    simp [mkEnv, List.replicate]
    by_cases hlt5 : i < by_.length
    · obtain ⟨p, hp⟩ := nth_lt hlt5
      have hp' := nth_get hp
      have hpm := List.mem_of_getElem? hp'
      have es : IntKind.i64.wrap ((i : Int) + 1) = (i : Int) + 1 := by rw [wrap_small] <;> omega
      obtain ⟨k, hk, hke⟩ := edgeOf_idx (hin p hpm)
      have hkl := get_dom hk
      obtain ⟨e0, e1⟩ := AigP.all_has c2 (List.mem_map.2 ⟨p, hpm, rfl⟩)
      have hpn : p.1 ∉ (by_.take i).map (·.1) := fun hh => by
        have e : by_.map (·.1) = (by_.take i).map (·.1) ++ p.1 :: (by_.drop (i + 1)).map (·.1) := by rw [← List.map_cons (f := fun x : Int × Int => x.1), ← drop_get hp', ← List.map_append, List.take_append_drop]
        rw [e, List.nodup_append] at hnd
        exact hnd.2.2 p.1 hh p.1 (by simp) rfl
      have hstep : (F (by_.take i)).set k (imgE c.1 p.2) = F (by_.take (i + 1)) := by rw [hF, take_get hp']; exact outs_set hnd' hpn hk
      obtain ⟨sid, σ6, u1, u2, u3, u4, u5, u6⟩ := Own.set (f := DV.int .i64) hO5 (i := k) (by rw [hFl]; exact hkl) (imgE c.1 p.2) rfl (k := .i64)
      simp [hlt5, hp, hldA5]
      refine ref_Edge_ok (by omega) ?_
      rw [hke]
      have ek : (2 * ((k : Int) + 1)).tdiv 2 = k + 1 := by rw [tdiv_two (by omega)]; omega
      have ek1 : IntKind.i64.wrap ((k : Int) + 1) = k + 1 := by rw [wrap_small] <;> omega
      have ek2 : IntKind.i64.wrap (k : Int) = k := by rw [wrap_small] <;> omega
      simp [hp, ek, ek1, ek2]
      refine ref_Image_ok e0 (by omega) (by omega) hcb ?_
      simp [u2, u3, es]
      refine forK_go _ hlt5 (by simp [mkEnv, List.replicate]) ⟨rfl, ?_, by omega, fun j hj => (u6 j hj).trans (hk5 j hj)⟩
      rw [← hstep]; exact u4
    have : i = by_.length := by omega
    subst this
    rw [List.take_length] at hO5
    simp [hldA5]
    have hm5 : RkO mid σ5 mid c.2 := hm4.fit fun j hj => hk5 j fun hh => hns4 j hh hj
    have hrt5 : ∀ j, Rt σ5 mid j ↔ Rt σ4 mid j := fun j => hm4.ft_eq (hk5 mid fun hh => by have := hsmlt mid hh; omega) j
    have hcpos : 0 < (c.2.n : Int) := by omega
    have hFr : ∀ v ∈ F by_, 0 ≤ v ∧ v < 2 * (c.2.n : Int) := fun v hv => by
      rw [hF] at hv
      obtain ⟨u, hu, rfl⟩ := List.mem_map.1 hv
      cases ho : outOf by_ u with
      | some e => simp only [ho]; exact imgE_range hcpos hcok.to e
      | none =>
        simp only [ho]
        have := edgeOf_lt g.ins u; have := edgeOf_pos hu; omega
    refine ref_copied_live (im := F by_) hm5 hcok.ok (by omega) hmay (by omega) (fun e he => AigP.all_has c1 he) hO5 (hFl _) hFr fun σ7 hm7 hst7 => ?_
    obtain ⟨d, hd⟩ : ∃ d, c.2.copy g (g.reach l) (0 :: F by_) = d := ⟨_, rfl⟩
    rw [hd] at hm7 ⊢
    have hdl : d.1.length = g.nodes := by rw [← hd]; exact Mk.copy_len (by simp [hFl]; omega)
    have hdn : d.2.n ≤ c.2.n + g.ands.length := by rw [← hd]; exact Mk.copy_n.2
    have hdok : CpOk d := by
      rw [← hd]
      refine Mk.copy_ok hcok.ok fun t ht => ?_
      rcases List.mem_cons.1 ht with rfl | ht
      · omega
      · exact hFr t ht
    have hspec : g.compose l by_ = if d.2.full then .err 3 else ⟨d.2.graph, l.map (imgE d.1), 0⟩ := by
      rw [← hd, ← hc, hF, ← hc]
      unfold AigP.compose
      rw [if_pos (by simp [hnd, c1, c2]), if_pos (by simpa using hin)]
      rfl
    rw [hspec]
    have hl7 := hst7.len
    have hnf5 : ∀ j, j < σ.length + 2 → ¬ Rt σ5 mid j := fun j hj hf => hnb4 j hj ((hrt5 j).1 hf)
    have hC7 := (hst7.get _ (by omega) (hnf5 _ (by omega))).trans hC5
    have hF07 : Fr σ.length σ σ7 := ⟨by omega, fun j hj => ((hst7.get j (by omega) (hnf5 _ (by omega))).trans (hk5 j (hns j (by omega)))).trans (hF04.get j hj)⟩
    obtain ⟨si, sa, hR⟩ := hm7
    have hfull : gload (.load 1 false) [.ptr mid 2] σ7 = some (.bool d.2.full) := ld_at hR.row
    have hgr : gload (.load 2 true) [.ptr mid 0] σ7 = some (.agg [si, sa]) := by rw [ld_agg hR.row]; rfl
    simp [hfull]
    cases hfu : d.2.full with
    | true =>
      have herr : gimp (.store 2) [.ptr (σ.length + 1) 0, .agg [.nils, .nils]] σ7 = some (.tuple [], σ7.set (σ.length + 1) (.row false [.nils, .nils])) := by simp [gimp, hC7, over]
      have hldC : gload (.load 2 true) [.ptr (σ.length + 1) 0] (σ7.set (σ.length + 1) (.row false [.nils, .nils])) = some (.agg [.nils, .nils]) := by
        rw [ld_agg (List.getElem?_set_self (by omega))]; rfl
      simp [herr, hldC]
      exact ⟨hF07.set (by omega) _, rd_err _ _ _⟩
    | false =>
      simp [hgr]
      refine ref_images_ok (by omega) hl (fun t ht => by have := hdok.to t ht; omega) (fun e he => by rw [hdl]; exact AigP.all_has c1 he) ?_
      have hst : gimp (.store 2) [.ptr (σ.length + 1) 0, .agg [si, sa]] σ7 = some (.tuple [], σ7.set (σ.length + 1) (.row false [si, sa])) := by simp [gimp, hC7, over, hR.si_flat, hR.ands.flat]
      have hldC : gload (.load 2 true) [.ptr (σ.length + 1) 0] (σ7.set (σ.length + 1) (.row false [si, sa])) = some (.agg [si, sa]) := by
        rw [ld_agg (List.getElem?_set_self (by omega))]; rfl
      simp [hst, hldC]
      refine ⟨hF07.set (by omega) _, ?_⟩
      have hR' : RkR mid (σ7.set (σ.length + 1) (.row false [si, sa])) mid d.2 si sa := hR.fit fun j hj => List.getElem?_set_ne fun e => by have := (hR.dom hj).2; omega
      exact .tuple (.cons (hR'.rd _ fun i hi => .inl (by omega)) (.cons (.same _) (.cons (.same _) .nil)))
end Go.Gh
namespace Go.Gh
open Go.Proofs
end Go.Gh
namespace Go.Gh
open Go.RowKit Go.Proofs
set_option linter.unusedVariables false
set_option linter.unusedSimpArgs false
set_option maxRecDepth 100000
/-- How many are true. -/
def cntB (l : List Bool) : Nat := (l.filter id).length
def AigP.size (g : AigP) (l : List Int) : Int × Int := if g.all l = true then (cntB ((g.reach l).drop (1 + g.ins.length)), 0) else (0, 2)
theorem great_two {g k : AigP} {id : Nat} {cap : Option Nat} {σ : GS} {Post : DV → GS → Prop} (hr : σ[id]? = some (.row false (eaig g ++ eaig k))) (h : Post (.bool (g.great || k.great)) σ) : GCall Tryz.prog F_skolemlaw06_great [.slice id 0 2 2 cap] σ Post := by
  have hrd := Rd.slice (σ := σ) (ok := fun _ => True) (id := id) (off := 0) (sz := 2) (cap := cap) (es := [eaig g, eaig k]) trivial hr (by simp) (fun e he => by simp at he; rcases he with rfl | rfl <;> rfl) (by simp; exact Rds.refl _)
  refine GCall.borrow (args' := [.fsl 2 ([g, k].map eaig)]) (r := .bool (g.great || k.great)) (.cons hrd .nil) ?_ rfl ?_ h
  · have h1 : closedss (g.ins.map eint) = true := closed_fints g.ins
    have h2 : closedss (g.ands.map eand) = true := closed_fands g.ands
    have h3 : closedss (k.ins.map eint) = true := closed_fints k.ins
    have h4 : closedss (k.ands.map eand) = true := closed_fands k.ands
    simp only [closeds, DV.closed, List.map_cons, List.map_nil, closedss]
    rw [h1, h2, h3, h4]; rfl
  · exact great_ok (gs := [g, k]) (by simp) (by simp)
end Go.Gh
namespace Go.Gh
open Go.RowKit Go.Proofs
set_option linter.unusedVariables false
set_option linter.unusedSimpArgs false
set_option maxRecDepth 100000
theorem Mk.copy_sm {m : Mk} {g : AigP} {r : List Bool} {T : List Int} : (m.copy g r T).2.ins = m.ins ∧ (m.copy g r T).2.ands.length ≤ m.ands.length + g.ands.length := by
  have e1 := Mk.copy_ins (m := m) (g := g) (r := r) (T := T)
  have e2 := (Mk.copy_n (m := m) (g := g) (r := r) (T := T)).2
  unfold Mk.n at e2
  rw [e1] at e2
  exact ⟨e1, by omega⟩
theorem compose_sm {g : AigP} (hs : g.Sm) {l : List Int} {by_ : List (Int × Int)} (hl : l.length < 2 ^ 40) (hi : g.ins.length ≤ 1000) (ha : g.ands.length ≤ 1000) : (g.compose l by_).g.Sm ∧ (g.compose l by_).l.length < 2 ^ 60 := by
  have he : ∀ e, (GOut.err e).g.Sm ∧ (GOut.err e).l.length < 2 ^ 60 := fun e => ⟨⟨by simp [GOut.err], by simp [GOut.err]⟩, by simp [GOut.err]⟩
  unfold AigP.compose
  split
  · split
    · obtain ⟨c, hc⟩ : ∃ c, (Mk.mk g.ins [] false).copy g (g.reach (by_.map (·.2))) (0 :: g.ins.map (edgeOf g.ins)) = c := ⟨_, rfl⟩
      have h1 := Mk.copy_sm (m := Mk.mk g.ins [] false) (g := g) (r := g.reach (by_.map (·.2))) (T := 0 :: g.ins.map (edgeOf g.ins))
      simp only [hc] at h1 ⊢
      have h2 := fun r T => Mk.copy_sm (m := c.2) (g := g) (r := r) (T := T)
      have e : c.2.ands.length ≤ 0 + g.ands.length := h1.2
      have e1 : c.2.ins.length = g.ins.length := by rw [h1.1]
      split
      · exact he 3
      · refine ⟨⟨?_, ?_⟩, by simp; omega⟩
        · show (Mk.graph _).ins.length < _
          unfold Mk.graph
          rw [(h2 _ _).1]; show c.2.ins.length < _; omega
        · show (Mk.graph _).ands.length < _
          unfold Mk.graph
          exact Nat.lt_of_le_of_lt (h2 _ _).2 (by omega)
    · exact he 6
  · exact he 2
theorem join_sm {a b : AigP} {x y : List Int} (hx : x.length < 2 ^ 40) (hy : y.length < 2 ^ 40) (h1 : a.ins.length ≤ 1000) (h2 : a.ands.length ≤ 1000) (h3 : b.ins.length ≤ 1000) (h4 : b.ands.length ≤ 1000) : (a.join x b y).g.Sm ∧ (a.join x b y).u.length < 2 ^ 60 ∧ (a.join x b y).v.length < 2 ^ 60 := by
  unfold AigP.join
  split
  · have hu := unionI_len a.ins b.ins
    have k1 := Mk.copy_sm (m := Mk.mk (unionI a.ins b.ins) [] false) (g := a) (r := a.reach x) (T := 0 :: a.ins.map (edgeOf (unionI a.ins b.ins)))
    obtain ⟨c, hc⟩ : ∃ c, (Mk.mk (unionI a.ins b.ins) [] false).copy a (a.reach x) (0 :: a.ins.map (edgeOf (unionI a.ins b.ins))) = c := ⟨_, rfl⟩
    simp only [hc] at k1 ⊢
    have k2 := Mk.copy_sm (m := c.2) (g := b) (r := b.reach y) (T := 0 :: b.ins.map (edgeOf (unionI a.ins b.ins)))
    have e : c.2.ands.length ≤ 0 + a.ands.length := k1.2
    have e1 : c.2.ins.length = (unionI a.ins b.ins).length := by rw [k1.1]
    refine ⟨⟨?_, ?_⟩, by simp; omega, by simp; omega⟩
    · show (Mk.graph _).ins.length < _
      unfold Mk.graph
      rw [k2.1]; show c.2.ins.length < _; omega
    · show (Mk.graph _).ands.length < _
      unfold Mk.graph
      exact Nat.lt_of_le_of_lt k2.2 (by omega)
  · exact ⟨⟨by simp, by simp⟩, by simp, by simp⟩
set_option maxHeartbeats 4000000 in
theorem composes_ok {a b : AigP} {x y : List Int} {by_ : List (Int × Int)} {σ : GS} {Post : DV → GS → Prop} (h1 : a.ins.length < 2 ^ 47) (h2 : a.ands.length < 2 ^ 47) (h3 : b.ins.length < 2 ^ 47) (h4 : b.ands.length < 2 ^ 47) (hx : x.length < 2 ^ 47) (hy : y.length < 2 ^ 47) (hb : by_.length < 2 ^ 47) (k : ∀ σ', Post (.bool true) σ') : GCall Tryz.prog F_skolemlaw06_AigComposes [a.enc, fints x, b.enc, fints y, fands by_] σ Post := by
  refine gc_skolemlaw06_AigComposes ?_
  simp [G_skolemlaw06_AigComposes, genv0, List.replicate, galloc, gfill, DV.cells, over, gzeros]
  refine great_two (g := a) (k := b) (by simp) ?_
  by_cases c1 : (a.great || b.great) = true
  · simp [c1]
    refine works_ok ?_
    simp
    exact k _
  have hs : a.Sm := ⟨by omega, by omega⟩
  have hsb : b.Sm := ⟨by omega, by omega⟩
  have hgr : a.great = false ∧ b.great = false := by simpa using c1
  have hga : a.ins.length ≤ 100 ∧ a.ands.length ≤ 600 := by have := hgr.1; unfold AigP.great at this; simp at this; omega
  have hgb : b.ins.length ≤ 100 ∧ b.ands.length ≤ 600 := by have := hgr.2; unfold AigP.great at this; simp at this; omega
  rw [Bool.eq_false_iff.2 c1]
  simp
  by_cases c2 : (100 : Int) < x.length
  · simp [c2]
    refine works_ok ?_
    simp
    exact k _
  simp [c2]
  by_cases c3 : (100 : Int) < y.length
  · simp [c3]
    refine works_ok ?_
    simp
    exact k _
  simp [c3]
  by_cases c4 : (100 : Int) < by_.length
  · simp [c4]
    refine works_ok ?_
    simp
    exact k _
  simp [c4]
  have hnn : a.nodes + b.nodes ≤ 200000 := by unfold AigP.nodes; omega
  obtain ⟨s1, s2⟩ := compose_sm hs (l := x) (by_ := by_) (by omega) (by omega) (by omega)
  obtain ⟨s3, s4, s5⟩ := join_sm (a := a) (b := b) (x := x) (y := y) (by omega) (by omega) (by omega) (by omega) (by omega) (by omega)
  obtain ⟨C, hC⟩ : ∃ C, a.compose x by_ = C := ⟨_, rfl⟩
  obtain ⟨J, hJ⟩ : ∃ J, a.join x b y = J := ⟨_, rfl⟩
  rw [hC] at s1 s2
  rw [hJ] at s3 s4 s5
  refine aig_Compose_ok hs (by omega) (by omega) ?_
  rw [hC]
  simp
  refine ref_Compose_ok hs (by omega) (by omega) ?_
  rw [hC]
  simp
  refine aig_Join_ok hs hsb (by omega) (by omega) hnn ?_
  rw [hJ]
  simp
  refine ref_Join_ok hs hsb (by omega) (by omega) hnn ?_
  rw [hJ]
  simp
  refine ref_Same_ok s1 s1 ?_
  simp
  refine ref_Ints_ok s2 ?_
  simp
  refine ref_Same_ok s3 s3 ?_
  simp
  refine ref_Ints_ok s4 ?_
  simp
  refine ref_Ints_ok s5 ?_
  simp
  refine works_ok ?_
  simp
  exact k _
end Go.Gh
