/-
  Proved: enc's formulas of nets.
  Part 8 of 10. Conditions: none. A verified frame that runs compiled texts over a ghost heap, the contracts of the functions that the statement reaches, and the plain law.
-/
import Derived.Test.YtdpbcckkdccmlaaGreatXN7
import Derived.Test.YtdpbcckkdccmlaaGreatProg
import Derived.KernelRfl
namespace Go.Gh
open Go.RowKit Go.Proofs
set_option linter.unusedVariables false
set_option linter.unusedSimpArgs false
set_option maxRecDepth 100000
theorem circ_abs_ok {x : Int} {σ : GS} {Post : DV → GS → Prop} (h : Post (.int .i64 (absE x)) σ) : GCall Tryz.prog F_circ_abs [.int .i64 x] σ Post := by
  refine gc_circ_abs ?_
  by_cases h1 : x < -65536
  · rw [show absE x = 0 from if_pos (.inl h1)] at h
    simp [G_circ_abs, genv0, List.replicate, h1]
    exact h
  by_cases h2 : 65536 < x
  · rw [show absE x = 0 from if_pos (.inr h2)] at h
    simp [G_circ_abs, genv0, List.replicate, h1, h2]
    exact h
  have e : IntKind.i64.wrap (-x) = -x := by rw [wrap_small] <;> omega
  have e2 : max x (-x) = absE x := by rw [absE_in (by omega)]; unfold ab; split <;> omega
  simp [G_circ_abs, genv0, List.replicate, h1, h2, e, e2]
  exact h
theorem absE_range (x : Int) : 0 ≤ absE x ∧ absE x < 65537 := by
  unfold absE
  split
  · omega
  · unfold ab; split <;> omega
theorem SetV.at_ {vs : List Bool} {seen : List Int} (h : SetV vs seen) {v : Int} (h0 : 0 ≤ v) (h1 : v < 65537) : vs[v.toNat]? = some (seen.contains v) := by
  have := h.get v.toNat (by omega)
  rwa [show ((v.toNat : Nat) : Int) = v by omega] at this
theorem set_has_ok {id : Nat} {vs : List Bool} {seen : List Int} {x : Int} {σ : GS} {Post : DV → GS → Prop} {ro : Bool} (hr : σ[id]? = some (.row ro (bools vs))) (hv : SetV vs seen) (h : Post (.bool (seen.contains (absE x))) σ) : GCall Tryz.prog F_circ_set_has [.ptr id 0, .int .i64 x] σ Post := by
  refine gc_circ_set_has ?_
  obtain ⟨a0, a1⟩ := absE_range x
  have ld := ld_bools hr (hv.at_ a0 a1)
  simp [G_circ_set_has, genv0, List.replicate]
  refine circ_abs_ok ?_
  simp [a0, a1, ld]
  simpa using h
theorem set_add_ok {id : Nat} {vs : List Bool} {seen : List Int} {v : Int} {σ : GS} {Post : DV → GS → Prop} (hr : σ[id]? = some (.row false (bools vs))) (hv : SetV vs seen)
    (k0 : (isVar v && !seen.contains v) = false → Post (.bool false) σ) (k1 : (isVar v && !seen.contains v) = true → ∀ vs', SetV vs' (seen ++ [v]) → Post (.bool true) (σ.set id (.row false (bools vs')))) : GCall Tryz.prog F_circ_set_add [.ptr id 0, .int .i64 v] σ Post := by
  refine gc_circ_set_add ?_
  by_cases h1 : v < 1
  · simp [G_circ_set_add, genv0, List.replicate, h1]
    exact k0 (by simp [isVar]; omega)
  by_cases h2 : 65536 < v
  · simp [G_circ_set_add, genv0, List.replicate, h1, h2]
    exact k0 (by simp [isVar]; omega)
  have a0 : 0 ≤ v := by omega
  have a1 : v < 65537 := by omega
  have ld := ld_bools hr (hv.at_ a0 a1)
  have hst := store_bool (b := true) hr (i := v.toNat) (by rw [hv.len]; omega)
  have hiv : isVar v = true := by simp [isVar]; omega
  cases hc : seen.contains v with
  | true =>
    rw [hc] at ld
    simp [G_circ_set_add, genv0, List.replicate, h1, h2, a0, a1, ld]
    exact k0 (by rw [hiv, hc]; rfl)
  | false =>
    rw [hc] at ld
    simp [G_circ_set_add, genv0, List.replicate, h1, h2, a0, a1, ld, hst]
    have hs := hv.put (k := v.toNat) (by omega)
    rw [show ((v.toNat : Nat) : Int) = v by omega] at hs
    have := k1 (by rw [hiv, hc]; rfl) _ hs
    simpa [List.map_set] using this
theorem varR_snoc {seen l : List Int} {j : Nat} {x : Int} (hx : l[j]? = some x) : varR (seen ++ l.take j) (l.drop j) = (decide ((seen ++ l.take j).length < 1024) && (isVar x && !(seen ++ l.take j).contains x) && varR (seen ++ l.take (j + 1)) (l.drop (j + 1))) := by
  rw [drop_get hx, varR, take_get hx, List.append_assoc]
set_option maxHeartbeats 1000000 in
theorem set_prefix_ok {id : Nat} {vs : List Bool} {p : List Blk} {σ : GS} {Post : DV → GS → Prop} (hr : σ[id]? = some (.row false (bools vs))) (hv : SetV vs []) (hp : p.length < 2 ^ 50) (hpl : ∀ b ∈ p, b.2.length < 2 ^ 50)
    (k0 : mayB p = false → ∀ σ', Fr id σ σ' → Post (.bool false) σ') (k1 : mayB p = true → ∀ σ' vs', Fr id σ σ' → σ'[id]? = some (.row false (bools vs')) → SetV vs' (flatB p) → Post (.bool true) σ') : GCall Tryz.prog F_circ_set_prefix [.ptr id 0, fblks p] σ Post := by
  refine gc_circ_set_prefix ?_
  have hid := get_dom hr
  simp [G_circ_set_prefix, genv0, List.replicate]
  refine gfor p.length (fun i e σ' => Fr id σ σ' ∧ ∃ vs', σ'[id]? = some (.row false (bools vs')) ∧ SetV vs' (flatB (p.take i)) ∧ mayB p = preR (prevQ p i) (flatB (p.take i)) (p.drop i) ∧ (flatB (p.take i)).length ≤ 1024 ∧ e = mkEnv 55 [(0, .ptr id 0), (1, fblks p), (5, .int .i64 (flatB (p.take i)).length), (10, fblks p), (11, .int .i64 p.length), (12, .int .i64 i)]) _ ?_ ⟨.refl (by omega), vs, hr, by simpa [flatB] using hv, by simp [mayB_preR, prevQ, flatB], by simp [flatB], rfl⟩ ?_
  · simp [mkEnv, List.replicate]
  rintro i _ σ1 hi ⟨hF, vs1, hr1, hv1, hI, hn, rfl⟩
  have hid1 := get_dom hr1
  simp [mkEnv, List.replicate]
  by_cases hlt : i < p.length
  rotate_left
  · have : i = p.length := by omega
    subst this
    rw [List.drop_length] at hI
    rw [List.take_length] at hv1
    simp
    exact k1 (by rw [hI]; rfl) _ _ hF hr1 hv1
  obtain ⟨b, hb⟩ := nth_lt hlt
  have hb' := nth_get hb
  have hbl := hpl b (List.mem_of_getElem? hb')
  have hft := flatB_take hb'
  have es : IntKind.i64.wrap ((i : Int) + 1) = (i : Int) + 1 := by rw [wrap_small] <;> omega
  rw [drop_get hb', preR] at hI
  have hr2 : (σ1 ++ [GObj.row false (eblk b)])[id]? = some (.row false (bools vs1)) := getE_append hr1
  have hF2 : Fr id σ (σ1 ++ [GObj.row false (eblk b)]) := hF.app _
  by_cases h0 : b.2.length = 0
  · have h0' : b.2 = [] := List.length_eq_zero_iff.1 h0
    simp [hlt, hb, h0']
    exact k0 (by rw [hI]; simp [blkOk, h0']) _ (hF.app _)
  have h0' : ¬ (b.2 = []) := fun e => h0 (by rw [e]; rfl)
  have h0'' : ¬ ((b.2.length : Int) = 0) := by omega
  by_cases hprev : prevQ p i = some b.1
  · have hno : mayB p = false := by rw [hI]; simp [blkOk, hprev]
    cases i with
    | zero => simp [prevQ] at hprev
    | succ i =>
      obtain ⟨c, hc⟩ := nth_lt (l := p) (i := i) (by omega)
      have hc' := nth_get hc
      have ew' : IntKind.i64.wrap (i : Int) = i := by rw [wrap_small] <;> omega
      have hge : (0 : Int) ≤ (i : Int) + 1 := by omega
      have hgt : (0 : Int) < (i : Int) + 1 := by omega
      have htn : ((i : Int) + 1).toNat = i + 1 := by omega
      have he : c.1 = b.1 := by simpa [prevQ, hc'] using hprev
      simp [hlt, hb, h0', h0'', hge, hgt, htn, ew', hc, he]
      exact k0 hno _ hF2
  have hbo : blkOk (prevQ p i) b = true := by simp [blkOk, h0', hprev]
  rw [hbo, Bool.true_and] at hI
  by_cases hpos : (0 : Int) < i
  · obtain ⟨c, hc⟩ := nth_lt (l := p) (i := i - 1) (by omega)
    have hc' := nth_get hc
    have ew' : IntKind.i64.wrap ((i : Int) - 1) = ((i - 1 : Nat) : Int) := by rw [wrap_small] <;> omega
    have hpq : prevQ p i = some c.1 := by
      obtain ⟨k, rfl⟩ : ∃ k, i = k + 1 := ⟨i - 1, by omega⟩
      simp at hc'
      simp [prevQ, hc']
    have he2 : (b.1 == c.1) = false := by
      rw [hpq] at hprev; simp at hprev ⊢; exact fun e => hprev e.symm
    simp [hlt, hb, h0', h0'', hpos, (show 0 < i by omega), ew', hc, he2]
    refine gfor b.2.length (fun j e σ' => Fr id σ σ' ∧ ∃ vs', σ'[id]? = some (.row false (bools vs')) ∧ SetV vs' (flatB (p.take i) ++ b.2.take j) ∧ mayB p = (varR (flatB (p.take i) ++ b.2.take j) (b.2.drop j) && preR (some b.1) (flatB (p.take i) ++ b.2) (p.drop (i + 1))) ∧ (flatB (p.take i) ++ b.2.take j).length ≤ 1024 ∧ e = mkEnv 55 [(0, .ptr id 0), (1, fblks p), (5, .int .i64 (flatB (p.take i) ++ b.2.take j).length), (10, fblks p), (11, .int .i64 p.length), (12, .int .i64 i), (37, fints b.2), (38, .int .i64 b.2.length), (39, .int .i64 j)]) _ ?_ ⟨hF2, vs1, hr2, by simpa using hv1, by simpa using hI, by simpa using hn, rfl⟩ ?_
    · simp [mkEnv, List.replicate]
    clear hr2 hF2
    rintro j _ σ2 hj ⟨hF2, vs2, hr2, hv2, hI2, hn2, rfl⟩
    simp [mkEnv, List.replicate]
    by_cases hjt : j < b.2.length
    · obtain ⟨x, hx⟩ := nth_lt hjt
      have hx' := nth_get hx
      have hsn := varR_snoc (seen := flatB (p.take i)) hx'
      rw [hsn] at hI2
      have ej : IntKind.i64.wrap ((j : Int) + 1) = (j : Int) + 1 := by rw [wrap_small] <;> omega
      have hlen3 : (flatB (p.take i) ++ b.2.take (j + 1)).length = (flatB (p.take i) ++ b.2.take j).length + 1 := by rw [take_get hx']; simp; omega
      obtain ⟨m, hm⟩ : ∃ m, (flatB (p.take i) ++ b.2.take j).length = m := ⟨_, rfl⟩
      have hm2 : ((flatB (p.take i)).length : Int) + ((min j b.2.length : Nat) : Int) = m := by rw [← hm]; simp
      have hjm : min j b.2.length = j := by omega
      rw [hjm] at hm2
      rw [hm] at hlen3 hn2 hI2
      have en : IntKind.i64.wrap ((m : Int) + 1) = (m : Int) + 1 := by rw [wrap_small] <;> omega
      by_cases hfull : m < 1024
      · have hfull' : ¬ ((1024 : Int) < (m : Int) + 1) := by omega
        simp [hjt, hx, hjm, hm2, en, hfull']
        refine set_add_ok hr2 hv2 (fun hc => ?_) fun hc vs3 hv3 => ?_
        · simp
          exact k0 (by rw [hI2, hc]; simp) _ hF2
        · simp [ej]
          have hid2 := get_dom hr2
          refine forK_go _ hjt (by simp [mkEnv, List.replicate, hlen3]) ⟨hF2.set (Nat.le_refl _) _, vs3, by rw [List.getElem?_set_self hid2], by rw [take_get hx', ← List.append_assoc]; exact hv3, ?_, by omega, rfl⟩
          rw [hI2, hc]; simp [hfull]
      · have hfull' : (1024 : Int) < (m : Int) + 1 := by omega
        simp [hjt, hx, hjm, hm2, en, hfull']
        exact k0 (by rw [hI2]; simp [hfull]) _ hF2
    · have : j = b.2.length := by omega
      subst this
      rw [List.take_length] at hv2 hn2 hI2
      rw [List.drop_length] at hI2
      simp [es]
      refine forK_go _ hlt (by simp [mkEnv, List.replicate, hft]) ⟨hF2, vs2, hr2, by rw [hft]; exact hv2, ?_, by rw [hft]; exact hn2, rfl⟩
      rw [hI2, hft]
      simp [varR, prevQ, hb']
  · simp [hlt, hb, h0', h0'', hpos, (show ¬ 0 < i by omega)]
    refine gfor b.2.length (fun j e σ' => Fr id σ σ' ∧ ∃ vs', σ'[id]? = some (.row false (bools vs')) ∧ SetV vs' (flatB (p.take i) ++ b.2.take j) ∧ mayB p = (varR (flatB (p.take i) ++ b.2.take j) (b.2.drop j) && preR (some b.1) (flatB (p.take i) ++ b.2) (p.drop (i + 1))) ∧ (flatB (p.take i) ++ b.2.take j).length ≤ 1024 ∧ e = mkEnv 55 [(0, .ptr id 0), (1, fblks p), (5, .int .i64 (flatB (p.take i) ++ b.2.take j).length), (10, fblks p), (11, .int .i64 p.length), (12, .int .i64 i), (37, fints b.2), (38, .int .i64 b.2.length), (39, .int .i64 j)]) _ ?_ ⟨hF2, vs1, hr2, by simpa using hv1, by simpa using hI, by simpa using hn, rfl⟩ ?_
    · simp [mkEnv, List.replicate]
    clear hr2 hF2
    rintro j _ σ2 hj ⟨hF2, vs2, hr2, hv2, hI2, hn2, rfl⟩
    simp [mkEnv, List.replicate]
    by_cases hjt : j < b.2.length
    · obtain ⟨x, hx⟩ := nth_lt hjt
      have hx' := nth_get hx
      have hsn := varR_snoc (seen := flatB (p.take i)) hx'
      rw [hsn] at hI2
      have ej : IntKind.i64.wrap ((j : Int) + 1) = (j : Int) + 1 := by rw [wrap_small] <;> omega
      have hlen3 : (flatB (p.take i) ++ b.2.take (j + 1)).length = (flatB (p.take i) ++ b.2.take j).length + 1 := by rw [take_get hx']; simp; omega
      obtain ⟨m, hm⟩ : ∃ m, (flatB (p.take i) ++ b.2.take j).length = m := ⟨_, rfl⟩
      have hm2 : ((flatB (p.take i)).length : Int) + ((min j b.2.length : Nat) : Int) = m := by rw [← hm]; simp
      have hjm : min j b.2.length = j := by omega
      rw [hjm] at hm2
      rw [hm] at hlen3 hn2 hI2
      have en : IntKind.i64.wrap ((m : Int) + 1) = (m : Int) + 1 := by rw [wrap_small] <;> omega
      by_cases hfull : m < 1024
      · have hfull' : ¬ ((1024 : Int) < (m : Int) + 1) := by omega
        simp [hjt, hx, hjm, hm2, en, hfull']
        refine set_add_ok hr2 hv2 (fun hc => ?_) fun hc vs3 hv3 => ?_
        · simp
          exact k0 (by rw [hI2, hc]; simp) _ hF2
        · simp [ej]
          have hid2 := get_dom hr2
          refine forK_go _ hjt (by simp [mkEnv, List.replicate, hlen3]) ⟨hF2.set (Nat.le_refl _) _, vs3, by rw [List.getElem?_set_self hid2], by rw [take_get hx', ← List.append_assoc]; exact hv3, ?_, by omega, rfl⟩
          rw [hI2, hc]; simp [hfull]
      · have hfull' : (1024 : Int) < (m : Int) + 1 := by omega
        simp [hjt, hx, hjm, hm2, en, hfull']
        exact k0 (by rw [hI2]; simp [hfull]) _ hF2
    · have : j = b.2.length := by omega
      subst this
      rw [List.take_length] at hv2 hn2 hI2
      rw [List.drop_length] at hI2
      simp [es]
      refine forK_go _ hlt (by simp [mkEnv, List.replicate, hft]) ⟨hF2, vs2, hr2, by rw [hft]; exact hv2, ?_, by rw [hft]; exact hn2, rfl⟩
      rw [hI2, hft]
      simp [varR, prevQ, hb']
end Go.Gh
namespace Go.Gh
open Go.RowKit Go.Proofs
set_option linter.unusedVariables false
set_option linter.unusedSimpArgs false
set_option maxRecDepth 100000
theorem circ_literals_ok {gs : List GateP} {σ : GS} {Post : DV → GS → Prop} (hg : gs.length < 2 ^ 50) (hs : (gs.map fun g => g.ins.length).sum < 2 ^ 50) (h : Post (.int .i64 ((gs.map fun g => g.ins.length).sum : Nat)) σ) : GCall Tryz.prog F_circ_literals [fgates gs] σ Post := by
  refine GCall.say (r := .int .i64 ((gs.map fun g => g.ins.length).sum : Nat)) ?_ rfl h
  refine gc_circ_literals ?_
  simp [G_circ_literals, genv0, List.replicate]
  refine gfor gs.length (fun i e σ' => Fr σ.length σ σ' ∧ e = mkEnv 18 [(2, .int .i64 (((gs.map fun g => g.ins.length).take i).sum : Nat)), (5, fgates gs), (6, .int .i64 gs.length), (7, .int .i64 i)]) _ ?_ ⟨.rfl', rfl⟩ ?_
  · simp [mkEnv, List.replicate]
  rintro i _ σ1 hi ⟨hF, rfl⟩
  simp [mkEnv, List.replicate]
  by_cases hlt : i < gs.length
  · obtain ⟨g, hg⟩ := nth_lt hlt
    have hg' := nth_get hg
    have es : IntKind.i64.wrap ((i : Int) + 1) = (i : Int) + 1 := by rw [wrap_small] <;> omega
    have h1 := sum_snoc (f := fun g : GateP => g.ins.length) hg'
    have h2 := sum_take (fun g : GateP => g.ins.length) gs (i + 1)
    obtain ⟨m, hm⟩ : ∃ m, (((gs.map fun g => g.ins.length).take i).sum) = m := ⟨_, rfl⟩
    obtain ⟨m2, hm2⟩ : ∃ m, (((gs.map fun g => g.ins.length).take (i + 1)).sum) = m := ⟨_, rfl⟩
    rw [hm, hm2] at h1
    rw [hm2] at h2
    have ew : IntKind.i64.wrap ((m : Int) + g.ins.length) = (m2 : Int) := by rw [wrap_small] <;> omega
    simp [hlt, hg, hm, ew, es]
    exact forK_go _ hlt (by simp [mkEnv, List.replicate, hm2]) ⟨hF.app _, rfl⟩
  · have : i = gs.length := by omega
    subst this
    rw [List.take_of_length_le (by simp)]
    simp
    exact hF
theorem circ_shaped_ok {g : GateP} {σ : GS} {Post : DV → GS → Prop} (h : Post (.bool (shpG g.k g.ins.length)) σ) : GCall Tryz.prog F_circ_shaped [g.enc] σ Post := by
  refine GCall.say (r := .bool (shpG g.k g.ins.length)) ?_ rfl h
  refine gc_circ_shaped ?_
  simp [G_circ_shaped, genv0, List.replicate]
  have hF : Fr σ.length σ (σ ++ [GObj.row false (egate g)]) := Fr.self _
  have hl : ∀ n : Nat, (((g.ins.length : Int) = n) ↔ g.ins.length = n) := fun n => by omega
  by_cases c1 : g.k = 1
  · simp [c1, shpG]
  by_cases c2 : g.k = 2
  · simp [c1, c2, shpG]
  by_cases c3 : g.k = 3
  · have := hl 2
    simp at this
    simp [c1, c2, c3, shpG, this]
  by_cases c4 : g.k = 4
  · have := hl 3
    simp at this
    simp [c1, c2, c3, c4, shpG, this]
  simp [c1, c2, c3, c4, shpG]
theorem circ_May1_ok {id : Nat} {vs : List Bool} {seen : List Int} {x : Int} {σ : GS} {Post : DV → GS → Prop} {ro : Bool} (hr : σ[id]? = some (.row ro (bools vs))) (hv : SetV vs seen) (h : Post (.bool (!seen.contains (absE x))) σ) : GCall Tryz.prog F_circ_May_1 [.int .i64 x, .ptr id 0] σ Post := by
  refine gc_circ_May_1 ?_
  simp [G_circ_May_1, genv0, List.replicate]
  refine set_has_ok hr hv ?_
  simpa using h
/-- A net's sizes. -/
structure NetS (n : NetQ) : Prop where
  pre : n.pre.length < 2 ^ 50
  blk : ∀ b ∈ n.pre, b.2.length < 2 ^ 50
  gates : n.gates.length < 2 ^ 50
  lits : n.lits ≤ 200000
theorem NetS.ins {n : NetQ} (h : NetS n) {g : GateP} (hg : g ∈ n.gates) : g.ins.length ≤ 200000 := by
  have := mem_sum (f := fun g : GateP => g.ins.length) hg
  have := h.lits
  unfold NetQ.lits at this
  omega
theorem gsOk_step {g : GateP} {l : List GateP} {seen : List Int} : gsOk seen (g :: l) = ((shpG g.k g.ins.length && g.ins.all (fun x => seen.contains (absE x)) && (isVar g.v && !seen.contains g.v)) && gsOk (seen ++ [g.v]) l) := rfl
theorem all_any (l : List Int) (p : Int → Bool) : l.all p = !l.any fun x => !p x := by
  induction l with
  | nil => rfl
  | cons x l ih => simp [ih]
set_option maxHeartbeats 1000000 in
theorem circ_May_ok {n : NetQ} {σ : GS} {Post : DV → GS → Prop} (hn : NetS n) (h : Post (.bool (mayN n)) σ) : GCall Tryz.prog F_circ_May [n.enc] σ Post := by
  refine GCall.say (r := .bool (mayN n)) ?_ rfl h
  refine gc_circ_May ?_
  have hbg : galloc (.abig 65537 (.bool false)) [] = some (.row false (bools (List.replicate 65537 false)), fun id => .ptr id 0) := by
    rw [show bools (List.replicate 65537 false) = List.replicate 65537 (.bool false) by simp only [bools, List.map_replicate]]; rfl
  have hl := hn.lits
  have hll : ¬ ((200000 : Int) < (n.gates.map fun g => g.ins.length).sum) := by unfold NetQ.lits at hl; omega
  obtain ⟨V, hV⟩ : ∃ V, List.replicate 65537 false = V := ⟨_, rfl⟩
  have hv0 : SetV V [] := by rw [← hV]; exact .nil
  rw [hV] at hbg
  simp [G_circ_May, genv0, List.replicate, hbg]
  refine set_prefix_ok (by simp) hv0 hn.pre hn.blk (fun hm σ1 hF => ?_) fun hm σ1 vs1 hF hr1 hv1 => ?_
  · simp [mayN, hm]
    exact (Fr.self [GObj.row false (enet n)]).trans (by
      have e : σ ++ [GObj.row false (enet n), GObj.row false (bools V)] = (σ ++ [GObj.row false (enet n)]) ++ [GObj.row false (bools V)] := by simp
      rw [e] at hF
      refine (Fr.app (Fr.refl ?_) _).trans (hF.mono ?_) <;> simp)
  have hrow : σ1[σ.length]? = some (.row false (enet n)) := by
    have := hF.get σ.length (by simp)
    rw [this, getE_tail0]; rfl
  have hF1 : Fr σ.length σ σ1 := (Fr.self [GObj.row false (enet n), GObj.row false (bools V)]).trans (hF.mono (by simp))
  have l1 : gload (.load 1 false) [.ptr σ.length 1] σ1 = some (fgates n.gates) := ld_at hrow
  simp [l1]
  refine circ_literals_ok hn.gates (by omega) ?_
  simp [hll, l1]
  refine gfor n.gates.length (fun i e σ' => Fr (σ.length + 1) σ1 σ' ∧ ∃ vs', σ'[σ.length + 1]? = some (.row false (bools vs')) ∧ SetV vs' (flatB n.pre ++ (n.gates.take i).map (·.v)) ∧ gsOk (flatB n.pre) n.gates = gsOk (flatB n.pre ++ (n.gates.take i).map (·.v)) (n.gates.drop i) ∧ e = mkEnv 44 [(1, .ptr σ.length 0), (3, .ptr (σ.length + 1) 0), (4, .func F_circ_May_1 [] [.ptr (σ.length + 1) 0]), (19, fgates n.gates), (20, .int .i64 n.gates.length), (21, .int .i64 i)]) _ ?_ ⟨.refl (by have := get_dom hr1; omega), vs1, hr1, by simpa using hv1, by simp, rfl⟩ ?_
  · simp [mkEnv, List.replicate]
  rintro i _ σ2 hi ⟨hF2, vs2, hr2, hv2, hI, rfl⟩
  have hF02 : Fr σ.length σ σ2 := hF1.trans (hF2.mono (by omega))
  have hid2 := get_dom hr2
  simp [mkEnv, List.replicate]
  by_cases hlt : i < n.gates.length
  · obtain ⟨g, hg⟩ := nth_lt hlt
    have hg' := nth_get hg
    have hgl := hn.ins (List.mem_of_getElem? hg')
    have hgn := hn.gates
    have es : IntKind.i64.wrap ((i : Int) + 1) = (i : Int) + 1 := by rw [wrap_small] <;> omega
    rw [drop_get hg', gsOk_step] at hI
    have no : (shpG g.k g.ins.length && g.ins.all (fun x => (flatB n.pre ++ (n.gates.take i).map (·.v)).contains (absE x)) && (isVar g.v && !(flatB n.pre ++ (n.gates.take i).map (·.v)).contains g.v)) = false → mayN n = false := fun hh => by
      rw [hh, Bool.false_and] at hI
      unfold mayN; rw [hI]; simp
    have hst : gimp (.store 3) [.ptr σ2.length 0, .agg (egate g)] (σ2 ++ [.row false [.int .i64 0, .int .u8 0, .nils]]) = some (.tuple [], σ2 ++ [.row false (egate g)]) := by simp
    have hFg : Fr σ.length σ (σ2 ++ [GObj.row false (egate g)]) := hF02.app _
    have hrg : (σ2 ++ [GObj.row false (egate g)])[σ.length + 1]? = some (.row false (bools vs2)) := getE_append hr2
    simp [hlt, hg, hst]
    refine circ_shaped_ok ?_
    cases hs : shpG g.k g.ins.length with
    | false =>
      simp
      rw [no (by rw [hs]; rfl)]
      exact ⟨hFg, rfl⟩
    | true =>
      simp
      refine contains_func_ok (by omega) (p := fun x => !(flatB n.pre ++ (n.gates.take i).map (·.v)).contains (absE x)) (fun x hx K hK => circ_May1_ok hrg hv2 hK) ?_
      have hany := all_any g.ins fun x => (flatB n.pre ++ (n.gates.take i).map (·.v)).contains (absE x)
      cases ha : g.ins.any (fun x => !(flatB n.pre ++ (n.gates.take i).map (·.v)).contains (absE x)) with
      | true =>
        rw [ha] at hany
        simp only [ha]
        simp
        rw [no (by rw [hany]; simp)]
        exact ⟨hFg, rfl⟩
      | false =>
        rw [ha] at hany
        simp only [ha]
        simp
        refine set_add_ok hrg hv2 (fun hc => ?_) fun hc vs3 hv3 => ?_
        · simp
          rw [no (by rw [hc]; simp)]
          exact ⟨hFg, rfl⟩
        · simp [es]
          refine forK_go _ hlt (by simp [mkEnv, List.replicate]) ⟨(hF2.app _).set (Nat.le_refl _) _, vs3, by rw [List.getElem?_set_self (get_dom hrg)], by rw [take_get hg', List.map_append, ← List.append_assoc]; exact hv3, ?_, rfl⟩
          rw [hI, hs, hany, hc, take_get hg', List.map_append, ← List.append_assoc]
          simp
  · have : i = n.gates.length := by omega
    subst this
    rw [List.drop_length] at hI
    rw [List.take_length] at hv2
    have l2 : gload (.load 1 false) [.ptr σ.length 2] σ2 = some (.int .i64 n.out) := ld_at ((hF2.get _ (by omega)).trans hrow)
    simp [l2]
    refine set_has_ok hr2 hv2 ?_
    simp
    refine ⟨hF02, ?_⟩
    unfold mayN NetQ.all
    rw [hm, hI]
    simp [gsOk]
end Go.Gh
namespace Go.Gh
open Go.RowKit Go.Proofs
set_option linter.unusedVariables false
set_option linter.unusedSimpArgs false
set_option maxRecDepth 100000
theorem ref_In_live {m : Nat} {s : DV} {a : List Int} {x : Int} {σ : GS} {Post : DV → GS → Prop} (hO : Own m 1 eint σ s a) (hl : a.length < 2 ^ 60) (h : Post (.bool (a.contains x)) σ) : GCall Tryz.prog F_skolemref05_In [s, .int .i64 x] σ Post := by
  refine GCall.borrow (args' := [fints a, .int .i64 x]) (r := .bool (a.contains x)) (.cons (hO.rd (fun _ => rfl) fun _ _ => trivial) (.cons (.same _) .nil)) (by simp) rfl ?_ h
  exact ref_In_ok hl rfl
set_option maxHeartbeats 1000000 in
theorem r5_Prefix_ok {p : List Blk} {σ : GS} {Post : DV → GS → Prop} (hp : p.length < 2 ^ 50) (hpl : ∀ b ∈ p, b.2.length < 2 ^ 50) (h : Post (.bool (mayB p)) σ) : GCall Tryz.prog F_skolemref05_Prefix [fblks p] σ Post := by
  refine GCall.say (r := .bool (mayB p)) ?_ rfl h
  refine gc_skolemref05_Prefix ?_
  simp [G_skolemref05_Prefix, genv0, List.replicate]
  refine gfor p.length (fun i e σ' => Fr σ.length σ σ' ∧ ∃ s, Own σ.length 1 eint σ' s (flatB (p.take i)) ∧ mayB p = preR (prevQ p i) (flatB (p.take i)) (p.drop i) ∧ (flatB (p.take i)).length ≤ 1024 ∧ e = mkEnv 85 [(0, fblks p), (3, s), (4, .int .i64 i)]) _ ?_ ⟨.rfl', .nils, by simpa [flatB] using Own.nil, by simp [mayB_preR, prevQ, flatB], by simp [flatB], rfl⟩ ?_
  · simp [mkEnv, List.replicate]
  rintro i _ σ1 hi ⟨hF, s, hO, hI, hn, rfl⟩
  simp [mkEnv, List.replicate]
  by_cases hlt : i < p.length
  rotate_left
  · have : i = p.length := by omega
    subst this
    rw [List.drop_length] at hI
    simp
    exact ⟨hF, by rw [hI]; rfl⟩
  obtain ⟨b, hb⟩ := nth_lt hlt
  have hb' := nth_get hb
  have hbl := hpl b (List.mem_of_getElem? hb')
  have hft := flatB_take hb'
  have es : IntKind.i64.wrap ((i : Int) + 1) = (i : Int) + 1 := by rw [wrap_small] <;> omega
  rw [drop_get hb', preR] at hI
  by_cases h0 : b.2.length = 0
  · have h0' : b.2 = [] := List.length_eq_zero_iff.1 h0
    simp [hlt, hb, h0']
    exact ⟨hF, by rw [hI]; simp [blkOk, h0']⟩
  have h0' : ¬ (b.2 = []) := fun e => h0 (by rw [e]; rfl)
  have h0'' : ¬ ((b.2.length : Int) = 0) := by omega
  by_cases hprev : prevQ p i = some b.1
  · have hno : mayB p = false := by rw [hI]; simp [blkOk, hprev]
    have hpos : (0 : Int) < i := by cases i with
      | zero => simp [prevQ] at hprev
      | succ i => omega
    obtain ⟨c, hc⟩ := nth_lt (l := p) (i := i - 1) (by omega)
    have hc' := nth_get hc
    have ew' : IntKind.i64.wrap ((i : Int) - 1) = ((i - 1 : Nat) : Int) := by rw [wrap_small] <;> omega
    have he : (b.1 == c.1) = true := by
      obtain ⟨k, rfl⟩ : ∃ k, i = k + 1 := ⟨i - 1, by omega⟩
      simp at hc'
      simp [prevQ, hc'] at hprev
      simp [hprev]
    simp [hlt, hb, h0', h0'', hpos, (show 0 < i by omega), ew', hc, he]
    exact ⟨hF, hno⟩
  have hbo : blkOk (prevQ p i) b = true := by simp [blkOk, h0', hprev]
  rw [hbo, Bool.true_and] at hI
  by_cases hpos : (0 : Int) < i
  · obtain ⟨c, hc⟩ := nth_lt (l := p) (i := i - 1) (by omega)
    have hc' := nth_get hc
    have ew' : IntKind.i64.wrap ((i : Int) - 1) = ((i - 1 : Nat) : Int) := by rw [wrap_small] <;> omega
    have hpq : prevQ p i = some c.1 := by
      obtain ⟨k, rfl⟩ : ∃ k, i = k + 1 := ⟨i - 1, by omega⟩
      simp at hc'
      simp [prevQ, hc']
    have he2 : (b.1 == c.1) = false := by
      rw [hpq] at hprev; simp at hprev ⊢; exact fun e => hprev e.symm
    simp [hlt, hb, h0', h0'', hpos, (show 0 < i by omega), ew', hc, he2]
    refine gfor b.2.length (fun j e σ' => Fr σ.length σ σ' ∧ ∃ s', Own σ.length 1 eint σ' s' (flatB (p.take i) ++ b.2.take j) ∧ mayB p = (varR (flatB (p.take i) ++ b.2.take j) (b.2.drop j) && preR (some b.1) (flatB (p.take i) ++ b.2) (p.drop (i + 1))) ∧ (flatB (p.take i) ++ b.2.take j).length ≤ 1024 ∧ e = mkEnv 85 [(0, fblks p), (3, s'), (4, .int .i64 i), (5, .int .i64 j)]) _ ?_ ⟨hF, s, by simpa using hO, by simpa using hI, by simpa using hn, rfl⟩ ?_
    · simp [mkEnv, List.replicate]
    rintro j _ σ2 hj ⟨hF2, s2, hO2, hI2, hn2, rfl⟩
    simp [mkEnv, List.replicate, hb]
    by_cases hjt : j < b.2.length
    · obtain ⟨x, hx⟩ := nth_lt hjt
      have hx' := nth_get hx
      have hsn := varR_snoc (seen := flatB (p.take i)) hx'
      rw [hsn] at hI2
      have ej : IntKind.i64.wrap ((j : Int) + 1) = (j : Int) + 1 := by rw [wrap_small] <;> omega
      have htk : flatB (p.take i) ++ b.2.take (j + 1) = (flatB (p.take i) ++ b.2.take j) ++ [x] := by rw [take_get hx', List.append_assoc]
      have hml : (min j b.2.length) = j := by omega
      obtain ⟨S, hS⟩ : ∃ S, flatB (p.take i) ++ b.2.take j = S := ⟨_, rfl⟩
      rw [hS] at hO2 hI2 hn2 htk
      have hsl := hO2.len
      have hge := hF2.len
      simp [hjt, hb, hx]
      refine ref_variable_ok ?_
      cases hv : isVar x with
      | false =>
        simp
        exact ⟨hF2, by rw [hI2, hv]; simp⟩
      | true =>
        simp [hb, hx]
        refine ref_In_live hO2 (by omega) ?_
        cases hc : S.contains x with
        | true =>
          simp
          exact ⟨hF2, by rw [hI2, hc]; simp⟩
        | false =>
          simp [hsl]
          by_cases hfull : S.length = 1024
          · have hfull' : (S.length : Int) = 1024 := by omega
            simp [hfull']
            exact ⟨hF2, by rw [hI2]; simp [hfull]⟩
          · have hfull' : ¬ ((S.length : Int) = 1024) := by omega
            obtain ⟨s', σ3, q1, q2, q3, q4, q5, q6⟩ := hO2.push (by_ := 8) x (fun _ => rfl) (by simp) hge (by omega) (by decide)
            simp [hfull', hb, hx, q1, ej]
            refine forK_go _ hjt (by simp [mkEnv, List.replicate]) ⟨hF2.trans q3, s', by rw [htk]; exact q2, ?_, by rw [htk]; simp; omega, rfl⟩
            rw [hI2, htk, hv, hc, show decide (S.length < 1024) = true by simp; omega]; simp
    · have : j = b.2.length := by omega
      subst this
      rw [List.take_length] at hO2 hn2 hI2
      rw [List.drop_length] at hI2
      simp [es]
      refine forK_go _ hlt (by simp [mkEnv, List.replicate]) ⟨hF2, s2, by rw [hft]; exact hO2, ?_, by rw [hft]; exact hn2, rfl⟩
      rw [hI2, hft]
      simp [varR, prevQ, hb']
  · simp [hlt, hb, h0', h0'', hpos, (show ¬ 0 < i by omega)]
    refine gfor b.2.length (fun j e σ' => Fr σ.length σ σ' ∧ ∃ s', Own σ.length 1 eint σ' s' (flatB (p.take i) ++ b.2.take j) ∧ mayB p = (varR (flatB (p.take i) ++ b.2.take j) (b.2.drop j) && preR (some b.1) (flatB (p.take i) ++ b.2) (p.drop (i + 1))) ∧ (flatB (p.take i) ++ b.2.take j).length ≤ 1024 ∧ e = mkEnv 85 [(0, fblks p), (3, s'), (4, .int .i64 i), (5, .int .i64 j)]) _ ?_ ⟨hF, s, by simpa using hO, by simpa using hI, by simpa using hn, rfl⟩ ?_
    · simp [mkEnv, List.replicate]
    rintro j _ σ2 hj ⟨hF2, s2, hO2, hI2, hn2, rfl⟩
    simp [mkEnv, List.replicate, hb]
    by_cases hjt : j < b.2.length
    · obtain ⟨x, hx⟩ := nth_lt hjt
      have hx' := nth_get hx
      have hsn := varR_snoc (seen := flatB (p.take i)) hx'
      rw [hsn] at hI2
      have ej : IntKind.i64.wrap ((j : Int) + 1) = (j : Int) + 1 := by rw [wrap_small] <;> omega
      have htk : flatB (p.take i) ++ b.2.take (j + 1) = (flatB (p.take i) ++ b.2.take j) ++ [x] := by rw [take_get hx', List.append_assoc]
      have hml : (min j b.2.length) = j := by omega
      obtain ⟨S, hS⟩ : ∃ S, flatB (p.take i) ++ b.2.take j = S := ⟨_, rfl⟩
      rw [hS] at hO2 hI2 hn2 htk
      have hsl := hO2.len
      have hge := hF2.len
      simp [hjt, hb, hx]
      refine ref_variable_ok ?_
      cases hv : isVar x with
      | false =>
        simp
        exact ⟨hF2, by rw [hI2, hv]; simp⟩
      | true =>
        simp [hb, hx]
        refine ref_In_live hO2 (by omega) ?_
        cases hc : S.contains x with
        | true =>
          simp
          exact ⟨hF2, by rw [hI2, hc]; simp⟩
        | false =>
          simp [hsl]
          by_cases hfull : S.length = 1024
          · have hfull' : (S.length : Int) = 1024 := by omega
            simp [hfull']
            exact ⟨hF2, by rw [hI2]; simp [hfull]⟩
          · have hfull' : ¬ ((S.length : Int) = 1024) := by omega
            obtain ⟨s', σ3, q1, q2, q3, q4, q5, q6⟩ := hO2.push (by_ := 8) x (fun _ => rfl) (by simp) hge (by omega) (by decide)
            simp [hfull', hb, hx, q1, ej]
            refine forK_go _ hjt (by simp [mkEnv, List.replicate]) ⟨hF2.trans q3, s', by rw [htk]; exact q2, ?_, by rw [htk]; simp; omega, rfl⟩
            rw [hI2, htk, hv, hc, show decide (S.length < 1024) = true by simp; omega]; simp
    · have : j = b.2.length := by omega
      subst this
      rw [List.take_length] at hO2 hn2 hI2
      rw [List.drop_length] at hI2
      simp [es]
      refine forK_go _ hlt (by simp [mkEnv, List.replicate]) ⟨hF2, s2, by rw [hft]; exact hO2, ?_, by rw [hft]; exact hn2, rfl⟩
      rw [hI2, hft]
      simp [varR, prevQ, hb']
theorem r5_Vars_ok {p : List Blk} {σ : GS} {Post : DV → GS → Prop} (hp : p.length < 2 ^ 50) (hl : (flatB p).length < 2 ^ 40) (h : Post (fints (flatB p)) σ) : GCall Tryz.prog F_skolemref05_Vars [fblks p] σ Post := by
  refine GCall.pure (r := fints (flatB p)) ?_ (by simp) h
  refine gc_skolemref05_Vars ?_
  simp [G_skolemref05_Vars, genv0, List.replicate]
  refine gfor p.length (fun i e σ' => Fr σ.length σ σ' ∧ ∃ s, Own σ.length 1 eint σ' s (flatB (p.take i)) ∧ e = mkEnv 19 [(0, fblks p), (3, s), (4, .int .i64 i)]) _ ?_ ⟨.rfl', .nils, by simpa [flatB] using Own.nil, rfl⟩ ?_
  · simp [mkEnv, List.replicate]
  rintro i _ σ' hi ⟨hF, s, hO, rfl⟩
  simp [mkEnv, List.replicate]
  by_cases hlt : i < p.length
  · obtain ⟨b, hb⟩ := nth_lt hlt
    have hb' := nth_get hb
    have es : IntKind.i64.wrap ((i : Int) + 1) = (i : Int) + 1 := by rw [wrap_small] <;> omega
    have htk := flatB_take hb'
    have hle : (flatB (p.take i)).length + b.2.length ≤ (flatB p).length := by
      have : flatB p = flatB (p.take (i + 1)) ++ flatB (p.drop (i + 1)) := by rw [← flatB_append, List.take_append_drop]
      rw [this, htk]; simp
    have hge := hF.len
    obtain ⟨s', σ2, q1, q2, q3, q4, q5, q6, q7⟩ := hO.append (by_ := 8) (x := fints b.2) (ys := b.2) (fun _ => rfl) (by simp [gread]; exact flatMap_flatten eint b.2) (by simp [glen]) (by simp) hge (by omega) (by decide)
    simp [hlt, hb, q1, es]
    exact forK_go _ hlt (by simp [mkEnv, List.replicate]) ⟨hF.trans q3, s', by rw [htk]; exact q2, rfl⟩
  · have : i = p.length := by omega
    subst this
    rw [List.take_length] at hO
    simp
    exact ⟨hF, hO.rd (fun _ => rfl) fun i hi => .inl hi⟩
theorem r5_marks_ok {l : List Int} {σ : GS} {Post : DV → GS → Prop} (hl : l.length < 2 ^ 40) (hv : ∀ x ∈ l, isVar x = true) (k : ∀ σ' vs, σ'[σ.length]? = some (.row false (bools vs)) → SetV vs l → Fr σ.length σ σ' → Post (.slice σ.length 0 65537 1 (some 65537)) σ') : GCall Tryz.prog F_skolemref05_marks [fints l] σ Post := by
  refine gc_skolemref05_marks ?_
  have hms := mslice_bools (n := 65537) (by omega) .i64 .i64
  obtain ⟨V, hV⟩ : ∃ V, List.replicate 65537 false = V := ⟨_, rfl⟩
  have hv0 : SetV V [] := by rw [← hV]; exact .nil
  rw [hV] at hms
  replace hms : galloc (.mslice 1 1 [.bool false]) [.int .i64 65537, .int .i64 65537] = some (.row false (bools V), fun id => .slice id 0 65537 1 (some 65537)) := hms
  simp [G_skolemref05_marks, genv0, List.replicate, hms]
  refine gfor l.length (fun i e σ' => Fr σ.length σ σ' ∧ ∃ vs, σ'[σ.length]? = some (.row false (bools vs)) ∧ SetV vs (l.take i) ∧ e = mkEnv 19 [(0, fints l), (3, .slice σ.length 0 65537 1 (some 65537)), (4, .int .i64 i)]) _ ?_ ⟨.self _, V, by simp, by simpa using hv0, rfl⟩ ?_
  · simp [mkEnv, List.replicate]
  rintro i _ σ1 hi ⟨hF, vs, hr, hvs, rfl⟩
  simp [mkEnv, List.replicate]
  by_cases hlt : i < l.length
  · obtain ⟨x, hx⟩ := nth_lt hlt
    have hx' := nth_get hx
    have es : IntKind.i64.wrap ((i : Int) + 1) = (i : Int) + 1 := by rw [wrap_small] <;> omega
    obtain ⟨q, rfl, q1, q2⟩ := isVar_range (hv x (List.mem_of_getElem? hx'))
    have ia := iaddr_own (id := σ.length) (n := 65537) (sz := 1) (i := q) (k := .i64) (cap := some 65537) (by omega)
    have hst := store_bool (b := true) hr (i := q) (by rw [hvs.len]; omega)
    simp at ia
    simp [hlt, hx, ia, hst, es]
    refine forK_go _ hlt (by simp [mkEnv, List.replicate]) ⟨hF.set (Nat.le_refl _) _, vs.set q true, by rw [List.getElem?_set_self (get_dom hr)]; simp [List.map_set], by rw [take_get hx']; exact hvs.put (by omega), rfl⟩
  · have : i = l.length := by omega
    subst this
    rw [List.take_length] at hvs
    simp
    exact k _ _ hr hvs hF
theorem known_eq {seen : List Int} {x : Int} (hb : -9223372036854775808 ≤ x ∧ x < 9223372036854775808) (h0 : ∀ v ∈ seen, isVar v = true) : (isVar (gabs x) && seen.contains (gabs x)) = seen.contains (absE x) := by
  by_cases h : isVar (gabs x) = true
  · obtain ⟨h1, h2, h3⟩ := gabs_ab hb h
    rw [absE_in h3, h1, h]; simp
  · have h5 : absE x = 0 := by
      apply Classical.byContradiction
      intro hne
      have hl := absE_lt.1 hne
      have := hl.ab
      rw [hl.gabs] at h
      exact h (by simp [isVar]; omega)
    simp only [Bool.not_eq_true] at h
    rw [h, h5]
    have : ¬ (0 : Int) ∈ seen := fun hh => by have := h0 0 hh; simp [isVar] at this
    simp [this]
theorem r5_known_ok {id : Nat} {vs : List Bool} {seen : List Int} {x : Int} {σ : GS} {Post : DV → GS → Prop} {ro : Bool} (hr : σ[id]? = some (.row ro (bools vs))) (hv : SetV vs seen) (hb : -9223372036854775808 ≤ x ∧ x < 9223372036854775808) (h0 : ∀ v ∈ seen, isVar v = true) (h : Post (.bool (seen.contains (absE x))) σ) : GCall Tryz.prog F_skolemref05_known [.slice id 0 65537 1 (some 65537), .int .i64 x] σ Post := by
  refine gc_skolemref05_known ?_
  rw [← known_eq hb h0] at h
  simp [G_skolemref05_known, genv0, List.replicate]
  refine ref_Abs_ok ?_
  simp
  refine ref_variable_ok ?_
  cases hi : isVar (gabs x) with
  | false =>
    rw [hi] at h
    simp
    exact h
  | true =>
    rw [hi] at h
    obtain ⟨q, hq, q1, q2⟩ := isVar_range hi
    have ia := iaddr_own (id := id) (n := 65537) (sz := 1) (i := q) (k := .i64) (cap := some 65537) (by omega)
    have ld := ld_bools hr (hv.get q (by omega))
    simp at ia
    simp
    refine ref_Abs_ok ?_
    rw [hq] at h ⊢
    simp [ia, ld]
    simpa using h
theorem r5_shape_ok {g : GateP} {σ : GS} {Post : DV → GS → Prop} (h : Post (.bool (shpG g.k g.ins.length)) σ) : GCall Tryz.prog F_skolemref05_shape [g.enc] σ Post := by
  refine GCall.say (r := .bool (shpG g.k g.ins.length)) ?_ rfl h
  refine gc_skolemref05_shape ?_
  simp [G_skolemref05_shape, genv0, List.replicate]
  have hl : ∀ n : Nat, (((g.ins.length : Int) = n) ↔ g.ins.length = n) := fun n => by omega
  by_cases c1 : g.k = 1
  · simp [c1, shpG]
  by_cases c2 : g.k = 2
  · simp [c1, c2, shpG]
  by_cases c3 : g.k = 3
  · have := hl 2
    simp at this
    simp [c1, c2, c3, shpG, this]
  by_cases c4 : g.k = 4
  · have := hl 3
    simp at this
    simp [c1, c2, c3, c4, shpG, this]
  simp [c1, c2, c3, c4, shpG]
end Go.Gh
namespace Go.Gh
open Go.RowKit Go.Proofs
set_option linter.unusedVariables false
set_option linter.unusedSimpArgs false
set_option maxRecDepth 100000
/-- A net's numbers are those of the machine. -/
structure NetI (n : NetQ) : Prop where
  ins : ∀ g ∈ n.gates, I64 g.ins
  out : -9223372036854775808 ≤ n.out ∧ n.out < 9223372036854775808
theorem mayB_vars {p : List Blk} (h : mayB p = true) : ∀ v ∈ flatB p, isVar v = true := fun v hv => singleS_var (mayB_parts h).2.2 v hv
set_option maxHeartbeats 2000000 in
theorem r5_May_ok {n : NetQ} {σ : GS} {Post : DV → GS → Prop} (hn : NetS n) (hw : NetI n) (h : Post (.bool (mayN n)) σ) : GCall Tryz.prog F_skolemref05_May [n.enc] σ Post := by
  refine GCall.say (r := .bool (mayN n)) ?_ rfl h
  refine gc_skolemref05_May ?_
  have hl := hn.lits
  have hgn := hn.gates
  simp [G_skolemref05_May, genv0, List.replicate]
  refine r5_Prefix_ok hn.pre hn.blk ?_
  cases hm : mayB n.pre with
  | false => simp [mayN, hm]
  | true =>
  have hp3 := (mayB_parts hm).2.1
  simp
  refine r5_Vars_ok hn.pre (by omega) ?_
  simp
  refine r5_marks_ok (by omega) (mayB_vars hm) fun σ1 vs1 hr1 hv1 hF => ?_
  have hlen1 : (σ ++ [GObj.row false (enet n)]).length = σ.length + 1 := by simp
  rw [hlen1] at hr1 hF ⊢
  have hrow : σ1[σ.length]? = some (.row false (enet n)) := by
    have := hF.get σ.length (by omega)
    rw [this, getE_tail0]; rfl
  have hF1 : Fr σ.length σ σ1 := (Fr.self [GObj.row false (enet n)]).trans (hF.mono (by omega))
  simp
  refine gfor n.gates.length (fun i e σ' => Fr (σ.length + 1) σ1 σ' ∧ ∃ vs', σ'[σ.length + 1]? = some (.row false (bools vs')) ∧ SetV vs' (flatB n.pre ++ (n.gates.take i).map (·.v)) ∧ (∀ v ∈ flatB n.pre ++ (n.gates.take i).map (·.v), isVar v = true) ∧ gsOk (flatB n.pre) n.gates = gsOk (flatB n.pre ++ (n.gates.take i).map (·.v)) (n.gates.drop i) ∧ e = mkEnv 76 [(1, .ptr σ.length 0), (3, .slice (σ.length + 1) 0 65537 1 (some 65537)), (4, .int .i64 (((n.gates.map fun g => g.ins.length).take i).sum : Nat)), (5, .int .i64 i)]) _ ?_ ⟨.refl (by have := get_dom hr1; omega), vs1, hr1, by simpa using hv1, by simpa using mayB_vars hm, by simp, rfl⟩ ?_
  · simp [mkEnv, List.replicate]
  rintro i _ σ2 hi ⟨hF2, vs2, hr2, hv2, hvar, hI, rfl⟩
  have hF02 : Fr σ.length σ σ2 := hF1.trans (hF2.mono (by omega))
  have hid2 := get_dom hr2
  have hrow2 : σ2[σ.length]? = some (.row false (enet n)) := (hF2.get _ (by omega)).trans hrow
  have l1 : gload (.load 1 false) [.ptr σ.length 1] σ2 = some (fgates n.gates) := ld_at hrow2
  simp [mkEnv, List.replicate, l1]
  by_cases hlt : i < n.gates.length
  · obtain ⟨g, hg⟩ := nth_lt hlt
    have hg' := nth_get hg
    have hgm := List.mem_of_getElem? hg'
    have hgl := hn.ins hgm
    have es : IntKind.i64.wrap ((i : Int) + 1) = (i : Int) + 1 := by rw [wrap_small] <;> omega
    rw [drop_get hg', gsOk_step] at hI
    have no : (shpG g.k g.ins.length && g.ins.all (fun x => (flatB n.pre ++ (n.gates.take i).map (·.v)).contains (absE x)) && (isVar g.v && !(flatB n.pre ++ (n.gates.take i).map (·.v)).contains g.v)) = false → mayN n = false := fun hh => by
      rw [hh, Bool.false_and] at hI
      unfold mayN; rw [hI]; simp
    have hst : gimp (.store 3) [.ptr σ2.length 0, .agg (egate g)] (σ2 ++ [.row false [.int .i64 0, .int .u8 0, .nils]]) = some (.tuple [], σ2 ++ [.row false (egate g)]) := by simp
    have hFg : Fr σ.length σ (σ2 ++ [GObj.row false (egate g)]) := hF02.app _
    have hrg : (σ2 ++ [GObj.row false (egate g)])[σ.length + 1]? = some (.row false (bools vs2)) := getE_append hr2
    have h1 := sum_snoc (f := fun g : GateP => g.ins.length) hg'
    have h2 := sum_take (fun g : GateP => g.ins.length) n.gates (i + 1)
    obtain ⟨q, hq⟩ : ∃ q, ((n.gates.map fun g => g.ins.length).take i).sum = q := ⟨_, rfl⟩
    obtain ⟨q2, hq2⟩ : ∃ q, ((n.gates.map fun g => g.ins.length).take (i + 1)).sum = q := ⟨_, rfl⟩
    rw [hq, hq2] at h1
    rw [hq2] at h2
    unfold NetQ.lits at hl
    have ew : IntKind.i64.wrap ((q : Int) + g.ins.length) = (q2 : Int) := by rw [wrap_small] <;> omega
    have hq200 : ¬ ((200000 : Int) < q2) := by omega
    obtain ⟨S, hS⟩ : ∃ S, flatB n.pre ++ (n.gates.take i).map (·.v) = S := ⟨_, rfl⟩
    rw [hS] at hv2 hvar hI no
    simp [hlt, l1, hg, hst, hq, ew]
    refine ref_variable_ok ?_
    cases hvg : isVar g.v with
    | false =>
      simp
      rw [no (by rw [hvg]; simp)]
      exact ⟨hFg, rfl⟩
    | true =>
    obtain ⟨qv, hqv, qv1, qv2⟩ := isVar_range hvg
    have ia := iaddr_own (id := σ.length + 1) (n := 65537) (sz := 1) (i := qv) (k := .i64) (cap := some 65537) (by omega)
    have ld := ld_bools hrg (hv2.get qv (by omega))
    simp at ia
    rw [← hqv] at ia ld
    cases hcv : S.contains g.v with
    | true =>
      rw [hcv] at ld
      simp [ia, ld]
      rw [no (by rw [hvg, hcv]; simp)]
      exact ⟨hFg, rfl⟩
    | false =>
    rw [hcv] at ld
    simp [ia, ld]
    refine r5_shape_ok ?_
    cases hs : shpG g.k g.ins.length with
    | false =>
      simp
      rw [no (by rw [hs]; rfl)]
      exact ⟨hFg, rfl⟩
    | true =>
    simp [hq200]
    refine gfor g.ins.length (fun j e σ' => σ' = σ2 ++ [GObj.row false (egate g)] ∧ (∀ (m : Nat) x, m < j → g.ins[m]? = some x → S.contains (absE x) = true) ∧ e = mkEnv 76 [(1, .ptr σ.length 0), (3, .slice (σ.length + 1) 0 65537 1 (some 65537)), (4, .int .i64 (q2 : Nat)), (5, .int .i64 i), (6, .ptr σ2.length 0), (7, .int .i64 j)]) _ ?_ ⟨rfl, fun m x hm => by omega, rfl⟩ ?_
    · simp [mkEnv, List.replicate]
    rintro j _ σz hj ⟨hσz, hJ, rfl⟩
    rw [hσz]
    clear hσz σz
    simp [mkEnv, List.replicate]
    by_cases hjt : j < g.ins.length
    · obtain ⟨x, hx⟩ := nth_lt hjt
      have hx' := nth_get hx
      have ej : IntKind.i64.wrap ((j : Int) + 1) = (j : Int) + 1 := by rw [wrap_small] <;> omega
      simp [hjt, hx]
      refine r5_known_ok hrg hv2 (hw.ins g hgm x (List.mem_of_getElem? hx')) hvar ?_
      cases hc : S.contains (absE x) with
      | false =>
        simp
        rw [no (by
          have : g.ins.all (fun x => S.contains (absE x)) = false := by
            rw [List.all_eq_false]; exact ⟨x, List.mem_of_getElem? hx', by rw [hc]; simp⟩
          rw [this]; simp)]
        exact ⟨hFg, rfl⟩
      | true =>
        simp [ej]
        refine forK_go _ hjt (by simp [mkEnv, List.replicate]) ⟨rfl, fun m y hm hy => ?_, rfl⟩
        by_cases hmj : m = j
        · subst hmj; rw [hx'] at hy; cases hy; exact hc
        · exact hJ m y (by omega) hy
    · have : j = g.ins.length := by omega
      subst this
      have hall : g.ins.all (fun x => S.contains (absE x)) = true := by
        rw [List.all_eq_true]
        intro x hx
        obtain ⟨m, hm⟩ := List.mem_iff_getElem?.1 hx
        exact hJ m x (get_dom hm) hm
      have hst2 := store_bool (b := true) hrg (i := qv) (by rw [hv2.len]; omega)
      simp [ia, hst2, es]
      have hput := hv2.put (k := qv) (by omega)
      rw [← hqv] at hput
      have e1 : flatB n.pre ++ (n.gates.take (i + 1)).map (·.v) = S ++ [g.v] := by rw [take_get hg', List.map_append, ← List.append_assoc, hS]; rfl
      refine forK_go _ hlt (by simp [mkEnv, List.replicate, hq2]) ⟨(hF2.app _).set (Nat.le_refl _) _, vs2.set qv true, by rw [List.getElem?_set_self (get_dom hrg)]; simp [List.map_set], by rw [e1]; exact hput, ?_, ?_, rfl⟩
      · rw [e1]
        intro v hv
        rcases List.mem_append.1 hv with h' | h'
        · exact hvar v h'
        · simp at h'; subst h'; exact hvg
      · rw [e1, hI, hs, hall, hvg, hcv]
        simp
  · have : i = n.gates.length := by omega
    subst this
    rw [List.drop_length] at hI
    rw [List.take_length] at hv2 hvar
    have l2 : gload (.load 1 false) [.ptr σ.length 2] σ2 = some (.int .i64 n.out) := ld_at hrow2
    simp [l2]
    refine r5_known_ok hr2 hv2 hw.out hvar ?_
    simp
    refine ⟨hF02, ?_⟩
    unfold mayN NetQ.all
    rw [hm, hI]
    simp [gsOk]
end Go.Gh
namespace Go.Gh
open Go.RowKit Go.Proofs
set_option linter.unusedVariables false
set_option linter.unusedSimpArgs false
set_option maxRecDepth 100000
/-- Which signs occur, as a byte. -/
def code (p : Bool × Bool) : Int := (if p.1 then 1 else 0) + (if p.2 then 2 else 0)
abbrev byts (l : List (Bool × Bool)) : List DV := l.map fun p => .int .u8 (code p)
structure SgV (vs : List (Bool × Bool)) (sg : Sg) : Prop where
  len : vs.length = 65537
  get : ∀ i : Nat, i < 65537 → vs[i]? = some (sg i)
def orS (a b : Bool × Bool) : Bool × Bool := (a.1 || b.1, a.2 || b.2)
def swS (l : Int) (h : Bool × Bool) : Bool × Bool := if l < 0 then (h.2, h.1) else h
def addS (sg : Sg) (l : Int) (h : Bool × Bool) : Sg := fun v => if v = absE l then orS (sg v) (swS l h) else sg v
theorem SgV.at_ {vs : List (Bool × Bool)} {sg : Sg} (h : SgV vs sg) {v : Int} (h0 : 0 ≤ v) (h1 : v < 65537) : vs[v.toNat]? = some (sg v) := by
  have := h.get v.toNat (by omega)
  rwa [show ((v.toNat : Nat) : Int) = v by omega] at this
theorem SgV.put {vs : List (Bool × Bool)} {sg : Sg} (h : SgV vs sg) (l : Int) (p : Bool × Bool) : SgV (vs.set (absE l).toNat (orS (sg (absE l)) (swS l p))) (addS sg l p) := by
  obtain ⟨a0, a1⟩ := absE_range l
  refine ⟨by rw [List.length_set, h.len], fun i hi => ?_⟩
  have h1 := h.len
  by_cases e : (absE l).toNat = i
  · subst e
    rw [List.getElem?_set_self (by omega)]
    simp [addS, show (((absE l).toNat : Nat) : Int) = absE l by omega]
  · rw [List.getElem?_set_ne e, h.get i hi]
    have : ¬ ((i : Int) = absE l) := by omega
    simp [addS, this]
theorem ld_byts {σ : GS} {id i : Nat} {ro : Bool} {vs : List (Bool × Bool)} {x : Bool × Bool} (h : σ[id]? = some (.row ro (byts vs))) (hx : vs[i]? = some x) : gload (.load 1 false) [.ptr id i] σ = some (.int .u8 (code x)) := by rw [ld_at h]; simp [hx]
theorem store_byt {σ : GS} {id i : Nat} {bs : List (Bool × Bool)} {b : Bool × Bool} {c : Int} (h : σ[id]? = some (.row false (byts bs))) (hi : i < bs.length) (hc : c = code b) : gimp (.store 1) [.ptr id i, .int .u8 c] σ = some (.tuple [], σ.set id (.row false (byts (bs.set i b)))) := by
  subst hc
  simp only [gimp, h, DV.cells]
  rw [if_pos ⟨rfl, by simp; omega, rfl⟩, over_one (by simpa using hi)]
  simp [byts, List.map_set]
set_option maxHeartbeats 1000000 in
theorem enc_add_ok {id : Nat} {vs : List (Bool × Bool)} {sg : Sg} {l : Int} {h : Bool × Bool} {c : Int} {σ : GS} {Post : DV → GS → Prop} (hr : σ[id]? = some (.row false (byts vs))) (hv : SgV vs sg) (hc : c = code h)
    (k : ∀ vs', SgV vs' (addS sg l h) → Post (.tuple []) (σ.set id (.row false (byts vs')))) : GCall Tryz.prog F_enc_signs_add [.ptr id 0, .int .i64 l, .int .u8 c] σ Post := by
  subst hc
  refine gc_enc_signs_add ?_
  obtain ⟨a0, a1⟩ := absE_range l
  have ld := ld_byts hr (hv.at_ a0 a1)
  have hst : ∀ c, c = code (orS (sg (absE l)) (swS l h)) → gimp (.store 1) [.ptr id (absE l).toNat, .int .u8 c] σ = _ := fun c hc => store_byt (b := orS (sg (absE l)) (swS l h)) hr (i := (absE l).toNat) (by rw [hv.len]; omega) hc
  have kk := k _ (hv.put l h)
  obtain ⟨ha, hb⟩ := h
  obtain ⟨q, hq⟩ : ∃ q, sg (absE l) = q := ⟨_, rfl⟩
  rw [hq] at ld hst kk
  obtain ⟨qa, qb⟩ := q
  by_cases hl : l < 0
  · have e : swS l (ha, hb) = (hb, ha) := if_pos hl
    rw [e] at kk hst
    cases ha <;> cases hb <;> cases qa <;> cases qb <;> simp [G_enc_signs_add, genv0, List.replicate, hl, code] <;> refine enc_abs_ok ?_ <;> simp [code] at ld <;> simp [a0, a1, ld] <;> (try rw [hst _ (by rfl)]) <;> simpa using kk
  · have e : swS l (ha, hb) = (ha, hb) := if_neg hl
    rw [e] at kk hst
    cases ha <;> cases hb <;> cases qa <;> cases qb <;> simp [G_enc_signs_add, genv0, List.replicate, hl, code] <;> refine enc_abs_ok ?_ <;> simp [code] at ld <;> simp [a0, a1, ld] <;> (try rw [hst _ (by rfl)]) <;> simpa using kk
end Go.Gh
namespace Go.Gh
set_option linter.unusedVariables false
set_option linter.unusedSimpArgs false
/-- Does a gate read its literal in both ways? -/
def wideG (g : GateP) (j : Nat) : Bool := decide (g.k = 3) || (decide (g.k = 4) && decide (j = 0))
def howS (g : GateP) (how : Bool × Bool) (j : Nat) : Bool × Bool := if (hasS how && wideG g j) = true then (true, true) else how
def insS (g : GateP) (how : Bool × Bool) : Nat → Sg → List Int → Sg
  | _, sg, [] => sg
  | j, sg, l :: ls => insS g how (j + 1) (addS sg l (howS g how j)) ls
def gateS (g : GateP) (sg : Sg) : Sg := insS g (sg g.v) 0 sg g.ins
def initS (n : NetQ) : Sg := addS (fun _ => (false, false)) n.out (true, false)
/-- Which signs the gates need, from the last one. -/
def backS (n : NetQ) (gs : List GateP) : Sg := gs.foldr gateS (initS n)
def halfS (n : NetQ) : Sg := backS n n.gates
def fullS : Sg := fun _ => (true, true)
theorem insS_snoc (g : GateP) (how : Bool × Bool) : ∀ (l : List Int) (j : Nat) (sg : Sg) (x : Int), insS g how j sg (l ++ [x]) = addS (insS g how j sg l) x (howS g how (j + l.length))
  | [], j, sg, x => rfl
  | y :: l, j, sg, x => by
    show insS g how (j + 1) (addS sg y (howS g how j)) (l ++ [x]) = _
    rw [insS_snoc g how l]
    show addS _ x (howS g how (j + 1 + l.length)) = addS _ x (howS g how (j + (l.length + 1)))
    rw [show j + 1 + l.length = j + (l.length + 1) by omega]
    rfl
theorem insS_take {g : GateP} {how : Bool × Bool} {sg : Sg} {j : Nat} {x : Int} (h : g.ins[j]? = some x) : insS g how 0 sg (g.ins.take (j + 1)) = addS (insS g how 0 sg (g.ins.take j)) x (howS g how j) := by
  rw [take_get h, insS_snoc, List.length_take]
  have := get_dom h
  rw [show 0 + min j g.ins.length = j by omega]
theorem hasS_or {a b : Bool × Bool} : hasS (orS a b) = (hasS a || hasS b) := by
  obtain ⟨a1, a2⟩ := a; obtain ⟨b1, b2⟩ := b
  cases a1 <;> cases a2 <;> cases b1 <;> cases b2 <;> rfl
theorem hasS_sw {l : Int} {a : Bool × Bool} : hasS (swS l a) = hasS a := by
  unfold swS; split
  · obtain ⟨a1, a2⟩ := a; cases a1 <;> cases a2 <;> rfl
  · rfl
theorem hasS_how {g : GateP} {a : Bool × Bool} {j : Nat} (h : hasS a = true) : hasS (howS g a j) = true := by
  unfold howS; split
  · rfl
  · exact h
theorem addS_mono {sg : Sg} {l : Int} {h : Bool × Bool} {v : Int} (k : hasS (sg v) = true) : hasS (addS sg l h v) = true := by
  unfold addS; split
  · rw [hasS_or, k]; rfl
  · exact k
theorem insS_mono {g : GateP} {how : Bool × Bool} {v : Int} : ∀ {l : List Int} {j : Nat} {sg : Sg}, hasS (sg v) = true → hasS (insS g how j sg l v) = true
  | [], _, _, k => k
  | y :: l, j, sg, k => insS_mono (l := l) (addS_mono k)
theorem insS_other {g : GateP} {how : Bool × Bool} {v : Int} : ∀ {l : List Int} {j : Nat} {sg : Sg}, (∀ x ∈ l, absE x ≠ v) → insS g how j sg l v = sg v
  | [], _, _, _ => rfl
  | y :: l, j, sg, k => by
    show insS g how (j + 1) (addS sg y (howS g how j)) l v = _
    rw [insS_other fun x hx => k x (by simp [hx])]
    exact if_neg fun e => k y (by simp) e.symm
theorem insS_has {g : GateP} {how : Bool × Bool} (hh : hasS how = true) : ∀ {l : List Int} {j : Nat} {sg : Sg} {x : Int}, x ∈ l → hasS (insS g how j sg l (absE x)) = true
  | y :: l, j, sg, x, hx => by
    show hasS (insS g how (j + 1) (addS sg y (howS g how j)) l (absE x)) = true
    rcases List.mem_cons.1 hx with rfl | hx
    · refine insS_mono ?_
      unfold addS
      rw [if_pos rfl, hasS_or, hasS_sw, hasS_how hh, Bool.or_true]
    · exact insS_has hh hx
theorem gsOk_new : ∀ {gs : List GateP} {seen : List Int}, gsOk seen gs = true → ∀ h ∈ gs, h.v ∉ seen
  | g :: gs, seen, hk, h, hm => by
    rw [gsOk] at hk
    simp only [Bool.and_eq_true, List.contains_eq_mem, Bool.not_eq_true', decide_eq_false_iff_not] at hk
    rcases List.mem_cons.1 hm with rfl | hm
    · exact hk.1.2.2
    · exact fun e => gsOk_new hk.2 h hm (by simp [e])
theorem back_mono {n : NetQ} {v : Int} (h : hasS (initS n v) = true) : ∀ gs : List GateP, hasS (backS n gs v) = true
  | [] => h
  | g :: gs => insS_mono (back_mono h gs)
theorem back_shut {n : NetQ} : ∀ {gs : List GateP} {seen : List Int}, gsOk seen gs = true → ∀ g ∈ gs, hasS (backS n gs g.v) = true → ∀ x ∈ g.ins, hasS (backS n gs (absE x)) = true
  | g :: gs, seen, hk, h, hm, hw, x, hx => by
    have hk0 := hk
    rw [gsOk] at hk
    simp only [Bool.and_eq_true, List.all_eq_true, List.contains_eq_mem, Bool.not_eq_true', decide_eq_false_iff_not, decide_eq_true_eq] at hk
    have hout : ∀ v, v ∉ seen → backS n (g :: gs) v = backS n gs v := fun v hv => insS_other fun y hy e => hv (e ▸ hk.1.1.2 y hy)
    rcases List.mem_cons.1 hm with rfl | hm
    · rw [hout _ hk.1.2.2] at hw
      exact insS_has hw hx
    · rw [hout _ (gsOk_new hk0 h (by simp [hm]))] at hw
      exact insS_mono (back_shut hk.2 h hm hw x hx)
theorem shut_half {n : NetQ} (h : mayN n = true) : Shut n (halfS n) := by
  have hg : gsOk (flatB n.pre) n.gates = true := by
    unfold mayN at h; simp only [Bool.and_eq_true] at h; exact h.1.2
  have key : ∀ v, v ∈ n.all → hasS (halfS n v) = true → v ∈ seenN n (halfS n) := fun v hv hs => by
    rcases List.mem_append.1 hv with hv | hv
    · exact List.mem_append.2 (.inl hv)
    · obtain ⟨g, hg, rfl⟩ := List.mem_map.1 hv
      exact List.mem_append.2 (.inr (fmV_mem.2 ⟨g, hg, hs, rfl⟩))
  refine ⟨fun g hm hw x hx => key _ ((mayN_gate h g hm).2.2 x hx).2 (back_shut hg g hm hw x hx), key _ (mayN_out h).2 (back_mono ?_ _)⟩
  unfold initS addS
  rw [if_pos rfl, hasS_or, hasS_sw]; rfl
theorem shut_full {n : NetQ} (h : mayN n = true) : Shut n fullS := by
  have key : ∀ v, v ∈ n.all → v ∈ seenN n fullS := fun v hv => by
    rcases List.mem_append.1 hv with hv | hv
    · exact List.mem_append.2 (.inl hv)
    · obtain ⟨g, hg, rfl⟩ := List.mem_map.1 hv
      exact List.mem_append.2 (.inr (fmV_mem.2 ⟨g, hg, rfl, rfl⟩))
  exact ⟨fun g hm hw x hx => key _ ((mayN_gate h g hm).2.2 x hx).2, key _ (mayN_out h).2⟩
theorem back_drop {n : NetQ} {i : Nat} {g : GateP} (h : n.gates[i]? = some g) : backS n (n.gates.drop i) = gateS g (backS n (n.gates.drop (i + 1))) := by
  rw [drop_get h]; rfl
end Go.Gh
namespace Go.Gh
open Go.RowKit Go.Proofs
set_option linter.unusedVariables false
set_option linter.unusedSimpArgs false
set_option maxRecDepth 100000
/-- Which signs occur, as two lists of truths. -/
structure SgB (ps qs : List Bool) (sg : Sg) : Prop where
  lp : ps.length = 65537
  lq : qs.length = 65537
  gp : ∀ i : Nat, i < 65537 → ps[i]? = some (sg i).1
  gq : ∀ i : Nat, i < 65537 → qs[i]? = some (sg i).2
theorem SgB.zero : SgB (List.replicate 65537 false) (List.replicate 65537 false) (fun _ => (false, false)) :=
  ⟨by rw [List.length_replicate], by rw [List.length_replicate], fun i hi => by rw [List.getElem?_replicate, if_pos hi], fun i hi => by rw [List.getElem?_replicate, if_pos hi]⟩
theorem SgB.put {ps qs : List Bool} {sg : Sg} (h : SgB ps qs sg) {l : Int} {p : Bool × Bool} {q : Nat} (hq : absE l = (q : Int)) : SgB (ps.set q ((sg q).1 || (swS l p).1)) (qs.set q ((sg q).2 || (swS l p).2)) (addS sg l p) := by
  obtain ⟨a0, a1⟩ := absE_range l
  have h1 := h.lp
  have h2 := h.lq
  refine ⟨by rw [List.length_set, h.lp], by rw [List.length_set, h.lq], fun i hi => ?_, fun i hi => ?_⟩
  · by_cases e : q = i
    · subst e
      rw [List.getElem?_set_self (by omega)]
      simp [addS, hq, orS]
    · rw [List.getElem?_set_ne e, h.gp i hi]
      have : ¬ ((i : Int) = absE l) := by omega
      simp [addS, this]
  · by_cases e : q = i
    · subst e
      rw [List.getElem?_set_self (by omega)]
      simp [addS, hq, orS]
    · rw [List.getElem?_set_ne e, h.gq i hi]
      have : ¬ ((i : Int) = absE l) := by omega
      simp [addS, this]
abbrev bsl (id : Nat) : DV := .slice id 0 65537 1 (some 65537)
set_option maxHeartbeats 1000000 in
theorem r12_mark_ok {ip iq : Nat} {ps qs : List Bool} {sg : Sg} {l : Int} {a b : Bool} {σ : GS} {Post : DV → GS → Prop} (hne : ip ≠ iq) (hp : σ[ip]? = some (.row false (bools ps))) (hq : σ[iq]? = some (.row false (bools qs))) (hv : SgB ps qs sg) (hl : Lt l)
    (k : ∀ ps' qs', SgB ps' qs' (addS sg l (a, b)) → Post (.tuple []) ((σ.set ip (.row false (bools ps'))).set iq (.row false (bools qs')))) : GCall Tryz.prog F_skolemref12_mark [bsl ip, bsl iq, .int .i64 l, .bool a, .bool b] σ Post := by
  refine gc_skolemref12_mark ?_
  obtain ⟨a0, a1⟩ := absE_range l
  have hab : gabs l = absE l := by rw [hl.gabs, absE_in hl.2]
  obtain ⟨q, hqe⟩ : ∃ q : Nat, absE l = (q : Int) := ⟨(absE l).toNat, by omega⟩
  have hql : q < 65537 := by omega
  have iap := iaddr_own (id := ip) (n := 65537) (sz := 1) (i := q) (k := .i64) (cap := some 65537) (by omega)
  have iaq := iaddr_own (id := iq) (n := 65537) (sz := 1) (i := q) (k := .i64) (cap := some 65537) (by omega)
  have ldp := ld_bools hp (hv.gp q hql)
  have stp : ∀ b, gimp (.store 1) [.ptr ip q, .bool b] σ = _ := fun b => store_bool (b := b) hp (i := q) (by rw [hv.lp]; omega)
  have ldq : ∀ o, gload (.load 1 false) [.ptr iq q] (σ.set ip o) = _ := fun o => ld_bools (σ := σ.set ip o) (by rw [List.getElem?_set_ne hne]; exact hq) (hv.gq q hql)
  have stq : ∀ o b, gimp (.store 1) [.ptr iq q, .bool b] (σ.set ip o) = _ := fun o b => store_bool (σ := σ.set ip o) (b := b) (by rw [List.getElem?_set_ne hne]; exact hq) (i := q) (by rw [hv.lq]; omega)
  have kk := k _ _ (hv.put (p := (a, b)) hqe)
  obtain ⟨z, hz⟩ : ∃ z, sg q = z := ⟨_, rfl⟩
  rw [hz] at ldp kk
  simp only [hz] at ldq
  obtain ⟨za, zb⟩ := z
  simp [G_skolemref12_mark, genv0, List.replicate]
  refine ref_Abs_ok ?_
  rw [hab, hqe]
  simp at iap iaq
  by_cases hneg : l < 0
  · rw [show swS l (a, b) = (b, a) from if_pos hneg] at kk
    cases za <;> cases zb <;> simp [hneg, iap, iaq, ldp, ldq, stp, stq] <;> simpa using kk
  · rw [show swS l (a, b) = (a, b) from if_neg hneg] at kk
    cases za <;> cases zb <;> simp [hneg, iap, iaq, ldp, ldq, stp, stq] <;> simpa using kk
end Go.Gh
namespace Go.Gh
open Go.RowKit Go.Proofs
set_option linter.unusedVariables false
set_option linter.unusedSimpArgs false
set_option maxRecDepth 100000
@[simp] theorem fill_gate (z0 z1 z2 : DV) (k1 k2 : IntKind) (x y : Int) (a b c d : Nat) (e : Option Nat) : gfill [(0, 1), (1, 1), (2, 1)] [z0, z1, z2] [.int k1 x, .int k2 y, .slice a b c d e] = some [.int k1 x, .int k2 y, .slice a b c d e] := rfl
theorem LX.live {n : Nat} {σ : GS} {s : DV} {raws : List DV} {l : List (List Int)} {Post : DV → GS → Prop} (hX : LX n σ s raws l) (hl : l.length < 2 ^ 50) (hs : (l.map fun c => c.length).sum < 2 ^ 50) (h : Post (.bool (cnf5 l)) σ) : GCall Tryz.prog F_skolemref12_Cnf [s] σ Post := by
  refine GCall.borrow (args' := [fcls l]) (r := .bool (cnf5 l)) (.cons (hX.rd fun _ _ => trivial) .nil) (by simp) rfl ?_ h
  exact r12_Cnf_ok hl hs rfl
end Go.Gh
namespace Go.Gh
open Go.Proofs
end Go.Gh
namespace Go.Gh
open Go.RowKit Go.Proofs
set_option linter.unusedVariables false
set_option linter.unusedSimpArgs false
set_option maxRecDepth 100000
@[simp] theorem gp_cap_some (id off n sz c : Nat) : gpure .cap [.slice id off n sz (some c)] = some (.int .i64 c) := rfl
end Go.Gh
namespace Go.Gh
open Go.RowKit Go.Proofs
set_option linter.unusedVariables false
set_option linter.unusedSimpArgs false
set_option maxRecDepth 100000
end Go.Gh
namespace Go.Gh
open Go.Proofs
set_option maxRecDepth 100000
end Go.Gh
namespace Go.Gh
open Go.Proofs
end Go.Gh
namespace Go.Gh
open Go.Proofs
abbrev F_prefix_May : Nat := 160
abbrev F_prefix_places : Nat := 163
abbrev F_prefix_count : Nat := 203
abbrev F_prefix_abs : Nat := 204
abbrev F_prefix_each : Nat := 206
abbrev F_prefix_each_1 : Nat := 231
noncomputable abbrev G_prefix_each : GFun := ⟨4, [(.tmp 2)], (.seq (.region [⟨0, ⟨(some 1), none, (.new .box), [(.tmp 0)]⟩, []⟩, ⟨0, ⟨(some 2), none, (.pure .id), [(.const .nilf)]⟩, []⟩]) (.seq (.region [⟨0, ⟨(some 3), none, (.pure (.mkfunc F_prefix_each_1 0)), [(.tmp 1)]⟩, []⟩, ⟨0, ⟨(some 2), none, (.pure .id), [(.tmp 3)]⟩, []⟩]) .ret))⟩
theorem c_prefix_each : compF Tryz.prog Tryz.f206 = some G_prefix_each := by kernel_rfl
theorem gc_prefix_each {args : List DV} {σ : GS} {Post : DV → GS → Prop} (h : @exB Tryz.prog ⟨G_prefix_each.body⟩ (genv0 args G_prefix_each.ntmps) σ ⟨@gretB G_prefix_each.results ⟨Post⟩⟩) : GCall Tryz.prog F_prefix_each args σ Post := gcall_ofB seatfollows Tryz.func206 (by kernel_rfl) c_prefix_each h
noncomputable abbrev G_prefix_each_1 : GFun := ⟨28, [], (.seq (.region [⟨0, ⟨(some 7), none, (.load (.load 1 false)), [(.tmp 1)]⟩, []⟩, ⟨0, ⟨(some 8), none, (.pure .len), [(.tmp 7)]⟩, []⟩, ⟨0, ⟨(some 9), none, (.pure .id), [(.const (.int .i64 0))]⟩, []⟩]) (.block 0 (.loop (.seq (.region [⟨0, ⟨(some 10), none, (.pure (.bin .lss .none)), [(.tmp 9), (.tmp 8)]⟩, []⟩]) (.seq (.cond (.tmp 10) .skip (.exit 0)) (.seq (.block 1 (.seq (.region [⟨0, ⟨(some 11), none, (.pure .id), [(.tmp 9)]⟩, []⟩, ⟨0, ⟨(some 12), none, (.pure (.iaddr 2)), [(.tmp 7), (.tmp 9)]⟩, []⟩, ⟨0, ⟨(some 13), none, (.load (.load 2 true)), [(.tmp 12)]⟩, []⟩, ⟨0, ⟨(some 4), none, (.new (.alloc [(.bool false), .nils])), []⟩, []⟩, ⟨0, ⟨(some 3), none, (.pure .id), [(.tmp 11)]⟩, []⟩, ⟨0, ⟨none, none, (.imp (.store 2)), [(.tmp 4), (.tmp 13)]⟩, []⟩]) (.seq (.region [⟨0, ⟨(some 14), none, (.pure (.faddr 1)), [(.tmp 4)]⟩, []⟩, ⟨0, ⟨(some 15), none, (.load (.load 1 false)), [(.tmp 14)]⟩, []⟩, ⟨0, ⟨(some 16), none, (.pure .len), [(.tmp 15)]⟩, []⟩, ⟨0, ⟨(some 17), none, (.pure .id), [(.const (.int .i64 0))]⟩, []⟩]) (.block 2 (.loop (.seq (.region [⟨0, ⟨(some 18), none, (.pure (.bin .lss .none)), [(.tmp 17), (.tmp 16)]⟩, []⟩]) (.seq (.cond (.tmp 18) .skip (.exit 2)) (.seq (.block 3 (.seq (.region [⟨0, ⟨(some 19), none, (.pure (.iaddr 1)), [(.tmp 15), (.tmp 17)]⟩, []⟩, ⟨0, ⟨(some 20), none, (.load (.load 1 false)), [(.tmp 19)]⟩, []⟩, ⟨0, ⟨(some 6), none, (.pure .id), [(.tmp 20)]⟩, []⟩]) (.seq (.region [⟨0, ⟨(some 21), none, (.pure .id), [(.tmp 0)]⟩, []⟩, ⟨0, ⟨(some 22), none, (.pure .id), [(.tmp 3)]⟩, []⟩, ⟨0, ⟨(some 23), none, (.pure .id), [(.tmp 6)]⟩, []⟩, ⟨0, ⟨(some 24), none, .callv, [(.tmp 21), (.tmp 22), (.tmp 23)]⟩, []⟩, ⟨0, ⟨(some 25), none, (.pure (.un .not)), [(.tmp 24)]⟩, []⟩]) (.cond (.tmp 25) .ret .skip)))) (.region [⟨0, ⟨(some 26), none, (.pure (.bin .add .none)), [(.tmp 17), (.const (.int .i64 1))]⟩, []⟩, ⟨0, ⟨(some 17), none, (.pure .id), [(.tmp 26)]⟩, []⟩]))))))))) (.region [⟨0, ⟨(some 27), none, (.pure (.bin .add .none)), [(.tmp 9), (.const (.int .i64 1))]⟩, []⟩, ⟨0, ⟨(some 9), none, (.pure .id), [(.tmp 27)]⟩, []⟩])))))))⟩
theorem c_prefix_each_1 : compF Tryz.prog Tryz.f231 = some G_prefix_each_1 := by kernel_rfl
theorem gc_prefix_each_1 {args : List DV} {σ : GS} {Post : DV → GS → Prop} (h : @exB Tryz.prog ⟨G_prefix_each_1.body⟩ (genv0 args G_prefix_each_1.ntmps) σ ⟨@gretB G_prefix_each_1.results ⟨Post⟩⟩) : GCall Tryz.prog F_prefix_each_1 args σ Post := gcall_ofB seatfollows Tryz.func231 (by kernel_rfl) c_prefix_each_1 h
noncomputable abbrev G_prefix_count : GFun := ⟨27, [(.cell 2 1 false), (.cell 3 1 false)], (.seq (.region [⟨0, ⟨(some 2), none, (.new (.alloc [(.int .i64 0)])), []⟩, []⟩, ⟨0, ⟨(some 3), none, (.new (.alloc [(.bool false)])), []⟩, []⟩]) (.seq (.region [⟨0, ⟨(some 7), none, (.new .mmap), []⟩, []⟩, ⟨0, ⟨(some 4), none, (.new (.alloc [.nilmap])), []⟩, []⟩, ⟨0, ⟨none, none, (.imp (.store 1)), [(.tmp 4), (.tmp 7)]⟩, []⟩]) (.seq (.seq (.region [⟨0, ⟨(some 8), none, (.pure .id), [(.tmp 0)]⟩, []⟩, ⟨0, ⟨(some 9), none, (.call F_prefix_each), [(.tmp 8)]⟩, []⟩]) (.block 0 (.rangeF (.tmp 9) [10, 11] (rngA Tryz.f203 0) (rngB Tryz.f203 0)))) (.seq (.region [⟨0, ⟨(some 25), none, (.load (.load 1 false)), [(.tmp 4)]⟩, []⟩, ⟨0, ⟨(some 26), none, (.load .mlen), [(.tmp 25)]⟩, []⟩, ⟨0, ⟨none, none, (.imp (.store 1)), [(.tmp 2), (.tmp 26)]⟩, []⟩, ⟨0, ⟨none, none, (.imp (.store 1)), [(.tmp 3), (.const (.bool true))]⟩, []⟩]) .ret))))⟩
theorem c_prefix_count : compF Tryz.prog Tryz.f203 = some G_prefix_count := by kernel_rfl
theorem gc_prefix_count {args : List DV} {σ : GS} {Post : DV → GS → Prop} (h : @exB Tryz.prog ⟨G_prefix_count.body⟩ (genv0 args G_prefix_count.ntmps) σ ⟨@gretB G_prefix_count.results ⟨Post⟩⟩) : GCall Tryz.prog F_prefix_count args σ Post := gcall_ofB seatfollows Tryz.func203 (by kernel_rfl) c_prefix_count h
noncomputable abbrev GA_prefix_count_0 : GCode := (.region [⟨0, ⟨(some 6), none, (.pure .id), [(.tmp 11)]⟩, []⟩])
theorem ca_prefix_count_0 : comp Tryz.prog (rngA Tryz.f203 0) = some GA_prefix_count_0 := by kernel_rfl
noncomputable abbrev GB_prefix_count_0 : GCode := (.block 1 (.seq (.seq (.region [⟨0, ⟨(some 12), none, (.pure .id), [(.tmp 6)]⟩, []⟩, ⟨0, ⟨(some 13), none, (.pure (.bin .lss .none)), [(.tmp 12), (.const (.int .i64 1))]⟩, []⟩, ⟨0, ⟨(some 14), none, (.pure .id), [(.tmp 13)]⟩, []⟩, ⟨0, ⟨(some 15), (some (14, false)), (.pure .id), [(.tmp 6)]⟩, []⟩, ⟨0, ⟨(some 16), (some (14, false)), (.pure (.bin .gtr .none)), [(.tmp 15), (.const (.int .i64 65536))]⟩, []⟩, ⟨0, ⟨(some 17), none, (.pure .pick), [(.tmp 14), (.const (.bool true)), (.tmp 16)]⟩, []⟩, ⟨0, ⟨(some 18), none, (.pure .id), [(.tmp 17)]⟩, []⟩, ⟨0, ⟨(some 19), (some (18, false)), (.load (.load 1 false)), [(.tmp 4)]⟩, []⟩, ⟨0, ⟨(some 20), (some (18, false)), (.pure .id), [(.tmp 6)]⟩, []⟩, ⟨0, ⟨(some 21), (some (18, false)), (.load (.lookup (.int .i64) (.bool false) false)), [(.tmp 19), (.tmp 20)]⟩, []⟩, ⟨0, ⟨(some 22), none, (.pure .pick), [(.tmp 18), (.const (.bool true)), (.tmp 21)]⟩, []⟩]) (.cond (.tmp 22) (.seq (.region [⟨0, ⟨none, none, (.imp (.store 1)), [(.tmp 2), (.const (.int .i64 0))]⟩, []⟩, ⟨0, ⟨none, none, (.imp (.store 1)), [(.tmp 3), (.const (.bool false))]⟩, []⟩]) .ret) .skip)) (.region [⟨0, ⟨(some 23), none, (.load (.load 1 false)), [(.tmp 4)]⟩, []⟩, ⟨0, ⟨(some 24), none, (.pure .id), [(.tmp 6)]⟩, []⟩, ⟨0, ⟨none, none, (.imp (.mset (.int .i64))), [(.tmp 23), (.tmp 24), (.const (.bool true))]⟩, []⟩])))
theorem cb_prefix_count_0 : comp Tryz.prog (rngB Tryz.f203 0) = some GB_prefix_count_0 := by kernel_rfl
noncomputable abbrev G_prefix_May : GFun := ⟨44, [(.tmp 2)], (.seq (.region [⟨0, ⟨(some 2), none, (.pure .id), [(.const (.bool false))]⟩, []⟩]) (.seq (.seq (.region [⟨0, ⟨(some 7), none, (.pure .id), [(.tmp 0)]⟩, []⟩, ⟨0, ⟨(some 8), none, (.pure .len), [(.tmp 7)]⟩, []⟩, ⟨0, ⟨(some 9), none, (.pure .id), [(.const (.int .i64 0))]⟩, []⟩]) (.block 0 (.loop (.seq (.region [⟨0, ⟨(some 10), none, (.pure (.bin .lss .none)), [(.tmp 9), (.tmp 8)]⟩, []⟩]) (.seq (.cond (.tmp 10) .skip (.exit 0)) (.seq (.block 1 (.seq (.region [⟨0, ⟨(some 11), none, (.pure .id), [(.tmp 9)]⟩, []⟩, ⟨0, ⟨(some 12), none, (.pure (.iaddr 2)), [(.tmp 7), (.tmp 9)]⟩, []⟩, ⟨0, ⟨(some 13), none, (.load (.load 2 true)), [(.tmp 12)]⟩, []⟩, ⟨0, ⟨(some 4), none, (.new (.alloc [(.bool false), .nils])), []⟩, []⟩, ⟨0, ⟨(some 3), none, (.pure .id), [(.tmp 11)]⟩, []⟩, ⟨0, ⟨none, none, (.imp (.store 2)), [(.tmp 4), (.tmp 13)]⟩, []⟩]) (.seq (.region [⟨0, ⟨(some 14), none, (.pure (.faddr 1)), [(.tmp 4)]⟩, []⟩, ⟨1, ⟨(some 15), none, (.load (.load 1 false)), [(.tmp 14)]⟩, []⟩, ⟨2, ⟨(some 16), none, (.pure .len), [(.tmp 15)]⟩, []⟩, ⟨3, ⟨(some 17), none, (.pure (.bin .eql .none)), [(.tmp 16), (.const (.int .i64 0))]⟩, []⟩, ⟨4, ⟨(some 18), none, (.pure .id), [(.tmp 17)]⟩, []⟩, ⟨5, ⟨(some 19), (some (18, false)), (.pure .id), [(.tmp 3)]⟩, []⟩, ⟨6, ⟨(some 20), (some (18, false)), (.pure (.bin .gtr .none)), [(.tmp 19), (.const (.int .i64 0))]⟩, []⟩, ⟨7, ⟨(some 21), (some (18, false)), (.pure .id), [(.tmp 20)]⟩, []⟩, ⟨8, ⟨(some 22), (some (21, true)), (.pure .id), [(.tmp 0)]⟩, []⟩, ⟨9, ⟨(some 23), (some (21, true)), (.pure .id), [(.tmp 3)]⟩, []⟩, ⟨10, ⟨(some 24), (some (21, true)), (.pure (.bin .sub .none)), [(.tmp 23), (.const (.int .i64 1))]⟩, []⟩, ⟨11, ⟨(some 25), (some (21, true)), (.pure (.iaddr 2)), [(.tmp 22), (.tmp 24)]⟩, []⟩, ⟨12, ⟨(some 26), (some (21, true)), (.pure (.faddr 0)), [(.tmp 25)]⟩, []⟩, ⟨13, ⟨(some 27), (some (21, true)), (.load (.load 1 false)), [(.tmp 26)]⟩, []⟩, ⟨14, ⟨(some 28), (some (21, true)), (.pure (.faddr 0)), [(.tmp 4)]⟩, []⟩, ⟨15, ⟨(some 29), (some (21, true)), (.load (.load 1 false)), [(.tmp 28)]⟩, []⟩, ⟨16, ⟨(some 30), (some (21, true)), (.pure (.bin .eql .bool)), [(.tmp 27), (.tmp 29)]⟩, []⟩, ⟨17, ⟨(some 31), (some (18, false)), (.pure .pick), [(.tmp 21), (.tmp 30), (.const (.bool false))]⟩, []⟩, ⟨18, ⟨(some 32), none, (.pure .pick), [(.tmp 18), (.const (.bool true)), (.tmp 31)]⟩, []⟩]) (.cond (.tmp 32) (.seq (.region [⟨0, ⟨(some 2), none, (.pure .id), [(.const (.bool false))]⟩, []⟩]) .ret) .skip)))) (.region [⟨0, ⟨(some 33), none, (.pure (.bin .add .none)), [(.tmp 9), (.const (.int .i64 1))]⟩, []⟩, ⟨0, ⟨(some 9), none, (.pure .id), [(.tmp 33)]⟩, []⟩]))))))) (.seq (.region [⟨0, ⟨(some 35), none, (.pure .id), [(.tmp 0)]⟩, []⟩, ⟨0, ⟨(some 36), none, (.call F_prefix_count), [(.tmp 35)]⟩, []⟩, ⟨0, ⟨(some 34), none, (.pure .id), [(.tmp 36)]⟩, []⟩, ⟨0, ⟨(some 37), none, (.pure (.extract 0)), [(.tmp 34)]⟩, []⟩, ⟨0, ⟨(some 38), none, (.pure (.extract 1)), [(.tmp 34)]⟩, []⟩, ⟨0, ⟨(some 5), none, (.pure .id), [(.tmp 37)]⟩, []⟩, ⟨0, ⟨(some 6), none, (.pure .id), [(.tmp 38)]⟩, []⟩]) (.seq (.region [⟨0, ⟨(some 39), none, (.pure .id), [(.tmp 6)]⟩, []⟩, ⟨0, ⟨(some 40), none, (.pure .id), [(.tmp 39)]⟩, []⟩, ⟨0, ⟨(some 41), (some (40, true)), (.pure .id), [(.tmp 5)]⟩, []⟩, ⟨0, ⟨(some 42), (some (40, true)), (.pure (.bin .leq .none)), [(.tmp 41), (.const (.int .i64 1024))]⟩, []⟩, ⟨0, ⟨(some 43), none, (.pure .pick), [(.tmp 40), (.tmp 42), (.const (.bool false))]⟩, []⟩, ⟨0, ⟨(some 2), none, (.pure .id), [(.tmp 43)]⟩, []⟩]) .ret))))⟩
theorem c_prefix_May : compF Tryz.prog Tryz.f160 = some G_prefix_May := by kernel_rfl
theorem gc_prefix_May {args : List DV} {σ : GS} {Post : DV → GS → Prop} (h : @exB Tryz.prog ⟨G_prefix_May.body⟩ (genv0 args G_prefix_May.ntmps) σ ⟨@gretB G_prefix_May.results ⟨Post⟩⟩) : GCall Tryz.prog F_prefix_May args σ Post := gcall_ofB seatfollows Tryz.func160 (by kernel_rfl) c_prefix_May h
noncomputable abbrev G_prefix_places : GFun := ⟨31, [(.tmp 2)], (.seq (.region [⟨0, ⟨(some 1), none, (.new .box), [(.tmp 0)]⟩, []⟩, ⟨0, ⟨(some 2), none, (.pure .id), [(.const .nilmap)]⟩, []⟩]) (.seq (.region [⟨0, ⟨(some 8), none, (.new .mmap), []⟩, []⟩, ⟨0, ⟨(some 3), none, (.new (.alloc [.nilmap])), []⟩, []⟩, ⟨0, ⟨none, none, (.imp (.store 1)), [(.tmp 3), (.tmp 8)]⟩, []⟩]) (.seq (.seq (.region [⟨0, ⟨(some 9), none, (.load (.load 1 false)), [(.tmp 1)]⟩, []⟩, ⟨0, ⟨(some 10), none, (.call F_prefix_each), [(.tmp 9)]⟩, []⟩]) (.block 0 (.rangeF (.tmp 10) [11, 12] (rngA Tryz.f163 0) (rngB Tryz.f163 0)))) (.seq (.region [⟨0, ⟨(some 30), none, (.load (.load 1 false)), [(.tmp 3)]⟩, []⟩, ⟨0, ⟨(some 2), none, (.pure .id), [(.tmp 30)]⟩, []⟩]) .ret))))⟩
theorem c_prefix_places : compF Tryz.prog Tryz.f163 = some G_prefix_places := by kernel_rfl
theorem gc_prefix_places {args : List DV} {σ : GS} {Post : DV → GS → Prop} (h : @exB Tryz.prog ⟨G_prefix_places.body⟩ (genv0 args G_prefix_places.ntmps) σ ⟨@gretB G_prefix_places.results ⟨Post⟩⟩) : GCall Tryz.prog F_prefix_places args σ Post := gcall_ofB seatfollows Tryz.func163 (by kernel_rfl) c_prefix_places h
noncomputable abbrev GA_prefix_places_0 : GCode := (.seq (.region [⟨0, ⟨(some 4), none, (.pure .id), [(.tmp 11)]⟩, []⟩]) (.region [⟨0, ⟨(some 5), none, (.pure .id), [(.tmp 12)]⟩, []⟩]))
theorem ca_prefix_places_0 : comp Tryz.prog (rngA Tryz.f163 0) = some GA_prefix_places_0 := by kernel_rfl
noncomputable abbrev GB_prefix_places_0 : GCode := (.block 1 (.seq (.region [⟨0, ⟨(some 14), none, (.load (.load 1 false)), [(.tmp 3)]⟩, []⟩, ⟨0, ⟨(some 15), none, (.pure .id), [(.tmp 5)]⟩, []⟩, ⟨0, ⟨(some 16), none, (.load (.lookup (.int .i64) (.agg [(.int .i64 0), (.bool false)]) true)), [(.tmp 14), (.tmp 15)]⟩, []⟩, ⟨0, ⟨(some 13), none, (.pure .id), [(.tmp 16)]⟩, []⟩, ⟨0, ⟨(some 17), none, (.pure (.extract 0)), [(.tmp 13)]⟩, []⟩, ⟨0, ⟨(some 18), none, (.pure (.extract 1)), [(.tmp 13)]⟩, []⟩, ⟨0, ⟨(some 6), none, (.new (.alloc [(.int .i64 0), (.bool false)])), []⟩, []⟩, ⟨0, ⟨none, none, (.imp (.store 2)), [(.tmp 6), (.tmp 17)]⟩, []⟩, ⟨0, ⟨(some 7), none, (.pure .id), [(.tmp 18)]⟩, []⟩]) (.seq (.region [⟨0, ⟨(some 19), none, (.pure .id), [(.tmp 7)]⟩, []⟩, ⟨0, ⟨(some 20), none, (.pure (.un .not)), [(.tmp 19)]⟩, []⟩]) (.cond (.tmp 20) (.region [⟨0, ⟨(some 21), none, (.load (.load 1 false)), [(.tmp 3)]⟩, []⟩, ⟨1, ⟨(some 22), none, (.pure .id), [(.tmp 5)]⟩, []⟩, ⟨2, ⟨(some 23), none, (.pure .id), [(.tmp 4)]⟩, []⟩, ⟨3, ⟨(some 24), none, (.load (.load 1 false)), [(.tmp 1)]⟩, []⟩, ⟨4, ⟨(some 25), none, (.pure .id), [(.tmp 4)]⟩, []⟩, ⟨5, ⟨(some 26), none, (.pure (.iaddr 2)), [(.tmp 24), (.tmp 25)]⟩, []⟩, ⟨6, ⟨(some 27), none, (.pure (.faddr 0)), [(.tmp 26)]⟩, []⟩, ⟨7, ⟨(some 28), none, (.load (.load 1 false)), [(.tmp 27)]⟩, []⟩, ⟨8, ⟨(some 29), none, (.pure (.build [(.int .i64 0), (.bool false)] [(0, 1), (1, 1)])), [(.tmp 23), (.tmp 28)]⟩, []⟩, ⟨9, ⟨none, none, (.imp (.mset (.int .i64))), [(.tmp 21), (.tmp 22), (.tmp 29)]⟩, []⟩]) .skip))))
theorem cb_prefix_places_0 : comp Tryz.prog (rngB Tryz.f163 0) = some GB_prefix_places_0 := by kernel_rfl
noncomputable abbrev G_prefix_abs : GFun := ⟨7, [(.tmp 2)], (.seq (.region [⟨0, ⟨(some 2), none, (.pure .id), [(.const (.int .i64 0))]⟩, []⟩]) (.seq (.region [⟨0, ⟨(some 3), none, (.pure .id), [(.tmp 0)]⟩, []⟩, ⟨0, ⟨(some 4), none, (.pure .id), [(.tmp 0)]⟩, []⟩, ⟨0, ⟨(some 5), none, (.pure (.un .neg)), [(.tmp 4)]⟩, []⟩, ⟨0, ⟨(some 6), none, (.pure .mx), [(.tmp 3), (.tmp 5)]⟩, []⟩, ⟨0, ⟨(some 2), none, (.pure .id), [(.tmp 6)]⟩, []⟩]) .ret))⟩
theorem c_prefix_abs : compF Tryz.prog Tryz.f204 = some G_prefix_abs := by kernel_rfl
theorem gc_prefix_abs {args : List DV} {σ : GS} {Post : DV → GS → Prop} (h : @exB Tryz.prog ⟨G_prefix_abs.body⟩ (genv0 args G_prefix_abs.ntmps) σ ⟨@gretB G_prefix_abs.results ⟨Post⟩⟩) : GCall Tryz.prog F_prefix_abs args σ Post := gcall_ofB seatfollows Tryz.func204 (by kernel_rfl) c_prefix_abs h
end Go.Gh
namespace Go.Gh
open Go.Proofs
abbrev F_prefix_cnf : Nat := 161
noncomputable abbrev G_prefix_cnf : GFun := ⟨59, [(.tmp 4)], (.seq (.region [⟨0, ⟨(some 4), none, (.pure .id), [(.const (.bool false))]⟩, []⟩]) (.seq (.seq (.region [⟨0, ⟨(some 11), none, (.pure .id), [(.tmp 0)]⟩, []⟩, ⟨0, ⟨(some 12), none, (.pure .len), [(.tmp 11)]⟩, []⟩, ⟨0, ⟨(some 13), none, (.pure (.bin .gtr .none)), [(.tmp 12), (.const (.int .i64 20000))]⟩, []⟩]) (.cond (.tmp 13) (.seq (.region [⟨0, ⟨(some 4), none, (.pure .id), [(.const (.bool false))]⟩, []⟩]) .ret) .skip)) (.seq (.region [⟨0, ⟨(some 5), none, (.pure .id), [(.const (.int .i64 0))]⟩, []⟩]) (.seq (.seq (.region [⟨0, ⟨(some 14), none, (.pure .id), [(.tmp 0)]⟩, []⟩, ⟨0, ⟨(some 15), none, (.pure .len), [(.tmp 14)]⟩, []⟩, ⟨0, ⟨(some 16), none, (.pure .id), [(.const (.int .i64 0))]⟩, []⟩]) (.block 0 (.loop (.seq (.region [⟨0, ⟨(some 17), none, (.pure (.bin .lss .none)), [(.tmp 16), (.tmp 15)]⟩, []⟩]) (.seq (.cond (.tmp 17) .skip (.exit 0)) (.seq (.block 1 (.seq (.region [⟨0, ⟨(some 18), none, (.pure (.iaddr 1)), [(.tmp 14), (.tmp 16)]⟩, []⟩, ⟨0, ⟨(some 19), none, (.load (.load 1 false)), [(.tmp 18)]⟩, []⟩, ⟨0, ⟨(some 7), none, (.pure .id), [(.tmp 19)]⟩, []⟩]) (.seq (.region [⟨0, ⟨(some 8), none, (.pure .id), [(.const (.int .i64 0))]⟩, []⟩]) (.seq (.seq (.region [⟨0, ⟨(some 20), none, (.pure .id), [(.tmp 7)]⟩, []⟩, ⟨0, ⟨(some 21), none, (.pure .len), [(.tmp 20)]⟩, []⟩, ⟨0, ⟨(some 22), none, (.pure .id), [(.const (.int .i64 0))]⟩, []⟩]) (.block 2 (.loop (.seq (.region [⟨0, ⟨(some 23), none, (.pure (.bin .lss .none)), [(.tmp 22), (.tmp 21)]⟩, []⟩]) (.seq (.cond (.tmp 23) .skip (.exit 2)) (.seq (.block 3 (.seq (.region [⟨0, ⟨(some 24), none, (.pure (.iaddr 1)), [(.tmp 20), (.tmp 22)]⟩, []⟩, ⟨0, ⟨(some 25), none, (.load (.load 1 false)), [(.tmp 24)]⟩, []⟩, ⟨0, ⟨(some 10), none, (.pure .id), [(.tmp 25)]⟩, []⟩]) (.seq (.seq (.region [⟨0, ⟨(some 26), none, (.pure .id), [(.tmp 10)]⟩, []⟩, ⟨0, ⟨(some 27), none, (.pure (.bin .eql .none)), [(.tmp 26), (.const (.int .i64 0))]⟩, []⟩, ⟨0, ⟨(some 28), none, (.pure .id), [(.tmp 27)]⟩, []⟩, ⟨0, ⟨(some 29), (some (28, false)), (.pure .id), [(.tmp 10)]⟩, []⟩, ⟨0, ⟨(some 30), (some (28, false)), (.pure (.bin .lss .none)), [(.tmp 29), (.const (.int .i64 (-65536)))]⟩, []⟩, ⟨0, ⟨(some 31), none, (.pure .pick), [(.tmp 28), (.const (.bool true)), (.tmp 30)]⟩, []⟩, ⟨0, ⟨(some 32), none, (.pure .id), [(.tmp 31)]⟩, []⟩, ⟨0, ⟨(some 33), (some (32, false)), (.pure .id), [(.tmp 10)]⟩, []⟩, ⟨0, ⟨(some 34), (some (32, false)), (.pure (.bin .gtr .none)), [(.tmp 33), (.const (.int .i64 65536))]⟩, []⟩, ⟨0, ⟨(some 35), none, (.pure .pick), [(.tmp 32), (.const (.bool true)), (.tmp 34)]⟩, []⟩, ⟨0, ⟨(some 36), none, (.pure .id), [(.tmp 35)]⟩, []⟩, ⟨0, ⟨(some 37), (some (36, false)), (.pure .id), [(.tmp 10)]⟩, []⟩, ⟨0, ⟨(some 38), (some (36, false)), (.call F_prefix_abs), [(.tmp 37)]⟩, []⟩, ⟨0, ⟨(some 39), (some (36, false)), (.pure .id), [(.tmp 8)]⟩, []⟩, ⟨0, ⟨(some 40), (some (36, false)), (.pure (.bin .leq .none)), [(.tmp 38), (.tmp 39)]⟩, []⟩, ⟨0, ⟨(some 41), none, (.pure .pick), [(.tmp 36), (.const (.bool true)), (.tmp 40)]⟩, []⟩, ⟨0, ⟨(some 42), none, (.pure .id), [(.tmp 41)]⟩, []⟩, ⟨0, ⟨(some 43), (some (42, false)), (.pure .id), [(.tmp 1)]⟩, []⟩, ⟨0, ⟨(some 44), (some (42, false)), (.pure .id), [(.tmp 10)]⟩, []⟩, ⟨0, ⟨(some 45), (some (42, false)), (.call F_prefix_abs), [(.tmp 44)]⟩, []⟩, ⟨0, ⟨(some 46), (some (42, false)), .callv, [(.tmp 43), (.tmp 45)]⟩, []⟩, ⟨0, ⟨(some 47), (some (42, false)), (.pure (.un .not)), [(.tmp 46)]⟩, []⟩, ⟨0, ⟨(some 48), none, (.pure .pick), [(.tmp 42), (.const (.bool true)), (.tmp 47)]⟩, []⟩]) (.cond (.tmp 48) (.seq (.region [⟨0, ⟨(some 4), none, (.pure .id), [(.const (.bool false))]⟩, []⟩]) .ret) .skip)) (.region [⟨0, ⟨(some 49), none, (.pure .id), [(.tmp 10)]⟩, []⟩, ⟨0, ⟨(some 50), none, (.call F_prefix_abs), [(.tmp 49)]⟩, []⟩, ⟨0, ⟨(some 8), none, (.pure .id), [(.tmp 50)]⟩, []⟩])))) (.region [⟨0, ⟨(some 51), none, (.pure (.bin .add .none)), [(.tmp 22), (.const (.int .i64 1))]⟩, []⟩, ⟨0, ⟨(some 22), none, (.pure .id), [(.tmp 51)]⟩, []⟩]))))))) (.region [⟨0, ⟨(some 52), none, (.pure .id), [(.tmp 5)]⟩, []⟩, ⟨0, ⟨(some 53), none, (.pure .id), [(.tmp 7)]⟩, []⟩, ⟨0, ⟨(some 54), none, (.pure .len), [(.tmp 53)]⟩, []⟩, ⟨0, ⟨(some 55), none, (.pure (.bin .add .none)), [(.tmp 52), (.tmp 54)]⟩, []⟩, ⟨0, ⟨(some 5), none, (.pure .id), [(.tmp 55)]⟩, []⟩]))))) (.region [⟨0, ⟨(some 56), none, (.pure (.bin .add .none)), [(.tmp 16), (.const (.int .i64 1))]⟩, []⟩, ⟨0, ⟨(some 16), none, (.pure .id), [(.tmp 56)]⟩, []⟩]))))))) (.seq (.region [⟨0, ⟨(some 57), none, (.pure .id), [(.tmp 5)]⟩, []⟩, ⟨0, ⟨(some 58), none, (.pure (.bin .leq .none)), [(.tmp 57), (.const (.int .i64 200000))]⟩, []⟩, ⟨0, ⟨(some 4), none, (.pure .id), [(.tmp 58)]⟩, []⟩]) .ret)))))⟩
theorem c_prefix_cnf : compF Tryz.prog Tryz.f161 = some G_prefix_cnf := by kernel_rfl
theorem gc_prefix_cnf {args : List DV} {σ : GS} {Post : DV → GS → Prop} (h : @exB Tryz.prog ⟨G_prefix_cnf.body⟩ (genv0 args G_prefix_cnf.ntmps) σ ⟨@gretB G_prefix_cnf.results ⟨Post⟩⟩) : GCall Tryz.prog F_prefix_cnf args σ Post := gcall_ofB seatfollows Tryz.func161 (by kernel_rfl) c_prefix_cnf h
end Go.Gh
namespace Go.Gh
open Go.Proofs
abbrev F_prefix_has_prefix_place : Nat := 162
abbrev F_prefix_has_prefix_place_1 : Nat := 205
noncomputable abbrev G_prefix_MayQbf : GFun := ⟨15, [(.tmp 2)], (.seq (.region [⟨0, ⟨(some 1), none, (.new .box), [(.tmp 0)]⟩, []⟩, ⟨0, ⟨(some 2), none, (.pure .id), [(.const (.bool false))]⟩, []⟩]) (.seq (.region [⟨0, ⟨(some 3), none, (.pure (.faddr 0)), [(.tmp 1)]⟩, []⟩, ⟨1, ⟨(some 4), none, (.load (.load 1 false)), [(.tmp 3)]⟩, []⟩, ⟨2, ⟨(some 5), none, (.call F_prefix_May), [(.tmp 4)]⟩, []⟩, ⟨3, ⟨(some 6), none, (.pure .id), [(.tmp 5)]⟩, []⟩, ⟨4, ⟨(some 7), (some (6, true)), (.pure (.faddr 1)), [(.tmp 1)]⟩, []⟩, ⟨5, ⟨(some 8), (some (6, true)), (.load (.load 1 false)), [(.tmp 7)]⟩, []⟩, ⟨6, ⟨(some 9), (some (6, true)), (.pure (.faddr 0)), [(.tmp 1)]⟩, []⟩, ⟨7, ⟨(some 10), (some (6, true)), (.load (.load 1 false)), [(.tmp 9)]⟩, []⟩, ⟨8, ⟨(some 11), (some (6, true)), (.call F_prefix_places), [(.tmp 10)]⟩, [⟨(some 8), (some (6, true)), (.load (.load 1 false)), [(.tmp 7)]⟩]⟩, ⟨9, ⟨(some 12), (some (6, true)), (.call F_prefix_has_prefix_place), [(.tmp 11)]⟩, [⟨(some 8), (some (6, true)), (.load (.load 1 false)), [(.tmp 7)]⟩]⟩, ⟨10, ⟨(some 13), (some (6, true)), (.call F_prefix_cnf), [(.tmp 8), (.tmp 12)]⟩, []⟩, ⟨11, ⟨(some 14), none, (.pure .pick), [(.tmp 6), (.tmp 13), (.const (.bool false))]⟩, []⟩, ⟨12, ⟨(some 2), none, (.pure .id), [(.tmp 14)]⟩, []⟩]) .ret))⟩
theorem c_prefix_MayQbf : compF Tryz.prog Tryz.f94 = some G_prefix_MayQbf := by kernel_rfl
theorem gc_prefix_MayQbf {args : List DV} {σ : GS} {Post : DV → GS → Prop} (h : @exB Tryz.prog ⟨G_prefix_MayQbf.body⟩ (genv0 args G_prefix_MayQbf.ntmps) σ ⟨@gretB G_prefix_MayQbf.results ⟨Post⟩⟩) : GCall Tryz.prog F_prefix_MayQbf args σ Post := gcall_ofB seatfollows Tryz.func94 (by kernel_rfl) c_prefix_MayQbf h
noncomputable abbrev G_prefix_has_prefix_place : GFun := ⟨4, [(.tmp 2)], (.seq (.region [⟨0, ⟨(some 1), none, (.new .box), [(.tmp 0)]⟩, []⟩, ⟨0, ⟨(some 2), none, (.pure .id), [(.const .nilf)]⟩, []⟩]) (.seq (.region [⟨0, ⟨(some 3), none, (.pure (.mkfunc F_prefix_has_prefix_place_1 0)), [(.tmp 1)]⟩, []⟩, ⟨0, ⟨(some 2), none, (.pure .id), [(.tmp 3)]⟩, []⟩]) .ret))⟩
theorem c_prefix_has_prefix_place : compF Tryz.prog Tryz.f162 = some G_prefix_has_prefix_place := by kernel_rfl
theorem gc_prefix_has_prefix_place {args : List DV} {σ : GS} {Post : DV → GS → Prop} (h : @exB Tryz.prog ⟨G_prefix_has_prefix_place.body⟩ (genv0 args G_prefix_has_prefix_place.ntmps) σ ⟨@gretB G_prefix_has_prefix_place.results ⟨Post⟩⟩) : GCall Tryz.prog F_prefix_has_prefix_place args σ Post := gcall_ofB seatfollows Tryz.func162 (by kernel_rfl) c_prefix_has_prefix_place h
noncomputable abbrev G_prefix_has_prefix_place_1 : GFun := ⟨13, [(.tmp 3)], (.seq (.region [⟨0, ⟨(some 3), none, (.pure .id), [(.const (.bool false))]⟩, []⟩]) (.seq (.region [⟨0, ⟨(some 7), none, (.load (.load 1 false)), [(.tmp 1)]⟩, []⟩, ⟨0, ⟨(some 8), none, (.pure .id), [(.tmp 0)]⟩, []⟩, ⟨0, ⟨(some 9), none, (.load (.lookup (.int .i64) (.agg [(.int .i64 0), (.bool false)]) true)), [(.tmp 7), (.tmp 8)]⟩, []⟩, ⟨0, ⟨(some 6), none, (.pure .id), [(.tmp 9)]⟩, []⟩, ⟨0, ⟨(some 10), none, (.pure (.extract 0)), [(.tmp 6)]⟩, []⟩, ⟨0, ⟨(some 11), none, (.pure (.extract 1)), [(.tmp 6)]⟩, []⟩, ⟨0, ⟨(some 4), none, (.new (.alloc [(.int .i64 0), (.bool false)])), []⟩, []⟩, ⟨0, ⟨none, none, (.imp (.store 2)), [(.tmp 4), (.tmp 10)]⟩, []⟩, ⟨0, ⟨(some 5), none, (.pure .id), [(.tmp 11)]⟩, []⟩]) (.seq (.region [⟨0, ⟨(some 12), none, (.pure .id), [(.tmp 5)]⟩, []⟩, ⟨0, ⟨(some 3), none, (.pure .id), [(.tmp 12)]⟩, []⟩]) .ret)))⟩
theorem c_prefix_has_prefix_place_1 : compF Tryz.prog Tryz.f205 = some G_prefix_has_prefix_place_1 := by kernel_rfl
theorem gc_prefix_has_prefix_place_1 {args : List DV} {σ : GS} {Post : DV → GS → Prop} (h : @exB Tryz.prog ⟨G_prefix_has_prefix_place_1.body⟩ (genv0 args G_prefix_has_prefix_place_1.ntmps) σ ⟨@gretB G_prefix_has_prefix_place_1.results ⟨Post⟩⟩) : GCall Tryz.prog F_prefix_has_prefix_place_1 args σ Post := gcall_ofB seatfollows Tryz.func205 (by kernel_rfl) c_prefix_has_prefix_place_1 h
end Go.Gh
namespace Go.Gh
open Go.RowKit Go.Proofs
set_option linter.unusedVariables false
set_option linter.unusedSimpArgs false
set_option maxRecDepth 100000
end Go.Gh
namespace Go.Gh
open Go.RowKit Go.Proofs
set_option linter.unusedVariables false
set_option linter.unusedSimpArgs false
set_option maxRecDepth 100000
end Go.Gh
namespace Go.Gh
open Go.RowKit Go.Proofs
set_option linter.unusedVariables false
set_option linter.unusedSimpArgs false
set_option maxRecDepth 100000
theorem altB_step {prev : Option Bool} {b : Blk} {p : List Blk} : altB prev (b :: p) = (!b.2.isEmpty && decide (prev ≠ some b.1) && altB (some b.1) p) := rfl
/-- The quantifier of the block before. -/
def prevB (p : List Blk) : Nat → Option Bool
  | 0 => none
  | i + 1 => (p[i]?).map (·.1)
end Go.Gh
namespace Go.Gh
open Go.RowKit Go.Proofs
set_option linter.unusedVariables false
set_option linter.unusedSimpArgs false
set_option maxRecDepth 100000
theorem p_each_ok {p : List Blk} {σ : GS} {Post : DV → GS → Prop} (k : Post (.func F_prefix_each_1 [] [.fptr [fblks p]]) σ) : GCall Tryz.prog F_prefix_each [fblks p] σ Post := by
  refine GCall.pure (r := .func F_prefix_each_1 [] [.fptr [fblks p]]) ?_ (by have := closed_fblks p; simp [DV.closed, closeds] at this ⊢; exact this) k
  refine gc_prefix_each ?_
  simp [G_prefix_each, genv0, List.replicate]
  exact .func .nil (.cons (.ptr (id := σ.length) (off := 0) (ro := false) (cs := [fblks p]) (.inl (Nat.le_refl _)) (by simp) (.cons (.same _) .nil)) .nil)
theorem p_each1_ok {p : List Blk} {L : Nat} {σ : GS} {Post : DV → GS → Prop} (hp : lensB p < 2 ^ 40) (I : Nat → GS → Prop) (J : GS → Prop) (hI : ∀ n σ' o, I n σ' → I n (σ' ++ [o])) (h0 : I 0 σ)
    (hr : ∀ n i v σ', (prs 0 p)[n]? = some (i, v) → I n σ' → GRound Tryz.prog L [.int .i64 (i : Nat), .int .i64 v] σ' fun r σ'' => (r = .bool true ∧ I (n + 1) σ'') ∨ (r = .bool false ∧ J σ''))
    (k : ∀ σ', I (flatB p).length σ' → Post (.tuple []) σ') (kj : ∀ σ', J σ' → Post (.tuple []) σ') : GCall Tryz.prog F_prefix_each_1 [.yield L, .fptr [fblks p]] σ Post := by
  have hlb := lensB_flat p
  refine gc_prefix_each_1 ?_
  simp [G_prefix_each_1, genv0, List.replicate]
  refine gfor p.length (fun i e σ' => I (flatB (p.take i)).length σ' ∧ e = mkEnv 28 [(0, .yield L), (7, fblks p), (8, .int .i64 p.length), (9, .int .i64 i)]) _ ?_ ⟨by simpa using h0, rfl⟩ ?_
  · simp [mkEnv, List.replicate]
  rintro i _ σ1 hi ⟨hI1, rfl⟩
  simp [mkEnv, List.replicate]
  by_cases hlt : i < p.length
  rotate_left
  · have : i = p.length := by omega
    subst this
    rw [List.take_length] at hI1
    simp
    exact k _ hI1
  obtain ⟨b, hb⟩ := nth_lt hlt
  have hb' := nth_get hb
  have hbm := lensB_mem (List.mem_of_getElem? hb')
  have es : IntKind.i64.wrap ((i : Int) + 1) = (i : Int) + 1 := by rw [wrap_small] <;> omega
  simp [hlt, hb]
  refine gfor b.2.length (fun j e σ' => I ((flatB (p.take i)).length + j) σ' ∧ e = mkEnv 28 [(0, .yield L), (3, .int .i64 i), (7, fblks p), (8, .int .i64 p.length), (9, .int .i64 i), (15, fints b.2), (16, .int .i64 b.2.length), (17, .int .i64 j)]) _ ?_ ⟨hI _ _ _ hI1, rfl⟩ ?_
  · simp [mkEnv, List.replicate]
  rintro j _ σ2 hj ⟨hI2, rfl⟩
  simp [mkEnv, List.replicate]
  by_cases hjl : j < b.2.length
  · obtain ⟨v, hv⟩ := nth_lt hjl
    have hv' := nth_get hv
    have es2 : IntKind.i64.wrap ((j : Int) + 1) = (j : Int) + 1 := by rw [wrap_small] <;> omega
    simp [hjl, hv]
    refine (hr _ i v σ2 (prs_at hb' hv') hI2).mono ?_
    rintro r σ3 (⟨rfl, h3⟩ | ⟨rfl, h3⟩)
    · simp [es2]
      exact forK_go _ hjl (by simp [mkEnv, List.replicate]) ⟨by rw [← Nat.add_assoc]; exact h3, rfl⟩
    · simp
      exact kj _ h3
  · have : j = b.2.length := by omega
    subst this
    simp [es]
    refine forK_go _ hlt (by simp [mkEnv, List.replicate]) ⟨?_, rfl⟩
    rw [flatB_take hb', List.length_append]; exact hI2
theorem grange_ret {id : Nat} {env e0 : Env} {ps : List Tmp} {a b : Code} {Q : Exit → Env → GS → Prop} {σ : GS} (h : σ[id]? = some (.loop ⟨e0, ps, a, b, .done, some .ret⟩)) (k : Q .ret env (σ.set id (.loop ⟨e0, ps, a, b, .exhausted, some .ret⟩))) : grange id env Q σ := ⟨_, h, by simp, k⟩
theorem roundK_ret {id : Nat} {Post : Bx (DV → GS → Prop)} {env e0 : Env} {ps : List Tmp} {a b : Code} {σ : GS} (h : σ[id]? = some (.loop ⟨e0, ps, a, b, .busy, none⟩)) (k : Post.val (.bool false) (σ.set id (.loop ⟨e0, ps, a, b, .done, some .ret⟩))) : @roundK id Post .ret env σ := ⟨_, h, k⟩
end Go.Gh
namespace Go.Gh
open Go.RowKit Go.Proofs
set_option linter.unusedVariables false
set_option linter.unusedSimpArgs false
set_option maxRecDepth 100000
theorem count_round {σ : GS} {env : Env} {M : GObj} {τ : GS} {i : Nat} {v : Int} {E : List (Int × DV)} {Post : DV → GS → Prop}
    (hlen : env.length = 27) (h2 : env[2]? = some (.ptr σ.length 0)) (h3 : env[3]? = some (.ptr (σ.length + 1) 0)) (h4 : env[4]? = some (.ptr (σ.length + 3) 0))
    (hM : ∀ τ, MpO kint (σ ++ (.row false [.int .i64 0] :: .row false [.bool false] :: M :: τ)) (σ.length + 2) E) (hE : ∀ k u, kget k E = some u → u = .bool true)
    (k1 : isVar v = true → kget v E = none → ∀ M' τ', (∀ τ, MpO kint (σ ++ (.row false [.int .i64 0] :: .row false [.bool false] :: M' :: τ)) (σ.length + 2) (kset v (.bool true) E)) → Post (.bool true) (σ ++ (.row false [.int .i64 0] :: .row false [.bool false] :: M' :: .row false [.map (σ.length + 2)] :: .loop (lgR env [10, 11] (rngA Tryz.f203 0) (rngB Tryz.f203 0)) :: τ')))
    (k0 : (isVar v = true → (kget v E).isSome = true) → ∀ τ', Post (.bool false) (σ ++ (.row false [.int .i64 0] :: .row false [.bool false] :: M :: .row false [.map (σ.length + 2)] :: .loop ⟨env, [10, 11], rngA Tryz.f203 0, rngB Tryz.f203 0, .done, some .ret⟩ :: τ'))) :
    GRound Tryz.prog (σ.length + 4) [.int .i64 i, .int .i64 v] (σ ++ (.row false [.int .i64 0] :: .row false [.bool false] :: M :: .row false [.map (σ.length + 2)] :: .loop (lgR env [10, 11] (rngA Tryz.f203 0) (rngB Tryz.f203 0)) :: τ)) Post := by
  refine round_of (env := env) (ps := [10, 11]) (a := rngA Tryz.f203 0) (b := rngB Tryz.f203 0) seatfollows (by simp) ca_prefix_count_0 cb_prefix_count_0 rfl ?_
  have h2' : ∀ h, env[2]'h = .ptr σ.length 0 := fun h => by rw [List.getElem?_eq_getElem h] at h2; exact Option.some.inj h2
  have h3' : ∀ h, env[3]'h = .ptr (σ.length + 1) 0 := fun h => by rw [List.getElem?_eq_getElem h] at h3; exact Option.some.inj h3
  have h4' : ∀ h, env[4]'h = .ptr (σ.length + 3) 0 := fun h => by rw [List.getElem?_eq_getElem h] at h4; exact Option.some.inj h4
  have hlk : ∀ τ, gload (.lookup (.int .i64) (.bool false) false) [.map (σ.length + 2), .int .i64 v] (σ ++ (.row false [.int .i64 0] :: .row false [.bool false] :: M :: τ)) = some (.bool (kget v E).isSome) := fun τ => by
    rw [(hM τ).lookup (kt := .int .i64) v (.bool false) false]
    cases hk : kget v E with
    | none => rfl
    | some u => rw [hE _ _ hk]; rfl
  simp [GA_prefix_count_0, GB_prefix_count_0, putAll, List.getElem?_set, hlen, h2', h3', h4', lgR]
  by_cases c1 : 1 ≤ v
  rotate_left
  · have c1' : v < 1 := by omega
    simp [c1', List.getElem?_set, hlen, h2', h3', h4']
    refine roundK_ret (e0 := env) (ps := [10, 11]) (a := rngA Tryz.f203 0) (b := rngB Tryz.f203 0) (by simp) ?_
    rw [set_tail]
    exact k0 (fun h => by simp [isVar, c1] at h) _
  have c1' : ¬ v < 1 := by omega
  by_cases c2 : v ≤ 65536
  rotate_left
  · have c2' : 65536 < v := by omega
    simp [c1', c2', List.getElem?_set, hlen, h2', h3', h4']
    refine roundK_ret (e0 := env) (ps := [10, 11]) (a := rngA Tryz.f203 0) (b := rngB Tryz.f203 0) (by simp) ?_
    rw [set_tail]
    exact k0 (fun h => by simp [isVar, c2] at h) _
  have c2' : ¬ 65536 < v := by omega
  simp [c1', c2', List.getElem?_set, hlen, h2', h3', h4', hlk]
  cases hk : kget v E with
  | some u =>
    simp [List.getElem?_set, hlen, h2', h3', h4']
    refine roundK_ret (e0 := env) (ps := [10, 11]) (a := rngA Tryz.f203 0) (b := rngB Tryz.f203 0) (by simp) ?_
    rw [set_tail]
    exact k0 (fun _ => by simp [hk]) _
  | none =>
    obtain ⟨o, q1, q2⟩ := (hM (.row false [.map (σ.length + 2)] :: .loop ⟨env, [10, 11], rngA Tryz.f203 0, rngB Tryz.f203 0, .busy, none⟩ :: τ)).set (kt := .int .i64) v (.bool true)
    rw [set_tail] at q1 q2
    simp [List.getElem?_set, hlen, h2', h3', h4', q1]
    refine roundK_normal (e0 := env) (ps := [10, 11]) (a := rngA Tryz.f203 0) (b := rngB Tryz.f203 0) (by simp) ?_
    rw [set_tail]
    exact k1 (by simp [isVar, c1, c2]) hk _ _ fun τ1 => q2.fit (by simp)
/-- A set of numbers as a map to true. -/
def setE (l : List Int) : List (Int × DV) := l.map fun v => (v, .bool true)
theorem setE_keys (l : List Int) : (setE l).map (·.1) = l := by simp [setE, Function.comp_def]
theorem setE_true {l : List Int} (k : Int) (u : DV) (h : kget k (setE l) = some u) : u = .bool true := by
  obtain ⟨v, _, he⟩ := List.mem_map.1 (kget_mem h)
  cases he; rfl
theorem setE_some {l : List Int} {k : Int} : (kget k (setE l)).isSome = l.contains k := by
  cases h : kget k (setE l) with
  | none =>
    have := kget_none.1 h
    rw [setE_keys] at this
    simp [this]
  | some u =>
    have : k ∈ (setE l).map (·.1) := List.mem_map.2 ⟨_, kget_mem h, rfl⟩
    rw [setE_keys] at this
    simp [this]
theorem setE_push {l : List Int} {v : Int} (h : kget v (setE l) = none) : kset v (.bool true) (setE l) = setE (l ++ [v]) := by
  rw [kset_new (kget_none.1 h)]; simp [setE]
theorem count_walk {p : List Blk} {σ : GS} {env : Env} (hp : lensB p < 2 ^ 40) (hlen : env.length = 27) (h2 : env[2]? = some (.ptr σ.length 0)) (h3 : env[3]? = some (.ptr (σ.length + 1) 0)) (h4 : env[4]? = some (.ptr (σ.length + 3) 0)) {Q : Exit → Env → GS → Prop}
    (kN : singleS [] (flatB p) = true → ∀ M o τ, (∀ τ, MpO kint (σ ++ (.row false [.int .i64 0] :: .row false [.bool false] :: M :: τ)) (σ.length + 2) (setE (flatB p))) → Q .normal env (σ ++ (.row false [.int .i64 0] :: .row false [.bool false] :: M :: .row false [.map (σ.length + 2)] :: o :: τ)))
    (kR : singleS [] (flatB p) = false → ∀ M o τ, Q .ret env (σ ++ (.row false [.int .i64 0] :: .row false [.bool false] :: M :: .row false [.map (σ.length + 2)] :: o :: τ))) :
    GCall Tryz.prog F_prefix_each_1 [.yield (σ.length + 4), .fptr [fblks p]] (σ ++ [.row false [.int .i64 0], .row false [.bool false], .mp [] ([], 0), .row false [.map (σ.length + 2)], .loop (lgR env [10, 11] (rngA Tryz.f203 0) (rngB Tryz.f203 0))]) fun _ σ' => grange (σ.length + 4) env Q σ' := by
  refine p_each1_ok hp (fun n σ' => singleS [] (flatB p) = singleS ((flatB p).take n) ((flatB p).drop n) ∧ ∃ M τ, σ' = σ ++ (.row false [.int .i64 0] :: .row false [.bool false] :: M :: .row false [.map (σ.length + 2)] :: .loop (lgR env [10, 11] (rngA Tryz.f203 0) (rngB Tryz.f203 0)) :: τ) ∧ ∀ τ, MpO kint (σ ++ (.row false [.int .i64 0] :: .row false [.bool false] :: M :: τ)) (σ.length + 2) (setE ((flatB p).take n)))
    (fun σ' => singleS [] (flatB p) = false ∧ ∃ M τ, σ' = σ ++ (.row false [.int .i64 0] :: .row false [.bool false] :: M :: .row false [.map (σ.length + 2)] :: .loop ⟨env, [10, 11], rngA Tryz.f203 0, rngB Tryz.f203 0, .done, some .ret⟩ :: τ)) ?_ ?_ ?_ ?_ ?_
  · rintro n _ o ⟨h, M, τ, rfl, hM⟩
    exact ⟨h, M, τ ++ [o], by simp, hM⟩
  · refine ⟨by simp, _, [], rfl, fun τ => ?_⟩
    exact ⟨by simp [setE], ([], 0), ⟨by simp [setE], by simp, by simp⟩, by simp [kenc, setE]⟩
  · rintro n i v _ hn ⟨h, M, τ, rfl, hM⟩
    have hv : (flatB p)[n]? = some v := by
      have := congrArg (fun o => o.map (·.2)) hn
      simpa [← List.getElem?_map, prs_snd] using this
    rw [drop_get hv, singleS] at h
    refine count_round hlen h2 h3 h4 hM (fun k u => setE_true k u) (fun c1 c2 M' τ' hM' => .inl ⟨rfl, ?_, M', τ', rfl, ?_⟩) fun c τ' => .inr ⟨rfl, ?_, M, τ', rfl⟩
    · have : ((flatB p).take n).contains v = false := by rw [← setE_some, c2]; rfl
      rw [h, c1, this, take_get hv]; simp
    · rw [setE_push c2, ← take_get hv] at hM'; exact hM'
    · rw [h]
      cases hc : isVar v with
      | false => rfl
      | true =>
        have := c hc
        rw [setE_some] at this
        rw [this]; rfl
  · rintro _ ⟨h, M, τ, rfl, hM⟩
    rw [List.take_length] at hM
    rw [List.drop_length, singleS] at h
    refine grange_normal (e0 := env) (ps := [10, 11]) (a := rngA Tryz.f203 0) (b := rngB Tryz.f203 0) (by simp) ?_
    rw [set_tail]
    exact kN h _ _ _ hM
  · rintro _ ⟨h, M, τ, rfl⟩
    refine grange_ret (e0 := env) (ps := [10, 11]) (a := rngA Tryz.f203 0) (b := rngB Tryz.f203 0) (by simp) ?_
    rw [set_tail]
    exact kR h _ _ _
theorem p_count_ok {p : List Blk} {σ : GS} {Post : DV → GS → Prop} (hp : lensB p < 2 ^ 40) (h : Post (.tuple [.int .i64 (if singleS [] (flatB p) = true then (flatB p).length else 0), .bool (singleS [] (flatB p))]) σ) : GCall Tryz.prog F_prefix_count [fblks p] σ Post := by
  refine GCall.say (r := .tuple [.int .i64 (if singleS [] (flatB p) = true then (flatB p).length else 0), .bool (singleS [] (flatB p))]) ?_ (by simp) h
  refine gc_prefix_count ?_
  simp [G_prefix_count, genv0, List.replicate]
  refine p_each_ok ?_
  simp
  refine rangeB_intro ?_
  simp
  refine count_walk hp (by simp) (by simp) (by simp) (by simp) (fun hs M o τ hM => ?_) (fun hs M o τ => ?_)
  · have hml : gload .mlen [.map (σ.length + 2)] (σ ++ (.row false [.int .i64 0] :: .row false [.bool false] :: M :: .row false [.map (σ.length + 2)] :: o :: τ)) = some (.int .i64 (flatB p).length) := by
      rw [(hM _).mlen]; simp [setE]
    simp [hml, hs]
  · simp [hs]
end Go.Gh
namespace Go.Gh
open Go.RowKit Go.Proofs
set_option linter.unusedVariables false
set_option linter.unusedSimpArgs false
set_option maxRecDepth 100000
theorem p_May_ok {p : List Blk} {σ : GS} {Post : DV → GS → Prop} (hp : lensB p < 2 ^ 40) (h : Post (.bool (mayB p)) σ) : GCall Tryz.prog F_prefix_May [fblks p] σ Post := by
  have hlb := lensB_flat p
  refine GCall.say (r := .bool (mayB p)) ?_ rfl h
  refine gc_prefix_May ?_
  simp [G_prefix_May, genv0, List.replicate]
  refine gfor p.length (fun i e σ' => Fr σ.length σ σ' ∧ altB none p = altB (prevB p i) (p.drop i) ∧ e = mkEnv 44 [(0, fblks p), (7, fblks p), (8, .int .i64 p.length), (9, .int .i64 i)]) _ ?_ ⟨.rfl', by simp [prevB], rfl⟩ ?_
  · simp [mkEnv, List.replicate]
  rintro i _ σ1 hi ⟨hF, hI, rfl⟩
  simp [mkEnv, List.replicate]
  by_cases hlt : i < p.length
  · obtain ⟨b, hb⟩ := nth_lt hlt
    have hb' := nth_get hb
    rw [drop_get hb', altB_step] at hI
    have es : IntKind.i64.wrap ((i : Int) + 1) = (i : Int) + 1 := by rw [wrap_small] <;> omega
    by_cases h0 : b.2.length = 0
    · have h0' : b.2 = [] := List.length_eq_zero_iff.1 h0
      simp [hlt, hb, h0']
      simp [mayB, hI, h0']
      exact hF.app _
    have h0' : ¬ (b.2 = []) := fun e => h0 (by rw [e]; rfl)
    have h0'' : ¬ ((b.2.length : Int) = 0) := by omega
    cases i with
    | zero =>
      simp [hlt, hb, h0', h0'']
      exact forK_go _ hlt (by simp [mkEnv, List.replicate]) ⟨hF.app _, by simp [hI, prevB, hb', h0'], rfl⟩
    | succ i =>
      obtain ⟨c, hc⟩ := nth_lt (l := p) (i := i) (by omega)
      have hc' := nth_get hc
      have ew' : IntKind.i64.wrap (i : Int) = i := by rw [wrap_small] <;> omega
      have hge : (0 : Int) ≤ (i : Int) + 1 := by omega
      have hgt : (0 : Int) < (i : Int) + 1 := by omega
      have htn : ((i : Int) + 1).toNat = i + 1 := by omega
      have es2 : IntKind.i64.wrap ((i : Int) + 1 + 1) = (i : Int) + 1 + 1 := by rw [wrap_small] <;> omega
      by_cases he : c.1 = b.1
      · simp [hlt, hb, h0', h0'', hge, hgt, htn, ew', hc, he]
        simp [mayB, hI, prevB, hc', he]
        exact hF.app _
      · have he2 : (c.1 == b.1) = false := by simpa using he
        simp [hlt, hb, h0', h0'', hge, hgt, htn, ew', hc, he2, es2]
        exact forK_go _ hlt (by simp [mkEnv, List.replicate]) ⟨hF.app _, by simp [hI, prevB, hc', he, h0', hb'], rfl⟩
  · have : i = p.length := by omega
    subst this
    rw [List.drop_length] at hI
    have hI' : altB none p = true := hI
    simp
    refine p_count_ok hp ?_
    cases hs : singleS [] (flatB p) with
    | false =>
      simp
      simp [mayB, hs]
      exact hF
    | true =>
      by_cases c : (flatB p).length ≤ 1024
      · have c' : ((flatB p).length : Int) ≤ 1024 := by omega
        simp [c']
        simp [mayB, hI', c, hs]
        exact hF
      · have c' : ¬ ((flatB p).length : Int) ≤ 1024 := by omega
        simp [c']
        simp [mayB, c]
        exact hF
theorem p_abs_ok {x : Int} {σ : GS} {Post : DV → GS → Prop} (h : Post (.int .i64 (absW x)) σ) : GCall Tryz.prog F_prefix_abs [.int .i64 x] σ Post := by
  refine gc_prefix_abs ?_
  simp [G_prefix_abs, genv0, List.replicate]
  exact h
end Go.Gh
namespace Go.Gh
open Go.RowKit Go.Proofs
set_option linter.unusedVariables false
set_option linter.unusedSimpArgs false
set_option maxRecDepth 100000
end Go.Gh
namespace Go.Gh
open Go.RowKit Go.Proofs
set_option linter.unusedVariables false
set_option linter.unusedSimpArgs false
set_option maxRecDepth 100000
/-- Where a block stands, by its index. -/
def plD (p : List Blk) (k : Nat) : DV := placeV (k, ((p[k]?).map (·.1)).getD false)
theorem place_round {p : List Blk} {σ : GS} {env : Env} {M : GObj} {τ : GS} {i : Nat} {v : Int} {b : Blk} {E : List (Int × DV)} {Post : DV → GS → Prop} (hp : lensB p < 2 ^ 40) (hb : p[i]? = some b)
    (hlen : env.length = 31) (h1 : env[1]? = some (.ptr σ.length 0)) (h3 : env[3]? = some (.ptr (σ.length + 2) 0))
    (hM : ∀ τ, MpO kint (σ ++ (.row false [fblks p] :: M :: τ)) (σ.length + 1) E) (hE : ∀ k u, kget k E = some u → ∃ x, u = placeV x)
    (k1 : ∀ M' τ', (∀ τ, MpO kint (σ ++ (.row false [fblks p] :: M' :: τ)) (σ.length + 1) (plStep (plD p) E (i, v))) → Post (.bool true) (σ ++ (.row false [fblks p] :: M' :: .row false [.map (σ.length + 1)] :: .loop (lgR env [11, 12] (rngA Tryz.f163 0) (rngB Tryz.f163 0)) :: τ'))) :
    GRound Tryz.prog (σ.length + 3) [.int .i64 i, .int .i64 v] (σ ++ (.row false [fblks p] :: M :: .row false [.map (σ.length + 1)] :: .loop (lgR env [11, 12] (rngA Tryz.f163 0) (rngB Tryz.f163 0)) :: τ)) Post := by
  refine round_of (env := env) (ps := [11, 12]) (a := rngA Tryz.f163 0) (b := rngB Tryz.f163 0) seatfollows (by simp) ca_prefix_places_0 cb_prefix_places_0 rfl ?_
  have h1' : ∀ h, env[1]'h = .ptr σ.length 0 := fun h => by rw [List.getElem?_eq_getElem h] at h1; exact Option.some.inj h1
  have h3' : ∀ h, env[3]'h = .ptr (σ.length + 2) 0 := fun h => by rw [List.getElem?_eq_getElem h] at h3; exact Option.some.inj h3
  have hb2 : nth p i = some b := hb
  have hlk : ∀ τ, gload (.lookup (.int .i64) (.agg [.int .i64 0, .bool false]) true) [.map (σ.length + 1), .int .i64 v] (σ ++ (.row false [fblks p] :: M :: τ)) = some (match kget v E with | some u => .tuple [u, .bool true] | none => .tuple [.agg [.int .i64 0, .bool false], .bool false]) := fun τ => by
    rw [(hM τ).lookup (kt := .int .i64) v _ true]
    cases hk : kget v E <;> rfl
  simp [GA_prefix_places_0, GB_prefix_places_0, putAll, List.getElem?_set, hlen, h1', h3', lgR, hlk]
  cases hk : kget v E with
  | some u =>
    obtain ⟨x, rfl⟩ := hE _ _ hk
    simp [placeV, List.getElem?_set, hlen, h1', h3']
    refine roundK_normal (e0 := env) (ps := [11, 12]) (a := rngA Tryz.f163 0) (b := rngB Tryz.f163 0) (by simp) ?_
    rw [set_tail]
    refine k1 _ _ fun τ1 => ?_
    unfold plStep; rw [if_pos (by simp [hk])]
    exact hM τ1
  | none =>
    simp [List.getElem?_set, hlen, h1', h3', hb2, fill_flat2]
    obtain ⟨o, q1, q2⟩ := (hM (.row false [.map (σ.length + 1)] :: .loop ⟨env, [11, 12], rngA Tryz.f163 0, rngB Tryz.f163 0, .busy, none⟩ :: (τ ++ [.row false [.int .i64 0, .bool false]]))).set (kt := .int .i64) v (plD p i)
    rw [set_tail] at q1 q2
    have hd : plD p i = .agg [.int .i64 i, .bool b.1] := by simp [plD, placeV, hb]
    rw [hd] at q1
    simp at q1
    simp [q1]
    refine roundK_normal (e0 := env) (ps := [11, 12]) (a := rngA Tryz.f163 0) (b := rngB Tryz.f163 0) (by simp) ?_
    rw [set_tail]
    refine k1 _ _ fun τ1 => ?_
    unfold plStep; rw [if_neg (by simp [hk])]
    rw [kset_new (kget_none.1 hk)] at q2
    exact q2.fit (by simp)
theorem plE_place {p : List Blk} (l : List (Nat × Int)) : ∀ E, (∀ (k : Int) u, kget k E = some u → ∃ x, u = placeV x) → ∀ (k : Int) u, kget k (l.foldl (plStep (plD p)) E) = some u → ∃ x, u = placeV x := by
  intro E hE k u h
  rw [plE_get] at h
  cases hk : kget k E with
  | some w => rw [hk] at h; cases h; exact hE _ _ hk
  | none =>
    rw [hk] at h
    simp only [Option.map_eq_some_iff] at h
    obtain ⟨x, _, rfl⟩ := h
    exact ⟨_, rfl⟩
theorem plE_final (p : List Blk) : PlaceE p (plE (plD p) (prs 0 p)) := by
  intro v
  unfold plE
  rw [plE_get]
  simp only [kget]
  refine findO_prs (plD p) v p 0 fun j b hj => ?_
  simp [plD, hj]
theorem place_walk {p : List Blk} {σ : GS} {env : Env} (hp : lensB p < 2 ^ 40) (hlen : env.length = 31) (h1 : env[1]? = some (.ptr σ.length 0)) (h3 : env[3]? = some (.ptr (σ.length + 2) 0)) {Q : Exit → Env → GS → Prop}
    (kN : ∀ M o τ, (∀ τ, MpO kint (σ ++ (.row false [fblks p] :: M :: τ)) (σ.length + 1) (plE (plD p) (prs 0 p))) → Q .normal env (σ ++ (.row false [fblks p] :: M :: .row false [.map (σ.length + 1)] :: o :: τ))) :
    GCall Tryz.prog F_prefix_each_1 [.yield (σ.length + 3), .fptr [fblks p]] (σ ++ [.row false [fblks p], .mp [] ([], 0), .row false [.map (σ.length + 1)], .loop (lgR env [11, 12] (rngA Tryz.f163 0) (rngB Tryz.f163 0))]) fun _ σ' => grange (σ.length + 3) env Q σ' := by
  refine p_each1_ok hp (fun n σ' => ∃ M τ, σ' = σ ++ (.row false [fblks p] :: M :: .row false [.map (σ.length + 1)] :: .loop (lgR env [11, 12] (rngA Tryz.f163 0) (rngB Tryz.f163 0)) :: τ) ∧ ∀ τ, MpO kint (σ ++ (.row false [fblks p] :: M :: τ)) (σ.length + 1) (plE (plD p) ((prs 0 p).take n)))
    (fun σ' => False) ?_ ?_ ?_ ?_ ?_
  · rintro n _ o ⟨M, τ, rfl, hM⟩
    exact ⟨M, τ ++ [o], by simp, hM⟩
  · refine ⟨_, [], rfl, fun τ => ?_⟩
    exact ⟨by simp [plE], ([], 0), ⟨by simp [plE], by simp, by simp⟩, by simp [kenc, plE]⟩
  · rintro n i v _ hn ⟨M, τ, rfl, hM⟩
    obtain ⟨b, _, hb, _⟩ := prs_mem (List.mem_of_getElem? hn)
    refine place_round hp (by simpa using hb) hlen h1 h3 hM (plE_place _ _ fun k u h => by simp [kget] at h) fun M' τ' hM' => .inl ⟨rfl, M', τ', rfl, fun τ1 => ?_⟩
    have := hM' τ1
    unfold plE at this ⊢
    rw [take_get hn, List.foldl_append]
    exact this
  · rintro _ ⟨M, τ, rfl, hM⟩
    have hM' : ∀ τ, MpO kint (σ ++ (.row false [fblks p] :: M :: τ)) (σ.length + 1) (plE (plD p) (prs 0 p)) := fun τ => by
      have := hM τ
      rw [List.take_of_length_le (by rw [prs_len]; omega)] at this
      exact this
    refine grange_normal (e0 := env) (ps := [11, 12]) (a := rngA Tryz.f163 0) (b := rngB Tryz.f163 0) (by simp) ?_
    rw [set_tail]
    exact kN _ _ _ hM'
  · rintro _ h
    exact h.elim
/-- The places of numbers: a map of the call's own. -/
theorem p_places_ok {p : List Blk} {σ : GS} {Post : DV → GS → Prop} (hp : lensB p < 2 ^ 40) (k : ∀ E σ', PlaceE p E → E = plE (plD p) (prs 0 p) → MpO kint σ' (σ.length + 1) E → Fr σ.length σ σ' → Post (.map (σ.length + 1)) σ') : GCall Tryz.prog F_prefix_places [fblks p] σ Post := by
  refine gc_prefix_places ?_
  simp [G_prefix_places, genv0, List.replicate]
  refine p_each_ok ?_
  simp
  refine rangeB_intro ?_
  simp
  refine place_walk hp (by simp) (by simp) (by simp) fun M o τ hM => ?_
  simp
  exact k _ _ (plE_final p) rfl (hM _) (Fr.rfl'.app _)
end Go.Gh
namespace Go.Gh
open Go.RowKit Go.Proofs
set_option linter.unusedVariables false
set_option linter.unusedSimpArgs false
set_option maxRecDepth 100000
theorem place_lookup {p : List Blk} {E : List (Int × DV)} {σ : GS} {id : Nat} (hE : PlaceE p E) (hM : MpO kint σ id E) (v : Int) : gload (.lookup (.int .i64) (.agg [.int .i64 0, .bool false]) true) [.map id, .int .i64 v] σ = some (match findO 0 p v with | some x => .tuple [placeV x, .bool true] | none => .tuple [.agg [.int .i64 0, .bool false], .bool false]) := by
  rw [hM.lookup (kt := .int .i64) v _ true, hE v]
  cases findO 0 p v <;> rfl
end Go.Gh
namespace Go.Gh
open Go.RowKit Go.Proofs
set_option linter.unusedVariables false
set_option linter.unusedSimpArgs false
set_option maxRecDepth 100000
end Go.Gh
namespace Go.Gh
open Go.RowKit Go.Proofs
set_option linter.unusedVariables false
set_option linter.unusedSimpArgs false
set_option maxRecDepth 100000
set_option maxHeartbeats 1000000 in
theorem p_cnf_ok {l : List (List Int)} {f : FuncId} {pre caps : List DV} {g : Int → Bool} {σ : GS} {Post : DV → GS → Prop} (hl : lensC l < 2 ^ 40)
    (hf : ∀ (x : Int) (K : DV → GS → Prop), K (.bool (g x)) σ → GCall Tryz.prog f (pre ++ .int .i64 x :: caps) σ K) (h : Post (.bool (cnfG g l)) σ) : GCall Tryz.prog F_prefix_cnf [fcls l, .func f pre caps] σ Post := by
  have hll := sumL_lens l
  refine gc_prefix_cnf ?_
  by_cases c1 : l.length ≤ 20000
  rotate_left
  · have c1' : (20000 : Int) < l.length := by omega
    have hn : cnfG g l = false := by simp [cnfG, c1]
    rw [hn] at h
    simp [G_prefix_cnf, genv0, List.replicate, c1']
    exact h
  have c1' : ¬ ((20000 : Int) < l.length) := by omega
  simp [G_prefix_cnf, genv0, List.replicate, c1']
  refine gfor l.length (fun i e σ' => σ' = σ ∧ l.all (nrmG g 0) = (l.drop i).all (nrmG g 0) ∧ e = mkEnv 59 [(1, .func f pre caps), (5, .int .i64 (sumL (l.take i))), (14, fcls l), (15, .int .i64 l.length), (16, .int .i64 i)]) _ ?_ ⟨rfl, by simp, rfl⟩ ?_
  · simp [mkEnv, List.replicate, sumL]
  rintro i _ σ hi ⟨rfl, hI, rfl⟩
  simp [mkEnv, List.replicate]
  by_cases hlt : i < l.length
  rotate_left
  · have : i = l.length := by omega
    subst this
    rw [List.drop_length] at hI
    rw [List.take_length]
    unfold cnfG at h
    rw [hI] at h
    by_cases c2 : sumL l ≤ 200000
    · have c2' : (sumL l : Int) ≤ 200000 := by omega
      simp [c2']
      simpa [c1, c2] using h
    · have c2' : ¬ (sumL l : Int) ≤ 200000 := by omega
      simp [c2']
      simpa [c1, c2] using h
  obtain ⟨c, hc⟩ := nth_lt hlt
  have hc' := nth_get hc
  have hcl := lensC_mem (List.mem_of_getElem? hc')
  have hsp := sumL_push hc'
  have hst := sumL_take l (i + 1)
  rw [drop_get hc', List.all_cons] at hI
  have es : IntKind.i64.wrap ((i : Int) + 1) = (i : Int) + 1 := by rw [wrap_small] <;> omega
  have es2 : IntKind.i64.wrap ((sumL (l.take i) : Int) + c.length) = (sumL (l.take (i + 1)) : Int) := by rw [hsp, wrap_small] <;> omega
  have hbad : nrmG g 0 c = false → cnfG g l = false := fun e => by unfold cnfG; rw [hI, e]; simp
  simp [hlt, hc]
  refine gfor c.length (fun j e σ' => σ' = σ ∧ ∃ last, nrmG g 0 c = nrmG g last (c.drop j) ∧ e = mkEnv 59 [(1, .func f pre caps), (5, .int .i64 (sumL (l.take i))), (7, fints c), (8, .int .i64 last), (14, fcls l), (15, .int .i64 l.length), (16, .int .i64 i), (20, fints c), (21, .int .i64 c.length), (22, .int .i64 j)]) _ ?_ ⟨rfl, 0, rfl, rfl⟩ ?_
  · simp [mkEnv, List.replicate]
  rintro j _ σ hj ⟨rfl, last, hJ, rfl⟩
  simp [mkEnv, List.replicate]
  by_cases hjl : j < c.length
  rotate_left
  · have : j = c.length := by omega
    subst this
    rw [List.drop_length] at hJ
    simp [es, es2]
    exact forK_go _ hlt (by simp [mkEnv, List.replicate]) ⟨rfl, by rw [hI, hJ]; simp [nrmG], rfl⟩
  obtain ⟨y, hy⟩ := nth_lt hjl
  have hy' := nth_get hy
  rw [drop_get hy', nrmG] at hJ
  have es3 : IntKind.i64.wrap ((j : Int) + 1) = (j : Int) + 1 := by rw [wrap_small] <;> omega
  by_cases a1 : y = 0
  · rw [hbad (by rw [hJ]; simp [litOk, a1])] at h
    simp [hjl, hy, a1]
    exact h
  by_cases a2 : y < -65536
  · rw [hbad (by rw [hJ]; simp [litOk, show ¬ (-65536 ≤ y) by omega])] at h
    simp [hjl, hy, a1, a2]
    exact h
  by_cases a3 : 65536 < y
  · rw [hbad (by rw [hJ]; simp [litOk, show ¬ (y ≤ 65536) by omega])] at h
    simp [hjl, hy, a1, a2, a3]
    exact h
  have hok : litOk y = true := by simp [litOk, a1]; omega
  simp [hjl, hy, a1, a2, a3]
  refine p_abs_ok ?_
  by_cases a4 : absW y ≤ last
  · rw [hbad (by rw [hJ]; simp [show ¬ (last < absW y) by omega])] at h
    simp [a4]
    exact h
  simp [a4]
  refine p_abs_ok ?_
  simp
  refine hf _ _ ?_
  cases hg : g (absW y) with
  | false =>
    rw [hbad (by rw [hJ, hg]; simp)] at h
    simp
    exact h
  | true =>
    simp
    refine p_abs_ok ?_
    simp [es3]
    exact forK_go _ hjl (by simp [mkEnv, List.replicate]) ⟨rfl, absW y, by rw [hJ, hg]; simp [hok, show last < absW y by omega], rfl⟩
end Go.Gh
namespace Go.Gh
open Go.RowKit Go.Proofs
set_option linter.unusedVariables false
set_option linter.unusedSimpArgs false
set_option maxRecDepth 100000
end Go.Gh
namespace Go.Gh
open Go.RowKit Go.Sort Go.Shelf Go.Proofs
set_option linter.unusedVariables false
set_option linter.unusedSimpArgs false
end Go.Gh
namespace Go.Gh
open Go.RowKit Go.Proofs
set_option linter.unusedVariables false
set_option linter.unusedSimpArgs false
set_option maxRecDepth 100000
end Go.Gh
namespace Go.Gh
open Go.RowKit Go.Proofs
set_option linter.unusedVariables false
set_option linter.unusedSimpArgs false
set_option maxRecDepth 100000
end Go.Gh
namespace Go.Gh
open Go.RowKit Go.Proofs
set_option linter.unusedVariables false
set_option linter.unusedSimpArgs false
set_option maxRecDepth 100000
end Go.Gh
namespace Go.Gh
open Go.RowKit Go.Proofs
set_option linter.unusedVariables false
set_option linter.unusedSimpArgs false
set_option maxRecDepth 100000
theorem p_hasP_ok {id : Nat} {σ : GS} {Post : DV → GS → Prop} (k : Post (.func F_prefix_has_prefix_place_1 [] [.ptr σ.length 0]) (σ ++ [.row false [.map id]])) : GCall Tryz.prog F_prefix_has_prefix_place [.map id] σ Post := by
  refine gc_prefix_has_prefix_place ?_
  simp [G_prefix_has_prefix_place, genv0, List.replicate]
  exact k
theorem p_hasP1_ok {p : List Blk} {E : List (Int × DV)} {id bx : Nat} {v : Int} {σ : GS} {Post : DV → GS → Prop} (hE : PlaceE p E) (hM : MpO kint σ id E) (hb : σ[bx]? = some (.row false [.map id])) (k : Post (.bool ((flatB p).contains v)) σ) : GCall Tryz.prog F_prefix_has_prefix_place_1 [.int .i64 v, .ptr bx 0] σ Post := by
  refine GCall.say (r := .bool ((flatB p).contains v)) ?_ rfl k
  refine gc_prefix_has_prefix_place_1 ?_
  have l1 : gload (.load 1 false) [.ptr bx 0] σ = some (.map id) := by rw [ld_at hb]; rfl
  rw [← findO_flat (k := 0)]
  simp [G_prefix_has_prefix_place_1, genv0, List.replicate, l1, place_lookup hE hM]
  cases findO 0 p v with
  | none => simp
  | some y => simp [placeV]
theorem p_MayQbf_ok {q : QbfP} {σ : GS} {Post : DV → GS → Prop} (hp : lensB q.pre < 2 ^ 40) (hc : lensC q.cls < 2 ^ 40) (h : Post (.bool (mayQ q)) σ) : GCall Tryz.prog F_prefix_MayQbf [q.enc] σ Post := by
  refine GCall.say (r := .bool (mayQ q)) ?_ rfl h
  refine gc_prefix_MayQbf ?_
  simp [G_prefix_MayQbf, genv0, List.replicate]
  refine p_May_ok hp ?_
  cases hm : mayB q.pre with
  | false => simp [mayQ, hm]
  | true =>
    simp
    refine p_places_ok hp fun E σ1 hE _ hM hF => ?_
    have hbx : σ1[σ.length]? = some (.row false (eqbf q)) := by rw [hF.get _ (by simp)]; simp
    have hge := hF.len
    simp at hge hM
    simp
    refine ⟨by rw [ld_at hbx]; rfl, ?_⟩
    refine p_hasP_ok ?_
    simp
    refine ⟨by rw [ld_app (by omega), ld_at hbx], ?_⟩
    have hM1 : MpO kint (σ1 ++ [.row false [.map (σ.length + 1 + 1)]]) (σ.length + 1 + 1) E := hM.fit (by rw [List.getElem?_append_left hM.dom])
    refine p_cnf_ok (pre := []) (g := fun v => (flatB q.pre).contains v) hc (fun x K hK => ?_) ?_
    · refine p_hasP1_ok hE hM1 (by simp) ?_
      simpa using hK
    · have hv : cnfG (fun v => (flatB q.pre).contains v) q.cls = mayQ q := by rw [cnfG_eq]; unfold mayQ withinB; rw [hm]; simp
      simp
      exact ⟨(Fr.rfl'.app _).trans ((hF.mono (by simp)).app _), by simpa using hv⟩
end Go.Gh
namespace Go.Gh
open Go.RowKit Go.Proofs
set_option linter.unusedVariables false
set_option linter.unusedSimpArgs false
set_option maxRecDepth 100000
theorem CB.rch {n id : Nat} {σ : GS} {cs : List (List Int)} (h : CB n σ id cs) {i : Nat} (hi : Rch σ id i) : n ≤ i ∧ i < σ.length := by
  obtain ⟨s, raws, h1, h2, h3⟩ := h
  exact h3.lt ((h3.rch h2).1 hi)
/-- What it does not reach may change. -/
theorem CB.far {n id : Nat} {σ σ' : GS} {cs : List (List Int)} (h : CB n σ id cs) (hl : σ.length ≤ σ'.length) (k : ∀ i, i < σ.length → (i = id ∨ Rch σ id i) → σ'[i]? = σ[i]?) : CB n σ' id cs ∧ ∀ i, Rch σ' id i → Rch σ id i := by
  have h0 := h
  obtain ⟨s, raws, h1, h2, h3⟩ := h
  have h3' : LX n σ' s raws cs := h3.fit fun i hi => k i (h3.lt hi).2 (.inr ((h3.rch h2).2 hi))
  have h2' := (k id (get_dom h2) (.inl rfl)).trans h2
  exact ⟨⟨s, raws, ⟨h1.1, by omega⟩, h2', h3'⟩, fun i hi => (h3.rch h2).2 ((h3'.rch h2').1 hi)⟩
/-- Clauses in a cell, and apart from these a list of variables. -/
structure FI (N c : Nat) (σ1 σ : GS) (s : DV) (vs : List Int) (cs : List (List Int)) : Prop where
  keep : ∀ j, j < N → j ≠ c → σ[j]? = σ1[j]?
  cb : CB N σ c cs
  own : Own N 1 eint σ s vs
  far : ∀ k, s.has k → ¬ Rch σ c k
theorem FI.app {N c : Nat} {σ1 σ : GS} {s : DV} {vs : List Int} {cs : List (List Int)} (h : FI N c σ1 σ s vs cs) (τ : GS) : FI N c σ1 (σ ++ τ) s vs cs := by
  have hd := h.cb.dom
  obtain ⟨a, b⟩ := h.cb.far (σ' := σ ++ τ) (by simp) fun i hi _ => List.getElem?_append_left hi
  exact ⟨fun j h1 h2 => by rw [List.getElem?_append_left (by omega)]; exact h.keep j h1 h2, a, h.own.fit fun i hi => List.getElem?_append_left (h.own.has_lt hi), fun k hk hr => h.far k hk (b k hr)⟩
theorem FI.push {N c : Nat} {σ1 σ : GS} {s : DV} {vs : List Int} {cs : List (List Int)} (h : FI N c σ1 σ s vs cs) (v : Int) (hl : vs.length < 2 ^ 40) :
    ∃ s' σ', gimp (.append 1 8) [s, .slice σ.length 0 1 1 (some 1)] (σ ++ [.row false [.int .i64 v]]) = some (s', σ') ∧ FI N c σ1 σ' s' (vs ++ [v]) cs ∧ ∀ j, j < σ.length → ¬ s.has j → σ'[j]? = σ[j]? := by
  have hd := h.cb.dom
  obtain ⟨s', σ', q1, q2, q3, q4, q5, q6⟩ := h.own.push (by_ := 8) v (fun _ => rfl) rfl hd.2.1 (by omega) (by decide)
  have hne : ∀ i, (i = c ∨ Rch σ c i) → ¬ s.has i := fun i hi hs => by
    rcases hi with rfl | hi
    · have := h.own.has_ge hs; omega
    · exact h.far i hs hi
  obtain ⟨a, b⟩ := h.cb.far q4 fun i hi hr => q5 i hi (hne i hr)
  refine ⟨s', σ', q1, ⟨fun j h1 h2 => (q3.get j h1).trans (h.keep j h1 h2), a, q2, fun k hk hr => ?_⟩, q5⟩
  rcases q6 k hk with h1 | h1
  · exact h.far k h1 (b k hr)
  · have := (h.cb.rch (b k hr)).2; omega
theorem FI.call {N c : Nat} {σ1 σ σ' : GS} {s : DV} {vs : List Int} {cs cs' : List (List Int)} (h : FI N c σ1 σ s vs cs) (hB : CB N σ' c cs') (hS : Stc σ c σ') : FI N c σ1 σ' s vs cs' := by
  have hd := h.cb.dom
  have hfc : ∀ k, s.has k → ¬ Fc σ c k := fun k hk hf => by
    rcases hf with rfl | ⟨t, h1, h2⟩
    · have := h.own.has_ge hk; omega
    · exact h.far k hk ⟨t, h1, .inl h2⟩
  refine ⟨fun j h1 h2 => ?_, hB, h.own.fit fun i hi => hS.get i (h.own.has_lt hi) (hfc i hi), fun k hk hr => ?_⟩
  · rw [hS.get j (by omega) fun hf => by have := (h.cb.fcDom hf).1; omega]
    exact h.keep j h1 h2
  · rcases hS.nw k hr with h1 | h1
    · exact h.far k hk h1
    · have := h.own.has_lt hk; omega
theorem MpO.keep {κ : Type} [DecidableEq κ] {ek : κ → DV} {σ σ' : GS} {id : Nat} {l : List (κ × DV)} (h : MpO ek σ id l) (k : σ'[id]? = σ[id]?) : MpO ek σ' id l := by
  obtain ⟨a, st, b, c⟩ := h
  exact ⟨a, st, b, k.trans c⟩
theorem JnR.low {M : Nat} {σ σ' : GS} {s : DV} {raws : List (Bool × DV)} {bs : List Blk} (h : JnR M σ s raws bs) (k : ∀ j, M ≤ j → j < σ.length → σ'[j]? = σ[j]?) : JnR M σ' s raws bs :=
  ⟨h.own.fit fun i hi => k i (h.own.has_ge hi) (h.own.has_lt hi), h.len, fun i r b h1 h2 => by
    obtain ⟨x, y, z⟩ := h.at_ i r b h1 h2
    exact ⟨x, y.fit fun j hj => k j (y.has_ge hj) (y.has_lt hj), z⟩, h.off⟩
theorem JnR.weaken {M N : Nat} {σ : GS} {s : DV} {raws : List (Bool × DV)} {bs : List Blk} (h : JnR M σ s raws bs) (k : N ≤ M) : JnR N σ s raws bs :=
  ⟨h.own.weaken k, h.len, fun i r b h1 h2 => by
    obtain ⟨x, y, z⟩ := h.at_ i r b h1 h2
    exact ⟨x, y.weaken k, z⟩, h.off⟩
/-- What a list of blocks holds is at its bound or above. -/
theorem JnR.ge {M : Nat} {σ : GS} {s : DV} {raws : List (Bool × DV)} {bs : List Blk} (h : JnR M σ s raws bs) {i : Nat} {r : Bool × DV} (hr : raws[i]? = some r) {k : Nat} (hk : r.2.has k) : M ≤ k ∧ k < σ.length := by
  have hi := get_dom hr
  rw [h.len] at hi
  obtain ⟨_, b, _⟩ := h.at_ i r _ hr (List.getElem?_eq_getElem hi)
  exact ⟨b.has_ge hk, b.has_lt hk⟩
theorem JnR.fitX {M : Nat} {σ σ' : GS} {s : DV} {raws : List (Bool × DV)} {bs : List Blk} (h : JnR M σ s raws bs) (k : ∀ j, (s.has j ∨ ∃ r ∈ raws, r.2.has j) → σ'[j]? = σ[j]?) : JnR M σ' s raws bs :=
  ⟨h.own.fit fun i hi => k i (.inl hi), h.len, fun i r b h1 h2 => by
    obtain ⟨x, y, z⟩ := h.at_ i r b h1 h2
    exact ⟨x, y.fit fun j hj => k j (.inr ⟨r, List.mem_of_getElem? h1, hj⟩), z⟩, h.off⟩
/-- A block more, with a list of one's own from before; it leaves what is below the list of blocks. -/
theorem JnR.pushOld {N M : Nat} {σ : GS} {s : DV} {raws : List (Bool × DV)} {bs : List Blk} (h : JnR M σ s raws bs) (hNM : N ≤ M) {t : DV} {vs : List Int} (ht : Own N 1 eint σ t vs) (hs : ∀ k, t.has k → k < M) (hM : M ≤ σ.length) (hgo : (bs.length + 1) * 32 ≤ 140737488355328) {e : Bool} :
    ∃ s' σ', gimp (.append 2 32) [s, .slice σ.length 0 1 2 (some 1)] (σ ++ [.row false [.bool e, t]]) = some (s', σ') ∧ JnR N σ' s' (raws ++ [(e, t)]) (bs ++ [(e, vs)]) ∧ M ≤ σ'.length ∧ (∀ j, j < M → σ'[j]? = σ[j]?) ∧ ∀ k, (s'.has k ∨ ∃ r ∈ raws ++ [(e, t)], r.2.has k) → M ≤ k ∨ t.has k := by
  obtain ⟨s', σ', q1, q2, q3, q4⟩ := (h.weaken hNM).push (e := e) ht (fun k hk hk' => by have := hs k hk; have := h.own.has_ge hk'; omega) (fun i r hr k hk hk' => by have := (h.ge hr hk).1; have := hs k hk'; omega) (by omega) hgo
  obtain ⟨s2, σ2, p1, p2, p3, p4, p5, p6⟩ := h.own.push (by_ := 32) (e, t) (fun _ => rfl) (by simp [ht.flat]) hM (by rw [h.len]; exact hgo) (by decide)
  have e' : some (s', σ') = some (s2, σ2) := q1.symm.trans p1
  cases e'
  refine ⟨s', σ', q1, q2, by omega, fun j hj => p3.get j hj, fun k hk => ?_⟩
  rcases hk with hk | ⟨r, hr, hk⟩
  · rcases p6 k hk with h1 | h1
    · exact .inl (h.own.has_ge h1)
    · exact .inl (by omega)
  · rcases List.mem_append.1 hr with hr | hr
    · obtain ⟨i, hi⟩ := List.mem_iff_getElem?.1 hr
      exact .inl (h.ge hi hk).1
    · rw [List.mem_singleton.1 hr] at hk; exact .inr hk
theorem normL_one {x : Int} (h : Lt x) : normL [x] = some [x] := by
  have := h.1
  simp [normL, insA]
end Go.Gh
namespace Go.Gh
open Go.Proofs
set_option maxRecDepth 100000
theorem works_run : sayTrueL Tryz.prog [(F_circ_May, G_circ_May), (F_enc_Half, G_enc_Half)] 60 20 [] = true := by kernel_rfl
end Go.Gh
namespace Go.Gh
open Go.Proofs
set_option maxRecDepth 100000
theorem works_ok {σ : GS} {Post : DV → GS → Prop} (k : Post (.bool true) σ) : GCall Tryz.prog F_skolemlaw12_works [] σ Post := by
  refine GCall.closed (sayTrueL_ok seatfollows (fun p hp => ?_) works_run) k
  simp only [List.mem_cons, List.not_mem_nil, or_false] at hp
  rcases hp with rfl | rfl
  · exact ⟨_, Tryz.func96, by kernel_rfl, c_circ_May⟩
  · exact ⟨_, Tryz.func36, by kernel_rfl, c_enc_Half⟩
end Go.Gh
namespace Go.Gh
open Go.RowKit Go.Proofs
set_option linter.unusedVariables false
set_option linter.unusedSimpArgs false
set_option maxRecDepth 100000
theorem gcl_len {v k : Int} {i : List Int} {pl mi : Bool} : (gcl v k i pl mi).length ≤ 2 * i.length + 8 := by
  refine Nat.le_trans (List.length_filterMap_le _ _) ?_
  unfold rawP
  repeat' split
  all_goals simp
  all_goals omega
theorem normL_len {l r : List Int} (h : normL l = some r) : r.length ≤ l.length := by
  have : ∀ (l r r' : List Int), l.foldl (fun o x => Option.bind o fun r => insA r x) (some r) = some r' → r'.length ≤ r.length + l.length := by
    intro l
    induction l with
    | nil => intro r r' h; cases h; simp
    | cons x l ih =>
      intro r r' h
      rw [List.foldl_cons, Option.bind_some] at h
      cases hi : insA r x with
      | none => rw [hi, normL_none_fold] at h; cases h
      | some m =>
        rw [hi] at h
        have h1 := ih m r' h
        have h2 := insA_len hi
        simp only [List.length_cons]; omega
  have := this l [] r h
  simpa using this
theorem rawP_len {v k : Int} {i : List Int} {pl mi : Bool} : ∀ c ∈ rawP v k i pl mi, c.length ≤ i.length + 3 := by
  have app : ∀ {a b : List (List Int)}, (∀ c ∈ a, c.length ≤ i.length + 3) → (∀ c ∈ b, c.length ≤ i.length + 3) → ∀ c ∈ a ++ b, c.length ≤ i.length + 3 := fun h1 h2 c hc => (List.mem_append.1 hc).elim (h1 c) (h2 c)
  have non : ∀ c ∈ ([] : List (List Int)), c.length ≤ i.length + 3 := fun c hc => by cases hc
  have mp : ∀ (f : Int → List Int), (∀ x, (f x).length = 2) → ∀ c ∈ i.map f, c.length ≤ i.length + 3 := fun f hf c hc => by
    obtain ⟨x, _, rfl⟩ := List.mem_map.1 hc; rw [hf]; omega
  have one : ∀ (x : List Int), x.length ≤ i.length + 3 → ∀ c ∈ [x], c.length ≤ i.length + 3 := fun x hx c hc => by
    rw [List.mem_singleton.1 hc]; exact hx
  have two : ∀ (x y : List Int), x.length ≤ 3 → y.length ≤ 3 → ∀ c ∈ [x, y], c.length ≤ i.length + 3 := fun x y hx hy c hc => by
    rcases List.mem_cons.1 hc with rfl | hc
    · omega
    · rw [List.mem_singleton.1 hc]; omega
  unfold rawP
  split
  · refine app ?_ ?_ <;> split
    · exact mp _ fun _ => rfl
    · exact non
    · exact one _ (by simp)
    · exact non
  split
  · refine app ?_ ?_ <;> split
    · exact one _ (by simp)
    · exact non
    · exact mp _ fun _ => rfl
    · exact non
  split
  · refine app ?_ ?_ <;> split
    · exact two _ _ (by simp) (by simp)
    · exact non
    · exact two _ _ (by simp) (by simp)
    · exact non
  · refine app ?_ ?_ <;> split
    · exact two _ _ (by simp) (by simp)
    · exact non
    · exact two _ _ (by simp) (by simp)
    · exact non
theorem gcl_each {v k : Int} {i : List Int} {pl mi : Bool} : ∀ c ∈ gcl v k i pl mi, c.length ≤ i.length + 3 := fun c hc => by
  obtain ⟨r, hr, h⟩ := List.mem_filterMap.1 hc
  have := normL_len h
  have := rawP_len r hr
  omega
end Go.Gh
namespace Go.Gh
open Go.RowKit Go.Proofs
set_option linter.unusedVariables false
set_option linter.unusedSimpArgs false
set_option maxRecDepth 100000
/-- A net's sizes, when it is not great. -/
structure NetG (n : NetQ) : Prop where
  s : NetS n
  gates : n.gates.length ≤ 300
  lits : n.lits ≤ 1500
theorem altB_len : ∀ {p : List Blk} {prev : Option Bool}, altB prev p = true → p.length ≤ (flatB p).length
  | [], _, _ => by simp
  | b :: p, prev, h => by
    rw [altB] at h
    simp only [Bool.and_eq_true, Bool.not_eq_true'] at h
    have ih := altB_len (p := p) h.2
    have hb : 0 < b.2.length := by
      cases hb : b.2 with
      | nil => rw [hb] at h; simp at h
      | cons x l => simp
    have e : flatB (b :: p) = b.2 ++ flatB p := rfl
    rw [e, List.length_append, List.length_cons]; omega
theorem mayN_pre {n : NetQ} (h : mayN n = true) : lensB n.pre < 2 ^ 38 := by
  unfold mayN at h
  simp only [Bool.and_eq_true] at h
  obtain ⟨h1, h2, _⟩ := mayB_parts h.1.1
  have := altB_len h1
  rw [lensB_flat]; omega
theorem fmC_snocLen {sg : Sg} (gs : List GateP) (i : Nat) (hg : gs.length ≤ 300) (hl : (gs.map fun g => g.ins.length).sum ≤ 1500) : (fmC sg (gs.take i)).length ≤ 2700 := by
  have h1 := fmC_lenT sg (gs.take i)
  have h2 := sum_take (fun g : GateP => g.ins.length) gs i
  rw [← List.map_take] at h2
  have h3 : (gs.take i).length ≤ gs.length := by rw [List.length_take]; omega
  omega
theorem code_and1 (p : Bool × Bool) : decide (0 < bits .and .u8 (code p) 1) = p.1 := by
  obtain ⟨a, b⟩ := p; cases a <;> cases b <;> rfl
theorem code_and2 (p : Bool × Bool) : decide (0 < bits .and .u8 (code p) 2) = p.2 := by
  obtain ⟨a, b⟩ := p; cases a <;> cases b <;> rfl
theorem code_zero (p : Bool × Bool) : (code p = 0) = (hasS p = false) := by
  obtain ⟨a, b⟩ := p; cases a <;> cases b <;> simp [code, hasS]
theorem may_live {q : QbfP} {N : Nat} {S : GS} {s sC : DV} {raws : List DV} {Post : DV → GS → Prop} (hJ : Jn N S s q.pre) (hX : LX N S sC raws q.cls) (hp : lensB q.pre < 2 ^ 40) (hc : lensC q.cls < 2 ^ 40) (h : Post (.bool (mayQ q)) S) : GCall Tryz.prog F_prefix_MayQbf [.agg [s, sC]] S Post := by
  refine GCall.borrow (args' := [q.enc]) (r := .bool (mayQ q)) (.cons (.agg (.cons (hJ.rd fun _ _ => trivial) (.cons (hX.rd fun _ _ => trivial) .nil))) .nil) (by simp) rfl ?_ h
  exact p_MayQbf_ok hp hc rfl
theorem behind_sz (p : List Blk) (l : List Int) : lensB (behindB p l) ≤ lensB p + 1 + l.length := by
  rw [lensB_flat, flat_behind, List.length_append, lensB_flat]
  have : (behindB p l).length ≤ p.length + 1 := by
    unfold behindB
    split
    · omega
    · split
      · split
        · simp
        · simp
      · simp
  omega
theorem set_same {α : Type} {l : List α} {i : Nat} {x : α} (h : l[i]? = some x) : l.set i x = l := by
  obtain ⟨e1, e2⟩ := set_split (d := x) h
  rw [e1]; exact e2.symm
theorem lensC_le {B : Nat} : ∀ {l : List (List Int)}, (∀ c ∈ l, c.length ≤ B) → lensC l ≤ l.length * (B + 1)
  | [], _ => by simp [lensC]
  | c :: l, h => by
    have h1 := h c (by simp)
    have h2 := lensC_le (l := l) fun d hd => h d (by simp [hd])
    have e : lensC (c :: l) = 1 + c.length + lensC l := by simp [lensC]; omega
    rw [e, List.length_cons, Nat.add_mul]; omega
theorem fmC_lens {n : NetQ} {sg : Sg} (hG : NetG n) : lensC (fmlQ n sg).cls < 2 ^ 40 ∧ (fmlQ n sg).cls.length ≤ 2701 := by
  have h1 := fmC_snocLen (sg := sg) n.gates n.gates.length hG.gates hG.lits
  rw [List.take_length] at h1
  have h2 : (fmlQ n sg).cls.length ≤ 2701 := by
    show (fmC sg n.gates ++ [[n.out]]).length ≤ _
    rw [List.length_append]; simp; omega
  have h3 := lensC_le (B := 1600) (l := (fmlQ n sg).cls) fun c hc => by
    rcases List.mem_append.1 hc with hc | hc
    · obtain ⟨g, hg, hc⟩ := List.mem_flatMap.1 hc
      split at hc
      · have e1 := gcl_each c hc
        have e2 := mem_sum (f := fun g : GateP => g.ins.length) hg
        have e3 := hG.lits
        unfold NetQ.lits at e3
        omega
      · cases hc
    · rw [List.mem_singleton.1 hc]; simp
  have h4 : (fmlQ n sg).cls.length * 1601 ≤ 2701 * 1601 := Nat.mul_le_mul_right _ h2
  exact ⟨by omega, h2⟩
set_option maxHeartbeats 2000000 in
theorem enc_formula_ok {n : NetQ} {sg : Sg} {sid : Nat} {vs : List (Bool × Bool)} {ro : Bool} {σ : GS} {Post : DV → GS → Prop} (hm : mayN n = true) (hG : NetG n) (hr : σ[sid]? = some (.row ro (byts vs))) (hv : SgV vs sg) (hsh : Shut n sg)
    (h : Post (.tuple [(fmlZ n sg).1.enc, .int .i64 (fmlZ n sg).2]) σ) : GCall Tryz.prog F_enc_formula [n.enc, .ptr sid 0] σ Post := by
  refine GCall.pure (r := .tuple [(fmlZ n sg).1.enc, .int .i64 (fmlZ n sg).2]) ?_ (by simp) h
  have hsid := get_dom hr
  have hgl := hG.gates
  have hll := hG.lits
  refine gc_enc_formula ?_
  simp [G_enc_formula, genv0, List.replicate]
  refine enc_writers_ok fun σ1 hM hF => ?_
  have hl1 : σ.length + 3 ≤ σ1.length := by have := hF.len; simpa using this
  have hk1 : ∀ j, j < σ.length + 3 → σ1[j]? = (σ ++ [GObj.row false (enet n), GObj.row false [.nils, .nils], GObj.row false [.nils]])[j]? := fun j hj => hF.get j (by simpa using hj)
  have r0 : σ1[σ.length]? = some (.row false (enet n)) := by rw [hk1 _ (by omega), getE_tail0]; rfl
  have r1 : σ1[σ.length + 1]? = some (.row false [.nils, .nils]) := by rw [hk1 _ (by omega), List.getElem?_append_right (by omega)]; simp
  have r2 : σ1[σ.length + 2]? = some (.row false [.nils]) := by rw [hk1 _ (by omega), List.getElem?_append_right (by omega)]; simp
  have rs : σ1[sid]? = some (.row ro (byts vs)) := by rw [hk1 _ (by omega), List.getElem?_append_left hsid]; exact hr
  have rold : ∀ j, j < σ.length → σ1[j]? = σ[j]? := fun j hj => by rw [hk1 _ (by omega), List.getElem?_append_left hj]
  have l1 : gload (.load 1 false) [.ptr σ.length 1] σ1 = some (fgates n.gates) := ld_at r0
  simp [l1]
  obtain ⟨N, hN⟩ : ∃ N, σ1.length = N := ⟨_, rfl⟩
  have h0 : FI N (σ.length + 2) σ1 σ1 .nils [] [] := ⟨fun _ _ _ => rfl, ⟨.nils, [], ⟨by omega, by omega⟩, r2, .nil⟩, .nil, fun k hk => by obtain ⟨_, _, _, _, e⟩ := hk; cases e⟩
  refine gfor n.gates.length (fun i e σ' => ∃ sV, FI N (σ.length + 2) σ1 σ' sV (fmV sg (n.gates.take i)) (fmC sg (n.gates.take i)) ∧ e = mkEnv 120 [(1, .ptr sid 0), (2, .ptr σ.length 0), (4, .ptr (σ.length + 1) 0), (6, .ptr (σ.length + 2) 0), (7, sV), (8, .map (σ.length + 3)), (18, fgates n.gates), (19, .int .i64 n.gates.length), (20, .int .i64 i)]) _ ?_ ⟨.nils, h0, rfl⟩ ?_
  · simp [mkEnv, List.replicate]
  rintro i _ σ2 hi ⟨sV, hI, rfl⟩
  simp [mkEnv, List.replicate]
  by_cases hlt : i < n.gates.length
  · obtain ⟨g, hg⟩ := nth_lt hlt
    have hg' := nth_get hg
    have hgm := List.mem_of_getElem? hg'
    obtain ⟨g1, g2, g3⟩ := mayN_gate hm g hgm
    have hst : gimp (.store 3) [.ptr σ2.length 0, .agg (egate g)] (σ2 ++ [.row false [.int .i64 0, .int .u8 0, .nils]]) = some (.tuple [], σ2 ++ [.row false (egate g)]) := by simp
    have es : IntKind.i64.wrap ((i : Int) + 1) = (i : Int) + 1 := by rw [wrap_small] <;> omega
    have hI2 := hI.app [GObj.row false (egate g)]
    have a0 : 0 ≤ g.v := by have := g2; simp [isVar] at this; omega
    have a1 : g.v < 65537 := by have := g2; simp [isVar] at this; omega
    have rs2 : (σ2 ++ [GObj.row false (egate g)])[sid]? = some (.row ro (byts vs)) := (hI2.keep sid (by omega) (by omega)).trans rs
    have hC := fmC_snocLen (sg := sg) n.gates i hgl hll
    have hV : (fmV sg (n.gates.take i)).length ≤ 300 := by
      have h1 := fmV_len sg (n.gates.take i)
      have h3 : (n.gates.take i).length ≤ n.gates.length := by rw [List.length_take]; omega
      omega
    have lds : gload (.load 1 false) [.ptr sid g.v.toNat] (σ2 ++ [GObj.row false (egate g)]) = some (.int .u8 (code (sg g.v))) := ld_byts rs2 (hv.at_ a0 a1)
    have hz := code_zero (sg g.v)
    cases hw : hasS (sg g.v) with
    | false =>
      have hz : code (sg g.v) = 0 := by rw [hz]; exact hw
      simp [hlt, hg, hst, a0, a1, lds, hz, es]
      refine forK_go _ hlt (by simp [mkEnv, List.replicate]) ⟨sV, ?_, rfl⟩
      rw [fmV_snoc hg', fmC_snoc hg', hw]
      simpa using hI2
    | true =>
      have hz' : ¬ code (sg g.v) = 0 := by rw [hz, hw]; simp
      simp [hlt, hg, hst, a0, a1, lds, hz', es]
      obtain ⟨s3, σ3, p1, p2, p3⟩ := hI2.push g.v (by omega)
      simp at p1
      have k2 := p2.keep
      have r3 := (k2 σ.length (by omega) (by omega)).trans r0
      obtain ⟨F, hkg, hcall⟩ := enc_w_ok g1
      have hM3 : MpO ku8 σ3 (σ.length + 3) wE := by
        have e : (σ ++ [GObj.row false (enet n), GObj.row false [.nils, .nils], GObj.row false [.nils]]).length = σ.length + 3 := by simp
        rw [e] at hM
        exact hM.keep (k2 _ (by have := hM.dom; omega) (by omega))
      have hlk := hM3.lookup (kt := .int .u8) g.k .nilf false
      simp only [ku8, hkg] at hlk
      have rg : σ3[σ2.length]? = some (.row false (egate g)) := by
        rw [p3 σ2.length (by simp) fun hh => by have := hI.own.has_lt hh; omega, getE_tail0]; rfl
      have lg0 : gload (.load 1 false) [.ptr σ2.length 0] σ3 = some (.int .i64 g.v) := ld_at rg
      have lg1 : gload (.load 1 false) [.ptr σ2.length 1] σ3 = some (.int .u8 g.k) := ld_at rg
      have lg2 : gload (.load 1 false) [.ptr σ2.length 2] σ3 = some (fints g.ins) := ld_at rg
      simp [p1, hlk, lg0, lg1, lg2, code_and1, code_and2]
      refine hcall p2.cb (isVar_Lt g2) (fun l hl => (g3 l hl).1) (by have := hG.s.ins hgm; omega) (by omega) fun σ4 hB4 hS4 => ?_
      have h4 := p2.call hB4 hS4
      simp [es]
      refine forK_go _ hlt (by simp [mkEnv, List.replicate]) ⟨s3, ?_, rfl⟩
      rw [fmV_snoc hg', fmC_snoc hg', hw]
      simpa using h4
  · have : i = n.gates.length := by omega
    subst this
    rw [List.take_length] at hI
    have hd := hI.cb.dom
    have r3 := (hI.keep σ.length (by omega) (by omega)).trans r0
    have l2 : gload (.load 1 false) [.ptr σ.length 2] σ2 = some (.int .i64 n.out) := ld_at r3
    simp [l2]
    obtain ⟨o1, o2⟩ := mayN_out hm
    have hC := fmC_snocLen (sg := sg) n.gates n.gates.length hgl hll
    rw [List.take_length] at hC
    have hI2 := hI.app [GObj.row false [.int .i64 n.out]]
    refine enc_put_ok (m := σ2.length) (raw := [n.out]) hI2.cb (Own.at_ (xs := [n.out]) (cap := some 1) (Nat.le_refl _) (by simp) (by simp)) (by simp) (fun x hx => by rw [List.mem_singleton.1 hx]; exact o1) (by omega) fun σ3 hB3 hS3 => ?_
    have h3 := hI2.call hB3 hS3
    rw [normL_one o1] at h3
    obtain ⟨sC, raws, hn3, hrow3, hX3⟩ := h3.cb
    have hld : gload (.load 1 false) [.ptr (σ.length + 2) 0] σ3 = some sC := by rw [ld_at hrow3]; rfl
    have hCf := hX3.own.flat
    have hst : gimp (.store 2) [.ptr σ3.length 0, .agg [.nils, sC]] (σ3 ++ [.row false [.nils, .nils]]) = some (.tuple [], σ3 ++ [.row false [.nils, sC]]) := by simp [gimp, DV.cells, hCf, over]
    obtain ⟨S4, hS4⟩ : ∃ S, σ3 ++ [GObj.row false [.nils, sC]] = S := ⟨_, rfl⟩
    obtain ⟨p, hp⟩ : ∃ p, σ3.length = p := ⟨_, rfl⟩
    have hl4 : S4.length = p + 1 := by rw [← hS4, ← hp]; simp
    have rp : S4[p]? = some (.row false [.nils, sC]) := by rw [← hS4, ← hp, getE_tail0]; rfl
    have k4 : ∀ j, j < p → S4[j]? = σ3[j]? := fun j hj => by rw [← hS4, List.getElem?_append_left (by omega)]
    have hX4 : LX N S4 sC raws (fmlQ n sg).cls := by
      refine LX.fit ?_ fun i hi => k4 i (by have := (hX3.lt hi).2; omega)
      simpa [fmlQ] using hX3
    have hV4 : Own N 1 eint S4 sV (fmV sg n.gates) := h3.own.fit fun i hi => k4 i (by have := h3.own.has_lt hi; omega)
    have hV4l : ∀ k, sV.has k → k < p := fun k hk => by have := h3.own.has_lt hk; omega
    have hC4l : ∀ k, LHas sC raws k → k < p := fun k hk => by have := (hX3.lt hk).2; omega
    have hk4 : ∀ j, j < σ.length → S4[j]? = σ[j]? := fun j hj => by rw [k4 j (by omega), h3.keep j (by omega) (by omega), rold j hj]
    have r04 : S4[σ.length]? = some (.row false (enet n)) := by rw [k4 _ (by omega), h3.keep _ (by omega) (by omega)]; exact r0
    have r14 : S4[σ.length + 1]? = some (.row false [.nils, .nils]) := by rw [k4 _ (by omega), h3.keep _ (by omega) (by omega)]; exact r1
    have l4 : gload (.load 1 false) [.ptr σ.length 0] S4 = some (fblks n.pre) := ld_at r04
    have hgf : gfill [(1, 1)] [DV.nils, DV.nils] [sC] = some [.nils, sC] := by simp [gfill, cells_of_flat hCf, over]
    rw [hp] at hst
    simp [hld, hgf, hst, hS4, hp, l4]
    refine gfor n.pre.length (fun i e σ' => ∃ sP rP, (∀ j, j < p → σ'[j]? = S4[j]?) ∧ p + 1 ≤ σ'.length ∧ σ'[p]? = some (.row false [sP, sC]) ∧ JnR (p + 1) σ' sP rP (n.pre.take i) ∧ e = mkEnv 120 [(4, .ptr (σ.length + 1) 0), (7, sV), (12, .ptr p 0), (60, fblks n.pre), (61, .int .i64 n.pre.length), (62, .int .i64 i)]) _ ?_ ⟨.nils, [], fun _ _ => rfl, by omega, rp, ⟨.nil, rfl, fun i r b h => by simp at h, fun i j r r' _ h => by simp at h⟩, rfl⟩ ?_
    · simp [mkEnv, List.replicate]
    rintro i _ S5 hi ⟨sP, rP, k5, hl5, rp5, hJ, rfl⟩
    simp [mkEnv, List.replicate]
    by_cases hlt : i < n.pre.length
    · obtain ⟨b, hb⟩ := nth_lt hlt
      have hb' := nth_get hb
      have hbl := hG.s.blk b (List.mem_of_getElem? hb')
      have hpl := hG.s.pre
      have es : IntKind.i64.wrap ((i : Int) + 1) = (i : Int) + 1 := by rw [wrap_small] <;> omega
      have hst5 : gimp (.store 2) [.ptr S5.length 0, .agg (eblk b)] (S5 ++ [.row false [.bool false, .nils]]) = some (.tuple [], S5 ++ [.row false (eblk b)]) := by simp
      have lp : gload (.load 1 false) [.ptr p 0] (S5 ++ [.row false (eblk b)]) = some sP := by rw [ld_at (getE_append rp5)]; rfl
      simp [hlt, hb, hst5, lp]
      refine clone_f (by have := lensB_mem (List.mem_of_getElem? hb'); have := (mayN_pre hm); omega) fun s6 S6 o6 f6 => ?_
      have hl6 := f6.len
      simp at hl6
      have lp6 : gload (.load 1 false) [.ptr p 0] S6 = some sP := by rw [ld_at ((f6.get p (by simp; omega)).trans (getE_append rp5))]; rfl
      have lb6 : gload (.load 1 false) [.ptr S5.length 0] S6 = some (.bool b.1) := by rw [ld_at ((f6.get S5.length (by simp)).trans (by rw [getE_tail0]; rfl))]; rfl
      have hgb : ∀ e, galloc (.bslice 2 [.bool false, .nils] 1 [(0, 2)]) [.agg [.bool e, s6]] = some (.row false [.bool e, s6], fun id => .slice id 0 1 2 (some 1)) := fun e => rfl
      have hgf6 : gfill [(0, 1), (1, 1)] [.bool false, DV.nils] [.bool b.1, s6] = some [.bool b.1, s6] := by simp [gfill, cells_of_flat o6.flat, cells_of_flat (v := .bool b.1) rfl, over]
      simp [lp6, lb6, hgb, hgf6]
      refine ⟨lp.symm, ?_⟩
      have hJ6 : JnR (p + 1) S6 sP rP (n.pre.take i) := hJ.low fun j h1 h2 => by
        rw [f6.get j (by simp; omega), List.getElem?_append_left h2]
      have hgrow : ((n.pre.take i).length + 1) * 32 ≤ 140737488355328 := by
        have h1 : (n.pre.take i).length ≤ n.pre.length := by rw [List.length_take]; omega
        have := lensB_flat n.pre
        have := (mayN_pre hm)
        omega
      have o6l : ∀ k, s6.has k → S5.length < k := fun k hk => by have := o6.has_ge hk; simp at this; omega
      obtain ⟨s7, S7, q1, q2, q3, q4⟩ := hJ6.push (e := b.1) (o6.weaken (by simp; omega)) (fun k hk hk' => by have := o6l k hk; have := hJ.own.has_lt hk'; omega) (fun j r hr k hk hk' => by have := (hJ.ge hr hk).2; have := o6l k hk'; omega) (by omega) hgrow
      have rp7 : S7[p]? = some (.row false [sP, sC]) := by
        rw [q3.get p (by omega), f6.get p (by simp; omega)]; exact getE_append rp5
      have hst7 : gimp (.store 1) [.ptr p 0, s7] S7 = some (.tuple [], S7.set p (.row false [s7, sC])) := by
        simp [gimp, rp7, cells_of_flat q2.own.flat, over, q2.own.flat]
      have hset : ∀ j, j ≠ p → (S7.set p (.row false [s7, sC]))[j]? = S7[j]? := fun j hj => List.getElem?_set_ne (Ne.symm hj)
      simp [q1, hst7, es]
      refine forK_go _ hlt (by simp [mkEnv, List.replicate]) ⟨s7, rP ++ [(b.1, s6)], fun j hj => ?_, by simp; omega, List.getElem?_set_self (get_dom rp7), ?_, rfl⟩
      · rw [hset j (by omega), q3.get j (by omega), f6.get j (by simp; omega), List.getElem?_append_left (by omega)]
        exact k5 j hj
      · rw [take_get hb']
        exact q2.low fun j h1 h2 => hset j (by omega)
    · have : i = n.pre.length := by omega
      subst this
      rw [List.take_length] at hJ
      have lp : gload (.load 1 false) [.ptr p 0] S5 = some sP := by rw [ld_at rp5]; rfl
      have hlen := hJ.own.len
      rw [hJ.len] at hlen
      have hpn : n.pre.length < 2 ^ 38 := by have := lensB_flat n.pre; have := (mayN_pre hm); omega
      have ew : IntKind.i64.wrap ((n.pre.length : Int) - 1) = (n.pre.length : Int) - 1 := by rw [wrap_small] <;> omega
      have hX5 : LX N S5 sC raws (fmlQ n sg).cls := hX4.fit fun i hi => k5 i (hC4l i hi)
      have hV5 : Own N 1 eint S5 sV (fmV sg n.gates) := hV4.fit fun i hi => k5 i (hV4l i hi)
      have hvl := hV5.len
      have hsz : lensB (fmlQ n sg).pre < 2 ^ 40 := by
        have h1 := behind_sz n.pre (fmV sg n.gates)
        have h2 := fmV_len sg n.gates
        have h3 := (mayN_pre hm)
        show lensB (behindB n.pre (fmV sg n.gates)) < _
        omega
      have hmay := fml_may hm hsh
      have fin : ∀ (S : GS) (s : DV), (∀ j, j < p → S[j]? = S4[j]?) → p + 1 ≤ S.length → S[p]? = some (.row false [s, sC]) → Jn N S s (fmlQ n sg).pre → LX N S sC raws (fmlQ n sg).cls ∧ gload (.load 2 true) [.ptr p 0] S = some (.agg [s, sC]) ∧
          (∃ S', gimp (.store 2) [.ptr (σ.length + 1) 0, .agg [.nils, .nils]] S = some (.tuple [], S') ∧ gload (.load 2 true) [.ptr (σ.length + 1) 0] S' = some (.agg [.nils, .nils]) ∧ (mayQ (fmlQ n sg) = false → Fr σ.length σ S' ∧ Rd S' (fun i => σ.length ≤ i ∨ RO S' i) (.tuple [.agg [.nils, .nils], .int .i64 3]) (.tuple [(fmlZ n sg).1.enc, .int .i64 (fmlZ n sg).2]))) ∧
          (∃ S', gimp (.store 2) [.ptr (σ.length + 1) 0, .agg [s, sC]] S = some (.tuple [], S') ∧ gload (.load 2 true) [.ptr (σ.length + 1) 0] S' = some (.agg [s, sC]) ∧ (mayQ (fmlQ n sg) = true → Fr σ.length σ S' ∧ Rd S' (fun i => σ.length ≤ i ∨ RO S' i) (.tuple [.agg [s, sC], .int .i64 0]) (.tuple [(fmlZ n sg).1.enc, .int .i64 (fmlZ n sg).2]))) ∧ Jn N S s (fmlQ n sg).pre := fun S s hk hl hrw hj => by
        have hx : LX N S sC raws (fmlQ n sg).cls := hX4.fit fun i hi => hk i (hC4l i hi)
        have hr1 : S[σ.length + 1]? = some (.row false [.nils, .nils]) := by rw [hk _ (by omega)]; exact r14
        have hj0 := hj
        obtain ⟨rr, hjr⟩ := hj
        have hsf := hjr.own.flat
        have hset : ∀ o j, j ≠ σ.length + 1 → (S.set (σ.length + 1) o)[j]? = S[j]? := fun o j hj => List.getElem?_set_ne (Ne.symm hj)
        have hself : ∀ o, (S.set (σ.length + 1) o)[σ.length + 1]? = some o := fun o => List.getElem?_set_self (by omega)
        have hfr : ∀ o, Fr σ.length σ (S.set (σ.length + 1) o) := fun o => ⟨by simp; omega, fun j hj => by rw [hset o j (by omega), hk j (by omega), hk4 j hj]⟩
        refine ⟨hx, by simp [gload, hrw], ⟨S.set (σ.length + 1) (.row false [.nils, .nils]), by simp [gimp, hr1, over, DV.cells, DV.flat], by simp [gload, hself], fun hq => ⟨hfr _, ?_⟩⟩, ⟨S.set (σ.length + 1) (.row false [s, sC]), by simp [gimp, hr1, over, DV.cells, hsf, hCf], by simp [gload, hself], fun hq => ⟨hfr _, ?_⟩⟩, hj0⟩
        · unfold fmlZ
          rw [← hmay, hq]
          exact .tuple (.cons (.agg (.cons (.nils 2) (.cons (.nils 1) .nil))) (.cons (.same _) .nil))
        · unfold fmlZ
          rw [← hmay, hq]
          have hj2 : Jn N (S.set (σ.length + 1) (.row false [s, sC])) s (fmlQ n sg).pre := ⟨rr, hjr.low fun j h1 h2 => hset _ j (by omega)⟩
          have hx2 : LX N (S.set (σ.length + 1) (.row false [s, sC])) sC raws (fmlQ n sg).cls := hx.fit fun i hi => hset _ i (by have := (hx.lt hi).1; omega)
          exact .tuple (.cons (.agg (.cons (hj2.rd fun i hi => .inl (by omega)) (.cons (hx2.rd fun i hi => .inl (by omega)) .nil))) (.cons (.same _) .nil))
      have hgrow : (n.pre.length + 1) * 32 ≤ 140737488355328 := by omega
      obtain ⟨s6, S6, q1, q2, q3, q4, q5⟩ := hJ.pushOld (N := N) (e := true) (by omega) hV5 (fun k hk => by have := hV4l k hk; omega) hl5 hgrow
      have hgfv : gfill [(0, 1), (1, 1)] [.bool false, DV.nils] [.bool true, sV] = some [.bool true, sV] := by simp [gfill, cells_of_flat hV5.flat, cells_of_flat (v := .bool true) rfl, over]
      have hgbv : ∀ e, galloc (.bslice 2 [.bool false, .nils] 1 [(0, 2)]) [.agg [.bool e, sV]] = some (.row false [.bool e, sV], fun id => .slice id 0 1 2 (some 1)) := fun e => rfl
      have rp6 : S6[p]? = some (.row false [sP, sC]) := by rw [q4 p (by omega)]; exact rp5
      have hst6 : gimp (.store 1) [.ptr p 0, s6] S6 = some (.tuple [], S6.set p (.row false [s6, sC])) := by simp [gimp, rp6, cells_of_flat q2.own.flat, over, q2.own.flat]
      have hset6 : ∀ j, j ≠ p → (S6.set p (.row false [s6, sC]))[j]? = S6[j]? := fun j hj => List.getElem?_set_ne (Ne.symm hj)
      have pushed : (fmlQ n sg).pre = n.pre ++ [(true, fmV sg n.gates)] → _ := fun hq => fin (S6.set p (.row false [s6, sC])) s6 (fun j hj => by rw [hset6 j (by omega), q4 j (by omega), k5 j hj]) (by simpa using q3) (List.getElem?_set_self (by omega)) (by
        rw [hq]
        exact ⟨_, q2.fitX fun j hj => hset6 j (by rcases q5 j hj with h1 | h1; omega; have := hV4l j h1; omega)⟩)
      have same : (fmlQ n sg).pre = n.pre → _ := fun hq => fin S5 sP k5 hl5 rp5 (by rw [hq]; exact ⟨_, hJ.weaken (by omega)⟩)
      by_cases h0 : n.pre = []
      · by_cases hv0 : fmV sg n.gates = []
        · have hq : (fmlQ n sg).pre = n.pre := if_pos hv0
          rw [hv0] at hvl
          obtain ⟨hx, e1, ⟨S6, e2, e3, e4⟩, ⟨S7, e5, e6, e7⟩, hjn⟩ := same hq
          simp [lp, hlen, ew, h0, hvl, e1]
          refine may_live (q := fmlQ n sg) hjn hx hsz (fmC_lens hG).1 ?_
          cases hmq : mayQ (fmlQ n sg) with
          | false => simp [e2, e3]; simpa using e4 hmq
          | true => simp [e1, e5, e6]; simpa using e7 hmq
        · have hq : (fmlQ n sg).pre = n.pre ++ [(true, fmV sg n.gates)] := by
            show behindB n.pre _ = _
            unfold behindB; rw [if_neg hv0, h0]; rfl
          have hp0 : 0 < (fmV sg n.gates).length := List.length_pos_iff.2 hv0
          obtain ⟨hx, e1, ⟨S8, e2, e3, e4⟩, ⟨S7, e5, e6, e7⟩, hjn⟩ := pushed hq
          simp [lp, hlen, ew, h0, hvl, hp0, hgfv, hgbv, q1, hst6, e1]
          refine may_live (q := fmlQ n sg) hjn hx hsz (fmC_lens hG).1 ?_
          cases hmq : mayQ (fmlQ n sg) with
          | false => simp [e2, e3]; simpa using e4 hmq
          | true => simp [e1, e5, e6]; simpa using e7 hmq
      · obtain ⟨m, hml⟩ : ∃ m, n.pre.length = m + 1 := ⟨n.pre.length - 1, by have := List.length_pos_iff.2 h0; omega⟩
        obtain ⟨b, hb⟩ := get_lt (xs := n.pre) (i := m) (by omega)
        obtain ⟨r, hr1, hr2, hr3, hr4⟩ := hJ.get hb
        obtain ⟨oid, o1, o2, o3, o4⟩ := hJ.own.get (fun _ => rfl) hr1 (k := .i64)
        have o40 := o4 0 (by omega)
        have o41 := o4 1 (by omega)
        simp at o40 o41
        rw [hr2] at o40
        have hb' : n.pre[n.pre.length - 1]? = some b := by rw [hml]; exact hb
        have em : (n.pre.length : Int) - 1 = (m : Int) := by omega
        have hm0 : (1 : Int) ≤ n.pre.length := by omega
        have ewm : IntKind.i64.wrap (m : Int) = (m : Int) := by rw [wrap_small] <;> omega
        cases hbx : b.1 with
        | false =>
          rw [hbx] at o40
          by_cases hv0 : fmV sg n.gates = []
          · have hq : (fmlQ n sg).pre = n.pre := if_pos hv0
            rw [hv0] at hvl
            obtain ⟨hx, e1, ⟨S6, e2, e3, e4⟩, ⟨S7, e5, e6, e7⟩, hjn⟩ := same hq
            simp [lp, hlen, ewm, em, o2, o40, hvl, e1]
            refine may_live (q := fmlQ n sg) hjn hx hsz (fmC_lens hG).1 ?_
            cases hmq : mayQ (fmlQ n sg) with
            | false => simp [e2, e3]; simpa using e4 hmq
            | true => simp [e1, e5, e6]; simpa using e7 hmq
          · have hq : (fmlQ n sg).pre = n.pre ++ [(true, fmV sg n.gates)] := by
              show behindB n.pre _ = _
              unfold behindB; rw [if_neg hv0, hb']; simp [hbx]
            have hp0 : 0 < (fmV sg n.gates).length := List.length_pos_iff.2 hv0
            obtain ⟨hx, e1, ⟨S8, e2, e3, e4⟩, ⟨S7, e5, e6, e7⟩, hjn⟩ := pushed hq
            simp [lp, hlen, ewm, em, o2, o40, hvl, hp0, hgfv, hgbv, q1, hst6, e1]
            refine may_live (q := fmlQ n sg) hjn hx hsz (fmC_lens hG).1 ?_
            cases hmq : mayQ (fmlQ n sg) with
            | false => simp [e2, e3]; simpa using e4 hmq
            | true => simp [e1, e5, e6]; simpa using e7 hmq
        | true =>
          rw [hbx] at o40
          have hq : (fmlQ n sg).pre = n.pre.set m (b.1, b.2 ++ fmV sg n.gates) := by
            show behindB n.pre _ = _
            unfold behindB
            split
            · next h => rw [h, List.append_nil, show (b.1, b.2) = b from rfl, set_same hb]
            · rw [hb']; simp [hbx, hml]
          obtain ⟨d1, d2⟩ := hV5.read fun _ => rfl
          have hbl := hG.s.blk b (List.mem_of_getElem? hb)
          have hbl2 := lensB_mem (List.mem_of_getElem? hb)
          have hfl := fmV_len sg n.gates
          have hpre := (mayN_pre hm)
          obtain ⟨s8, S8, a1, a2, a3, a4, a5, a6, _⟩ := hr3.append (by_ := 8) (x := sV) (ys := fmV sg n.gates) (fun _ => rfl) d1 d2 (fun _ _ => rfl) hl5 (by omega) (by decide)
          obtain ⟨gid, S9, b1, b2, b3, b4, b5⟩ := hJ.grow hr1 hb a2 a5 a6
          have rp8 : S8[p]? = some (.row false [sP, sC]) := by rw [a3.get p (by omega)]; exact rp5
          have lp8 : gload (.load 1 false) [.ptr p 0] S8 = some sP := by rw [ld_at rp8]; rfl
          have f9 := b4 (by omega)
          obtain ⟨hx, e1, ⟨S10, e2, e3, e4⟩, ⟨S7, e5, e6, e7⟩, hjn⟩ := fin S9 sP (fun j hj => by rw [f9.get j (by omega), a3.get j (by omega), k5 j hj]) (by omega) (by rw [f9.get p (by omega)]; exact rp8) (by rw [hq]; exact ⟨_, b3.weaken (by omega)⟩)
          have hid : gid = oid := by
            have := b1.symm.trans o2
            simp at this; exact this
          subst hid
          simp [lp, hlen, ewm, em, o2, o40, o41, a1, lp8, b2, e1]
          refine may_live (q := fmlQ n sg) hjn hx hsz (fmC_lens hG).1 ?_
          cases hmq : mayQ (fmlQ n sg) with
          | false => simp [e2, e3]; simpa using e4 hmq
          | true => simp [e1, e5, e6]; simpa using e7 hmq
end Go.Gh
namespace Go.Gh
open Go.RowKit Go.Proofs
set_option linter.unusedVariables false
set_option linter.unusedSimpArgs false
set_option maxRecDepth 100000
/-- The answer of Net and Half. -/
def netZ (n : NetQ) (sg : Sg) : QbfP × Int := if mayN n = true then fmlZ n sg else (⟨[], []⟩, 2)
set_option maxHeartbeats 1000000 in
theorem enc_Net_ok {n : NetQ} {σ : GS} {Post : DV → GS → Prop} (hG : NetG n) (h : Post (.tuple [(netZ n fullS).1.enc, .int .i64 (netZ n fullS).2]) σ) : GCall Tryz.prog F_enc_Net [n.enc] σ Post := by
  refine GCall.pure (r := .tuple [(netZ n fullS).1.enc, .int .i64 (netZ n fullS).2]) ?_ (by simp) h
  refine gc_enc_Net ?_
  have hbg : galloc (.abig 65537 (.int .u8 0)) [] = some (.row false (byts (List.replicate 65537 (false, false))), fun id => .ptr id 0) := by
    rw [show byts (List.replicate 65537 (false, false)) = List.replicate 65537 (.int .u8 0) by simp only [byts, List.map_replicate]; rfl]; rfl
  obtain ⟨V, hV⟩ : ∃ V, List.replicate 65537 (false, false) = V := ⟨_, rfl⟩
  have hVl : V.length = 65537 := by rw [← hV, List.length_replicate]
  rw [hV] at hbg
  have hl0 : gload (.load 3 true) [.ptr σ.length 0] (σ ++ [.row false (enet n), .row false [.nils, .nils]]) = some n.enc := by
    simp [gload]
  simp [G_enc_Net, genv0, List.replicate, hl0]
  refine circ_May_ok hG.s ?_
  cases hm : mayN n with
  | false =>
    simp
    have e : netZ n fullS = (⟨[], []⟩, 2) := if_neg (by rw [hm]; simp)
    rw [e]
    exact .tuple (.cons (.agg (.cons (.nils 2) (.cons (.nils 1) .nil))) (.cons (.same _) .nil))
  | true =>
    simp [hbg]
    obtain ⟨A, hA⟩ : ∃ A, GObj.row false (enet n) = A := ⟨_, rfl⟩
    obtain ⟨B, hB⟩ : ∃ B, GObj.row false [DV.nils, DV.nils] = B := ⟨_, rfl⟩
    rw [hA, hB]
    refine gfor 65537 (fun i e σ' => (∃ vs, σ' = σ ++ [A, B, .row false (byts vs)] ∧ vs.length = 65537 ∧ ∀ j, j < i → vs[j]? = some (true, true)) ∧ e = mkEnv 20 [(1, .ptr σ.length 0), (2, .ptr (σ.length + 1) 0), (4, .ptr (σ.length + 2) 0), (10, .int .i64 i)]) _ ?_ ⟨⟨V, rfl, hVl, fun j hj => by omega⟩, rfl⟩ ?_
    · simp [mkEnv, List.replicate]
    rintro i _ _ hi ⟨⟨vs, rfl, hvl, hvs⟩, rfl⟩
    simp [mkEnv, List.replicate]
    by_cases hlt : i < 65537
    · have hlt' : (i : Int) < 65537 := by omega
      have es : IntKind.i64.wrap ((i : Int) + 1) = (i : Int) + 1 := by rw [wrap_small] <;> omega
      have hst := store_byt (σ := σ ++ [A, B, .row false (byts vs)]) (id := σ.length + 2) (i := i) (bs := vs) (b := (true, true)) (c := 3) (by rw [List.getElem?_append_right (by omega)]; simp) (by omega) rfl
      simp [hlt, hlt', hst, es]
      refine forK_go _ hlt (by simp [mkEnv, List.replicate]) ⟨⟨vs.set i (true, true), ?_, by simp [hvl], fun j hj => ?_⟩, rfl⟩
      · simp
      · by_cases e : i = j
        · subst e; rw [List.getElem?_set_self (by omega)]
        · rw [List.getElem?_set_ne e]; exact hvs j (by omega)
    · have : i = 65537 := by omega
      subst this
      have hv : SgV vs fullS := ⟨hvl, fun i hi => hvs i hi⟩
      have hl1 : gload (.load 3 true) [.ptr σ.length 0] (σ ++ [A, B, .row false (byts vs)]) = some n.enc := by simp [gload, ← hA]
      simp [hl1]
      have hsh := shut_full hm
      refine enc_formula_ok hm hG (ro := false) (vs := vs) (by rw [List.getElem?_append_right (by omega)]; simp) hv hsh ?_
      have e : netZ n fullS = fmlZ n fullS := if_pos hm
      rw [e]
      simp [← hB]
      exact .same _
end Go.Gh
namespace Go.Gh
open Go.RowKit Go.Proofs
set_option linter.unusedVariables false
set_option linter.unusedSimpArgs false
set_option maxRecDepth 100000
theorem lensB_take (p : List Blk) (i : Nat) : (p.take i).length ≤ p.length := by rw [List.length_take]; omega
set_option maxHeartbeats 1000000 in
theorem r12_behind_ok {p : List Blk} {vs : List Int} {N : Nat} {sV : DV} {σ : GS} {Post : DV → GS → Prop} (hV : Own N 1 eint σ sV vs) (hN : N ≤ σ.length) (hp : lensB p < 2 ^ 38) (hvl : vs.length < 2 ^ 38)
    (k : ∀ s' σ', Jn N σ' s' (behindB p vs) → Fr σ.length σ σ' → Post s' σ') : GCall Tryz.prog F_skolemref12_behind [fblks p, sV] σ Post := by
  refine gc_skolemref12_behind ?_
  have hpn : p.length < 2 ^ 38 := by have := lensB_flat p; omega
  simp [G_skolemref12_behind, genv0, List.replicate]
  refine gfor p.length (fun i e σ' => ∃ s r, Fr σ.length σ σ' ∧ JnR σ.length σ' s r (p.take i) ∧ e = mkEnv 66 [(0, fblks p), (1, sV), (5, s), (6, .int .i64 i)]) _ ?_ ⟨.nils, [], .rfl', ⟨.nil, rfl, fun i r b h => by simp at h, fun i j r r' _ h => by simp at h⟩, rfl⟩ ?_
  · simp [mkEnv, List.replicate]
  rintro i _ σ1 hi ⟨s, r, hF, hJ, rfl⟩
  simp [mkEnv, List.replicate]
  have hlen := hJ.own.len
  by_cases hlt : i < p.length
  · obtain ⟨b, hb⟩ := nth_lt hlt
    have hb' := nth_get hb
    have hbl := lensB_mem (List.mem_of_getElem? hb')
    have es : IntKind.i64.wrap ((i : Int) + 1) = (i : Int) + 1 := by rw [wrap_small] <;> omega
    obtain ⟨s2, σ2, a1, a2, a3, a4, a5, a6, _⟩ := (Own.nil (n := σ1.length) (sz := 1) (enc := eint) (σ := σ1)).append (by_ := 8) (x := fints b.2) (ys := b.2) (fun _ => rfl) (by rw [gread_fsl]; rfl) (by simp [glen]) (fun _ _ => rfl) (Nat.le_refl _) (by simp; omega) (by decide)
    have hl1 := hF.len
    have hJ2 : JnR σ.length σ2 s r (p.take i) := hJ.low fun j _ h2 => a5 j h2 fun hh => by obtain ⟨_, _, _, _, e⟩ := hh; cases e
    have hgrow : ((p.take i).length + 1) * 32 ≤ 140737488355328 := by have := lensB_take p i; omega
    obtain ⟨s3, σ3, q1, q2, q3, q4⟩ := hJ2.push (e := b.1) (a2.weaken hl1) (fun k hk hk' => by have := a2.has_ge hk; have := hJ.own.has_lt hk'; omega) (fun j r hr k hk hk' => by have := (hJ.ge hr hk).2; have := a2.has_ge hk'; omega) (by omega) hgrow
    have hgf : gfill [(0, 1), (1, 1)] [.bool false, DV.nils] [.bool b.1, s2] = some [.bool b.1, s2] := by simp [gfill, cells_of_flat a2.flat, cells_of_flat (v := .bool b.1) rfl, over]
    have hgb : ∀ e, galloc (.bslice 2 [.bool false, .nils] 1 [(0, 2)]) [.agg [.bool e, s2]] = some (.row false [.bool e, s2], fun id => .slice id 0 1 2 (some 1)) := fun e => rfl
    simp [hlt, hb, a1, hgf, hgb, q1, es]
    refine forK_go _ hlt (by simp [mkEnv, List.replicate]) ⟨s3, r ++ [(b.1, s2)], (hF.trans (a3.mono hl1)).trans q3, by rw [take_get hb']; exact q2, rfl⟩
  · have : i = p.length := by omega
    subst this
    rw [List.take_length] at hJ
    rw [hJ.len] at hlen
    have hl1 := hF.len
    have ew : IntKind.i64.wrap ((p.length : Int) - 1) = (p.length : Int) - 1 := by rw [wrap_small] <;> omega
    have hV1 : Own N 1 eint σ1 sV vs := hV.fit fun i hi => hF.get i (hV.has_lt hi)
    have hvlen := hV1.len
    simp [hlen, ew]
    by_cases hv0 : vs = []
    · have hq : behindB p vs = p := if_pos hv0
      rw [hv0] at hvlen
      simp [hvlen]
      exact k _ _ (by rw [hq]; exact ⟨_, hJ.weaken hN⟩) hF
    have hp0 : ¬ vs.length = 0 := by have := List.length_pos_iff.2 hv0; omega
    obtain ⟨s6, S6, q1, q2, q3, q4, q5⟩ := hJ.pushOld (N := N) (e := true) hN hV1 (fun k hk => hV.has_lt hk) hl1 (by omega)
    have hgfv : gfill [(0, 1), (1, 1)] [.bool false, DV.nils] [.bool true, sV] = some [.bool true, sV] := by simp [gfill, cells_of_flat hV1.flat, cells_of_flat (v := .bool true) rfl, over]
    have hgbv : ∀ e, galloc (.bslice 2 [.bool false, .nils] 1 [(0, 2)]) [.agg [.bool e, sV]] = some (.row false [.bool e, sV], fun id => .slice id 0 1 2 (some 1)) := fun e => rfl
    have kp : behindB p vs = p ++ [(true, vs)] → Post s6 S6 := fun hq => k _ _ (by rw [hq]; exact ⟨_, q2⟩) (hF.trans ⟨q3, q4⟩)
    by_cases h0 : p = []
    · have hq : behindB p vs = p ++ [(true, vs)] := by unfold behindB; rw [if_neg hv0, h0]; rfl
      simp [hvlen, hp0, h0, hgfv, hgbv, q1]
      exact kp hq
    obtain ⟨m, hml⟩ : ∃ m, p.length = m + 1 := ⟨p.length - 1, by have := List.length_pos_iff.2 h0; omega⟩
    obtain ⟨b, hb⟩ := get_lt (xs := p) (i := m) (by omega)
    obtain ⟨rr, hr1, hr2, hr3, hr4⟩ := hJ.get hb
    obtain ⟨oid, o1, o2, o3, o4⟩ := hJ.own.get (fun _ => rfl) hr1 (k := .i64)
    have o40 := o4 0 (by omega)
    have o41 := o4 1 (by omega)
    simp at o40 o41
    rw [hr2] at o40
    have hb' : p[p.length - 1]? = some b := by rw [hml]; exact hb
    have em : (p.length : Int) - 1 = (m : Int) := by omega
    have ewm : IntKind.i64.wrap (m : Int) = (m : Int) := by rw [wrap_small] <;> omega
    cases hbx : b.1 with
    | false =>
      rw [hbx] at o40
      have hq : behindB p vs = p ++ [(true, vs)] := by unfold behindB; rw [if_neg hv0, hb']; simp [hbx]
      simp [hvlen, hp0, em, o2, o40, hgfv, hgbv, q1]
      exact kp hq
    | true =>
      rw [hbx] at o40
      have hq : behindB p vs = p.set m (b.1, b.2 ++ vs) := by unfold behindB; rw [if_neg hv0, hb']; simp [hbx, hml]
      obtain ⟨d1, d2⟩ := hV1.read fun _ => rfl
      have hbl2 := lensB_mem (List.mem_of_getElem? hb)
      obtain ⟨s8, S8, a1, a2, a3, a4, a5, a6, _⟩ := hr3.append (by_ := 8) (x := sV) (ys := vs) (fun _ => rfl) d1 d2 (fun _ _ => rfl) hl1 (by omega) (by decide)
      obtain ⟨gid, S9, b1, b2, b3, b4, b5⟩ := hJ.grow hr1 hb a2 a5 a6
      have f9 := b4 (by omega)
      have hid : gid = oid := by
        have := b1.symm.trans o2
        simp at this; exact this
      subst hid
      simp [hvlen, hp0, em, o2, o40, o41, a1, b2]
      exact k _ _ (by rw [hq]; exact ⟨_, b3.weaken hN⟩) ((hF.trans a3).trans f9)
end Go.Gh
