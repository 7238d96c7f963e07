/-
  Proved: enc's formulas of nets.
  Part 2 of 10. Conditions: none. A verified frame that runs compiled texts over a ghost heap, the contracts of the functions that the statement reaches, and the plain law.
-/
import Derived.Test.YtdpbcckkdccmlaaGreatXN1
import Derived.RangeFuncCalls
namespace Go.Gh
open Go.RowKit
set_option linter.unusedVariables false
set_option linter.unusedSimpArgs false

section
variable {P : Program} {N : Nat} {w0 : World} {ρ : Ren} {σ : GS} {w : World}

/-- A new row at the end, read off lists. -/
theorem Rel.fresh_row (h : Rel N w0 ρ σ w) (cs : List DV) {rs : List Value} (hr : VRs ρ cs rs) (rest : Array Value) (e : TypeId) :
    Rel N w0 (ρ.put σ.length ⟨w.heap.size, 0, (rs.toArray ++ rest).size⟩) (σ ++ [.row false cs]) (w.alloc (.cells (rs.toArray ++ rest) e (0, 0))) := by
  refine (h.ghosts [.row false cs]).lay_row (id := σ.length) (cs := cs) (by simp) (h.none_at (Nat.le_refl _)) ?_ (by have := hr.length; simp; omega) e
  intro j v hv
  obtain ⟨y, hy, hq⟩ := hr.get hv
  refine ⟨y, ?_, hq⟩
  have hlt : j < rs.length := by
    rcases Nat.lt_or_ge j rs.length with h' | h'
    · exact h'
    · rw [List.getElem?_eq_none h'] at hy; cases hy
  rw [Array.getElem?_append_left (by simpa using hlt)]
  simpa using hy

theorem gappend_sound {ats : Array TypeId} {ty t t2 e e2 : TypeId} {sz b : Nat} (h0 : ats[0]? = some t) (h1 : ats[1]? = some t2) (ht : P.underlying t = some (.slice e)) (ht2 : P.underlying t2 = some (.slice e2)) (hs : sizeD P e = some sz)
    (hb : (P.info? e).map (·.bytes) = some b) {z : List DV} (hz : zeroD P e = some z) (hzz : z.length = sz) {args : Array Value} {rs rx : Value} (a0 : args[0]? = some rs) (a1 : args[1]? = some rx) {s x d : DV} {σ' : GS}
    (hg : gappend sz b s x σ = some (d, σ')) (hrs : VR ρ s rs) (hrx : VR ρ x rx) (h : Rel N w0 ρ σ w) :
    ∃ rv w' ρ', (Builtin.append_ ats ty args).run P w = .ok rv w' ∧ Rel N w0 ρ' σ' w' ∧ Ext σ.length ρ w ρ' w' ∧ VR ρ' d rv := by
  have hdr : SameMem w { w with drawn := w.drawn + 1 } := SameMem.drawn _ _
  have hD := h.same hdr
  unfold gappend at hg
  split at hg
  · cases hg
  · rename_i new hnew
    obtain ⟨hlen, hnl, hfc⟩ := gread_run (P := P) hnew hrx h
    obtain ⟨_, _, hfcD⟩ := gread_run (P := P) hnew hrx hD
    have htk : new.take (glen x * sz) = new := by rw [List.take_of_length_le (by omega)]
    obtain ⟨rnew, hrn1, hrn2⟩ := hfc (glen x) (Nat.le_refl _)
    obtain ⟨rnewD, hrn1D, hrn2D⟩ := hfcD (glen x) (Nat.le_refl _)
    rw [htk] at hrn2 hrn2D
    have hnlen := hrn2.length
    -- nothing is appended
    have hzero : ∀ {base : Option Addr} {len c : Nat}, rs = .slice base len c → len ≤ c → glen x = 0 → (Builtin.append_ ats ty args).run P w = .ok rs w := by
      intro base len c he hle hx0
      subst he
      have hn0 : rnew = [] := by
        have : new.length = 0 := by rw [hnl, hx0]; simp
        exact List.length_eq_zero_iff.1 (by omega)
      subst hn0
      have := append_here (P := P) (w := w) (w' := w) (ty := ty) h0 h1 ht ht2 hs a0 a1 hlen hrn1 (by omega) (fun a _ => by simp [storeCells]) (fun _ => rfl)
      rw [this, hx0]; rfl
    -- a new row
    have hgrown : ∀ {base : Option Addr} {len c : Nat} {old : List DV} {rold : List Value}, rs = .slice base len c → len ≤ c → c < len + glen x → growOk (len + glen x) b = true → old.length = len * sz →
        (Builtin.firstCells sz len rs).run P { w with drawn := w.drawn + 1 } = .ok rold.toArray { w with drawn := w.drawn + 1 } → VRs ρ old rold →
        ∃ rv w' ρ', (Builtin.append_ ats ty args).run P w = .ok rv w' ∧ Rel N w0 ρ' (σ ++ [.row false (old ++ new)]) w' ∧ Ext σ.length ρ w ρ' w' ∧ VR ρ' (.slice σ.length 0 (len + glen x) sz none) rv := by
      intro base len c old rold he hle hlt hgr holen hro hold
      subst he
      obtain ⟨cap, rest, q1, q2, q3⟩ := append_new (P := P) (w := w) (ty := ty) h0 h1 ht ht2 hs hb hz a0 a1 hlen hle hlt hgr hro hrn1D
      have hfr := hD.fresh_row (old ++ new) (hold.append hrn2D) rest e
      rw [show (rold ++ rnewD).toArray = rold.toArray ++ rnewD.toArray by simp] at hfr
      refine ⟨_, _, _, q3, hfr, Ext.same hdr (Ext.laid (Nat.le_refl _) _ _ _), ?_⟩
      · simp only [VR]
        have hl1 := hold.length
        have hl2 := hrn2D.length
        refine ⟨_, _, cap, Ren.put_same _ _ _, rfl, q1, fun _ => by simp, fun c' hc' => (by cases hc'), ?_⟩
        simp only [List.append_toArray, List.size_toArray, List.length_append, Array.size_append, q2, hzz]
        have e3 : cap * sz = (len + glen x) * sz + (cap - (len + glen x)) * sz := by rw [← Nat.add_mul]; congr 1; omega
        rw [Nat.add_mul] at e3
        omega
    split at hg
    · -- onto nil
      have := hrs.nils_inv
      split at hg
      · rename_i hx0; cases hg
        refine ⟨rs, w, ρ, hzero this (Nat.le_refl _) hx0, h, Ext.refl _ _ _, hrs⟩
      · rename_i hx0
        split at hg
        · rename_i hgr
          cases hg
          have := hgrown (old := []) (rold := []) this (Nat.le_refl _) (by omega) (by simpa using hgr) (by simp) (by subst this; simp [Builtin.firstCells]) VRs.nil
          simpa using this
        · cases hg
    · -- onto a slice
      rename_i id off len sz' cap
      obtain ⟨L, a, c, hL, he, g1, g2, g3, g4⟩ := hrs.slice_inv
      split at hg
      · rename_i hx0; cases hg
        exact ⟨rs, w, ρ, hzero he g1 hx0, h, Ext.refl _ _ _, hrs⟩
      · rename_i hx0
        split at hg
        case isFalse => cases hg
        rename_i hsz; subst hsz
        split at hg
        · -- the capacity is known
          rename_i cc
          have hcc := g3 cc rfl
          split at hg
          · rename_i hfit
            split at hg
            · rename_i cs hrow
              split at hg
              · rename_i hcond
                obtain ⟨k1, k2⟩ := hcond
                cases hg
                have ha := g2 (by omega)
                have hmul : (len + glen x) * sz' = len * sz' + glen x * sz' := Nat.add_mul _ _ _
                obtain ⟨w', s1, s2, s3⟩ := h.store (P := P) hL hrow (off := off + len * sz') (new := new) (by omega) hrn2 k2
                have hrun := append_here (P := P) (w := w) (w' := w') (ty := ty) h0 h1 ht ht2 hs (he ▸ a0) a1 hlen hrn1 (by omega) (fun a' ha' => by
                  rw [ha] at ha'; cases ha'
                  rw [show (⟨L.blk, L.off + off, none⟩ : Addr).add (len * sz') = ⟨L.blk, L.off + (off + len * sz'), none⟩ by unfold Addr.add; split <;> simp_all [Nat.add_assoc]]
                  exact s1) (fun hn => by rw [ha] at hn; cases hn)
                refine ⟨_, w', ρ, hrun, s2, Ext.row h hL hrow s3, ?_⟩
                simp only [VR]
                exact ⟨L, a, c, hL, rfl, by omega, g2, fun c' hc' => by cases hc'; exact hcc, g4⟩
              · cases hg
            · cases hg
          · rename_i hfit
            split at hg
            · rename_i old hold
              split at hg
              · rename_i hgr
                cases hg
                obtain ⟨_, ho1, ho2⟩ := gread_run (P := P) hold hrs hD
                obtain ⟨rold, ho3, ho4⟩ := ho2 len (Nat.le_refl _)
                simp only [glen] at ho1
                rw [List.take_of_length_le (by omega)] at ho4
                exact hgrown he g1 (by omega) hgr ho1 ho3 ho4
              · cases hg
            · cases hg
        · -- the capacity is not known
          split at hg
          · rename_i cs old hrow hold
            split at hg
            · rename_i hcond
              obtain ⟨hgr, hflat⟩ := hcond
              cases hg
              obtain ⟨_, ho1, ho2⟩ := gread_run (P := P) hold hrs hD
              obtain ⟨rold, ho3, ho4⟩ := ho2 len (Nat.le_refl _)
              simp only [glen] at ho1
              rw [List.take_of_length_le (by omega)] at ho4
              rcases Nat.lt_or_ge c (len + glen x) with hlt | hge
              · obtain ⟨rv, w', ρ', r1, r2, r3, r4⟩ := hgrown he g1 hlt hgr ho1 ho3 ho4
                refine ⟨rv, w', ρ', r1, ?_, r3, r4⟩
                have := r2.kill id
                rwa [List.set_append_left _ _ (h.dom _ _ hL)] at this
              · -- in place
                have ha := g2 (by omega)
                obtain ⟨hcr, _, hown⟩ := h.row id L false cs hL hrow
                obtain ⟨hNL, hle, cur, tt, hgc, q4⟩ := hown rfl
                have hmul : (len + glen x) * sz' = len * sz' + glen x * sz' := Nat.add_mul _ _ _
                have hmul2 : (len + glen x) * sz' ≤ c * sz' := Nat.mul_le_mul_right _ hge
                -- what the old cells are
                have hold' : old = (cs.drop off).take (len * sz') := by
                  unfold gread at hold
                  simp only at hold
                  split at hold
                  · rename_i hl0; cases hold; simp [hl0]
                  · simp only [if_true, hrow] at hold
                    split at hold
                    · cases hold; rfl
                    · cases hold
                have hmv := h.move hL hrow off (by omega) (len * sz') (by omega)
                rw [← hold'] at hmv
                -- the cells are written behind the old ones
                have hrow2 : (σ.set id GObj.dead ++ [GObj.row false old])[σ.length]? = some (.row false old) := by simp
                have hst := run_storeCells_at P L.blk (L.off + (off + len * sz')) tt rnew 0 cur w hgc (by omega) (flat_all hrn2 hflat)
                have hle2 : Ren.le ρ (ρ.put σ.length ⟨L.blk, L.off + off, L.ext - off⟩) := Ren.le_put (h.none_at (Nat.le_refl _)) _
                have hwr := hmv.write (id := σ.length) (L := ⟨L.blk, L.off + off, L.ext - off⟩) (cs' := old ++ new) (Ren.put_same _ _ _) hrow2 hgc
                  (cur' := (cur.toList.take (L.off + (off + len * sz') + 0) ++ rnew ++ cur.toList.drop (L.off + (off + len * sz') + 0 + rnew.length)).toArray) (by simp; omega) (by
                    intro j v hv
                    obtain ⟨hcm, _⟩ := hmv.row σ.length _ false old (Ren.put_same _ _ _) hrow2
                    simp only [Nat.add_zero, List.getElem?_toArray]
                    by_cases hj : j < old.length
                    · rw [List.getElem?_append_left hj] at hv
                      obtain ⟨rv, u1, u2⟩ := hcm j v hv
                      refine ⟨rv, ?_, u2⟩
                      rw [List.append_assoc, List.getElem?_append_left (by simp; omega), List.getElem?_take, if_pos (by omega)]
                      simp only [World.cell?, hgc] at u1
                      simpa using u1
                    · rw [List.getElem?_append_right (by omega)] at hv
                      obtain ⟨y, hy, hq⟩ := hrn2.get hv
                      refine ⟨y, ?_, VR.mono hle2 _ _ hq⟩
                      have hlt : j - old.length < rnew.length := by
                        rcases Nat.lt_or_ge (j - old.length) rnew.length with h' | h'
                        · exact h'
                        · rw [List.getElem?_eq_none h'] at hy; cases hy
                      rw [List.append_assoc, List.getElem?_append_right (by simp; omega)]
                      have e2 : (cur.toList.take (L.off + (off + len * sz'))).length = L.off + (off + len * sz') := by simp; omega
                      rw [e2, List.getElem?_append_left (by omega), ← hy]
                      congr 1; omega) (by simp; omega)
                have hrun := append_here (P := P) (w := w) (ty := ty) h0 h1 ht ht2 hs (he ▸ a0) a1 hlen hrn1 hge (fun a' ha' => by
                  rw [ha] at ha'; cases ha'
                  rw [show (⟨L.blk, L.off + off, none⟩ : Addr).add (len * sz') = ⟨L.blk, L.off + (off + len * sz'), none⟩ by unfold Addr.add; split <;> simp_all [Nat.add_assoc]]
                  exact hst) (fun hn => by rw [ha] at hn; cases hn)
                have e4 : (σ.set id GObj.dead ++ [GObj.row false old]).set σ.length (.row false (old ++ new)) = σ.set id .dead ++ [.row false (old ++ new)] := by
                  rw [List.set_append_right _ _ (by simp)]; simp
                rw [e4] at hwr
                have hext : Ext σ.length ρ w (ρ.put σ.length ⟨L.blk, L.off + off, L.ext - off⟩) (w.setRow L.blk (cur.toList.take (L.off + (off + len * sz') + 0) ++ rnew ++ cur.toList.drop (L.off + (off + len * sz') + 0 + rnew.length)).toArray) := by
                  refine ⟨⟨fun i hi => Ren.put_other _ _ (by omega), fun _ _ _ h => h⟩, fun i M hM => ?_, by simp, fun b hb hu => setRow_other w _ _ _ fun e => hu id L hL e.symm, fun b r hr => ⟨r, by rw [setRow_other w _ _ _ (fun e => by rw [e, hgc] at hr; cases hr)]; exact hr, rfl⟩⟩
                  by_cases hi : i = σ.length
                  · subst hi; rw [Ren.put_same] at hM; cases hM; exact .inl ⟨id, L, hL, rfl⟩
                  · rw [Ren.put_other _ _ hi] at hM; exact .inl ⟨i, M, hM, rfl⟩
                refine ⟨_, _, _, hrun, hwr, hext, ?_⟩
                · simp only [VR]
                  refine ⟨_, a, c, Ren.put_same _ _ _, rfl, hge, fun hc0 => by rw [g2 hc0]; simp, fun c' hc' => (by cases hc'), ?_⟩
                  simp only
                  omega
            · cases hg
          · cases hg
    · rename_i sz' es
      obtain ⟨b, o, c, a, vs, he, g1, _⟩ := hrs.fsl_inv
      split at hg
      · rename_i hx0; cases hg
        exact ⟨rs, w, ρ, hzero he g1 hx0, h, Ext.refl _ _ _, hrs⟩
      · cases hg
    · cases hg

theorem gimp_two {k : IK} (hk : (∃ s b, k = .append s b) ∨ (∃ s, k = .copy s) ∨ (∃ s, k = .mdel s)) {G : List DV} {σ : GS} {r : DV × GS} (h : gimp k G σ = some r) : ∃ s x, G = [s, x] := by
  rcases hk with ⟨s, b, rfl⟩ | ⟨s, rfl⟩ | ⟨s, rfl⟩
  all_goals
    rcases G with _ | ⟨a, _ | ⟨b, _ | ⟨c, l⟩⟩⟩
    · simp [gimp] at h
    · simp [gimp] at h
    · exact ⟨a, b, rfl⟩
    · simp [gimp] at h
theorem sameBits_key {kt : KT} {x : DV} (hf : keyFits kt x = true) {u v : Value} (hu : VR ρ x u) (hv : VR ρ x v) : Instr.keyThatStays u v = pure v := by
  have hs : Instr.sameBits 10000 u v = true := by
    unfold keyFits at hf
    split at hf
    · rw [hu.int_inv, hv.int_inv]; simp [Instr.sameBits]
    · obtain ⟨l, hl, rfl⟩ := hu.agg_inv
      obtain ⟨l', hl', rfl⟩ := hv.agg_inv
      rw [hl.two_ints, hl'.two_ints]
      have e : ∀ a b : Value, Instr.sameBits 10000 a b = Instr.sameBits (9998 + 1 + 1) a b := fun _ _ => rfl
      rw [e]
      generalize 9998 = dep
      simp [Instr.sameBits]
    · cases hf
  unfold Instr.keyThatStays
  rw [if_pos hs]

/-- append of a number of zeros onto nil. -/
theorem appendz_run {ats : Array TypeId} {ty t t2 e : TypeId} {sz b : Nat} {k2 : IntKind} (h0 : ats[0]? = some t) (h1 : ats[1]? = some t2) (ht : P.underlying t = some (.slice e)) (ht2 : P.underlying t2 = some (.int k2)) (hs : sizeD P e = some sz)
    (hb : (P.info? e).map (·.bytes) = some b) {z : List DV} (hz : zeroD P e = some z) (hzz : z.length = sz) (hz0 : sz ≠ 0) {args : Array Value} {k : IntKind} {n : Int} (a0 : args[0]? = some (.slice none 0 0)) (a1 : args[1]? = some (.int k n)) (hn : 0 < n) (hg : growOk n.toNat b = true) (h : Rel N w0 ρ σ w) :
    ∃ rv w' ρ', (Builtin.append_ ats ty args).run P w = .ok rv w' ∧ Rel N w0 ρ' (σ ++ [.row false (gzeros z (n.toNat * sz))]) w' ∧ Ext σ.length ρ w ρ' w' ∧ VR ρ' (.slice σ.length 0 n.toNat sz none) rv := by
  obtain ⟨i0, hi0, hbb⟩ : ∃ i0, P.info? e = some i0 ∧ i0.bytes = b := by
    cases hq : P.info? e with
    | none => simp [hq] at hb
    | some i0 => exact ⟨i0, rfl, by simpa [hq] using hb⟩
  simp only [growOk, Bool.and_eq_true, decide_eq_true_eq, bne_iff_ne, ne_eq] at hg
  obtain ⟨m, rfl⟩ : ∃ m : Nat, n = m := ⟨n.toNat, by omega⟩
  simp only [Int.toNat_natCast] at hg ⊢
  have hm : m * 1 ≤ m * b := Nat.mul_le_mul_left _ (by omega)
  have hfits := growslice_fits (need := m) (old := 0) (by omega) hg.1
  have hdr : SameMem w { w with drawn := w.drawn + 1 } := SameMem.drawn _ _
  have hD := h.same hdr
  obtain ⟨zv, hz1, hz2⟩ := zeroD_run (ρ := ρ) hz { w with drawn := w.drawn + 1 }
  have hzl : zv.cells.size = z.length := by simpa using hz2.length
  have hnz : m * sz ≠ 0 := Nat.mul_ne_zero (by omega) hz0
  have hzs := gzeros_sound (m := m * sz) hz2 (by omega)
  have hzc : Builtin.zeroCells zv.cells m = (Array.range (m * sz)).map (fun i => zv.cells[i % zv.cells.size]!) := by unfold Builtin.zeroCells; rw [hzl, hzz]
  rw [← hzc] at hzs
  have hwr : IntKind.i64.wrap (m : Int) = m := wrap_i64_in (by omega) (by omega)
  refine ⟨.slice (some ⟨w.heap.size, 0, none⟩) m ((Question.appendCap m 0 e).cut (w.tape w.drawn (.appendCap m 0 e))), _, _, ?_, hD.fresh_row (gzeros z (m * sz)) hzs (Builtin.zeroCells zv.cells ((Question.appendCap m 0 e).cut (w.tape w.drawn (.appendCap m 0 e)) - m)) e, Ext.same hdr (Ext.laid (Nat.le_refl _) _ _ _), ?_⟩
  · unfold Builtin.append_
    simp only [h0, a0, a1, h1, Sem.run_bind, under_run ht, under_run ht2, sizeD_run hs, Result.andThen_ok, Sem.run_pure]
    simp only [if_true, Sem.run_bind, asInt, asIntOf, Sem.run_pure, Result.andThen_ok, hwr, typeInfo, run_program, hi0, hbb, Bool.not_true, Bool.false_eq_true, if_false]
    rw [if_neg (by omega)]
    simp only [Sem.run_bind, Result.andThen_ok, Sem.run_pure, typeInfo, run_program, hi0, hbb]
    rw [if_neg (by omega)]
    simp only [Sem.run_pure, Result.andThen_ok, Int.toNat_natCast, Nat.zero_add, Sem.run_bind]
    rw [if_neg (by omega)]
    simp only [Sem.run_bind, Result.andThen_ok, Sem.run_pure, run_program, hi0, hbb]
    have hi64 : IntKind.i64.max = 9223372036854775807 := by decide
    rw [if_neg (by rw [hi64]; omega)]
    simp only [Sem.run_bind, Result.andThen_ok, Sem.run_pure, run_program, hi0, hbb]
    rw [if_neg (by omega)]
    simp only [Sem.run_bind, run_choose, Question.forced, Bool.false_eq_true, if_false, Result.andThen_ok, run_program, hi0, Sem.run_pure, run_askRoom, if_neg hnz, hz1]
    have hz1' : (zeroValue e).run P w.drew = .ok zv w.drew := hz1
    simp [Builtin.firstCells, hz1']
    rfl
  · simp only [VR]
    have hc : m ≤ (Question.appendCap m 0 e).cut (w.tape w.drawn (.appendCap m 0 e)) := by simp [Question.cut]
    refine ⟨_, _, _, Ren.put_same _ _ _, rfl, hc, fun _ => by simp, fun c' hc' => (by cases hc'), ?_⟩
    have e3 : (Question.appendCap m 0 e).cut (w.tape w.drawn (.appendCap m 0 e)) * sz = m * sz + ((Question.appendCap m 0 e).cut (w.tape w.drawn (.appendCap m 0 e)) - m) * sz := by rw [← Nat.add_mul]; congr 1; omega
    simp only [List.size_toArray, Array.size_append, Builtin.zeroCells, Array.size_map, Array.size_range, hzl, hzz, Array.length_toList]
    omega
/-- append of a number of zeros onto a slice that has no room for them. -/
theorem appendz_new {ats : Array TypeId} {ty t t2 e : TypeId} {sz b : Nat} {k2 : IntKind} (h0 : ats[0]? = some t) (h1 : ats[1]? = some t2) (ht : P.underlying t = some (.slice e)) (ht2 : P.underlying t2 = some (.int k2)) (hs : sizeD P e = some sz)
    (hb : (P.info? e).map (·.bytes) = some b) {z : List DV} (hz : zeroD P e = some z) (hzz : z.length = sz) (hz0 : sz ≠ 0) {args : Array Value} {k : IntKind} {n : Int} {base : Option Addr} {len c : Nat} (a0 : args[0]? = some (.slice base len c)) (a1 : args[1]? = some (.int k n)) (hn : 0 < n) (hfit : c < len + n.toNat) (hg : growOk (len + n.toNat) b = true)
    {cs : List DV} {old : List Value} (ho : (Builtin.firstCells sz len (.slice base len c)).run P { w with drawn := w.drawn + 1 } = .ok old.toArray { w with drawn := w.drawn + 1 }) (hold : VRs ρ cs old) (hcl : cs.length = len * sz) (h : Rel N w0 ρ σ w) :
    ∃ rv w' ρ', (Builtin.append_ ats ty args).run P w = .ok rv w' ∧ Rel N w0 ρ' (σ ++ [.row false (cs ++ gzeros z (n.toNat * sz))]) w' ∧ Ext σ.length ρ w ρ' w' ∧ VR ρ' (.slice σ.length 0 (len + n.toNat) sz none) rv := by
  obtain ⟨i0, hi0, hbb⟩ : ∃ i0, P.info? e = some i0 ∧ i0.bytes = b := by
    cases hq : P.info? e with
    | none => simp [hq] at hb
    | some i0 => exact ⟨i0, rfl, by simpa [hq] using hb⟩
  simp only [growOk, Bool.and_eq_true, decide_eq_true_eq, bne_iff_ne, ne_eq] at hg
  obtain ⟨m, rfl⟩ : ∃ m : Nat, n = m := ⟨n.toNat, by omega⟩
  simp only [Int.toNat_natCast] at hg hfit ⊢
  have hm1 : m * b ≤ (len + m) * b := Nat.mul_le_mul_right _ (by omega)
  have hm : m * 1 ≤ m * b := Nat.mul_le_mul_left _ (by omega)
  have hm2 : (len + m) * 1 ≤ (len + m) * b := Nat.mul_le_mul_left _ (by omega)
  have hfits := growslice_fits (need := len + m) (old := c) hfit hg.1
  have hdr : SameMem w { w with drawn := w.drawn + 1 } := SameMem.drawn _ _
  have hD := h.same hdr
  obtain ⟨zv, hz1, hz2⟩ := zeroD_run (ρ := ρ) hz { w with drawn := w.drawn + 1 }
  have hzl : zv.cells.size = z.length := by simpa using hz2.length
  have hnz : m * sz ≠ 0 := Nat.mul_ne_zero (by omega) hz0
  have hzs := gzeros_sound (m := m * sz) hz2 (by omega)
  have hzc : Builtin.zeroCells zv.cells m = (Array.range (m * sz)).map (fun i => zv.cells[i % zv.cells.size]!) := by unfold Builtin.zeroCells; rw [hzl, hzz]
  rw [← hzc] at hzs
  have hwr : IntKind.i64.wrap (m : Int) = m := wrap_i64_in (by omega) (by omega)
  have hfr := hD.fresh_row (cs ++ gzeros z (m * sz)) (hold.append hzs) (Builtin.zeroCells zv.cells ((Question.appendCap (len + m) c e).cut (w.tape w.drawn (.appendCap (len + m) c e)) - (len + m))) e
  refine ⟨.slice (some ⟨w.heap.size, 0, none⟩) (len + m) ((Question.appendCap (len + m) c e).cut (w.tape w.drawn (.appendCap (len + m) c e))), _, _, ?_, hfr, Ext.same hdr (Ext.laid (Nat.le_refl _) _ _ _), ?_⟩
  · unfold Builtin.append_
    simp only [h0, a0, a1, h1, Sem.run_bind, under_run ht, under_run ht2, sizeD_run hs, Result.andThen_ok, Sem.run_pure]
    simp only [if_true, Sem.run_bind, asInt, asIntOf, Sem.run_pure, Result.andThen_ok, hwr, typeInfo, run_program, hi0, hbb, Bool.not_true, Bool.false_eq_true, if_false]
    rw [if_neg (by omega)]
    simp only [Sem.run_bind, Result.andThen_ok, Sem.run_pure, typeInfo, run_program, hi0, hbb]
    rw [if_neg (by have := hg.1; omega)]
    simp only [Sem.run_pure, Result.andThen_ok, Int.toNat_natCast, Sem.run_bind]
    rw [if_neg (by omega)]
    simp only [Sem.run_bind, Result.andThen_ok, Sem.run_pure, run_program, hi0, hbb]
    have hi64 : IntKind.i64.max = 9223372036854775807 := by decide
    rw [if_neg (by rw [hi64]; omega)]
    simp only [Sem.run_bind, Result.andThen_ok, Sem.run_pure, run_program, hi0, hbb]
    rw [if_neg (by omega)]
    simp only [Sem.run_bind, run_choose, Question.forced, Bool.false_eq_true, if_false, Result.andThen_ok, run_program, hi0, Sem.run_pure, run_askRoom, if_neg hnz, ho, hz1]
    have hz1' : (zeroValue e).run P w.drew = .ok zv w.drew := hz1
    simp [hz1']
    have hA : ∀ (Z R : Array Value), (old ++ Z.toList).toArray ++ R = old.toArray ++ (Z ++ R) := fun Z R => by
      apply Array.ext'; simp
    rw [hA]
    rfl
  · simp only [VR]
    have hc : len + m ≤ (Question.appendCap (len + m) c e).cut (w.tape w.drawn (.appendCap (len + m) c e)) := by simp [Question.cut]
    refine ⟨_, _, _, Ren.put_same _ _ _, rfl, hc, fun _ => by simp, fun c' hc' => (by cases hc'), ?_⟩
    have e3 : (Question.appendCap (len + m) c e).cut (w.tape w.drawn (.appendCap (len + m) c e)) * sz = (len + m) * sz + ((Question.appendCap (len + m) c e).cut (w.tape w.drawn (.appendCap (len + m) c e)) - (len + m)) * sz := by rw [← Nat.add_mul]; congr 1; omega
    have e4 := hold.length
    have e5 : (len + m) * sz = len * sz + m * sz := Nat.add_mul _ _ _
    have e6 := hzs.length
    simp only [List.size_toArray, Array.size_append, List.length_append, Builtin.zeroCells, Array.size_map, Array.size_range, hzl, hzz, Array.length_toList]
    omega
theorem map_modify {α β : Type} {f : α → β} {g : α → α} (h : ∀ x, f (g x) = f x) : ∀ {l : List α} {i : Nat}, (l.modify i g).map f = l.map f
  | [], i => by cases i <;> rfl
  | x :: l, 0 => by simp [h]
  | x :: l, i + 1 => by simp [map_modify h]
theorem map_eraseIdx {α β : Type} {f : α → β} : ∀ {l : List α} {i : Nat}, (l.eraseIdx i).map f = (l.map f).eraseIdx i
  | [], i => rfl
  | x :: l, 0 => rfl
  | x :: l, i + 1 => by simp [map_eraseIdx]
theorem mset_sound {t kt0 et : TypeId} {kt : KT} (ht : P.underlying t = some (.map kt0 et)) (hkt : ktOf P kt0 = some kt) {m key x d : DV} {rm rk rx : Value} {σ' : GS} (hm : VR ρ m rm) (hk : VR ρ key rk) (hx : VR ρ x rx)
    (hg : gimp (.mset kt) [m, key, x] σ = some (d, σ')) (h : Rel N w0 ρ σ w) : ∃ w', (Instr.mapUpdate t rm rk rx).run P w = .ok () w' ∧ Rel N w0 ρ σ' w' ∧ d = .tuple [] ∧ Ext σ.length ρ w ρ w' := by
  cases m <;> simp only [gimp] at hg <;> try (cases hg; done)
  rename_i id
  split at hg
  · rename_i hf
    split at hg
    · rename_i es st hes
      simp only [VR] at hm
      obtain ⟨L, hL, rfl⟩ := hm
      obtain ⟨_, rs, hblk, hmr, hbo⟩ := h.mp id L es st hL hes
      have hget : (getObj L.blk).run P w = .ok (.map rs st.2) w := by simp [getObj, Sem.run, hblk]
      have hck := checkKey_run (P := P) hkt hf hk false w
      split at hg
      · rename_i i v0 hfi
        cases hg
        obtain ⟨r', q1, q2⟩ := findKey_run (P := P) hkt hk hmr hfi w
        cases r' with
        | none => exact q2.elim
        | some pr =>
          obtain ⟨j, vv⟩ := pr
          obtain ⟨rfl, hvv⟩ := q2
          obtain ⟨_, hei⟩ := gfind_some hfi
          simp only [Nat.sub_zero] at hei
          obtain ⟨e, he, hek, hev⟩ := hmr.get hei
          have hst := sameBits_key hf hek hk
          have hme : rs[i]? = some e := by simpa using he
          obtain ⟨s1, s2, s3⟩ := h.put_map (P := P) hL hes (rs := rs.modify i fun e => { e with key := rk, val := rx }) (st' := st) (es' := es.set i (key, x))
            (by rw [Array.toList_modify]; exact hmr.modify i fun e => ⟨hk, hx⟩) (by rw [Array.toList_modify]; exact (map_modify (f := fun (e : MapEntry) => e.born) (g := fun e => { e with key := rk, val := rx }) (fun _ => rfl)).trans hbo)
          refine ⟨_, ?_, s2, rfl, Ext.mp h hL hes s3⟩
          simp only [Instr.mapUpdate, Sem.run_bind, under_run ht, Result.andThen_ok, hget, hck, q1]
          simp [hme, hst, s1]
      · rename_i hfi
        cases hg
        obtain ⟨r', q1, q2⟩ := findKey_run (P := P) hkt hk hmr hfi w
        cases r' with
        | some _ => exact q2.elim
        | none =>
          obtain ⟨s1, s2, s3⟩ := h.put_map (P := P) hL hes (rs := rs.push { key := rk, val := rx, born := st.2 }) (st' := (st.1 ++ [st.2], st.2 + 1)) (es' := es ++ [(key, x)])
            (by rw [Array.toList_push]; exact hmr.append ⟨_, [], rfl, hk, hx, rfl⟩) (by rw [Array.toList_push, List.map_append, hbo]; rfl)
          refine ⟨_, ?_, s2, rfl, Ext.mp h hL hes s3⟩
          simp only [Instr.mapUpdate, Sem.run_bind, under_run ht, Result.andThen_ok, hget, hck, q1]
          exact s1
      · cases hg
    · cases hg
  · cases hg

/-- An operation that changes memory: what it does in the ghost run it does in the world. -/
theorem gimp_sound {o : Oper} {k : IK} (hk : ikOf P o = some k) {g : Operand → DV} {r : Operand → Value} (hr : ∀ x ∈ o.op.operands, VR ρ (g x) (r x)) {v : DV} {σ' : GS}
    (hv : gimp k (o.op.operands.toList.map g) σ = some (v, σ')) (h : Rel N w0 ρ σ w) :
    ∃ nx rv w' ρ', (execOp r o).run P w = .ok nx w' ∧ Plain nx rv ∧ Rel N w0 ρ' σ' w' ∧ Ext σ.length ρ w ρ' w' ∧ VR ρ' v rv := by
  obtain ⟨dst, op, type, pos, after, guard⟩ := o
  cases op
  all_goals simp only [ikOf] at hk
  all_goals try (cases hk; done)
  case store t a x =>
    obtain ⟨n, hn, rfl⟩ := Option.map_eq_some_iff.1 hk
    have h1 := hr a (by simp [Op.operands])
    have h2 := hr x (by simp [Op.operands])
    simp only [Op.operands, List.map_cons, List.map_nil] at hv
    cases hx : g a <;> simp only [hx, gimp] at hv <;> try (cases hv; done)
    rename_i id off
    rw [hx] at h1
    obtain ⟨L, hL, hp⟩ := h1.ptr_inv
    split at hv
    · rename_i cs new hrow hnew
      split at hv
      · rename_i hc
        obtain ⟨c1, c2, c3⟩ := hc
        cases hv
        have hcells := DV.cells_sound h2 hnew
        obtain ⟨w', s1, s2, s3⟩ := h.store (P := P) hL hrow (off := off) (new := new) (by omega) hcells c3
        refine ⟨.skip, undef, w', ρ, ?_, .skip, s2, Ext.row h hL hrow s3, by simp only [VR]; exact ⟨[], VRs.nil, rfl⟩⟩
        have hsz : (r x).cells.size = n := by rw [← len_of hcells]; exact c1
        simp only [execOp, Instr.storeAt, hp, Instr.sureAddr, Sem.run_bind, Sem.run_pure, Result.andThen_ok, storeVar, sizeD_run hn]
        rw [if_neg (by simp [hsz])]
        simp [s1]
      · cases hv
    · cases hv
  case mapUpdate t m kk x =>
    split at hk
    · rename_i kt0 et ht
      obtain ⟨kt, hkt, rfl⟩ := Option.map_eq_some_iff.1 hk
      simp only [Op.operands, List.map_cons, List.map_nil] at hv
      obtain ⟨w', h1, h2, rfl, h3⟩ := mset_sound (P := P) ht hkt (hr m (by simp [Op.operands])) (hr kk (by simp [Op.operands])) (hr x (by simp [Op.operands])) hv h
      exact ⟨.skip, undef, w', ρ, by simp [execOp, h1], .skip, h2, h3, by simp only [VR]; exact ⟨[], VRs.nil, rfl⟩⟩
    · cases hk
  case insert t m kk x =>
    split at hk
    · rename_i kt0 et ht
      obtain ⟨kt, hkt, rfl⟩ := Option.map_eq_some_iff.1 hk
      simp only [Op.operands, List.map_cons, List.map_nil] at hv
      obtain ⟨w', h1, h2, rfl, h3⟩ := mset_sound (P := P) ht hkt (hr m (by simp [Op.operands])) (hr kk (by simp [Op.operands])) (hr x (by simp [Op.operands])) hv h
      exact ⟨.skip, undef, w', ρ, by simp [execOp, h1], .skip, h2, h3, by simp only [VR]; exact ⟨[], VRs.nil, rfl⟩⟩
    · cases hk
  case range t m =>
    split at hk
    · rename_i kt0 et ht
      cases hk
      have h1 := hr m (by simp [Op.operands])
      simp only [Op.operands, List.map_cons, List.map_nil] at hv
      cases hx : g m <;> simp only [hx, gimp] at hv <;> try (cases hv; done)
      · cases hv
        rw [hx] at h1
        have hlay := (h.ghosts [.it none 0 [] 0]).lay_obj (id := σ.length) (o := .it none 0 [] 0) (by simp) (h.none_at (Nat.le_refl _)) rfl (x := .mapIter none 0 #[] 0) ⟨none, rfl, rfl, rfl⟩
        refine ⟨.value (.pointer (some ⟨w.heap.size, 0, none⟩)), .pointer (some ⟨w.heap.size, 0, none⟩), _, _, ?_, .value _, hlay, Ext.laid (Nat.le_refl _) _ _ _, ?_⟩
        · simp only [execOp, Instr.range, h1.nilmap_inv, Sem.run_bind, under_run ht, Result.andThen_ok, Sem.run_pure]; rfl
        · simp only [VR]; exact ⟨_, Ren.put_same _ _ _, by simp⟩
      · rename_i id
        rw [hx] at h1
        split at hv
        · rename_i es st hes
          cases hv
          simp only [VR] at h1
          obtain ⟨L, hL, hp⟩ := h1
          obtain ⟨_, rs, hblk, hmr, hbo⟩ := h.mp id L es st hL hes
          have hget : (getObj L.blk).run P w = .ok (.map rs st.2) w := by simp [getObj, Sem.run, hblk]
          have hne : id ≠ σ.length := by have := h.dom id L hL; omega
          have hle := Ren.le_put (h.none_at (Nat.le_refl σ.length)) ⟨w.heap.size, 0, 0⟩
          have hlay := (h.ghosts [.it (some id) st.2 [] st.2]).lay_obj (id := σ.length) (o := .it (some id) st.2 [] st.2) (by simp) (h.none_at (Nat.le_refl _)) rfl (x := .mapIter (some L.blk) st.2 #[] st.2) ⟨some L.blk, rfl, rfl, L, hL, rfl⟩
          refine ⟨.value (.pointer (some ⟨w.heap.size, 0, none⟩)), .pointer (some ⟨w.heap.size, 0, none⟩), _, _, ?_, .value _, hlay, Ext.laid (Nat.le_refl _) _ _ _, ?_⟩
          · simp only [execOp, Instr.range, hp, Sem.run_bind, under_run ht, Result.andThen_ok, Sem.run_pure, hget]; rfl
          · simp only [VR]; exact ⟨_, Ren.put_same _ _ _, by simp⟩
        · cases hv
    · cases hk
  case call c =>
    obtain ⟨callee, args, ats⟩ := c
    cases callee with
    | value f => simp at hk
    | invoke rcv m => simp at hk
    | builtin b =>
      have hops : (Op.call ⟨.builtin b, args, ats⟩).operands = args := by simp [Op.operands, Call.operands]
      rw [hops] at hv hr
      have hvs : VRs ρ (args.toList.map g) (args.toList.map r) := by
        refine VRs.mk (by simp) fun i x hx => ?_
        simp only [List.getElem?_map, Option.map_eq_some_iff] at hx ⊢
        obtain ⟨y, hy, rfl⟩ := hx
        exact ⟨r y, ⟨y, hy, rfl⟩, hr y (by simpa using List.mem_of_getElem? hy)⟩
      have hex : ∀ rv w', (builtin b ats type (args.map fun | .const _ => true | _ => false) (args.map r)).run P w = .ok (.value rv) w' → (execOp r ⟨dst, .call ⟨.builtin b, args, ats⟩, type, pos, after, guard⟩).run P w = .ok (.value rv) w' := fun rv w' h => h
      have harr : args.map r = (args.toList.map r).toArray := by rw [← Array.toList_map]
      generalize hG : args.toList.map g = G at hv hvs
      generalize hR : args.toList.map r = R at hvs harr
      cases b <;> simp only at hk <;> try (cases hk; done)
      case append =>
        split at hk
        · rename_i t t2 ht0 ht1
          split at hk
          · rename_i e e2 ht ht2
            split at hk
            · rename_i s bb z hs hb hz
              split at hk
              · rename_i hcond
                cases hk
                obtain ⟨sd, xd, rfl⟩ := gimp_two (.inl ⟨_, _, rfl⟩) hv
                simp only [gimp] at hv
                · obtain ⟨y, z', rfl, hy, hz'⟩ := hvs.two_inv
                  obtain ⟨rv, w', ρ', q1, q2, q3, q4⟩ := gappend_sound (P := P) (ty := type) (args := args.map r) ht0 ht1 ht ht2 hs hb hz hcond.2 (by rw [harr]; rfl) (by rw [harr]; rfl) hv hy hz' h
                  exact ⟨.value rv, rv, w', ρ', hex rv w' (by simp [builtin, q1]), .value rv, q2, q3, q4⟩
              · cases hk
            · cases hk
          · rename_i e k2 ht ht2
            split at hk
            · rename_i s bb z hs hb hz
              split at hk
              · rename_i hcond
                cases hk
                rcases G with _ | ⟨x1, _ | ⟨x2, _ | ⟨x3, l⟩⟩⟩
                · simp [gimp] at hv
                · simp [gimp] at hv
                · obtain ⟨y, z', rfl, hy, hz'⟩ := hvs.two_inv
                  cases x1 <;> (try (simp only [gimp] at hv; cases hv; done))
                  · cases x2 <;> simp only [gimp] at hv <;> try (cases hv; done)
                    rename_i kk n
                    have e1 := hy.nils_inv
                    have e2 := hz'.int_inv
                    subst e1; subst e2
                    have a0 : (args.map r)[0]? = some (.slice none 0 0) := by rw [harr]; rfl
                    have a1 : (args.map r)[1]? = some (.int kk n) := by rw [harr]; rfl
                    split at hv
                    · rename_i h0
                      subst h0
                      cases hv
                      have hrun : (Builtin.append_ ats type (args.map r)).run P w = .ok (.slice none 0 0) w := by
                        obtain ⟨i0, hi0, hbb⟩ : ∃ i0, P.info? e = some i0 ∧ i0.bytes = bb := by
                          cases hq : P.info? e with
                          | none => simp [hq] at hb
                          | some i0 => exact ⟨i0, rfl, by simpa [hq] using hb⟩
                        have hwr : IntKind.i64.wrap 0 = 0 := by decide
                        unfold Builtin.append_
                        simp only [ht0, a0, a1, ht1, Sem.run_bind, under_run ht, under_run ht2, sizeD_run hs, Result.andThen_ok, Sem.run_pure]
                        simp only [if_true, Sem.run_bind, asInt, asIntOf, Sem.run_pure, Result.andThen_ok, hwr, typeInfo, run_program, hi0, hbb, Bool.not_true, Bool.false_eq_true, if_false]
                        simp [hi0]
                      exact ⟨_, _, w, ρ, hex (.slice none 0 0) w (by simp [builtin, hrun]), .value _, h, Ext.refl _ _ _, by simp [VR]⟩
                    · split at hv
                      · rename_i hc
                        cases hv
                        obtain ⟨rv, w', ρ', q1, q2, q3, q4⟩ := appendz_run (P := P) (ty := type) (args := args.map r) ht0 ht1 ht ht2 hs hb hz hcond.2 hcond.1 a0 a1 hc.1 hc.2 h
                        exact ⟨.value rv, rv, w', ρ', hex rv w' (by simp [builtin, q1]), .value rv, q2, q3, q4⟩
                      · cases hv
                  · rename_i id off len sz' cap
                    cases cap <;> (try (simp only [gimp] at hv; cases hv; done))
                    rename_i c
                    cases x2 <;> simp only [gimp] at hv <;> try (cases hv; done)
                    rename_i kk n
                    split at hv
                    · rename_i hc
                      obtain ⟨rfl, k1, k2', k3⟩ := hc
                      split at hv
                      · rename_i old hold
                        cases hv
                        have e2 := hz'.int_inv
                        subst e2
                        have hD := h.same (SameMem.drawn w (w.drawn + 1))
                        obtain ⟨_, hcl, hfc⟩ := gread_run (P := P) hold hy hD
                        obtain ⟨L, a, c', hL, rfl, h1, _, h3, _⟩ := hy.slice_inv
                        have := h3 c rfl
                        subst this
                        have a0 : (args.map r)[0]? = some (.slice a len c') := by rw [harr]; rfl
                        have a1 : (args.map r)[1]? = some (.int kk n) := by rw [harr]; rfl
                        obtain ⟨ro, o1, o2⟩ := hfc len (Nat.le_refl _)
                        rw [List.take_of_length_le (by rw [hcl]; exact Nat.le_refl _)] at o2
                        obtain ⟨rv, w', ρ', q1, q2, q3, q4⟩ := appendz_new (P := P) (ty := type) (args := args.map r) ht0 ht1 ht ht2 hs hb hz hcond.2 hcond.1 a0 a1 k1 k2' k3 o1 o2 hcl h
                        exact ⟨.value rv, rv, w', ρ', hex rv w' (by simp [builtin, q1]), .value rv, q2, q3, q4⟩
                      · cases hv
                    · cases hv
                · simp [gimp] at hv
              · cases hk
            · cases hk
          · cases hk
        · cases hk
      case clear =>
        split at hk
        · rename_i t ht0
          split at hk
          · rename_i e ht
            split at hk
            · rename_i sz z hs hz
              split at hk
              · rename_i hcond
                obtain ⟨hsz0, hzz⟩ := hcond
                cases hk
                rcases G with _ | ⟨x1, _ | ⟨x2, l⟩⟩
                · simp [gimp] at hv
                · obtain ⟨y, rfl, hy⟩ := hvs.one_inv
                  have a0 : (args.map r)[0]? = some y := by rw [harr]; rfl
                  cases x1 <;> simp only [gimp] at hv <;> try (cases hv; done)
                  · cases hv
                    have := hy.nils_inv; subst this
                    exact ⟨_, _, w, ρ, hex (.tuple #[]) w (by simp [builtin, Builtin.clear_, ht0, a0, under_run ht]), .value _, h, Ext.refl _ _ _, by simp only [VR]; exact ⟨[], VRs.nil, rfl⟩⟩
                  · rename_i id off len sz' cap
                    obtain ⟨L, a, c, hL, rfl, g1, g2, g3, g4⟩ := hy.slice_inv
                    split at hv
                    · rename_i h0
                      subst h0
                      cases hv
                      exact ⟨_, _, w, ρ, hex (.tuple #[]) w (by cases a <;> simp [builtin, Builtin.clear_, ht0, a0, under_run ht]), .value _, h, Ext.refl _ _ _, by simp only [VR]; exact ⟨[], VRs.nil, rfl⟩⟩
                    · rename_i h0
                      split at hv
                      · rename_i hss
                        subst hss
                        split at hv
                        · rename_i cs hrow
                          split at hv
                          · rename_i hc
                            cases hv
                            have ha := g2 (by omega)
                            subst ha
                            obtain ⟨zv, hz1, hz2⟩ := zeroD_run (ρ := ρ) hz w
                            have hzl : zv.cells.size = z.length := by simpa using hz2.length
                            have hzs := gzeros_sound (m := len * sz') hz2 (by omega)
                            have hzc : Builtin.zeroCells zv.cells len = (Array.range (len * sz')).map (fun i => zv.cells[i % zv.cells.size]!) := by unfold Builtin.zeroCells; rw [hzl, hzz]
                            rw [← hzc] at hzs
                            obtain ⟨w', s1, s2, s3⟩ := h.store (P := P) hL hrow (off := off) (new := gzeros z (len * sz')) (by rw [gzeros_length]; exact hc.1) hzs hc.2
                            refine ⟨_, _, w', ρ, hex (.tuple #[]) w' ?_, .value _, s2, Ext.row h hL hrow s3, by simp only [VR]; exact ⟨[], VRs.nil, rfl⟩⟩
                            cases len with
                            | zero => omega
                            | succ n => simp [builtin, Builtin.clear_, ht0, a0, under_run ht, hz1, s1]
                          · cases hv
                        · cases hv
                      · cases hv
                · simp [gimp] at hv
              · cases hk
            · cases hk
          · cases hk
        · cases hk
      case copy =>
        split at hk
        · rename_i t ht0
          split at hk
          · rename_i e ht
            obtain ⟨s, hs, hkk⟩ := Option.map_eq_some_iff.1 hk
            cases hkk
            obtain ⟨sd, xd, rfl⟩ := gimp_two (.inr (.inl ⟨_, rfl⟩)) hv
            simp only [gimp] at hv
            · obtain ⟨y, z', rfl, hy, hz'⟩ := hvs.two_inv
              have a0 : (args.map r)[0]? = some y := by rw [harr]; rfl
              have a1 : (args.map r)[1]? = some z' := by rw [harr]; rfl
              split at hv
              · rename_i src id off len sz' cap hsrc
                obtain ⟨hlen, hnl, hfc⟩ := gread_run (P := P) hsrc hz' h
                obtain ⟨L, a, c, hL, rfl, g1, g2, g3, g4⟩ := hy.slice_inv
                obtain ⟨rs, f1, f2⟩ := hfc (min (glen xd) len) (Nat.min_le_left _ _)
                have hrun : ∀ w', (∀ a', a = some a' → (storeCells a' rs).run P w = .ok () w') → (a = none → w' = w) → (Builtin.copy_ ats type (args.map r)).run P w = .ok (goInt ((min (glen xd) len : Nat) : Int)) w' := by
                  intro w' hst hst0
                  have hmin : Nat.min (glen xd) len = min (glen xd) len := rfl
                  unfold Builtin.copy_
                  simp only [ht0, a0, a1, Sem.run_bind, under_run ht, Result.andThen_ok, hlen, sizeD_run hs, hmin, f1]
                  cases a with
                  | none => simp [hst0 rfl]
                  | some a' => simp [hst a' rfl]
                split at hv
                · rename_i h0
                  cases hv
                  have hrs0 : rs = [] := by
                    have := f2.length
                    rw [h0] at this
                    simpa using this
                  subst hrs0
                  rw [h0] at hrun
                  exact ⟨_, _, w, ρ, hex _ w (by have := hrun w (fun _ _ => by simp [storeCells]) (fun _ => rfl); simp [builtin, this]; rfl), .value _, h, Ext.refl _ _ _, by simp [VR, goInt]⟩
                · rename_i h0
                  split at hv
                  case isFalse => cases hv
                  rename_i hsz; subst hsz
                  split at hv
                  · rename_i cs hrow
                    split at hv
                    · rename_i hcond
                      obtain ⟨c1, c2⟩ := hcond
                      cases hv
                      have ha := g2 (by omega)
                      have hmul : min (glen xd) len * sz' ≤ glen xd * sz' := Nat.mul_le_mul_right _ (Nat.min_le_left _ _)
                      have hlt : (src.take (min (glen xd) len * sz')).length = min (glen xd) len * sz' := by simp; omega
                      obtain ⟨w', s1, s2, s3⟩ := h.store (P := P) hL hrow (off := off) (new := src.take (min (glen xd) len * sz')) (by omega) f2 c2
                      exact ⟨_, _, w', ρ, hex _ w' (by have := hrun w' (fun a' ha' => by rw [ha] at ha'; cases ha'; exact s1) (fun hn => by rw [ha] at hn; cases hn); simp [builtin, this]; rfl), .value _, s2, Ext.row h hL hrow s3, by simp [VR, goInt]⟩
                    · cases hv
                  · cases hv
              · rename_i src hsrc
                cases hv
                obtain ⟨hlen, hnl, hfc⟩ := gread_run (P := P) hsrc hz' h
                have := hy.nils_inv; subst this
                obtain ⟨rs, f1, f2⟩ := hfc 0 (Nat.zero_le _)
                refine ⟨_, _, w, ρ, hex (.int .i64 0) w ?_, .value _, h, Ext.refl _ _ _, by simp [VR]⟩
                have : (Builtin.copy_ ats type (args.map r)).run P w = .ok (goInt 0) w := by
                  unfold Builtin.copy_
                  have hmin : Nat.min (glen xd) 0 = 0 := by simp
                  simp only [ht0, a0, a1, Sem.run_bind, under_run ht, Result.andThen_ok, hlen, sizeD_run hs, hmin, f1]
                  simp
                simp [builtin, this, goInt]
              · cases hv
          · cases hk
        · cases hk
      case delete =>
        split at hk
        · rename_i t ht0
          split at hk
          · rename_i kt0 et ht
            obtain ⟨kt, hkt, hkk⟩ := Option.map_eq_some_iff.1 hk
            cases hkk
            obtain ⟨m, key, rfl⟩ := gimp_two (.inr (.inr ⟨_, rfl⟩)) hv
            obtain ⟨rm, rk, rfl, hm, hkey⟩ := hvs.two_inv
            have a0 : (args.map r)[0]? = some rm := by rw [harr]; rfl
            have a1 : (args.map r)[1]? = some rk := by rw [harr]; rfl
            cases m <;> simp only [gimp] at hv <;> try (cases hv; done)
            rename_i id
            split at hv
            · rename_i hf
              split at hv
              · rename_i es st hes
                simp only [VR] at hm
                obtain ⟨L, hL, rfl⟩ := hm
                obtain ⟨_, rs, hblk, hmr, hbo⟩ := h.mp id L es st hL hes
                have hget : (getObj L.blk).run P w = .ok (.map rs st.2) w := by simp [getObj, Sem.run, hblk]
                have hck := checkKey_run (P := P) hkt hf hkey rs.isEmpty w
                split at hv
                · rename_i i v0 hfi
                  cases hv
                  obtain ⟨r', q1, q2⟩ := findKey_run (P := P) hkt hkey hmr hfi w
                  cases r' with
                  | none => exact q2.elim
                  | some pr =>
                    obtain ⟨j, vv⟩ := pr
                    obtain ⟨rfl, hvv⟩ := q2
                    obtain ⟨s1, s2, s3⟩ := h.put_map (P := P) hL hes (rs := rs.eraseIdxIfInBounds i) (st' := (st.1.eraseIdx i, st.2)) (es' := es.eraseIdx i)
                      (by rw [Array.toList_eraseIdxIfInBounds]; exact hmr.erase i) (by rw [Array.toList_eraseIdxIfInBounds, ← hbo, map_eraseIdx])
                    refine ⟨_, _, _, ρ, hex (.tuple #[]) _ ?_, .value _, s2, Ext.mp h hL hes s3, by simp only [VR]; exact ⟨[], VRs.nil, rfl⟩⟩
                    simp only [builtin, Builtin.delete_, ht0, a0, a1, Sem.run_bind, under_run ht, Result.andThen_ok, hget, hck, q1, s1]
                    rfl
                · rename_i hfi
                  cases hv
                  obtain ⟨r', q1, q2⟩ := findKey_run (P := P) hkt hkey hmr hfi w
                  cases r' with
                  | some _ => exact q2.elim
                  | none =>
                    obtain ⟨s1, s2, s3⟩ := h.put_map (P := P) hL hes (rs := rs) (st' := st) (es' := es) hmr hbo
                    refine ⟨_, _, _, ρ, hex (.tuple #[]) _ ?_, .value _, s2, Ext.mp h hL hes s3, by simp only [VR]; exact ⟨[], VRs.nil, rfl⟩⟩
                    simp only [builtin, Builtin.delete_, ht0, a0, a1, Sem.run_bind, under_run ht, Result.andThen_ok, hget, hck, q1, s1]
                    rfl
                · cases hv
              · cases hv
            · cases hv
          · cases hk
        · cases hk
end
end Go.Gh
namespace Go.Gh
open Go.RowKit
set_option linter.unusedVariables false
set_option linter.unusedSimpArgs false
/-- What a step of an iterator over a map may yield. -/
def gcands (es : List (DV × DV)) (st : List Nat) (since : Nat) (seen : List Nat) : List (Option ((DV × DV) × Nat)) :=
  (if (((es.zip st).filter fun e => !seen.contains e.2).filter fun e => decide (e.2 < since)).isEmpty then [none] else []) ++
    ((((es.zip st).filter fun e => !seen.contains e.2).filter fun e => decide (e.2 < since)) ++ (((es.zip st).filter fun e => !seen.contains e.2).filter fun e => decide (e.2 ≥ since))).map some
def gnext (args : List DV) (σ : GS) (K : DV → GS → Prop) : Prop :=
  match args with
  | [.ptr it 0] => match σ[it]? with
    | some (.it none _ _ _) => K (.tuple [.bool false]) σ
    | some (.it (some id) since seen last) => match σ[id]? with
      | some (.mp es st) => (!seen.isEmpty && !es.isEmpty && st.1.all fun b => decide (b ≥ last)) = false ∧
          ∀ c ∈ gcands es st.1 since seen, match c with
            | none => K (.tuple [.bool false]) σ
            | some (e, b) => K (.tuple [.bool true, e.1, e.2]) (σ.set it (.it (some id) since (seen ++ [b]) st.2))
      | _ => False
    | _ => False
  | _ => False
theorem gnext_mono {args : List DV} {σ : GS} {K K' : DV → GS → Prop} (h : gnext args σ K) (hk : ∀ v σ', K v σ' → K' v σ') : gnext args σ K' := by
  unfold gnext at h ⊢
  split at h
  · split at h
    · exact hk _ _ h
    · split at h
      · refine ⟨h.1, fun c hc => ?_⟩
        have := h.2 c hc
        split <;> exact hk _ _ this
      · exact h
    · exact h
  · exact h
section
variable {P : Program} {N : Nat} {w0 : World} {ρ : Ren} {σ : GS} {w : World}
def ER (ρ : Ren) (a : (DV × DV) × Nat) (e : MapEntry) : Prop := VR ρ a.1.1 e.key ∧ VR ρ a.1.2 e.val ∧ e.born = a.2
def EL (ρ : Ren) : List ((DV × DV) × Nat) → List MapEntry → Prop
  | [], l => l = []
  | a :: as_, l => ∃ e l', l = e :: l' ∧ ER ρ a e ∧ EL ρ as_ l'
theorem EL.of : ∀ {es : List (DV × DV)} {rs : List MapEntry} {st : List Nat}, MapR ρ es rs → rs.map (·.born) = st → EL ρ (es.zip st) rs
  | [], _, _, h, _ => by simp only [MapR] at h; subst h; rfl
  | (k, v) :: es, _, st, ⟨e, l, h1, h2, h3, h4⟩, hb => by
    subst h1; subst hb
    exact ⟨e, l, rfl, ⟨h2, h3, rfl⟩, EL.of h4 rfl⟩
theorem EL.filter {p : (DV × DV) × Nat → Bool} {q : MapEntry → Bool} (hpq : ∀ a e, ER ρ a e → p a = q e) : ∀ {l : List ((DV × DV) × Nat)} {m : List MapEntry}, EL ρ l m → EL ρ (l.filter p) (m.filter q)
  | [], _, h => by simp only [EL] at h; subst h; rfl
  | a :: l, _, ⟨e, m, h1, h2, h3⟩ => by
    subst h1
    have := EL.filter hpq h3
    rw [List.filter_cons, List.filter_cons, ← hpq a e h2]
    split
    · exact ⟨e, _, rfl, h2, this⟩
    · exact this
theorem EL.append : ∀ {l l' : List ((DV × DV) × Nat)} {m m' : List MapEntry}, EL ρ l m → EL ρ l' m' → EL ρ (l ++ l') (m ++ m')
  | [], _, _, _, h, k => by simp only [EL] at h; subst h; exact k
  | a :: l, _, _, _, ⟨e, m, h1, h2, h3⟩, k => by subst h1; exact ⟨e, _, rfl, h2, EL.append h3 k⟩
theorem EL.get : ∀ {l : List ((DV × DV) × Nat)} {m : List MapEntry}, EL ρ l m → ∀ {i : Nat} {e : MapEntry}, m[i]? = some e → ∃ a, l[i]? = some a ∧ ER ρ a e
  | [], _, h, i, e, hi => by simp only [EL] at h; subst h; simp at hi
  | a :: l, _, ⟨e', m, h1, h2, h3⟩, i, e, hi => by
    subst h1
    cases i with
    | zero => simp at hi; subst hi; exact ⟨a, rfl, h2⟩
    | succ i => simp at hi; obtain ⟨b, g1, g2⟩ := EL.get h3 hi; exact ⟨b, by simpa using g1, g2⟩
theorem EL.empty {l : List ((DV × DV) × Nat)} {m : List MapEntry} (h : EL ρ l m) : l.isEmpty = m.isEmpty := by
  cases l with
  | nil => simp only [EL] at h; subst h; rfl
  | cons a l => obtain ⟨e, m', rfl, _⟩ := h; rfl
/-- The candidates of the model, as a list. -/
def rcands (rs : List MapEntry) (since : Nat) (seen : List Nat) : List (Option MapEntry) :=
  (if ((rs.filter fun e => !seen.contains e.born).filter fun e => decide (e.born < since)).isEmpty then [none] else []) ++
    (((rs.filter fun e => !seen.contains e.born).filter fun e => decide (e.born < since)) ++ ((rs.filter fun e => !seen.contains e.born).filter fun e => decide (e.born ≥ since))).map some
theorem cands_rel {es : List (DV × DV)} {rs : List MapEntry} {st : List Nat} (hm : MapR ρ es rs) (hb : rs.map (·.born) = st) {since : Nat} {seen : List Nat} {c : Nat} {x : Option MapEntry} (hx : (rcands rs since seen)[c]? = some x) :
    ∃ y ∈ gcands es st since seen, match x, y with | none, none => True | some e, some a => ER ρ a e | _, _ => False := by
  have h0 := EL.of hm hb
  have h1 : EL ρ ((es.zip st).filter fun e => !seen.contains e.2) (rs.filter fun e => !seen.contains e.born) := h0.filter fun a e h => by rw [h.2.2]
  have h2 := h1.filter (p := fun e => decide (e.2 < since)) (q := fun e => decide (e.born < since)) fun a e h => by rw [h.2.2]
  have h3 := h1.filter (p := fun e => decide (e.2 ≥ since)) (q := fun e => decide (e.born ≥ since)) fun a e h => by rw [h.2.2]
  have hE := h2.empty
  have hA := h2.append h3
  unfold rcands at hx
  unfold gcands
  rw [hE]
  rcases List.mem_append.1 (List.mem_of_getElem? hx) with hx | hx
  · split at hx
    · rename_i h; rw [if_pos h]; simp at hx; subst hx; exact ⟨none, by simp, trivial⟩
    · cases hx
  · obtain ⟨e, he, rfl⟩ := List.mem_map.1 hx
    obtain ⟨i, hi⟩ := List.mem_iff_getElem?.1 he
    obtain ⟨a, ha, hr⟩ := hA.get hi
    exact ⟨some a, List.mem_append_right _ (List.mem_map.2 ⟨a, List.mem_of_getElem? ha, rfl⟩), hr⟩
theorem rcands_ne (rs : List MapEntry) (since : Nat) (seen : List Nat) : 0 < (rcands rs since seen).length := by
  unfold rcands
  split
  · simp
  · rename_i h
    simp only [List.isEmpty_iff] at h
    have := List.length_pos_iff.2 h
    simp only [List.length_append, List.length_map]; omega
theorem gnext_sound {x : DV} {rx : Value} {ty : TypeId} {K : DV → GS → Prop} (hx : VR ρ x rx) (hg : gnext [x] σ K) (h : Rel N w0 ρ σ w) :
    ∃ v rv σ' w', (Instr.next rx false ty).run P w = .ok rv w' ∧ Rel N w0 ρ σ' w' ∧ Ext σ.length ρ w ρ w' ∧ σ.length ≤ σ'.length ∧ VR ρ v rv ∧ K v σ' := by
  have hfalse : VR ρ (.tuple [.bool false]) (.tuple #[.bool false]) := by simp only [VR]; exact ⟨[.bool false], VRs.cons (by simp [VR]) VRs.nil, rfl⟩
  unfold gnext at hg
  split at hg
  · rename_i it hxx
    cases hxx
    obtain ⟨L, hL, rfl⟩ := hx.ptr_inv
    split at hg
    · rename_i a b c hit
      obtain ⟨_, x', hblk, mm, rfl, hoff, hmm⟩ := h.obj it L _ hL hit rfl
      simp only [ItR] at hmm; subst hmm
      have hgi : (getObj L.blk).run P w = .ok (.mapIter none a b.toArray c) w := by simp [getObj, Sem.run, hblk]
      refine ⟨_, .tuple #[.bool false], σ, w, ?_, h, Ext.refl _ _ _, Nat.le_refl _, hfalse, hg⟩
      simp only [Instr.next, hoff, Sem.run_bind, Nat.add_zero, hgi, Result.andThen_ok, Sem.run_pure]
    · rename_i id since seen last hit
      split at hg
      · rename_i es st hmp
        obtain ⟨hno, hall⟩ := hg
        obtain ⟨_, x', hblk, mm, rfl, hoff, M, hM, rfl⟩ := h.obj it L _ hL hit rfl
        obtain ⟨_, rs, hblk2, hmr, hbo⟩ := h.mp id M es st hM hmp
        have hgi : (getObj L.blk).run P w = .ok (.mapIter (some M.blk) since seen.toArray last) w := by simp [getObj, Sem.run, hblk]
        have hgm : (getObj M.blk).run P w = .ok (.map rs st.2) w := by simp [getObj, Sem.run, hblk2]
        have hem : rs.isEmpty = es.isEmpty := by
          cases es with
          | nil => simp only [MapR] at hmr; simp at hmr; subst hmr; rfl
          | cons e es => obtain ⟨e', l, h1, _⟩ := hmr; cases rs with | mk l' => simp at h1; subst h1; rfl
        have hno' : (!seen.toArray.isEmpty && !rs.isEmpty && rs.all fun e => decide (e.born ≥ last)) = false := by
          rw [← hno, hem, ← hbo]
          congr 1
          · congr 1; cases seen <;> rfl
          · rw [← Array.all_toList, List.all_map]; rfl
        have key : ∀ (C : Array (Option MapEntry)), C.toList = rcands rs.toList since seen → ∃ v rv σ' w', (do
            match C[← choose (.mapNext C.size)]? with
            | some (some e) => do
              setObj L.blk (.mapIter (some M.blk) since (seen.toArray.push e.born) st.2)
              pure (Value.tuple #[.bool true, e.key, e.val])
            | some none => pure (Value.tuple #[.bool false])
            | none => stuck "Next: no such candidate").run P w = .ok rv w' ∧ Rel N w0 ρ σ' w' ∧ Ext σ.length ρ w ρ w' ∧ σ.length ≤ σ'.length ∧ VR ρ v rv ∧ K v σ' := by
          intro C hC
          have hsz : 0 < C.size := by have := rcands_ne rs.toList since seen; rw [← hC] at this; simpa using this
          obtain ⟨c, wd, hrun, hc, hsm⟩ : ∃ c wd, (choose (.mapNext C.size)).run P w = .ok c wd ∧ c < C.size ∧ SameMem w wd := by
            rw [run_choose]
            split
            · exact ⟨0, w, rfl, hsz, SameMem.refl w⟩
            · rename_i hf
              refine ⟨_, _, rfl, ?_, SameMem.drawn _ _⟩
              simp only [Question.forced, decide_eq_true_eq] at hf
              simp only [Question.cut]
              exact Nat.mod_lt _ hsz
          obtain ⟨x, hx⟩ : ∃ x, C[c]? = some x := ⟨C[c], by simp [hc]⟩
          have hxl : (rcands rs.toList since seen)[c]? = some x := by rw [← hC]; simpa using hx
          obtain ⟨y, hy, hr⟩ := cands_rel hmr hbo hxl
          have hk := hall y hy
          have hD := h.same hsm
          cases x with
          | none =>
            cases y with
            | some _ => exact hr.elim
            | none =>
              refine ⟨_, .tuple #[.bool false], σ, wd, ?_, hD, Ext.same hsm (Ext.refl _ _ _), Nat.le_refl _, hfalse, hk⟩
              simp only [Sem.run_bind, hrun, Result.andThen_ok, hx, Sem.run_pure]
          | some e =>
            cases y with
            | none => exact hr.elim
            | some a =>
              obtain ⟨⟨gk, gv⟩, b⟩ := a
              obtain ⟨r1, r2, r3⟩ := hr
              simp only at r1 r2 r3
              obtain ⟨s1, s2, s3⟩ := hD.put_obj (P := P) (x' := .mapIter (some M.blk) since (seen ++ [b]).toArray st.2) hL hit (o' := .it (some id) since (seen ++ [b]) st.2) rfl rfl ⟨some M.blk, rfl, hoff, M, hM, rfl⟩
              refine ⟨_, .tuple #[.bool true, e.key, e.val], _, _, ?_, s2, Ext.same hsm (Ext.touch hL s3 fun r hr => ?_), by simp, ?_, hk⟩
              · have hpush : seen.toArray.push e.born = (seen ++ [b]).toArray := by rw [r3]; simp
                simp only [Sem.run_bind, hrun, Result.andThen_ok, hx, Sem.run_pure, hpush, s1]
              · rw [hsm.heap, hblk] at hr; cases hr
              · simp only [VR]; exact ⟨[.bool true, e.key, e.val], VRs.cons (by simp [VR]) (VRs.cons r1 (VRs.cons r2 VRs.nil)), rfl⟩
        obtain ⟨v, rv, σ', w', q1, q2⟩ := key ((if ((rs.filter fun (e : MapEntry) => !seen.toArray.contains e.born).filter fun (e : MapEntry) => decide (e.born < since)).isEmpty = true then #[none] else #[]) ++
            (((rs.filter fun (e : MapEntry) => !seen.toArray.contains e.born).filter fun (e : MapEntry) => decide (e.born < since)) ++ ((rs.filter fun (e : MapEntry) => !seen.toArray.contains e.born).filter fun (e : MapEntry) => decide (e.born ≥ since))).map some) (by
          unfold rcands
          have e1 : ∀ (A : Array MapEntry), A.isEmpty = A.toList.isEmpty := fun A => by cases A with | mk l => cases l <;> rfl
          rw [e1]
          simp only [Array.toList_append, Array.toList_map, Array.toList_filter, List.contains_toArray]
          split <;> rfl)
        refine ⟨v, rv, σ', w', ?_, q2⟩
        rw [← q1]
        simp only [Instr.next, hoff, Sem.run_bind, Nat.add_zero, hgi, Result.andThen_ok, Sem.run_pure, hgm]
        rw [if_neg (by rw [hno']; simp), Sem.run_bind]
        rfl
      · exact hg.elim
    · exact hg.elim
  · exact hg.elim
end
end Go.Gh
namespace Go.Gh
open Go.RowKit
set_option linter.unusedVariables false
set_option linter.unusedSimpArgs false

inductive GArg where
  | tmp (t : Tmp)
  | const (d : DV)
abbrev Env := List DV
def garg (env : Env) : GArg → DV
  | .tmp t => env[t]?.getD (.tuple [])
  | .const d => d
def constD : Value → Option DV
  | .agg cs => (ofVals cs.toList).map .agg
  | v => ofVal v
def argOf : Operand → Option GArg
  | .tmp t => some (.tmp t)
  | .const v => (constD v).map .const
  | .func f => some (.const (.func f [] []))
  | .global _ => none
def argsOf : List Operand → Option (List GArg)
  | [] => some []
  | x :: xs => match argOf x, argsOf xs with
    | some a, some az => some (a :: az)
    | _, _ => none

inductive Kind where
  | pure (k : PK) | load (k : LK) | new (k : AK) | imp (k : IK) | call (f : FuncId) | xcall (f : FuncId) | callv | mnext | eqn (neg : Bool) | bad

structure GOp where
  dst : Option Tmp
  guard : Option (Tmp × Bool)
  kind : Kind
  args : List GArg

/-- A function without a body: the model answers it itself. -/
def noBody (P : Program) (f : FuncId) : Bool := match P.funcs[f]? with | some fn => fn.body.isNone | none => false
def kindOf (P : Program) (o : Oper) : Option Kind :=
  match pkOf P o with
  | some (.bin .eql .slice) => some (.eqn false)
  | some (.bin .neq .slice) => some (.eqn true)
  | some k => some (.pure k)
  | none => match lkOf P o with
    | some k => some (.load k)
    | none => match akOf P o with
      | some k => some (.new k)
      | none => match ikOf P o with
        | some k => some (.imp k)
        | none => match o.op with
          | .call c => match c.callee with
            | .value (.func f) => if noBody P f then some (.xcall f) else some (.call f)
            | .value _ => some .callv
            | _ => none
          | .next _ false => some .mnext
          | _ => none
def opArgs (o : Oper) : List Operand :=
  match o.op with
  | .call c => match c.callee with
    | .value (.func _) => c.args.toList
    | _ => o.op.operands.toList
  | _ => o.op.operands.toList
def copOf (P : Program) (ops : Array Oper) (o : Oper) : Option GOp :=
  match kindOf P o, argsOf (opArgs o), (match o.guard with | none => some none | some (j, want) => match (ops[j]?).bind (·.dst) with | some t => some (some (t, want)) | none => none) with
  | some k, some az, some g => some ⟨o.dst, g, k, az⟩
  | _, _, some g => some ⟨o.dst, g, .bad, []⟩
  | _, _, none => none

/-- A call in the ghost run: in every world that the ghost state tells of, the call returns, and Post holds of what it returns and leaves. -/
def GCall (P : Program) (f : FuncId) (args : List DV) (σ : GS) (Post : DV → GS → Prop) : Prop :=
  (∃ fn, P.funcs[f]? = some fn ∧ (fn.name == "runtime.NumGoroutine") = false ∧ fn.body.isSome = true) ∧
  ∀ (N : Nat) (w0 : World) (ρ : Ren) (w : World) (rargs : List Value), Rel N w0 ρ σ w → VRs ρ args rargs →
    Calls P f rargs.toArray w fun e w' => ∃ v rv ρ' σ', e = .returned rv ∧ Rel N w0 ρ' σ' w' ∧ Ext σ.length ρ w ρ' w' ∧ σ.length ≤ σ'.length ∧ VR ρ' v rv ∧ Post v σ'
/-- A round of a loop over an iterator, called through its yield. -/
def GRound (P : Program) (id : Nat) (args : List DV) (σ : GS) (Post : DV → GS → Prop) : Prop :=
  ∀ (N : Nat) (w0 : World) (ρ : Ren) (w : World) (rargs : List Value) (L : Loc), Rel N w0 ρ σ w → VRs ρ args rargs → ρ id = some L →
    ∃ r, w.heap[L.blk]? = some (.loop r) ∧ rargs.length = r.params.size ∧
      RoundIn Fence.wide 0 P L.blk r.fn ((r.params.zip rargs.toArray).foldl (fun tmps (t, a) => tmps.setIfInBounds t a) r.tmps) r.assign r.body w
        fun e w' => ∃ v rv ρ' σ', e = .returned rv ∧ Rel N w0 ρ' σ' w' ∧ Ext σ.length ρ w ρ' w' ∧ σ.length ≤ σ'.length ∧ VR ρ' v rv ∧ Post v σ'
theorem GRound.mono {P : Program} {id : Nat} {args : List DV} {σ : GS} {Post Post' : DV → GS → Prop} (h : GRound P id args σ Post) (k : ∀ v σ', Post v σ' → Post' v σ') : GRound P id args σ Post' :=
  fun N w0 ρ w rargs L hr hv hL => let ⟨r, h1, h2, h3⟩ := h N w0 ρ w rargs L hr hv hL
    ⟨r, h1, h2, h3.mono fun e w' ⟨v, rv, ρ', σ', a, b, c, d, e, f⟩ => ⟨v, rv, ρ', σ', a, b, c, d, e, k _ _ f⟩⟩
theorem GCall.mono {P : Program} {f : FuncId} {args : List DV} {σ : GS} {Post Post' : DV → GS → Prop} (h : GCall P f args σ Post) (k : ∀ v σ', Post v σ' → Post' v σ') : GCall P f args σ Post' :=
  ⟨h.1, fun N w0 ρ w rargs hr hv => (h.2 N w0 ρ w rargs hr hv).mono fun e w' ⟨v, rv, ρ', σ', a, b, c, d, e, f⟩ => ⟨v, rv, ρ', σ', a, b, c, d, e, k _ _ f⟩⟩

def gon (env : Env) : Option (Tmp × Bool) → Option Bool
  | none => some true
  | some (t, want) => match env[t]? with
    | some (.bool b) => some (b == want)
    | some (.tuple _) => some false
    | _ => none

/-- Is a slice nil? An empty one that is not known may be so or not. -/
def nilq : DV → List Bool
  | .nils => [true]
  | .slice _ _ len _ _ => if 0 < len then [false] else [true, false]
  | .fsl _ es => if 0 < es.length then [false] else [true, false]
  | _ => []
/-- A comparison of a slice with nil. -/
def geqn (neg : Bool) (args : List DV) (K : DV → Prop) : Prop :=
  match args with
  | [x, .nils] => nilq x ≠ [] ∧ ∀ b ∈ nilq x, K (.bool (b != neg))
  | _ => False
theorem geqn_mono {neg : Bool} {args : List DV} {K K' : DV → Prop} (h : geqn neg args K) (hk : ∀ v, K v → K' v) : geqn neg args K' := by
  unfold geqn at h ⊢
  split at h
  · exact ⟨h.1, fun b hb => hk _ (h.2 b hb)⟩
  · exact h
/-- A call of a function without a body. -/
def XCall (P : Program) (f : FuncId) (args : List DV) (σ : GS) (Post : DV → GS → Prop) : Prop :=
  ∀ (N : Nat) (w0 : World) (ρ : Ren) (w : World) (rargs : List Value), Rel N w0 ρ σ w → VRs ρ args rargs →
    ∃ v rv ρ' σ' w', (callFunc f rargs.toArray).run P w = .ok (.value rv) w' ∧ Rel N w0 ρ' σ' w' ∧ Ext σ.length ρ w ρ' w' ∧ σ.length ≤ σ'.length ∧ VR ρ' v rv ∧ Post v σ'
theorem XCall.mono {P : Program} {f : FuncId} {args : List DV} {σ : GS} {Post Post' : DV → GS → Prop} (h : XCall P f args σ Post) (k : ∀ v σ', Post v σ' → Post' v σ') : XCall P f args σ Post' :=
  fun N w0 ρ w rargs hr hv => let ⟨v, rv, ρ', σ', w', a, b, c, d, e, g⟩ := h N w0 ρ w rargs hr hv
    ⟨v, rv, ρ', σ', w', a, b, c, d, e, k _ _ g⟩
/-- What an operation of a kind does to its arguments' values. -/
def gdo (P : Program) (k : Kind) (args : List DV) (σ : GS) (K : DV → GS → Prop) : Prop :=
  match k with
  | .pure k => match gpure k args with | some v => K v σ | none => False
  | .load k => match gload k args σ with | some v => K v σ | none => False
  | .new k => match galloc k args with | some (obj, mk) => K (mk σ.length) (σ ++ [obj]) | none => False
  | .imp k => match gimp k args σ with | some (v, σ') => K v σ' | none => False
  | .call f => GCall P f args σ K
  | .xcall f => XCall P f args σ K
  | .callv => match args with | .func f first caps :: rest => GCall P f (first ++ rest ++ caps) σ K | .yield id :: rest => GRound P id rest σ K | _ => False
  | .mnext => gnext args σ K
  | .eqn neg => geqn neg args fun v => K v σ
  | .bad => False
def gop (P : Program) (o : GOp) (env : Env) (σ : GS) (K : DV → GS → Prop) : Prop :=
  match gon env o.guard with
  | some true => gdo P o.kind (o.args.map (garg env)) σ K
  | some false => K (.tuple []) σ
  | none => False
def gput (env : Env) (dst : Option Tmp) (v : DV) : Env :=
  match dst with
  | some t => env.set t v
  | none => env
def EnvR (ρ : Ren) (env : Env) (a : Act) : Prop := VRs ρ env a.tmps.toList
/-- The wide fence, in a round or in none. -/
def FW (rd : Option Nat) : Fence := { Fence.wide with round := rd }

section
variable {P : Program} {N : Nat} {w0 : World} {ρ : Ren} {σ : GS} {w : World}

theorem EnvR.put {env : Env} {a : Act} (h : EnvR ρ env a) {v : DV} {rv : Value} (hv : VR ρ v rv) (dst : Option Tmp) : EnvR ρ (gput env dst v) (a.put dst rv) := by
  cases dst with
  | none => exact h
  | some t =>
    unfold EnvR gput Act.put
    simp only [Array.toList_setIfInBounds]
    exact VRs.set h hv t
theorem EnvR.mono {ρ' : Ren} {env : Env} {a : Act} (h : EnvR ρ env a) (k : ρ.le ρ') : EnvR ρ' env a := VRs.mono k _ _ h

def genv (env : Env) (x : Operand) : DV := match argOf x with | some a => garg env a | none => .any
theorem genv_sound {env : Env} {a : Act} (h : EnvR ρ env a) (x : Operand) : VR ρ (genv env x) (a.eval x) := by
  unfold genv
  cases hx : argOf x with
  | none => simp [VR]
  | some g =>
    cases x with
    | tmp t =>
      simp only [argOf, Option.some.injEq] at hx; subst hx
      simp only [garg, Act.eval]
      cases ht : env[t]? with
      | none =>
        have hl := VRs.length h
        have : a.tmps[t]? = none := by
          rw [Array.getElem?_eq_none_iff]
          rw [List.getElem?_eq_none_iff] at ht
          simp at hl; omega
        rw [Array.getD_eq_getD_getElem?, this]
        simp only [Option.getD_none, VR]
        exact ⟨[], VRs.nil, rfl⟩
      | some d =>
        obtain ⟨y, hy, hr⟩ := VRs.get h ht
        rw [Array.getD_eq_getD_getElem?, show a.tmps[t]? = some y by simpa using hy]
        exact hr
    | const v =>
      simp only [argOf, Option.map_eq_some_iff] at hx
      obtain ⟨d, hd, rfl⟩ := hx
      simp only [garg, Act.eval]
      unfold constD at hd
      split at hd
      · rename_i cs
        obtain ⟨ds, hds, rfl⟩ := Option.map_eq_some_iff.1 hd
        simp only [VR]
        exact ⟨cs.toList, ofVals_sound hds ρ, by simp⟩
      · exact ofVal_sound hd ρ
    | func f =>
      simp only [argOf, Option.some.injEq] at hx; subst hx
      simp only [garg, Act.eval, VR]
      exact ⟨[], [], VRs.nil, VRs.nil, rfl⟩
    | global g => simp [argOf] at hx
theorem argsOf_map {env : Env} : ∀ {l : List Operand} {az : List GArg}, argsOf l = some az → az.map (garg env) = l.map (genv env)
  | [], az, h => by simp [argsOf] at h; subst h; rfl
  | x :: xs, az, h => by
    simp only [argsOf] at h
    split at h
    · rename_i a az' h1 h2
      cases h
      simp only [List.map_cons, argsOf_map h2]
      congr 1
      simp [genv, h1]
    · cases h

theorem gon_sound {ops : Array Oper} {o : Oper} {env : Env} {a : Act} (h : EnvR ρ env a) {g : Option (Tmp × Bool)}
    (hg : (match o.guard with | none => some none | some (j, want) => match (ops[j]?).bind (·.dst) with | some t => some (some (t, want)) | none => none) = some g) {b : Bool} (hb : gon env g = some b) :
    Region.wanted o (yielded ops a.tmps) = b := by
  unfold Region.wanted
  cases hgd : o.guard with
  | none =>
    simp only [hgd] at hg
    cases hg
    simp [gon] at hb
    simp [hb]
  | some p =>
    obtain ⟨j, want⟩ := p
    simp only [hgd] at hg
    cases ht : (ops[j]?).bind (·.dst) with
    | none => simp [ht] at hg
    | some t =>
      simp only [ht, Option.some.injEq] at hg
      subst hg
      simp only [gon] at hb
      simp only [yielded, ht, Option.bind_some]
      split at hb
      · rename_i b' he
        cases hb
        obtain ⟨y, hy, hr⟩ := VRs.get h he
        rw [show a.tmps[t]? = some y by simpa using hy, hr.bool_inv]
        simp
      · rename_i vs he
        cases hb
        obtain ⟨y, hy, hr⟩ := VRs.get h he
        obtain ⟨l, _, rfl⟩ := hr.tuple_inv
        rw [show a.tmps[t]? = some _ by simpa using hy]
        rfl
      · cases hb

theorem kind_pure {o : Oper} {k : PK} (h : kindOf P o = some (.pure k)) : pkOf P o = some k := by
  unfold kindOf at h
  split at h
  · cases h
  · cases h
  · rename_i k' hk; cases h; exact hk
  · split at h
    · cases h
    · split at h
      · cases h
      · split at h
        · cases h
        · split at h
          · split at h <;> first | (cases h; done) | (split at h <;> cases h)
          · cases h
          · cases h
theorem kind_load {o : Oper} {k : LK} (h : kindOf P o = some (.load k)) : lkOf P o = some k := by
  unfold kindOf at h
  split at h
  · cases h
  · cases h
  · cases h
  · split at h
    · rename_i hk; cases h; exact hk
    · split at h
      · cases h
      · split at h
        · cases h
        · split at h
          · split at h <;> first | (cases h; done) | (split at h <;> cases h)
          · cases h
          · cases h
theorem kind_new {o : Oper} {k : AK} (h : kindOf P o = some (.new k)) : akOf P o = some k := by
  unfold kindOf at h
  split at h
  · cases h
  · cases h
  · cases h
  · split at h
    · cases h
    · split at h
      · rename_i hk; cases h; exact hk
      · split at h
        · cases h
        · split at h
          · split at h <;> first | (cases h; done) | (split at h <;> cases h)
          · cases h
          · cases h
theorem kind_imp {o : Oper} {k : IK} (h : kindOf P o = some (.imp k)) : ikOf P o = some k := by
  unfold kindOf at h
  split at h
  · cases h
  · cases h
  · cases h
  · split at h
    · cases h
    · split at h
      · cases h
      · split at h
        · rename_i hk; cases h; exact hk
        · split at h
          · split at h <;> first | (cases h; done) | (split at h <;> cases h)
          · cases h
          · cases h
theorem kind_call {o : Oper} {f : FuncId} (h : kindOf P o = some (.call f)) : ∃ c, o.op = .call c ∧ c.callee = .value (.func f) := by
  unfold kindOf at h
  split at h
  · cases h
  · cases h
  · cases h
  · split at h
    · cases h
    · split at h
      · cases h
      · split at h
        · cases h
        · split at h
          · rename_i c hc
            split at h
            · rename_i f' hf
              split at h
              · cases h
              · cases h; exact ⟨c, hc, hf⟩
            · cases h
            · cases h
          · cases h
          · cases h
theorem kind_xcall {o : Oper} {f : FuncId} (h : kindOf P o = some (.xcall f)) : ∃ c, o.op = .call c ∧ c.callee = .value (.func f) := by
  unfold kindOf at h
  split at h
  · cases h
  · cases h
  · cases h
  · split at h
    · cases h
    · split at h
      · cases h
      · split at h
        · cases h
        · split at h
          · rename_i c hc
            split at h
            · rename_i f' hf
              split at h
              · cases h; exact ⟨c, hc, hf⟩
              · cases h
            · cases h
            · cases h
          · cases h
          · cases h
theorem kind_callv {o : Oper} (h : kindOf P o = some .callv) : ∃ c x, o.op = .call c ∧ c.callee = .value x ∧ (∀ f, x ≠ .func f) := by
  unfold kindOf at h
  split at h
  · cases h
  · cases h
  · cases h
  · split at h
    · cases h
    · split at h
      · cases h
      · split at h
        · cases h
        · split at h
          · rename_i c hc
            split at h
            · split at h <;> cases h
            · rename_i x hne hx; exact ⟨c, x, hc, hx, fun f he => hne f he⟩
            · cases h
          · cases h
          · cases h
theorem kind_next {o : Oper} (h : kindOf P o = some .mnext) : ∃ x, o.op = .next x false := by
  unfold kindOf at h
  split at h
  · cases h
  · cases h
  · cases h
  · split at h
    · cases h
    · split at h
      · cases h
      · split at h
        · cases h
        · split at h
          · split at h <;> first | (cases h; done) | (split at h <;> cases h)
          · rename_i x hx; exact ⟨x, hx⟩
          · cases h
theorem kind_eqn {o : Oper} {neg : Bool} (h : kindOf P o = some (.eqn neg)) : ∃ op t x y yt, o.op = .binOp op t x y yt ∧ etOf P t = .slice ∧ op = if neg then .neq else .eql := by
  have hp : pkOf P o = some (.bin (if neg then .neq else .eql) .slice) := by
    unfold kindOf at h
    split at h
    · rename_i hk; cases h; exact hk
    · rename_i hk; cases h; exact hk
    · cases h
    · split at h
      · cases h
      · split at h
        · cases h
        · split at h
          · cases h
          · split at h
            · split at h <;> first | (cases h; done) | (split at h <;> cases h)
            · cases h
            · cases h
  generalize hop : (if neg then BinOp.neq else BinOp.eql) = bop at hp
  unfold pkOf at hp
  split at hp
  case h_4 =>
    rename_i op t x y yt he
    simp only [Option.some.injEq, PK.bin.injEq] at hp
    exact ⟨op, t, x, y, yt, he, hp.2, by first | exact hp.1.trans hop.symm | exact hp.1⟩
  all_goals
    exfalso
    repeat' (split at hp)
    all_goals first | (cases hp; done) | (simp at hp; done)
theorem eqn_sound {t : TypeId} (ht : etOf P t = .slice) {x : DV} {u v : Value} (hu : VR ρ x u) (hv : VR ρ .nils v) (hq : nilq x ≠ []) (p q : Operand) (neg : Bool) (w : World) :
    ∃ b ∈ nilq x, (do eqGuard (if neg then .neq else .eql) t p q u v; binOp (if neg then .neq else .eql) t u v : Sem Value).run P w = .ok (.bool (b != neg)) w := by
  have hv' := hv.nils_inv
  subst hv'
  have hund : ∃ e, P.underlying t = some (.slice e) := by
    unfold etOf at ht
    split at ht
    all_goals first | (cases ht; done) | skip
    · rename_i e he; exact ⟨e, he⟩
    · split at ht
      · split at ht <;> cases ht
      · cases ht
  obtain ⟨e, he⟩ := hund
  have key : ∀ (a : Option Addr) (n c : Nat), (Op.equal t (.slice a n c) (.slice none 0 0)).run P w = .ok a.isNone w := by
    intro a n c
    have hr := under_run he w
    rw [equal_unfold]
    generalize 9999 = dep
    simp only [Op.equalIn, Sem.run_bind, hr, Result.andThen_ok]
    cases a <;> first | rfl | simp
  have fin : ∀ (a : Option Addr) (n c : Nat), (do eqGuard (if neg then .neq else .eql) t p q (.slice a n c) (.slice none 0 0); binOp (if neg then .neq else .eql) t (.slice a n c) (.slice none 0 0) : Sem Value).run P w = .ok (.bool (a.isNone != neg)) w := by
    intro a n c
    cases neg with
    | false =>
      have h1 : (eqGuard .eql t p q (.slice a n c) (.slice none 0 0)).run P w = .ok () w := rfl
      have h2 : binOp .eql t (.slice a n c) (.slice none 0 0) = (do pure (.bool (← Op.equal t (.slice a n c) (.slice none 0 0)))) := rfl
      simp only [Bool.false_eq_true, if_false, Sem.run_bind, h1, Result.andThen_ok, h2, key, Sem.run_pure, Bool.bne_false]
    | true =>
      have h1 : (eqGuard .neq t p q (.slice a n c) (.slice none 0 0)).run P w = .ok () w := rfl
      have h2 : binOp .neq t (.slice a n c) (.slice none 0 0) = (do pure (.bool (!(← Op.equal t (.slice a n c) (.slice none 0 0))))) := rfl
      simp only [if_true, Sem.run_bind, h1, Result.andThen_ok, h2, key, Sem.run_pure, Bool.bne_true]
  cases x with
  | nils => rw [hu.nils_inv]; exact ⟨true, by simp [nilq], fin none 0 0⟩
  | slice id off len sz cap =>
    by_cases hl : 0 < len
    · obtain ⟨a, n, c, rfl⟩ := VR.slice_ne hu hl
      exact ⟨false, by simp [nilq, hl], fin _ _ _⟩
    · obtain ⟨a, n, c, rfl⟩ := hu.slice_shape
      exact ⟨a.isNone, by simp only [nilq, if_neg hl]; cases a <;> simp, fin _ _ _⟩
  | fsl sz es =>
    by_cases hl : 0 < es.length
    · obtain ⟨a, n, c, rfl⟩ := VR.fsl_ne hu hl
      exact ⟨false, by simp [nilq, hl], fin _ _ _⟩
    · obtain ⟨a, n, c, rfl⟩ := hu.fsl_shape
      exact ⟨a.isNone, by simp only [nilq, if_neg hl]; cases a <;> simp, fin _ _ _⟩
  | _ => simp [nilq] at hq
theorem kind_no_call {o : Oper} {k : Kind} (h : kindOf P o = some k) (h1 : ∀ f, k ≠ .call f) (h2 : ∀ f, k ≠ .xcall f := by intro f h; cases h) : opArgs o = o.op.operands.toList := by
  unfold opArgs
  split
  · rename_i c hc
    split
    · rename_i f hf
      exfalso
      have : kindOf P o = if noBody P f then some (.xcall f) else some (.call f) := by
        unfold kindOf
        have e1 : pkOf P o = none := by simp [pkOf, hc, hf]
        have e2 : lkOf P o = none := by simp [lkOf, hc, hf]
        have e3 : akOf P o = none := by simp [akOf, hc]
        have e4 : ikOf P o = none := by simp [ikOf, hc, hf]
        simp [e1, e2, e3, e4, hc, hf]
      rw [this] at h
      split at h
      · cases h; exact h2 f rfl
      · cases h; exact h1 f rfl
    · rfl
  · rfl
theorem kind_no_defer {o : Oper} {k : Kind} (h : kindOf P o = some k) : ∀ c, o.op ≠ .defer c := by
  intro c hc
  unfold kindOf at h
  simp [pkOf, lkOf, akOf, ikOf, hc] at h
end
end Go.Gh
namespace Go.Gh
open Go.RowKit
set_option linter.unusedVariables false
set_option linter.unusedSimpArgs false

section
variable {P : Program} {N : Nat} {w0 : World} {ρ : Ren} {σ : GS} {w : World}

theorem callFunc_run {f : FuncId} {fn : Func} (hf : P.funcs[f]? = some fn) (hname : (fn.name == "runtime.NumGoroutine") = false) (hb : fn.body.isSome = true) (args : Array Value) (w : World) : (callFunc f args).run P w = .ok (.enter f args) w := by
  unfold callFunc
  cases hbody : fn.body with
  | none => simp [hbody] at hb
  | some c =>
    have hname' : ¬ fn.name = "runtime.NumGoroutine" := by simpa using hname
    simp [hf, hname', hbody]

theorem about_true {rd : Option Nat} {o : Oper} {w : World} {r : Operand → Value} : ∀ f, o.about P w r = some f → (FW rd).fn f := fun _ _ => trivial

/-- A call by the ghost run's contract, in whatever fence of ours. -/
theorem gcall_in {rd : Option Nat} {n : Nat} {f : FuncId} {args : List DV} {rargs : List Value} {Post : DV → GS → Prop} (hg : GCall P f args σ Post) (h : Rel N w0 ρ σ w) (hv : VRs ρ args rargs) {R : Ending → World → Prop}
    (hR : ∀ v rv ρ' σ' w', Rel N w0 ρ' σ' w' → Ext σ.length ρ w ρ' w' → σ.length ≤ σ'.length → VR ρ' v rv → Post v σ' → R (.returned rv) w') : CallsIn (FW rd) n P f rargs.toArray w R := by
  have h1 := (hg.2 N w0 ρ w rargs h hv).mono (R' := R) (fun e w' ⟨v, rv, ρ', σ', he, a, b, c, d, p⟩ => by subst he; exact hR v rv ρ' σ' w' a b c d p)
  have h2 := callsIn_wide (n := n).2 h1
  cases rd with
  | none => exact h2
  | some l => exact CallsIn.inRound l h2

/-- The wide fence's rounds ask for no room, and know no round of their own. -/
theorem round_any {rd : Option Nat} {n : Nat} {l : Nat} {f : FuncId} {tmps : Array Value} {assign body : Code} {w : World} {R : Ending → World → Prop} (h : RoundIn Fence.wide 0 P l f tmps assign body w R) : RoundIn (FW rd) n P l f tmps assign body w R :=
  ⟨trivial, fun c cs _ => h.2 c cs (room_wide _)⟩

theorem gappend_length {sz b : Nat} {s x v : DV} {σ σ' : GS} (h : gappend sz b s x σ = some (v, σ')) : σ.length ≤ σ'.length := by
  unfold gappend at h
  repeat' (split at h)
  all_goals first | (cases h; done) | (cases h; simp)
theorem gimp_length {k : IK} {l : List DV} {v : DV} {σ σ' : GS} (h : gimp k l σ = some (v, σ')) : σ.length ≤ σ'.length := by
  unfold gimp at h
  split at h
  all_goals first | exact gappend_length h | skip
  all_goals
    repeat' (split at h)
    all_goals first | (cases h; done) | (cases h; simp)

theorem op_do {rd : Option Nat} {n : Nat} {o : Oper} {k : Kind} (hk : kindOf P o = some k) {env : Env} {a : Act} (he : EnvR ρ env a) (h : Rel N w0 ρ σ w) {az : List GArg} (has : argsOf (opArgs o) = some az) {K : DV → GS → Prop} (hd : gdo P k (az.map (garg env)) σ K)
    {Q : Exit → Act → World → Prop} {next : Act → World → Prop}
    (hnext : ∀ v rv ρ' σ' w', Rel N w0 ρ' σ' w' → Ext σ.length ρ w ρ' w' → σ.length ≤ σ'.length → VR ρ' v rv → K v σ' → next (a.put o.dst rv) w') : o.wpIn (FW rd) n P a w next Q := by
  refine ⟨about_true, ?_⟩
  rw [Oper.semAt_eq _ _ _ (kind_no_defer hk)]
  have hr : ∀ x ∈ o.op.operands, VR ρ (genv env x) (a.eval x) := fun x _ => genv_sound he x
  have hargs : az.map (garg env) = (opArgs o).map (genv env) := argsOf_map has
  rw [hargs] at hd
  cases k with
  | pure k =>
    rw [kind_no_call hk (by intro f h; cases h)] at hd
    simp only [gdo] at hd
    split at hd
    · rename_i v hv
      obtain ⟨rv, h1, h2⟩ := gpure_sound (kind_pure hk) hr hv w
      rw [h1, Oper.uponIn_value]
      exact hnext v rv ρ σ w h (Ext.refl _ _ _) (Nat.le_refl _) h2 hd
    · exact hd.elim
  | load k =>
    rw [kind_no_call hk (by intro f h; cases h)] at hd
    simp only [gdo] at hd
    split at hd
    · rename_i v hv
      obtain ⟨rv, h1, h2⟩ := gload_sound (kind_load hk) hr hv h
      rw [h1, Oper.uponIn_value]
      exact hnext v rv ρ σ w h (Ext.refl _ _ _) (Nat.le_refl _) h2 hd
    · exact hd.elim
  | new k =>
    rw [kind_no_call hk (by intro f h; cases h)] at hd
    simp only [gdo] at hd
    split at hd
    · rename_i obj mk hv
      obtain ⟨rv, o', off, ext, h1, h2, h3⟩ := galloc_sound (kind_new hk) hr hv (h.ghosts [obj]) (id := σ.length) (by simp) (h.none_at (Nat.le_refl _))
      rw [h1, Oper.uponIn_value]
      exact hnext _ rv _ _ _ h2 (Ext.laid (Nat.le_refl _) _ _ _) (by simp) h3 hd
    · exact hd.elim
  | imp k =>
    rw [kind_no_call hk (by intro f h; cases h)] at hd
    simp only [gdo] at hd
    split at hd
    · rename_i v σ' hv
      obtain ⟨nx, rv, w', ρ', h1, hp, h2, h3, h4⟩ := gimp_sound (kind_imp hk) hr hv h
      have hlen : σ.length ≤ σ'.length := gimp_length hv
      rw [h1]
      cases hp with
      | value v => rw [Oper.uponIn_value]; exact hnext _ _ ρ' σ' w' h2 h3 hlen h4 hd
      | skip => rw [Oper.uponIn_skip]; exact hnext _ _ ρ' σ' w' h2 h3 hlen h4 hd
    · exact hd.elim
  | call f =>
    obtain ⟨c, hc, hcal⟩ := kind_call hk
    have hop : opArgs o = c.args.toList := by simp [opArgs, hc, hcal]
    rw [hop] at hd
    simp only [gdo] at hd
    obtain ⟨fn, hf, hname, hbody⟩ := hd.1
    have hvs : VRs ρ (c.args.toList.map (genv env)) (c.args.toList.map a.eval) := by
      refine VRs.mk (by simp) fun i x hx => ?_
      simp only [List.getElem?_map, Option.map_eq_some_iff] at hx ⊢
      obtain ⟨y, hy, rfl⟩ := hx
      exact ⟨a.eval y, ⟨y, hy, rfl⟩, genv_sound he y⟩
    have hrun : (execOp a.eval o).run P w = .ok (.enter f (c.args.toList.map a.eval).toArray) w := by
      obtain ⟨callee, args, ats⟩ := c
      simp only at hcal; subst hcal
      have e : (args.toList.map a.eval).toArray = args.map a.eval := by rw [← Array.toList_map]
      simp [execOp, hc, resolve, Act.eval, Deferred.ofValue, invoke, callFunc_run hf hname hbody, e]
    rw [hrun, Oper.uponIn_enter]
    refine ⟨fun h => (by cases h), gcall_in hd h hvs fun v rv ρ' σ' w' q1 q2 q3 q4 q5 => hnext v rv ρ' σ' w' q1 q2 q3 q4 q5⟩
  | xcall f =>
    obtain ⟨c, hc, hcal⟩ := kind_xcall hk
    have hop : opArgs o = c.args.toList := by simp [opArgs, hc, hcal]
    rw [hop] at hd
    simp only [gdo] at hd
    have hvs : VRs ρ (c.args.toList.map (genv env)) (c.args.toList.map a.eval) := by
      refine VRs.mk (by simp) fun i x hx => ?_
      simp only [List.getElem?_map, Option.map_eq_some_iff] at hx ⊢
      obtain ⟨y, hy, rfl⟩ := hx
      exact ⟨a.eval y, ⟨y, hy, rfl⟩, genv_sound he y⟩
    obtain ⟨v, rv, ρ', σ', w', q1, q2, q3, q4, q5, q6⟩ := hd N w0 ρ w _ h hvs
    have hrun : (execOp a.eval o).run P w = .ok (.value rv) w' := by
      obtain ⟨callee, args, ats⟩ := c
      simp only at hcal; subst hcal
      have e : (args.toList.map a.eval).toArray = args.map a.eval := by rw [← Array.toList_map]
      rw [e] at q1
      simp [execOp, hc, resolve, Act.eval, Deferred.ofValue, invoke, q1]
    rw [hrun, Oper.uponIn_value]
    exact hnext v rv ρ' σ' w' q2 q3 q4 q5 q6
  | callv =>
    obtain ⟨c, x, hc, hcal, hne⟩ := kind_callv hk
    have hop : opArgs o = x :: c.args.toList := by
      rw [kind_no_call hk (by intro f h; cases h)]
      simp [hc, Op.operands, Call.operands, hcal]
    rw [hop] at hd
    simp only [gdo, List.map_cons] at hd
    split at hd
    · rename_i f first caps rest hx
      simp only [List.cons.injEq] at hx
      obtain ⟨hx1, rfl⟩ := hx
      obtain ⟨fn, hf, hname, hbody⟩ := hd.1
      have hxx := genv_sound he x
      rw [hx1] at hxx
      obtain ⟨ra, rb, v1, v2, v3⟩ := hxx.func_inv
      have hvs : VRs ρ (c.args.toList.map (genv env)) (c.args.toList.map a.eval) := by
        refine VRs.mk (by simp) fun i x hx => ?_
        simp only [List.getElem?_map, Option.map_eq_some_iff] at hx ⊢
        obtain ⟨y, hy, rfl⟩ := hx
        exact ⟨a.eval y, ⟨y, hy, rfl⟩, genv_sound he y⟩
      have hrun : (execOp a.eval o).run P w = .ok (.enter f (ra ++ c.args.toList.map a.eval ++ rb).toArray) w := by
        obtain ⟨callee, args, ats⟩ := c
        simp only at hcal; subst hcal
        have e : (args.toList.map a.eval).toArray = args.map a.eval := by rw [← Array.toList_map]
        simp [execOp, hc, resolve, v3, Deferred.ofValue, invoke, callFunc_run hf hname hbody, ← e]
      rw [hrun, Oper.uponIn_enter]
      refine ⟨fun h => (by cases h), gcall_in hd h ((v1.append hvs).append v2) fun v rv ρ' σ' w' q1 q2 q3 q4 q5 => hnext v rv ρ' σ' w' q1 q2 q3 q4 q5⟩
    · rename_i id rest hx
      simp only [List.cons.injEq] at hx
      obtain ⟨hx1, rfl⟩ := hx
      have hxx := genv_sound he x
      rw [hx1] at hxx
      simp only [VR] at hxx
      obtain ⟨L, hL, v3⟩ := hxx
      have hvs : VRs ρ (c.args.toList.map (genv env)) (c.args.toList.map a.eval) := by
        refine VRs.mk (by simp) fun i x hx => ?_
        simp only [List.getElem?_map, Option.map_eq_some_iff] at hx ⊢
        obtain ⟨y, hy, rfl⟩ := hx
        exact ⟨a.eval y, ⟨y, hy, rfl⟩, genv_sound he y⟩
      obtain ⟨r, r1, r2, r3⟩ := hd N w0 ρ w _ L h hvs hL
      have hget : (getObj L.blk).run P w = .ok (.loop r) w := by simp [getObj, Sem.run, r1]
      have hrun : (execOp a.eval o).run P w = .ok (.round L.blk r.fn ((r.params.zip (c.args.toList.map a.eval).toArray).foldl (fun tmps (t, a) => tmps.setIfInBounds t a) r.tmps) r.assign r.body) w := by
        obtain ⟨callee, args, ats⟩ := c
        simp only at hcal; subst hcal
        have e : args.map a.eval = (args.toList.map a.eval).toArray := by rw [← Array.toList_map]
        have hsz : (args.toList.map a.eval).toArray.size = r.params.size := by simpa using r2
        simp only [execOp, hc, resolve, v3, Deferred.ofValue, Sem.run_bind, Sem.run_pure, Result.andThen_ok, invoke, Instr.yield, Instr.getLoop, hget, e, Array.empty_append]
        rw [if_neg (by simpa using r2)]
        rfl
      rw [hrun, Oper.uponIn_round]
      refine ⟨fun h => (by cases h), ?_⟩
      refine RoundIn.mono (F := FW rd) (round_any r3) ?_
      rintro e w' ⟨v, rv, ρ', σ', rfl, q1, q2, q3, q4, q5⟩
      exact hnext v rv ρ' σ' w' q1 q2 q3 q4 q5
    · exact hd.elim
  | mnext =>
    rw [kind_no_call hk (by intro f h; cases h)] at hd
    obtain ⟨x, hx⟩ := kind_next hk
    have hxx := hr x (by rw [hx]; simp [Op.operands])
    have e : o.op.operands.toList = [x] := by rw [hx]; simp [Op.operands]
    rw [e] at hd
    simp only [gdo, List.map_cons, List.map_nil] at hd
    obtain ⟨v, rv, σ', w', q1, q2, q3, q4, q5, q6⟩ := gnext_sound (P := P) (ty := o.type) hxx hd h
    have hrun : (execOp a.eval o).run P w = .ok (.value rv) w' := by
      obtain ⟨dst, op, type, pos, after, guard⟩ := o
      simp only at hx q1; subst hx
      simp [execOp, q1]
    rw [hrun, Oper.uponIn_value]
    exact hnext v rv ρ σ' w' q2 q3 q4 q5 q6
  | eqn neg =>
    rw [kind_no_call hk (by intro f h; cases h)] at hd
    obtain ⟨op, t, x, y, yt, hx, het, hop⟩ := kind_eqn hk
    have hxx := hr x (by rw [hx]; simp [Op.operands])
    have hyy := hr y (by rw [hx]; simp [Op.operands])
    have e : o.op.operands.toList = [x, y] := by rw [hx]; simp [Op.operands]
    rw [e] at hd
    simp only [gdo, List.map_cons, List.map_nil] at hd
    generalize hgx : genv env x = gx at hd hxx
    generalize hgy : genv env y = gy at hd hyy
    unfold geqn at hd
    split at hd
    · rename_i z hz
      simp only [List.cons.injEq] at hz
      obtain ⟨rfl, rfl, _⟩ := hz
      obtain ⟨b, hb, hrun'⟩ := eqn_sound (P := P) het hxx hyy hd.1 x y neg w
      have hrun : (execOp a.eval o).run P w = .ok (.value (.bool (b != neg))) w := by
        obtain ⟨dst, op', type, pos, after, guard⟩ := o
        simp only at hx; subst hx; subst hop
        show Sem.run P (do pure (Next.value (← (do eqGuard (if neg then .neq else .eql) t x y (a.eval x) (a.eval y); binOp (if neg then .neq else .eql) t (a.eval x) (a.eval y) : Sem Value)))) w = _
        rw [Sem.run_bind, hrun']
        rfl
      rw [hrun, Oper.uponIn_value]
      exact hnext _ _ ρ σ w h (Ext.refl _ _ _) (Nat.le_refl _) (by simp [VR]) (hd.2 b hb)
    · exact hd.elim
  | bad => exact hd.elim

theorem cop_parts {ops : Array Oper} {o : Oper} {g : GOp} (h : copOf P ops o = some g) : (g.kind ≠ .bad → kindOf P o = some g.kind ∧ argsOf (opArgs o) = some g.args) ∧ g.dst = o.dst ∧
    (match o.guard with | none => some none | some (j, want) => match (ops[j]?).bind (·.dst) with | some t => some (some (t, want)) | none => none) = some g.guard := by
  unfold copOf at h
  split at h
  · rename_i k az gd h1 h2 h3
    cases h
    exact ⟨fun _ => ⟨h1, h2⟩, rfl, h3⟩
  · rename_i gd h3 h4
    cases h
    exact ⟨fun hb => absurd rfl hb, rfl, (by first | exact h3 | exact h4)⟩
  · cases h

/-- One operation of a region. -/
theorem gop_sound {rd : Option Nat} {n : Nat} {ops : Array Oper} {i : Nat} {o : Oper} (ho : ops[i]? = some o) {g : GOp} (hc : copOf P ops o = some g) {env : Env} {a : Act} (he : EnvR ρ env a) (h : Rel N w0 ρ σ w) {K : DV → GS → Prop} (hd : gop P g env σ K)
    {Q : Exit → Act → World → Prop} {next : Act → World → Prop}
    (hnext : ∀ v rv ρ' σ' w', Rel N w0 ρ' σ' w' → Ext σ.length ρ w ρ' w' → σ.length ≤ σ'.length → VR ρ' v rv → K v σ' → next (a.put g.dst rv) w') : wpOpIn (FW rd) n P ops Q i next a w := by
  obtain ⟨h12, h3, h4⟩ := cop_parts hc
  unfold wpOpIn
  simp only [ho]
  unfold gop at hd
  split at hd
  · rename_i hon
    have hnb : g.kind ≠ .bad := by intro hb; rw [hb] at hd; exact hd
    obtain ⟨h1, h2⟩ := h12 hnb
    rw [gon_sound he h4 hon, if_pos rfl]
    exact op_do h1 he h h2 hd fun v rv ρ' σ' w' q1 q2 q3 q4 q5 => by rw [← h3]; exact hnext v rv ρ' σ' w' q1 q2 q3 q4 q5
  · rename_i hon
    rw [gon_sound he h4 hon, if_neg (by simp)]
    refine ⟨about_true, ?_⟩
    rw [← h3]
    exact hnext _ undef ρ σ w h (Ext.refl _ _ _) (Nat.le_refl _) (by simp only [VR]; exact ⟨[], VRs.nil, rfl⟩) hd
  · exact hd.elim

end
end Go.Gh
namespace Go.Gh
open Go.RowKit
set_option linter.unusedVariables false
set_option linter.unusedSimpArgs false

/-- One step of a region in the ghost run: which operation, and which earlier ones are looked at again behind it. -/
structure GStep where
  i : Nat
  op : GOp
  re : List GOp

def DV.idOf : DV → Option Nat
  | .ptr id _ => some id
  | .slice id _ _ _ _ => some id
  | .map id => some id
  | _ => none
/-- What was taken early is as it was. -/
def grec1 (g : GOp) (env : Env) (σ σ' : GS) : Prop :=
  match gon env g.guard with
  | some true => match g.kind with
    | .load k => gload k (g.args.map (garg env)) σ' = gload k (g.args.map (garg env)) σ
    | .new _ => match (g.dst.bind fun t => env[t]?).bind DV.idOf with
      | some id => σ'[id]? = σ[id]?
      | none => False
    | _ => False
  | some false => True
  | none => False
def grec : List GOp → Env → GS → GS → Prop
  | [], _, _, _ => True
  | g :: gs, env, σ, σ' => grec1 g env σ σ' ∧ grec gs env σ σ'
def gsteps (P : Program) : List GStep → Env → GS → (Env → GS → Prop) → Prop
  | [], env, σ, K => K env σ
  | s :: rest, env, σ, K => gop P s.op env σ fun v σ' => grec s.re (gput env s.op.dst v) σ σ' ∧ gsteps P rest (gput env s.op.dst v) σ' K

def GOp.loud (g : GOp) : Bool := match g.kind with | .imp _ => true | .call _ => true | .xcall _ => true | .callv => true | .mnext => true | .eqn _ => true | .bad => true | _ => false
def GOp.watch (g : GOp) : Bool := match g.kind with | .load _ => true | .new _ => true | _ => false
def garg.reads : GArg → List Tmp
  | .tmp t => [t]
  | .const _ => []
def GOp.reads (g : GOp) : List Tmp := (match g.guard with | some (t, _) => [t] | none => []) ++ g.args.flatMap garg.reads

structure PlanOk (P : Program) (ops : Array Oper) (B : Nat → Nat → Bool) (st : List GStep) : Prop where
  nodup : (st.map (·.i)).Nodup
  all : ∀ i, i < ops.size → i ∈ st.map (·.i)
  len : st.length ≤ ops.size
  cop : ∀ s ∈ st, ∃ o, ops[s.i]? = some o ∧ copOf P ops o = some s.op
  low : ∀ (j : Nat) o, ops[j]? = some o → ∀ e ∈ o.after, Region.binds .any e = true → e.on < j
  bef : ∀ (j i : Nat) o, ops[j]? = some o → B j i = true → ∃ e ∈ o.after, Region.binds .any e = true ∧ (e.on = i ∨ B e.on i = true)
  topo : ∀ p s q, st = p ++ s :: q → ∀ o, ops[s.i]? = some o → ∀ e ∈ o.after, Region.binds .any e = true → e.on ∈ p.map (·.i)
  imp : ∀ p s q, st = p ++ s :: q → s.op.loud = true → ∀ s' ∈ q, B s'.i s.i = true
  re : ∀ p s q, st = p ++ s :: q → s.op.loud = true → ∀ s' ∈ p, s'.op.watch = true → B s.i s'.i = true ∨ s'.op ∈ s.re
  dst : ∀ s ∈ st, ∀ s' ∈ st, s.i ≠ s'.i → ∀ t, s.op.dst = some t → s'.op.dst ≠ some t
  reads : ∀ s ∈ st, ∀ s' ∈ st, ∀ t ∈ s.op.reads, s'.op.dst = some t → s'.i = s.i ∨ B s.i s'.i = true ∨ B s'.i s.i = true
  readsW : ∀ s ∈ st, s.op.watch = true → ∀ s' ∈ st, ∀ t ∈ s.op.reads, s'.op.dst = some t → B s.i s'.i = true

/-- A state in which an operation was taken early: its result is known; it has not been carried out in the world. -/
def Pend (g : GOp) (ei env : Env) (σ : GS) (ρ : Ren) (oid : Option Nat) : Prop :=
  (∀ t, g.dst = some t → t < env.length → ∃ v, env[t]? = some v) ∧
  ((gon ei g.guard = some false ∧ (∀ t, g.dst = some t → t < env.length → env[t]? = some (.tuple []))) ∨
   (gon ei g.guard = some true ∧
    ((∃ k v, g.kind = .pure k ∧ gpure k (g.args.map (garg ei)) = some v ∧ (∀ t, g.dst = some t → t < env.length → env[t]? = some v)) ∨
     (∃ k v, g.kind = .load k ∧ gload k (g.args.map (garg ei)) σ = some v ∧ (∀ t, g.dst = some t → t < env.length → env[t]? = some v)) ∨
     (∃ k obj mk id, g.kind = .new k ∧ oid = some id ∧ galloc k (g.args.map (garg ei)) = some (obj, mk) ∧ (∀ t, g.dst = some t → t < env.length → env[t]? = some (mk id)) ∧ σ[id]? = some obj ∧ ρ id = none))))

theorem gon_agree {e1 e2 : Env} {g : GOp} (h : ∀ t ∈ g.reads, e1[t]? = e2[t]?) : gon e1 g.guard = gon e2 g.guard := by
  cases hg : g.guard with
  | none => rfl
  | some p =>
    obtain ⟨t, want⟩ := p
    simp only [gon]
    rw [h t (by simp [GOp.reads, hg])]
theorem args_agree {e1 e2 : Env} {g : GOp} (h : ∀ t ∈ g.reads, e1[t]? = e2[t]?) : g.args.map (garg e1) = g.args.map (garg e2) := by
  refine List.map_congr_left fun x hx => ?_
  cases x with
  | const d => rfl
  | tmp t =>
    simp only [garg]
    rw [h t (by simp only [GOp.reads, List.mem_append, List.mem_flatMap]; exact .inr ⟨_, hx, by simp [garg.reads]⟩)]
theorem gop_agree {P : Program} {e1 e2 : Env} {g : GOp} (h : ∀ t ∈ g.reads, e1[t]? = e2[t]?) {σ : GS} {K : DV → GS → Prop} (hk : gop P g e1 σ K) : gop P g e2 σ K := by
  unfold gop at hk ⊢
  rw [← gon_agree h, ← args_agree h]
  exact hk
theorem gput_other {env : Env} {dst : Option Tmp} {v : DV} {t : Tmp} (h : dst ≠ some t) : (gput env dst v)[t]? = env[t]? := by
  cases dst with
  | none => rfl
  | some d => simp only [gput]; exact List.getElem?_set_ne (fun e => h (by rw [e]))
theorem gput_length {env : Env} {dst : Option Tmp} {v : DV} : (gput env dst v).length = env.length := by cases dst <;> simp [gput]
theorem gput_same {env : Env} {t : Tmp} {v : DV} (h : t < env.length) : (gput env (some t) v)[t]? = some v := by simp [gput, h]
theorem get_append {σ : GS} {id : Nat} {o : GObj} (h : σ[id]? = some o) (os : List GObj) : (σ ++ os)[id]? = some o := by
  have hlt : id < σ.length := by
    rcases Nat.lt_or_ge id σ.length with h' | h'
    · exact h'
    · rw [List.getElem?_eq_none h'] at h; cases h
  rw [List.getElem?_append_left hlt, h]
theorem gaslice_append {n sz : Nat} {lo hi : Option DV} {x v : DV} {σ : GS} (h : gaslice n sz lo hi x σ = some v) (os : List GObj) : gaslice n sz lo hi x (σ ++ os) = some v := by
  unfold gaslice at h ⊢
  split at h
  · rename_i id off
    cases hs : σ[id]? with
    | none => rw [hs] at h; cases h
    | some o => rw [get_append hs]; rw [hs] at h; exact h
  · cases h
theorem gload_append {k : LK} {l : List DV} {σ : GS} {v : DV} (h : gload k l σ = some v) (os : List GObj) : gload k l (σ ++ os) = some v := by
  unfold gload at h ⊢
  split at h
  · rename_i n agg id off
    cases hs : σ[id]? with
    | none => rw [hs] at h; cases h
    | some o => rw [get_append hs]; rw [hs] at h; exact h
  · exact h
  · exact h
  · rename_i kt z ok id key
    split at h
    · rename_i hf
      rw [if_pos hf]
      cases hs : σ[id]? with
      | none => rw [hs] at h; cases h
      | some o => rw [get_append hs]; rw [hs] at h; exact h
    · cases h
  · exact h
  · rename_i id
    cases hs : σ[id]? with
    | none => rw [hs] at h; cases h
    | some o => rw [get_append hs]; rw [hs] at h; exact h
  · rename_i it
    cases hs : σ[it]? with
    | none => rw [hs] at h; cases h
    | some o =>
      rw [get_append hs]; rw [hs] at h
      split at h
      · rename_i id since seen last ho
        cases ho
        split at h
        · rename_i b es st hb hmp
          simp only [get_append hmp, hb]
          exact h
        · cases h
      · cases h
  · split at h
    all_goals first | exact gaslice_append h os | cases h
  · cases h

section
variable {P : Program} {N : Nat} {w0 : World} {ops : Array Oper} {B : Nat → Nat → Bool} {st : List GStep}

theorem PlanOk.front (h : PlanOk P ops B st) {p : List GStep} {s : GStep} {q : List GStep} (hs : st = p ++ s :: q) : ∀ {i : Nat}, B s.i i = true → i ∈ p.map (·.i) := by
  -- by induction on how far the operation lies
  have key : ∀ m, ∀ p s q, st = p ++ s :: q → p.length = m → ∀ i, B s.i i = true → i ∈ p.map (·.i) := by
    intro m
    induction m using Nat.strongRecOn with
    | _ m ih =>
      intro p s q hs hm i hb
      obtain ⟨o, ho, _⟩ := h.cop s (by rw [hs]; simp)
      obtain ⟨e, he1, he2, he3⟩ := h.bef s.i i o ho hb
      have hin := h.topo p s q hs o ho e he1 he2
      rcases he3 with rfl | he3
      · exact hin
      · obtain ⟨s1, hs1, hs1i⟩ := List.mem_map.1 hin
        obtain ⟨p1, q1, hp1⟩ := List.append_of_mem hs1
        have := ih p1.length (by rw [← hm, hp1]; simp) p1 s1 (q1 ++ s :: q) (by rw [hs, hp1]; simp) rfl i (by rw [hs1i]; exact he3)
        rw [hp1]; simp at this ⊢; exact .inl this
  intro i hb
  exact key p.length p s q hs rfl i hb
theorem PlanOk.listed (h : PlanOk P ops B st) {listed : Array Bool} (hc : ∀ (j : Nat) o, ops[j]? = some o → listed.getD j false = true → ∀ e ∈ o.after, Region.binds .any e = true → listed.getD e.on false = true) :
    ∀ (j i : Nat) o, ops[j]? = some o → (∀ e ∈ o.after, Region.binds .any e = true → listed.getD e.on false = true) → B j i = true → listed.getD i false = true := by
  intro j
  induction j using Nat.strongRecOn with
  | _ j ih =>
    intro i o ho hl hb
    obtain ⟨e, he1, he2, he3⟩ := h.bef j i o ho hb
    have hel := hl e he1 he2
    rcases he3 with rfl | he3
    · exact hel
    · have hlt := h.low j o ho e he1 he2
      have hjs : j < ops.size := (Array.getElem?_eq_some_iff.1 ho).1
      obtain ⟨o', ho'⟩ : ∃ o', ops[e.on]? = some o' := ⟨ops[e.on], by simp [show e.on < ops.size by omega]⟩
      exact ih e.on hlt i o' ho' (fun e' h1 h2 => hc e.on o' ho' hel e' h1 h2) he3
end
end Go.Gh
namespace Go.Gh
open Go.RowKit
set_option linter.unusedVariables false
set_option linter.unusedSimpArgs false

def isL (listed : Array Bool) (s : GStep) : Prop := listed.getD s.i false = true
instance (listed : Array Bool) (s : GStep) : Decidable (isL listed s) := inferInstanceAs (Decidable (_ = true))

/-- The ghost run has done pre; the world has done what is listed. -/
structure RInv (P : Program) (ops : Array Oper) (st : List GStep) (N : Nat) (w0 : World) (n0 : Nat) (ρ0 : Ren) (ww : World) (D0 : List Deferred) (env0 : Env)
    (pre rest : List GStep) (listed : Array Bool) (a : Act) (w : World) (ρ : Ren) (env M : Env) (σ : GS) (idf : Nat → Option Nat) : Prop where
  split : st = pre ++ rest
  size : listed.size = ops.size
  closed : ∀ (j : Nat) o, ops[j]? = some o → listed.getD j false = true → ∀ e ∈ o.after, Region.binds .any e = true → listed.getD e.on false = true
  sub : ∀ j, listed.getD j false = true → j ∈ pre.map (·.i)
  rel : Rel N w0 ρ σ w
  envM : EnvR ρ M a
  lenM : M.length = env.length
  len0 : env0.length = env.length
  mix1 : ∀ t s, s ∈ pre → isL listed s → s.op.dst = some t → M[t]? = env[t]?
  mix0 : ∀ t, (∀ s ∈ pre, isL listed s → s.op.dst ≠ some t) → M[t]? = env0[t]?
  unw : ∀ t, (∀ s ∈ pre, s.op.dst ≠ some t) → env[t]? = env0[t]?
  pend : ∀ p s q, pre = p ++ s :: q → ¬ isL listed s → ∃ ei, Pend s.op ei env σ ρ (idf s.i) ∧ (∀ t s', s' ∈ p → s'.op.dst = some t → ei[t]? = env[t]?) ∧ (∀ t, (∀ s' ∈ p, s'.op.dst ≠ some t) → ei[t]? = env0[t]?)
  quiet : ∀ s ∈ pre, s.op.loud = true → isL listed s
  idlt : ∀ s ∈ pre, ∀ id, idf s.i = some id → id < σ.length ∧ n0 ≤ id
  inj : ∀ s ∈ pre, ∀ s' ∈ pre, s.i ≠ s'.i → ∀ id, idf s.i = some id → idf s'.i ≠ some id
  grow : Ext n0 ρ0 ww ρ w
  n0le : n0 ≤ σ.length
  defs : a.defers = D0

section
variable {P : Program} {ops : Array Oper} {st : List GStep} {N : Nat} {w0 : World} {n0 : Nat} {ρ0 : Ren} {ww : World} {D0 : List Deferred} {env0 : Env} {B : Nat → Nat → Bool}
variable {pre rest : List GStep} {listed : Array Bool} {a : Act} {w : World} {ρ : Ren} {env M : Env} {σ : GS} {idf : Nat → Option Nat}

theorem nodup_mid {l : List GStep} {p q : List GStep} {s : GStep} (h : (l.map (·.i)).Nodup) (hl : l = p ++ s :: q) : s.i ∉ p.map (·.i) ∧ s.i ∉ q.map (·.i) := by
  subst hl
  simp only [List.map_append, List.map_cons, List.nodup_append, List.nodup_cons] at h
  refine ⟨fun hm => ?_, h.2.1.1⟩
  exact h.2.2 _ hm _ (by simp) rfl
theorem same_i {l : List GStep} (h : (l.map (·.i)).Nodup) {s s' : GStep} (hs : s ∈ l) (hs' : s' ∈ l) (he : s.i = s'.i) : s = s' := by
  obtain ⟨p, q, rfl⟩ := List.append_of_mem hs
  obtain ⟨h1, h2⟩ := nodup_mid h rfl
  simp only [List.mem_append, List.mem_cons] at hs'
  rcases hs' with h' | rfl | h'
  · exact absurd (he ▸ List.mem_map_of_mem h') h1
  · rfl
  · exact absurd (he ▸ List.mem_map_of_mem h') h2

/-- What a quiet operation does in the ghost run. -/
theorem quiet_cases {g : GOp} (hq : g.loud = false) {K : DV → GS → Prop} (h : gop P g env σ K) :
    (gon env g.guard = some false ∧ K (.tuple []) σ) ∨ (gon env g.guard = some true ∧
      ((∃ k v, g.kind = .pure k ∧ gpure k (g.args.map (garg env)) = some v ∧ K v σ) ∨ (∃ k v, g.kind = .load k ∧ gload k (g.args.map (garg env)) σ = some v ∧ K v σ) ∨
       (∃ k obj mk, g.kind = .new k ∧ galloc k (g.args.map (garg env)) = some (obj, mk) ∧ K (mk σ.length) (σ ++ [obj])))) := by
  unfold gop at h
  split at h
  · rename_i hon
    refine .inr ⟨hon, ?_⟩
    unfold gdo at h
    cases hk : g.kind with
    | pure k =>
      rw [hk] at h; simp only at h
      split at h
      · rename_i v hv; exact .inl ⟨k, v, rfl, hv, h⟩
      · exact h.elim
    | load k =>
      rw [hk] at h; simp only at h
      split at h
      · rename_i v hv; exact .inr (.inl ⟨k, v, rfl, hv, h⟩)
      · exact h.elim
    | new k =>
      rw [hk] at h; simp only at h
      split at h
      · rename_i obj mk hv; exact .inr (.inr ⟨k, obj, mk, rfl, hv, h⟩)
      · exact h.elim
    | imp k => simp [GOp.loud, hk] at hq
    | call k => simp [GOp.loud, hk] at hq
    | xcall k => simp [GOp.loud, hk] at hq
    | callv => simp [GOp.loud, hk] at hq
    | mnext => simp [GOp.loud, hk] at hq
    | eqn n => simp [GOp.loud, hk] at hq
    | bad => simp [GOp.loud, hk] at hq
  · rename_i hon; exact .inl ⟨hon, h⟩
  · exact h.elim

/-- The ghost run goes one quiet step ahead. -/
theorem RInv.advance (hp : PlanOk P ops B st) {s : GStep} (h : RInv P ops st N w0 n0 ρ0 ww D0 env0 pre (s :: rest) listed a w ρ env M σ idf) (hq : s.op.loud = false) {K : Env → GS → Prop} (hk : gsteps P (s :: rest) env σ K) :
    ∃ env' σ' idf', RInv P ops st N w0 n0 ρ0 ww D0 env0 (pre ++ [s]) rest listed a w ρ env' M σ' idf' ∧ gsteps P rest env' σ' K := by
  have hnd := hp.nodup
  have hsplit := h.split
  obtain ⟨hni, _⟩ := nodup_mid hnd hsplit
  have hsm : s ∈ st := by rw [hsplit]; simp
  have hpm : ∀ s' ∈ pre, s' ∈ st := fun s' hs' => by rw [hsplit]; simp [hs']
  have hnl : ¬ isL listed s := fun hl => hni (h.sub _ hl)
  have hne : ∀ s' ∈ pre, s'.i ≠ s.i := fun s' hs' e => hni (e ▸ List.mem_map_of_mem hs')
  have hdst : ∀ s' ∈ pre, ∀ t, s'.op.dst = some t → s.op.dst ≠ some t := fun s' hs' t ht => hp.dst s' (hpm s' hs') s hsm (hne s' hs') t ht
  -- the new state, whatever the step yields
  have build : ∀ (v : DV) (σ' : GS) (idf' : Nat → Option Nat), σ.length ≤ σ'.length → (∀ os : Nat, os < σ.length → σ'[os]? = σ[os]?) → Rel N w0 ρ σ' w → (∀ k l u, gload k l σ = some u → gload k l σ' = some u) →
      (∀ s' ∈ pre, idf' s'.i = idf s'.i) → (∀ id, idf' s.i = some id → id < σ'.length ∧ σ.length ≤ id) →
      Pend s.op env (gput env s.op.dst v) σ' ρ (idf' s.i) → RInv P ops st N w0 n0 ρ0 ww D0 env0 (pre ++ [s]) rest listed a w ρ (gput env s.op.dst v) M σ' idf' := by
    intro v σ' idf' hlen hold hrel hload hid hidn hpd
    have hene : ∀ s' ∈ pre, ∀ t, s'.op.dst = some t → (gput env s.op.dst v)[t]? = env[t]? := fun s' hs' t ht => gput_other (hdst s' hs' t ht)
    refine ⟨by rw [hsplit]; simp, h.size, h.closed, fun j hj => by simpa using .inl (by simpa using h.sub j hj), hrel, h.envM, by rw [gput_length]; exact h.lenM, by rw [gput_length]; exact h.len0, ?_, ?_, ?_, ?_, ?_, ?_, ?_, h.grow, by have := h.n0le; omega, h.defs⟩
    · intro t s' hs' hl ht
      simp only [List.mem_append, List.mem_singleton] at hs'
      rcases hs' with hs' | rfl
      · rw [hene s' hs' t ht]; exact h.mix1 t s' hs' hl ht
      · exact absurd hl hnl
    · intro t ht
      exact h.mix0 t fun s' hs' hl => ht s' (by simp [hs']) hl
    · intro t ht
      rw [gput_other (ht s (by simp))]
      exact h.unw t fun s' hs' => ht s' (by simp [hs'])
    · intro p s1 q hpq hl1
      -- the step is the new one, or one of before
      rcases List.eq_nil_or_concat q with rfl | ⟨q', z, rfl⟩
      · have he : pre = p ∧ s = s1 := by
          have := List.append_inj' (s₁ := pre) (s₂ := p) (t₁ := [s]) (t₂ := [s1]) hpq rfl
          exact ⟨this.1, by simpa using this.2⟩
        obtain ⟨rfl, rfl⟩ := he
        refine ⟨env, hpd, fun t s' hs' ht => (hene s' hs' t ht).symm, fun t ht => h.unw t ht⟩
      · rw [List.concat_eq_append] at hpq
        have he : pre = p ++ s1 :: q' ∧ s = z := by
          have := List.append_inj' (s₁ := pre) (s₂ := p ++ s1 :: q') (t₁ := [s]) (t₂ := [z]) (by rw [hpq]; simp) rfl
          exact ⟨this.1, by simpa using this.2⟩
        obtain ⟨hpre, rfl⟩ := he
        have hs1 : s1 ∈ pre := by rw [hpre]; simp
        obtain ⟨ei, ⟨hrange, hpend⟩, h1, h2⟩ := h.pend p s1 q' hpre hl1
        have hkeep : ∀ u : DV, (∀ t, s1.op.dst = some t → t < env.length → env[t]? = some u) → ∀ t, s1.op.dst = some t → t < (gput env s.op.dst v).length → (gput env s.op.dst v)[t]? = some u := by
          intro u hu t ht hlt
          rw [hene s1 hs1 t ht]; exact hu t ht (by rwa [gput_length] at hlt)
        refine ⟨ei, ⟨?_, ?_⟩, fun t s' hs' ht => ?_, h2⟩
        · intro t ht hlt
          rw [hene s1 hs1 t ht]; exact hrange t ht (by rwa [gput_length] at hlt)
        · rw [hid s1 hs1]
          rcases hpend with ⟨g1, g2⟩ | ⟨g1, ⟨k, u, k1, k2, k3⟩ | ⟨k, u, k1, k2, k3⟩ | ⟨k, obj, mk, id, k1, k0, k2, k3, k4, k5⟩⟩
          · exact .inl ⟨g1, hkeep _ g2⟩
          · exact .inr ⟨g1, .inl ⟨k, u, k1, k2, hkeep _ k3⟩⟩
          · exact .inr ⟨g1, .inr (.inl ⟨k, u, k1, hload _ _ _ k2, hkeep _ k3⟩)⟩
          · refine .inr ⟨g1, .inr (.inr ⟨k, obj, mk, id, k1, k0, k2, hkeep _ k3, ?_, k5⟩)⟩
            rw [hold _ (h.idlt s1 hs1 id k0).1]
            exact k4
        · rw [hene s' (by rw [hpre]; simp [hs']) t ht]; exact h1 t s' hs' ht
    · intro s' hs' hl
      simp only [List.mem_append, List.mem_singleton] at hs'
      rcases hs' with hs' | rfl
      · exact h.quiet s' hs' hl
      · rw [hq] at hl; cases hl
    · intro s' hs' id hid'
      simp only [List.mem_append, List.mem_singleton] at hs'
      rcases hs' with hs' | rfl
      · rw [hid s' hs'] at hid'; have := h.idlt s' hs' id hid'; omega
      · have := hidn id hid'; have := h.n0le; omega
    · intro s' hs' s'' hs'' hne' id hk1
      simp only [List.mem_append, List.mem_singleton] at hs' hs''
      rcases hs' with hs' | rfl
      · rw [hid s' hs'] at hk1
        rcases hs'' with hs'' | rfl
        · rw [hid s'' hs'']; exact h.inj s' hs' s'' hs'' hne' id hk1
        · intro e
          have := (hidn id e).2
          have := h.idlt s' hs' id hk1
          omega
      · rcases hs'' with hs'' | rfl
        · rw [hid s'' hs'']
          intro e
          have := (hidn id hk1).2
          have := h.idlt s'' hs'' id e
          omega
        · exact absurd rfl hne'
  -- the four ways of a quiet step
  have hput : ∀ (v : DV) t, s.op.dst = some t → t < (gput env s.op.dst v).length → (gput env s.op.dst v)[t]? = some v := by
    intro v t ht hlt
    rw [ht]; exact gput_same (by rwa [gput_length] at hlt)
  have idfn : ∀ (o : Option Nat) (s' : GStep), s' ∈ pre → (fun i => if i = s.i then o else idf i) s'.i = idf s'.i := fun o s' hs' => by simp [hne s' hs']
  simp only [gsteps] at hk
  rcases quiet_cases hq hk with ⟨h1, h2⟩ | ⟨h1, ⟨k, v, h2, h3, h4⟩ | ⟨k, v, h2, h3, h4⟩ | ⟨k, obj, mk, h2, h3, h4⟩⟩
  · exact ⟨_, σ, fun i => if i = s.i then none else idf i, build (.tuple []) σ _ (Nat.le_refl _) (fun _ _ => rfl) h.rel (fun _ _ _ h => h) (idfn none) (fun id hid => by simp at hid) ⟨fun t ht hlt => ⟨_, hput _ t ht hlt⟩, .inl ⟨h1, hput _⟩⟩, h2.2⟩
  · exact ⟨_, σ, fun i => if i = s.i then none else idf i, build v σ _ (Nat.le_refl _) (fun _ _ => rfl) h.rel (fun _ _ _ h => h) (idfn none) (fun id hid => by simp at hid) ⟨fun t ht hlt => ⟨_, hput _ t ht hlt⟩, .inr ⟨h1, .inl ⟨k, v, h2, h3, hput _⟩⟩⟩, h4.2⟩
  · exact ⟨_, σ, fun i => if i = s.i then none else idf i, build v σ _ (Nat.le_refl _) (fun _ _ => rfl) h.rel (fun _ _ _ h => h) (idfn none) (fun id hid => by simp at hid) ⟨fun t ht hlt => ⟨_, hput _ t ht hlt⟩, .inr ⟨h1, .inr (.inl ⟨k, v, h2, h3, hput _⟩)⟩⟩, h4.2⟩
  · refine ⟨_, σ ++ [obj], fun i => if i = s.i then some σ.length else idf i, build (mk σ.length) (σ ++ [obj]) _ (by simp) (fun os hos => List.getElem?_append_left hos) (h.rel.ghosts [obj]) (fun k l u hu => gload_append hu _) (idfn _) (fun id hid => by simp at hid; subst hid; simp) ⟨fun t ht hlt => ⟨_, hput _ t ht hlt⟩, .inr ⟨h1, .inr (.inr ⟨k, obj, mk, σ.length, h2, by simp, h3, hput _, by simp, h.rel.none_at (Nat.le_refl _)⟩)⟩⟩, h4.2⟩
end
end Go.Gh
namespace Go.Gh
open Go.RowKit
set_option linter.unusedVariables false
set_option linter.unusedSimpArgs false

section
variable {P : Program} {ops : Array Oper} {st : List GStep} {N : Nat} {w0 : World} {n0 : Nat} {ρ0 : Ren} {ww : World} {D0 : List Deferred} {env0 : Env} {B : Nat → Nat → Bool}
variable {pre rest : List GStep} {listed : Array Bool} {a : Act} {w : World} {ρ : Ren} {env M : Env} {σ : GS} {idf : Nat → Option Nat}

theorem isL_set_ne {s : GStep} {i : Nat} (h : s.i ≠ i) : isL (listed.setIfInBounds i true) s ↔ isL listed s := by
  unfold isL; rw [getD_set_ne false (Ne.symm h)]
theorem isL_set_self {s : GStep} (h : s.i < listed.size) : isL (listed.setIfInBounds s.i true) s := by
  unfold isL; simp [h]
theorem closed_set (hc : ∀ (j : Nat) o, ops[j]? = some o → listed.getD j false = true → ∀ e ∈ o.after, Region.binds .any e = true → listed.getD e.on false = true) {i : Nat} (hr : i ∈ Region.ready .any ops listed) :
    ∀ (j : Nat) o, ops[j]? = some o → (listed.setIfInBounds i true).getD j false = true → ∀ e ∈ o.after, Region.binds .any e = true → (listed.setIfInBounds i true).getD e.on false = true := by
  intro j o ho hl e he hb
  by_cases hj : i = j
  · subst hj
    obtain ⟨_, o', ho', hall⟩ := mem_ready.1 hr
    rw [ho] at ho'; cases ho'
    exact getD_set_true (hall e he hb)
  · rw [getD_set_ne false hj] at hl
    exact getD_set_true (hc j o ho hl e he hb)
theorem not_listed_of_ready {s : GStep} (hr : s.i ∈ Region.ready .any ops listed) : ¬ isL listed s ∧ s.i < listed.size := by
  obtain ⟨h0, _⟩ := mem_ready.1 hr
  have hlt : s.i < listed.size := by
    rcases Nat.lt_or_ge s.i listed.size with h' | h'
    · exact h'
    · simp [Array.getElem?_eq_none h'] at h0
  refine ⟨fun h => ?_, hlt⟩
  unfold isL at h
  simp [hlt] at h0 h
  rw [h0] at h; cases h

/-- What a pending operation reads in the world is what it read in the ghost run. -/
theorem RInv.agree (hp : PlanOk P ops B st) (h : RInv P ops st N w0 n0 ρ0 ww D0 env0 pre rest listed a w ρ env M σ idf) {p q : List GStep} {s : GStep} (hpre : pre = p ++ s :: q) (hr : s.i ∈ Region.ready .any ops listed) {ei : Env}
    (e1 : ∀ t s', s' ∈ p → s'.op.dst = some t → ei[t]? = env[t]?) (e0 : ∀ t, (∀ s' ∈ p, s'.op.dst ≠ some t) → ei[t]? = env0[t]?) : ∀ t ∈ s.op.reads, M[t]? = ei[t]? := by
  intro t ht
  have hnd := hp.nodup
  have hst : st = p ++ s :: (q ++ rest) := by rw [h.split, hpre]; simp
  have hsm : s ∈ st := by rw [hst]; simp
  obtain ⟨hnl, hlt⟩ := not_listed_of_ready hr
  obtain ⟨_, o, ho, hall⟩ := mem_ready.1 hr
  by_cases hw : ∃ s' ∈ p, s'.op.dst = some t
  · obtain ⟨s', hs', hd⟩ := hw
    have hs'm : s' ∈ st := by rw [hst]; simp [hs']
    have hs'p : s' ∈ pre := by rw [hpre]; simp [hs']
    have hl : isL listed s' := by
      rcases hp.reads s hsm s' hs'm t ht hd with e | e | e
      · exact absurd (e ▸ List.mem_map_of_mem hs') (nodup_mid hnd hst).1
      · exact hp.listed h.closed s.i s'.i o ho hall e
      · obtain ⟨p1, q1, rfl⟩ := List.append_of_mem hs'
        have := hp.front (p := p1) (s := s') (q := q1 ++ s :: (q ++ rest)) (by rw [hst]; simp) e
        exact absurd (by simp at this ⊢; exact .inl this) (nodup_mid hnd hst).1
    rw [h.mix1 t s' hs'p hl hd, e1 t s' hs' hd]
  · have hw' : ∀ s' ∈ p, s'.op.dst ≠ some t := fun s' hs' hd => hw ⟨s', hs', hd⟩
    rw [e0 t hw']
    refine h.mix0 t fun s' hs' hl hd => ?_
    have hs'm : s' ∈ st := by rw [h.split]; simp [hs']
    rcases hp.reads s hsm s' hs'm t ht hd with e | e | e
    · have := same_i hnd hs'm hsm e; subst this; exact hnl hl
    · have := hp.front hst e
      obtain ⟨s2, hs2, hs2i⟩ := List.mem_map.1 this
      have : s2 = s' := same_i hnd (by rw [hst]; simp [hs2]) hs'm hs2i
      subst this
      exact hw' _ hs2 hd
    · obtain ⟨o', ho', _⟩ := hp.cop s' hs'm
      have := hp.listed h.closed s'.i s.i o' ho' (fun e he hb => h.closed s'.i o' ho' hl e he hb) e
      exact hnl this

/-- A pending operation is carried out in the world. -/
theorem RInv.exec (hp : PlanOk P ops B st) (h : RInv P ops st N w0 n0 ρ0 ww D0 env0 pre rest listed a w ρ env M σ idf) {s : GStep} (hs : s ∈ pre) (hr : s.i ∈ Region.ready .any ops listed)
    {rd : Option Nat} {n : Nat} {Q : Exit → Act → World → Prop} {next : Act → World → Prop}
    (hnext : ∀ a' w' ρ' M', RInv P ops st N w0 n0 ρ0 ww D0 env0 pre rest (listed.setIfInBounds s.i true) a' w' ρ' env M' σ idf → next a' w') : wpOpIn (FW rd) n P ops Q s.i next a w := by
  obtain ⟨p, q, hpre⟩ := List.append_of_mem hs
  obtain ⟨hnl, hlt⟩ := not_listed_of_ready hr
  obtain ⟨ei, ⟨hrange, hpend⟩, e1, e0⟩ := h.pend p s q hpre hnl
  have hag := h.agree hp hpre hr e1 e0
  have hsm : s ∈ st := by rw [h.split]; simp [hs]
  obtain ⟨o, ho, hc⟩ := hp.cop s hsm
  obtain ⟨c12, c3, c4⟩ := cop_parts hc
  have hnd := hp.nodup
  -- the state behind it
  have build : ∀ (v : DV) (rv : Value) (w' : World) (ρ' : Ren), (∀ t, s.op.dst = some t → t < env.length → env[t]? = some v) → VR ρ' v rv → Rel N w0 ρ' σ w' → ρ.le ρ' → Ext n0 ρ0 ww ρ' w' →
      (∀ id, ρ id = none → idf s.i ≠ some id → ρ' id = none) → RInv P ops st N w0 n0 ρ0 ww D0 env0 pre rest (listed.setIfInBounds s.i true) (a.put s.op.dst rv) w' ρ' env (gput M s.op.dst v) σ idf := by
    intro v rv w' ρ' hv hvr hrel hle hgrow hnone
    refine ⟨h.split, by simpa using h.size, closed_set h.closed hr, ?_, hrel, (h.envM.mono hle).put hvr _, by rw [gput_length]; exact h.lenM, h.len0, ?_, ?_, h.unw, ?_, ?_, h.idlt, h.inj, hgrow, h.n0le, ?_⟩
    · intro j hj
      by_cases hji : s.i = j
      · subst hji; exact List.mem_map_of_mem hs
      · rw [getD_set_ne false hji] at hj; exact h.sub j hj
    · intro t s' hs' hl hd
      by_cases hss : s'.i = s.i
      · have := same_i hnd (by rw [h.split]; simp [hs']) hsm hss
        subst this
        by_cases htl : t < M.length
        · rw [hd, gput_same htl, hv t hd (by rw [← h.lenM]; exact htl)]
        · have hm1 : (gput M s'.op.dst v).length ≤ t := by rw [gput_length]; exact Nat.le_of_not_lt htl
          have hm2 : env.length ≤ t := by rw [← h.lenM]; exact Nat.le_of_not_lt htl
          rw [List.getElem?_eq_none hm1, List.getElem?_eq_none hm2]
      · rw [gput_other (hp.dst s' (by rw [h.split]; simp [hs']) s hsm hss t hd)]
        exact h.mix1 t s' hs' ((isL_set_ne hss).1 hl) hd
    · intro t ht
      rw [gput_other (ht s hs (isL_set_self hlt))]
      refine h.mix0 t fun s' hs' hl => ht s' hs' ?_
      unfold isL at hl ⊢
      exact getD_set_true hl
    · intro p' s' q' hpre' hl
      have hss : s'.i ≠ s.i := by
        intro e
        have := same_i hnd (by rw [h.split, hpre']; simp) hsm e
        subst this
        exact hl (isL_set_self hlt)
      obtain ⟨ei', ⟨r1, r2⟩, r3, r4⟩ := h.pend p' s' q' hpre' (fun hh => hl ((isL_set_ne hss).2 hh))
      refine ⟨ei', ⟨r1, ?_⟩, r3, r4⟩
      rcases r2 with r2 | ⟨g1, g2 | g2 | ⟨k, obj, mk, id, k1, k0, k2, k3, k4, k5⟩⟩
      · exact .inl r2
      · exact .inr ⟨g1, .inl g2⟩
      · exact .inr ⟨g1, .inr (.inl g2)⟩
      · refine .inr ⟨g1, .inr (.inr ⟨k, obj, mk, id, k1, k0, k2, k3, k4, hnone id k5 ?_⟩)⟩
        exact h.inj s' (by rw [hpre']; simp) s hs hss id k0
    · intro s' hs' hl
      unfold isL
      exact getD_set_true (h.quiet s' hs' hl)
    · have := h.defs
      cases s.op.dst <;> exact this
  unfold wpOpIn
  simp only [ho]
  have hgon : gon M s.op.guard = gon ei s.op.guard := gon_agree hag
  have hargs : s.op.args.map (garg M) = s.op.args.map (garg ei) := args_agree hag
  have hmap : s.op.kind ≠ .bad → s.op.args.map (garg M) = (opArgs o).map (genv M) := fun hb => argsOf_map (c12 hb).2
  have hrr : ∀ x ∈ o.op.operands, VR ρ (genv M x) (a.eval x) := fun x _ => genv_sound h.envM x
  rcases hpend with ⟨g1, g2⟩ | ⟨g1, ⟨k, v, k1, k2, k3⟩ | ⟨k, v, k1, k2, k3⟩ | ⟨k, obj, mk, id, k1, k0, k2, k3, k4, k5⟩⟩
  · rw [gon_sound h.envM c4 (hgon.trans g1), if_neg (by simp)]
    refine ⟨about_true, ?_⟩
    rw [← c3]
    exact hnext _ _ ρ _ (build (.tuple []) undef w ρ g2 (by simp only [VR]; exact ⟨[], VRs.nil, rfl⟩) h.rel (Ren.le_refl _) h.grow (fun _ h _ => h))
  · rw [gon_sound h.envM c4 (hgon.trans g1), if_pos rfl]
    have hnb : s.op.kind ≠ .bad := by rw [k1]; intro e; cases e
    have c1 := (c12 hnb).1
    rw [k1] at c1
    rw [← hargs, hmap hnb, kind_no_call c1 (by intro f h; cases h)] at k2
    obtain ⟨rv, h1, h2⟩ := gpure_sound (kind_pure c1) hrr k2 w
    refine ⟨about_true, ?_⟩
    rw [Oper.semAt_eq _ _ _ (kind_no_defer c1), h1, Oper.uponIn_value, ← c3]
    exact hnext _ _ ρ _ (build v rv w ρ k3 h2 h.rel (Ren.le_refl _) h.grow (fun _ h _ => h))
  · rw [gon_sound h.envM c4 (hgon.trans g1), if_pos rfl]
    have hnb : s.op.kind ≠ .bad := by rw [k1]; intro e; cases e
    have c1 := (c12 hnb).1
    rw [k1] at c1
    rw [← hargs, hmap hnb, kind_no_call c1 (by intro f h; cases h)] at k2
    obtain ⟨rv, h1, h2⟩ := gload_sound (kind_load c1) hrr k2 h.rel
    refine ⟨about_true, ?_⟩
    rw [Oper.semAt_eq _ _ _ (kind_no_defer c1), h1, Oper.uponIn_value, ← c3]
    exact hnext _ _ ρ _ (build v rv w ρ k3 h2 h.rel (Ren.le_refl _) h.grow (fun _ h _ => h))
  · rw [gon_sound h.envM c4 (hgon.trans g1), if_pos rfl]
    have hnb : s.op.kind ≠ .bad := by rw [k1]; intro e; cases e
    have c1 := (c12 hnb).1
    rw [k1] at c1
    rw [← hargs, hmap hnb, kind_no_call c1 (by intro f h; cases h)] at k2
    obtain ⟨rv, o', off, ext, h1, h2, h3⟩ := galloc_sound (kind_new c1) hrr k2 h.rel k4 k5
    refine ⟨about_true, ?_⟩
    rw [Oper.semAt_eq _ _ _ (kind_no_defer c1), h1, Oper.uponIn_value, ← c3]
    refine hnext _ _ (ρ.put id ⟨w.heap.size, off, ext⟩) _ (build (mk id) rv _ _ k3 h3 h2 (Ren.le_put k5 _) (h.grow.trans (Ext.laid (h.idlt s hs id k0).2 _ _ _) (Nat.le_refl _)) (fun id' hid' hne => ?_))
    · rw [Ren.put_other]
      · exact hid'
      · intro e; subst e; exact hne k0
end
end Go.Gh
