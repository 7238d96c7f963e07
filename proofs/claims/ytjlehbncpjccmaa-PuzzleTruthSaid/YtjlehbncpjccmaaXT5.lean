/-
  Proved: the reference's game over the net of a puzzle has the answer of the table of winning places.
  Part 5 of 7. Conditions: none. A verified frame that runs compiled texts over a ghost heap, the contracts of the functions that the statement reaches, and the plain law.
-/
import Derived.Test.YtjlehbncpjccmaaXT4
import Derived.Test.YtjlehbncpjccmaaProg
import Derived.KernelRfl
namespace Go.Gh
open Go.RowKit Go.Proofs
set_option linter.unusedVariables false
set_option linter.unusedSimpArgs false
set_option maxRecDepth 20000
set_option maxHeartbeats 4000000
theorem Sl.fit {α : Type} {sz : Nat} {R : GS → List DV → α → Prop} (hR : ∀ σ σ' c x, R σ c x → R σ' c x) {σ σ' : GS} {s : DV} {xs : List α} (h : Sl sz R σ s xs) (hf : ∀ i, s.has i → σ'[i]? = σ[i]?) : Sl sz R σ' s xs := by
  rcases h with h | ⟨id, off, cap, ro, cs, rfl, h2, h3, h4⟩
  · exact .inl h
  · exact .inr ⟨id, off, cap, ro, cs, rfl, by rw [hf id ⟨_, _, _, _, rfl⟩]; exact h2, h3, fun i x hi => hR _ _ _ _ (h4 i x hi)⟩
theorem SInt.fit {σ σ' : GS} {s : DV} {xs : List Int} (h : SInt σ s xs) (hf : ∀ i, s.has i → σ'[i]? = σ[i]?) : SInt σ' s xs := Sl.fit (fun _ _ _ _ h => h) h hf
theorem Sl.has_lt {α : Type} {sz : Nat} {R : GS → List DV → α → Prop} {σ : GS} {s : DV} {xs : List α} (h : Sl sz R σ s xs) {i : Nat} (hi : s.has i) : i < σ.length := by
  rcases h with ⟨rfl | rfl, _⟩ | ⟨id, off, cap, ro, cs, rfl, h2, _⟩
  · obtain ⟨_, _, _, _, e⟩ := hi; cases e
  · obtain ⟨_, _, _, _, e⟩ := hi; cases e
  · obtain ⟨_, _, _, _, e⟩ := hi; cases e; exact get_dom h2
theorem OInt.has_ge {n : Nat} {σ : GS} {s : DV} {xs : List Int} (h : OInt n σ s xs) {i : Nat} (hi : s.has i) : n ≤ i := by
  rcases h with ⟨rfl, _⟩ | ⟨id, cap, rest, h1, rfl, _⟩
  · obtain ⟨_, _, _, _, e⟩ := hi; cases e
  · obtain ⟨_, _, _, _, e⟩ := hi; cases e; exact h1
theorem OInt.fit {n : Nat} {σ σ' : GS} {s : DV} {xs : List Int} (h : OInt n σ s xs) (hf : ∀ i, s.has i → σ'[i]? = σ[i]?) : OInt n σ' s xs := by
  rcases h with h | ⟨id, cap, rest, h1, rfl, h3, h4⟩
  · exact .inl h
  · exact .inr ⟨id, cap, rest, h1, rfl, by rw [hf id ⟨_, _, _, _, rfl⟩]; exact h3, h4⟩
/-- A copy of a list; the empty one is nil. -/
theorem clone_ok {xs : List Int} {s : DV} {σ : GS} {Post : DV → GS → Prop} (hs : SInt σ s xs) (he : xs = [] → s = .nils) (hl : xs.length < 2 ^ 39)
    (h : ∀ v σ', Fr σ.length σ σ' → OInt σ.length σ' v xs → (xs = [] → v = .nils) → Post v σ') : GCall Try.prog 70 [s] σ Post := by
  refine gc70 ?_
  by_cases hx : xs = []
  · have := he hx
    subst this
    have hq : gbin .eql .slice .nils .nils = some (.bool true) := rfl
    simp [g70, genv0, List.replicate, hq]
    exact h _ _ Fr.rfl' (.inl ⟨rfl, hx⟩) (fun _ => rfl)
  · have hq : gbin .eql .slice s .nils = some (.bool false) := by
      rcases hs with ⟨_, e⟩ | ⟨id, off, cap, ro, cs, rfl, _⟩
      · exact absurd e hx
      · have : 0 < xs.length := List.length_pos_iff.2 hx
        simp [gbin, geq, this]
    have hb : galloc (.bslice 1 [.int .i64 0] 0 []) [] = some (.row false [], fun id => .slice id 0 0 1 (some 0)) := rfl
    have ho : OInt σ.length (σ ++ [.row false []]) (.slice σ.length 0 0 1 (some 0)) [] := .inr ⟨σ.length, some 0, [], Nat.le_refl _, rfl, by simp, by simp⟩
    obtain ⟨v, σ', q1, q2, q3, q4, q5⟩ := ho.append (hs.app [.row false []]) (by simp) (by simp; omega)
    simp [g70, genv0, List.replicate, hq, hb, q1]
    exact h _ _ ((Fr.rfl'.app _).trans q3) (by simpa using q2) (fun e => absurd e hx)
def cellsG (p : Gat × DV) : List DV := [.int .i64 p.1.var, .int .u8 p.1.kind, p.2]
theorem flatG_len (gs : List (Gat × DV)) : (gs.flatMap cellsG).length = gs.length * 3 := by
  induction gs with
  | nil => rfl
  | cons x gs ih => simp [ih, cellsG]; omega
/-- The slice of gates, of one's own. -/
def OG (σ : GS) (gv : DV) (gs : List (Gat × DV)) : Prop :=
  (gv = .nils ∧ gs = []) ∨ ∃ id cap rest, gv = .slice id 0 gs.length 3 cap ∧ σ[id]? = some (.row false (gs.flatMap cellsG ++ rest)) ∧ ∀ c, cap = some c → c * 3 ≤ gs.length * 3 + rest.length
theorem OG.has_lt {σ : GS} {gv : DV} {gs : List (Gat × DV)} (h : OG σ gv gs) {i : Nat} (hi : gv.has i) : i < σ.length := by
  rcases h with ⟨rfl, _⟩ | ⟨id, cap, rest, rfl, h2, _⟩
  · obtain ⟨_, _, _, _, e⟩ := hi; cases e
  · obtain ⟨_, _, _, _, e⟩ := hi; cases e; exact get_dom h2
theorem OG.fit {σ σ' : GS} {gv : DV} {gs : List (Gat × DV)} (h : OG σ gv gs) (hf : ∀ i, gv.has i → σ'[i]? = σ[i]?) : OG σ' gv gs := by
  rcases h with h | ⟨id, cap, rest, rfl, h2, h3⟩
  · exact .inl h
  · exact .inr ⟨id, cap, rest, rfl, by rw [hf id ⟨_, _, _, _, rfl⟩]; exact h2, h3⟩
theorem OG.push {σ : GS} {gv : DV} {gs : List (Gat × DV)} (h : OG σ gv gs) (p : Gat × DV) (hp : p.2.flat = true) (hl : gs.length < 2 ^ 30) :
    ∃ gv' σ', gimp (.append 3 40) [gv, .slice σ.length 0 1 3 (some 1)] (σ ++ [GObj.row false (cellsG p)]) = some (gv', σ') ∧ OG σ' gv' (gs ++ [p]) ∧ σ.length ≤ σ'.length ∧ (∀ i, i < σ.length → ¬ gv.has i → σ'[i]? = σ[i]?) ∧ (∀ i, gv'.has i → gv.has i ∨ σ.length ≤ i) := by
  have hr : gread 3 (.slice σ.length 0 1 3 (some 1)) (σ ++ [GObj.row false (cellsG p)]) = some (cellsG p) := by simp [gread, cellsG]
  have hgo : ∀ m, m ≤ gs.length + 1 → growOk m 40 = true := by intro m hm; simp [growOk]; omega
  have hfl : (cellsG p).all DV.flat = true := by simp [cellsG, hp]
  rcases h with ⟨rfl, rfl⟩ | ⟨id, cap, rest, rfl, h2, h3⟩
  · refine ⟨.slice (σ.length + 1) 0 1 3 none, σ ++ [GObj.row false (cellsG p), .row false (cellsG p)], ?_, ?_, by simp, fun i hi _ => List.getElem?_append_left hi, ?_⟩
    · have := hgo 1 (by omega)
      simp [gimp, gappend, hr, glen, this]
    · exact .inr ⟨σ.length + 1, none, [], rfl, by simp, by simp⟩
    · rintro i ⟨_, _, _, _, e⟩; cases e; exact .inr (by omega)
  · have hid := get_dom h2
    have h2' := getE_append (τ := [GObj.row false (cellsG p)]) h2
    have hrd : gread 3 (.slice id 0 gs.length 3 cap) (σ ++ [GObj.row false (cellsG p)]) = some (gs.flatMap cellsG) := by
      by_cases h0 : gs.length = 0
      · simp [gread, List.length_eq_zero_iff.1 h0]
      · simp only [gread, if_neg h0, if_pos, h2']
        rw [if_pos (by rw [List.length_append, flatG_len]; omega)]
        rw [List.drop_zero, List.take_append_of_le_length (by rw [flatG_len]; omega), List.take_of_length_le (by rw [flatG_len]; omega)]
    have hcat : (gs ++ [p]).flatMap cellsG = gs.flatMap cellsG ++ cellsG p := by simp
    have hnew : (∃ s' σ', (s' = DV.slice (σ.length + 1) 0 (gs.length + 1) 3 none ∧ (σ' = σ ++ [GObj.row false (cellsG p), .row false (gs.flatMap cellsG ++ cellsG p)] ∨ σ' = (σ ++ [GObj.row false (cellsG p)]).set id .dead ++ [GObj.row false (gs.flatMap cellsG ++ cellsG p)])) ∧ gimp (.append 3 40) [.slice id 0 gs.length 3 cap, .slice σ.length 0 1 3 (some 1)] (σ ++ [GObj.row false (cellsG p)]) = some (s', σ')) ∨ (∃ c, cap = some c ∧ gs.length + 1 ≤ c) := by
      cases cap with
      | none =>
        refine .inl ⟨.slice (σ.length + 1) 0 (gs.length + 1) 3 none, (σ ++ [GObj.row false (cellsG p)]).set id .dead ++ [GObj.row false (gs.flatMap cellsG ++ cellsG p)], ⟨rfl, .inr rfl⟩, ?_⟩
        simp [gimp, gappend, hr, glen, h2', hrd, hgo _ (Nat.le_refl _), hfl]
      | some c =>
        by_cases hc : gs.length + 1 ≤ c
        · exact .inr ⟨c, rfl, hc⟩
        · refine .inl ⟨.slice (σ.length + 1) 0 (gs.length + 1) 3 none, σ ++ [GObj.row false (cellsG p), .row false (gs.flatMap cellsG ++ cellsG p)], ⟨rfl, .inl rfl⟩, ?_⟩
          simp [gimp, gappend, hr, glen, hrd, hc, hgo _ (Nat.le_refl _)]
    rcases hnew with ⟨s', σ', ⟨rfl, hσ⟩, hrun⟩ | ⟨c, rfl, hc⟩
    · refine ⟨_, _, hrun, ?_, ?_, ?_, ?_⟩
      · refine .inr ⟨σ.length + 1, none, [], by simp, ?_, by simp⟩
        rw [hcat]
        rcases hσ with rfl | rfl
        · simp
        · rw [List.getElem?_append_right (by simp)]; simp
      · rcases hσ with rfl | rfl
        · simp
        · simp; omega
      · intro i hi hno
        have hne : i ≠ id := fun e => hno ⟨_, _, _, _, by rw [e]⟩
        rcases hσ with rfl | rfl
        · exact List.getElem?_append_left hi
        · rw [List.getElem?_append_left (by simp; omega), List.getElem?_set_ne (fun e => hne e.symm), List.getElem?_append_left hi]
      · rintro i ⟨_, _, _, _, e⟩; cases e; exact .inr (by omega)
    · have h4 := h3 c rfl
      refine ⟨.slice id 0 (gs.length + 1) 3 (some c), (σ ++ [GObj.row false (cellsG p)]).set id (.row false (gs.flatMap cellsG ++ cellsG p ++ rest.drop 3)), ?_, ?_, by simp, ?_, ?_⟩
      · have hlen : (gs.length + 1) * 3 ≤ (gs.flatMap cellsG ++ rest).length := by rw [List.length_append, flatG_len]; omega
        have hov : over (gs.flatMap cellsG ++ rest) (gs.length * 3) (cellsG p) = gs.flatMap cellsG ++ cellsG p ++ rest.drop 3 := by
          have : (gs.length * 3 : Nat) = (gs.flatMap cellsG).length := by rw [flatG_len]
          rw [this, over_end]; rfl
        have hz : (0 + gs.length * 3 : Nat) = gs.length * 3 := by omega
        have hz2 : 0 + (gs.length + 1) * 3 ≤ (gs.flatMap cellsG ++ rest).length := by omega
        simp only [gimp, gappend, hr, glen, h2']
        repeat' split
        · exfalso; omega
        · simp only [hz2, hfl, and_self, if_true, hz, hov]
        · exfalso; rename_i hh; exact hh trivial
      · refine .inr ⟨id, some c, rest.drop 3, by simp, ?_, fun c' hc' => ?_⟩
        · rw [hcat, List.getElem?_set_self (by simp; omega)]
        · cases hc'; simp; omega
      · intro i hi hno
        have hne : i ≠ id := fun e => hno ⟨_, _, _, _, by rw [e]⟩
        rw [List.getElem?_set_ne (fun e => hne e.symm), List.getElem?_append_left hi]
      · rintro i ⟨_, _, _, _, e⟩; cases e; exact .inl ⟨_, _, _, _, rfl⟩
end Go.Gh
namespace Go.Gh
open Go.RowKit Go.Proofs
set_option linter.unusedVariables false
set_option linter.unusedSimpArgs false
set_option maxRecDepth 20000
set_option maxHeartbeats 4000000
/-- The maker of a net: where it lies, and what it holds; D: the objects that are its own. -/
def MK (D : Nat → Prop) (σ : GS) (M : Nat) (pv : DV) (gs : List (Gat × DV)) (next : Int) : Prop :=
  ∃ gv, σ[M]? = some (.row false [pv, gv, .int .i64 0, .int .i64 next]) ∧ OG σ gv gs ∧ (∀ i, gv.has i → D i ∧ i ≠ M) ∧ (∀ p ∈ gs, SInt σ p.2 p.1.ins ∧ ∀ i, p.2.has i → D i ∧ i ≠ M ∧ ¬ gv.has i) ∧ D M ∧ ∀ i, D i → i < σ.length
theorem MK.fit {D : Nat → Prop} {σ σ' : GS} {M : Nat} {pv : DV} {gs : List (Gat × DV)} {next : Int} (h : MK D σ M pv gs next) (hl : σ.length ≤ σ'.length) (hf : ∀ i, D i → σ'[i]? = σ[i]?) : MK D σ' M pv gs next := by
  obtain ⟨gv, h1, h2, h3, h4, h5, h6⟩ := h
  refine ⟨gv, by rw [hf _ h5]; exact h1, h2.fit fun i hi => hf i (h3 i hi).1, h3, fun p hp => ⟨(h4 p hp).1.fit fun i hi => hf i ((h4 p hp).2 i hi).1, (h4 p hp).2⟩, h5, fun i hi => Nat.lt_of_lt_of_le (h6 i hi) hl⟩
theorem build3 {a b v : DV} (ha : a.flat = true) (hb : b.flat = true) (hv : v.flat = true) (z : List DV) (hz : z.length = 3) : gpure (.build z [(0, 1), (1, 1), (2, 1)]) [a, b, v] = some (.agg [a, b, v]) := by
  match z, hz with
  | [x, y, w], _ => simp [gfill, cells_flat ha, cells_flat hb, cells_flat hv, over]
theorem ga_gate (a b v : DV) : galloc (.bslice 3 [.int .i64 0, .int .u8 0, .nils] 1 [(0, 3)]) [.agg [a, b, v]] = some (.row false [a, b, v], fun id => .slice id 0 1 3 (some 1)) := rfl
theorem mgate_ok {D : Nat → Prop} {M : Nat} {pv s : DV} {gs : List (Gat × DV)} {next kind : Int} {xs : List Int} {σ : GS} {Post : DV → GS → Prop} (hm : MK D σ M pv gs next) (hpv : pv.flat = true) (hs : SInt σ s xs) (he : xs = [] → s = .nils)
    (hxl : xs.length < 2 ^ 39) (hgl : gs.length < 2 ^ 30) (hn0 : 0 ≤ next) (hn1 : next < 2 ^ 40)
    (h : ∀ (v : DV) (D' : Nat → Prop) (σ' : GS), MK D' σ' M pv (gs ++ [(⟨next, kind, xs⟩, v)]) (next + 1) → (∀ i, D' i → D i ∨ σ.length ≤ i) → σ.length ≤ σ'.length → (∀ i, i < σ.length → ¬ D i → σ'[i]? = σ[i]?) → Post (.int .i64 next) σ') : GCall Try.prog 52 [.ptr M 0, .int .u8 kind, s] σ Post := by
  refine gc52 ?_
  obtain ⟨gv, h1, h2, h3, h4, h5, h6⟩ := hm
  have hML := get_dom h1
  simp [g52, genv0, List.replicate, ld_at h1]
  refine clone_ok hs he hxl fun v σ1 hf1 hv hvn => ?_
  have h11 := hf1.at_ h1
  have hl1 := hf1.len
  have hvf := hv.sl.flat
  simp [-gp_build, ld_at h1, ld_at h11, build3 (a := .int .i64 next) (b := .int .u8 kind) rfl rfl hvf, ga_gate]
  have h21 : OG σ1 gv gs := h2.fit fun i hi => hf1.get i (h2.has_lt hi)
  obtain ⟨gv', σ2, q1, q2, q3, q4, q5⟩ := h21.push (⟨next, kind, xs⟩, v) hvf hgl
  have hq1 : gimp (.append 3 40) [gv, .slice σ1.length 0 1 3 (some 1)] (σ1 ++ [.row false [.int .i64 next, .int .u8 kind, v]]) = some (gv', σ2) := q1
  have hMgv : ¬ gv.has M := fun hh => (h3 M hh).2 rfl
  have h12 : σ2[M]? = some (.row false [pv, gv, .int .i64 0, .int .i64 next]) := by rw [q4 M (by omega) hMgv]; exact h11
  have hgvf : gv'.flat = true := by
    rcases q2 with ⟨rfl, _⟩ | ⟨id, cap, rest, rfl, _⟩ <;> rfl
  have hst1 := st_cell (k := 1) (v := gv') h12 (by simp) hgvf
  have hM2 : M < σ2.length := by omega
  have h13 : (σ2.set M (.row false [pv, gv', .int .i64 0, .int .i64 next]))[M]? = some (.row false [pv, gv', .int .i64 0, .int .i64 next]) := by simp [hM2]
  have hst2 := st_cell (k := 3) (v := .int .i64 (next + 1)) h13 (by simp) rfl
  have h14 : ((σ2.set M (.row false [pv, gv', .int .i64 0, .int .i64 next])).set M (.row false [pv, gv', .int .i64 0, .int .i64 (next + 1)]))[M]? = some (.row false [pv, gv', .int .i64 0, .int .i64 (next + 1)]) := by simp [hM2]
  have w1 : IntKind.i64.wrap (next + 1) = next + 1 := by rw [wrap_small] <;> omega
  have w2 : IntKind.i64.wrap next = next := by rw [wrap_small] <;> omega
  simp at hst1 hst2 h13 h14
  simp [hq1, hst1, ld_at h13, w1, hst2, ld_at h14, w2]
  have hgv'M : ¬ gv'.has M := by
    intro hh
    rcases q5 M hh with hh | hh
    · exact hMgv hh
    · omega
  refine h v (fun i => D i ∨ (σ.length ≤ i ∧ i < σ2.length)) _ ⟨gv', by simp [hM2], q2.fit fun i hi => ?_, fun i hi => ?_, fun p hp => ?_, .inl h5, fun i hi => ?_⟩ ?_ ?_ ?_
  · have : i ≠ M := fun e => hgv'M (e ▸ hi)
    rw [List.getElem?_set_ne (fun e => this e.symm)]
  · refine ⟨?_, fun e => hgv'M (e ▸ hi)⟩
    rcases q5 i hi with hh | hh
    · exact .inl (h3 i hh).1
    · exact .inr ⟨by omega, q2.has_lt hi⟩
  · rcases List.mem_append.1 hp with hp | hp
    · obtain ⟨g1, g2⟩ := h4 p hp
      have hlt : ∀ i, p.2.has i → i < σ.length := fun i hi => g1.has_lt hi
      refine ⟨g1.fit fun i hi => ?_, fun i hi => ⟨.inl (g2 i hi).1, (g2 i hi).2.1, fun hh => ?_⟩⟩
      · have hne : i ≠ M := (g2 i hi).2.1
        rw [List.getElem?_set_ne (fun e => hne e.symm), q4 i (by have := hlt i hi; omega) (g2 i hi).2.2, hf1.get i (hlt i hi)]
      · rcases q5 i hh with hh | hh
        · exact (g2 i hi).2.2 hh
        · have := hlt i hi; omega
    · obtain rfl : p = (⟨next, kind, xs⟩, v) := by simpa using hp
      have hge : ∀ i, v.has i → σ.length ≤ i := fun i hi => hv.has_ge hi
      have hlt : ∀ i, v.has i → i < σ1.length := fun i hi => hv.sl.has_lt hi
      have hng : ∀ i, v.has i → ¬ gv.has i := fun i hi hh => by have := hge i hi; have := h2.has_lt hh; omega
      refine ⟨hv.sl.fit fun i hi => ?_, fun i hi => ⟨.inr ⟨hge i hi, by have := hlt i hi; omega⟩, by have := hge i hi; omega, fun hh => ?_⟩⟩
      · rw [List.getElem?_set_ne (by have := hge i hi; omega), q4 i (hlt i hi) (hng i hi)]
      · rcases q5 i hh with hh | hh
        · exact hng i hi hh
        · have := hlt i hi; omega
  · simp
    rcases hi with hi | hi
    · have := h6 i hi; omega
    · exact hi.2
  · rintro i (hi | hi)
    · exact .inl hi
    · exact .inr hi.1
  · simp; omega
  · intro i hi hno
    have hne : i ≠ M := fun e => hno (e ▸ h5)
    rw [List.getElem?_set_ne (fun e => hne e.symm), q4 i (by omega) (fun hh => hno (h3 i hh).1), hf1.get i hi]
end Go.Gh
namespace Go.Gh
open Go.RowKit Go.Proofs
set_option linter.unusedVariables false
set_option linter.unusedSimpArgs false
set_option maxRecDepth 20000
set_option maxHeartbeats 4000000
def sgn (c : Nat) (l : List Int) (k : Nat) : List Int := l.mapIdx fun i x => if i < k ∧ (c >>> i) % 2 = 0 then -x else x
theorem sgn_len (c : Nat) (l : List Int) (k : Nat) : (sgn c l k).length = l.length := by simp [sgn]
theorem sgn_get (c : Nat) (l : List Int) (k i : Nat) : (sgn c l k)[i]? = (l[i]?).map fun x => if i < k ∧ (c >>> i) % 2 = 0 then -x else x := by simp [sgn]
theorem sgn_zero (c : Nat) (l : List Int) : sgn c l 0 = l := by
  apply List.ext_getElem?; intro i; simp [sgn_get]
theorem sgn_same {c : Nat} {l : List Int} {k : Nat} (h : (c >>> k) % 2 ≠ 0) : sgn c l (k + 1) = sgn c l k := by
  apply List.ext_getElem?; intro i
  rw [sgn_get, sgn_get]
  by_cases hi : i = k
  · subst hi; simp [h]
  · have : i < k + 1 ↔ i < k := by omega
    simp [this]
theorem sgn_neg {c : Nat} {l : List Int} {k : Nat} {x : Int} (h : (c >>> k) % 2 = 0) (hx : l[k]? = some x) : sgn c l (k + 1) = (sgn c l k).set k (-x) := by
  apply List.ext_getElem?; intro i
  rw [List.getElem?_set, sgn_get, sgn_get, sgn_len]
  by_cases hi : k = i
  · subst hi
    obtain ⟨hk, rfl⟩ := List.getElem?_eq_some_iff.1 hx
    simp [h, hk]
  · have : i < k + 1 ↔ i < k := by omega
    simp [this, hi]
theorem bit_small : ∀ c, c < 4 → ∀ i, i < 2 → bits .and .i64 (Int.fdiv (c : Nat) (2 ^ (min ((i : Nat) : Int).toNat IntKind.i64.bits))) 1 = if ((c : Nat) >>> i) % 2 = 0 then 0 else 1 := by decide
structure NS where
  gs : List Gat
  next : Int
  ways : List Int
def stepC (W : Nat) (t w a : Int) (x : Plc) (st : NS) (c : Nat) : NS := if x.to.getD (c % x.to.length) 0 = w then ⟨st.gs ++ [⟨st.next, 1, a :: sgn c (choiceV W t x.mine) W⟩], st.next + 1, st.ways ++ [st.next]⟩ else st
def stepV (W : Nat) (t w : Int) (at_ : List Int) (st : NS) (p : Plc × Nat) : NS := if p.1.to.length = 0 then (if (p.2 : Int) = w then { st with ways := st.ways ++ [at_.getD p.2 0] } else st) else (List.range (2 ^ W)).foldl (stepC W t w (at_.getD p.2 0) p.1) st
def intoZ (z : Puz) (W : Nat) (t w : Int) (at_ : List Int) (st : NS) : NS := z.places.zipIdx.foldl (stepV W t w at_) st
theorem MK.lt {D : Nat → Prop} {σ : GS} {M : Nat} {pv : DV} {gs : List (Gat × DV)} {next : Int} (h : MK D σ M pv gs next) : ∀ i, D i → i < σ.length := by
  obtain ⟨gv, h1, h2, h3, h4, h5, h6⟩ := h; exact h6
/-- The maker's state, and the ways, in a heap that began as σ1. -/
structure IN (n : Nat) (D W0 : Nat → Prop) (σ1 : GS) (D' : Nat → Prop) (σ' : GS) (M : Nat) (pv wv : DV) (st : NS) : Prop where
  mkr : ∃ gsd : List (Gat × DV), gsd.map Prod.fst = st.gs ∧ MK D' σ' M pv gsd st.next
  dom : ∀ j, D' j → D j ∨ σ1.length ≤ j
  ways : OInt n σ' wv st.ways
  wnil : st.ways = [] → wv = .nils
  wgrow : ∀ j, wv.has j → W0 j ∨ σ1.length ≤ j
  wdis : ∀ j, wv.has j → ¬ D' j
  len : σ1.length ≤ σ'.length
  fr : ∀ j, j < σ1.length → ¬ D j → ¬ W0 j → σ'[j]? = σ1[j]?
theorem IN.start {n : Nat} {D : Nat → Prop} {σ : GS} {M : Nat} {pv wv : DV} {st : NS} (h1 : ∃ gsd : List (Gat × DV), gsd.map Prod.fst = st.gs ∧ MK D σ M pv gsd st.next) (h2 : OInt n σ wv st.ways) (h3 : st.ways = [] → wv = .nils) (h4 : ∀ j, wv.has j → ¬ D j) (τ : GS) : IN n D wv.has (σ ++ τ) D (σ ++ τ) M pv wv st := by
  obtain ⟨gsd, g1, g2⟩ := h1
  have hlt := g2.lt
  exact ⟨⟨gsd, g1, g2.fit (by simp) fun i hi => List.getElem?_append_left (hlt i hi)⟩, fun j hj => .inl hj, h2.fit fun i hi => List.getElem?_append_left (h2.sl.has_lt hi), h3, fun j hj => .inl hj, h4, Nat.le_refl _, fun _ _ _ _ => rfl⟩
theorem IN.trans {n : Nat} {D W0 D1 D2 : Nat → Prop} {σ1 σa τ σb : GS} {M : Nat} {pv wv wv' : DV} {st st' : NS} (h : IN n D W0 σ1 D1 σa M pv wv st) (k : IN n D1 wv.has (σa ++ τ) D2 σb M pv wv' st') : IN n D W0 σ1 D2 σb M pv wv' st' := by
  have hl := h.len
  have hl2 : σa.length ≤ (σa ++ τ).length := by simp
  refine ⟨k.mkr, fun j hj => ?_, k.ways, k.wnil, fun j hj => ?_, k.wdis, by have := k.len; omega, fun j hj h1 h2 => ?_⟩
  · rcases k.dom j hj with h' | h'
    · exact h.dom j h'
    · exact .inr (by omega)
  · rcases k.wgrow j hj with h' | h'
    · exact h.wgrow j h'
    · exact .inr (by omega)
  · have a1 : ¬ D1 j := fun hh => by rcases h.dom j hh with h' | h'; exact h1 h'; omega
    have a2 : ¬ wv.has j := fun hh => by rcases h.wgrow j hh with h' | h'; exact h2 h'; omega
    rw [k.fr j (by omega) a1 a2, List.getElem?_append_left (by omega)]
    exact h.fr j hj h1 h2
theorem zipIdx_get {α : Type} {l : List α} {i : Nat} {x : α} (h : l[i]? = some x) : l.zipIdx[i]? = some (x, i) := by simp [h]
theorem OInt.weaken {n m : Nat} {σ : GS} {s : DV} {xs : List Int} (h : OInt n σ s xs) (k : m ≤ n) : OInt m σ s xs := by
  rcases h with h | ⟨id, cap, rest, h1, h2⟩
  · exact .inl h
  · exact .inr ⟨id, cap, rest, by omega, h2⟩
theorem nils_has (j : Nat) : ¬ DV.nils.has j := by rintro ⟨_, _, _, _, e⟩; cases e
/-- A way more. -/
theorem IN.push {n : Nat} {D W0 D' : Nat → Prop} {σ1 σ' : GS} {M : Nat} {pv wv : DV} {st : NS} (h : IN n D W0 σ1 D' σ' M pv wv st) (x : Int) (hn : n ≤ σ'.length) (hl : st.ways.length < 2 ^ 30) :
    ∃ wv' σ'', gimp (.append 1 8) [wv, .slice σ'.length 0 1 1 (some 1)] (σ' ++ [.row false [.int .i64 x]]) = some (wv', σ'') ∧ IN n D W0 σ1 D' σ'' M pv wv' { st with ways := st.ways ++ [x] } := by
  obtain ⟨wv', σ'', q1, q2, q3, q4, q5, q6⟩ := h.ways.push x hn (by omega)
  obtain ⟨gsd, g1, g2⟩ := h.mkr
  have hlt := g2.lt
  have hlen := h.len
  refine ⟨wv', σ'', q1, ⟨gsd, g1, g2.fit q4 fun i hi => q5 i (hlt i hi) fun hh => h.wdis i hh hi⟩, h.dom, q2, fun e => by simp at e, fun j hj => ?_, fun j hj hd => ?_, by omega, fun j hj h1 h2 => ?_⟩
  · rcases q6 j hj with h' | h'
    · exact h.wgrow j h'
    · exact .inr (by omega)
  · rcases q6 j hj with h' | h'
    · exact h.wdis j h' hd
    · have := hlt j hd; omega
  · have hnw : ¬ wv.has j := fun hh => by rcases h.wgrow j hh with h' | h'; exact h2 h'; omega
    rw [q5 j (by omega) hnw]; exact h.fr j hj h1 h2
/-- A gate more. -/
theorem IN.gate {n : Nat} {D W0 D' D'' : Nat → Prop} {σ1 σ' σ'' : GS} {M : Nat} {pv wv v : DV} {st : NS} {gsd : List (Gat × DV)} {g : Gat} {nx : Int} (h : IN n D W0 σ1 D' σ' M pv wv st) (hg : gsd.map Prod.fst = st.gs) (hm : MK D'' σ'' M pv (gsd ++ [(g, v)]) nx)
    (h1 : ∀ i, D'' i → D' i ∨ σ'.length ≤ i) (h2 : σ'.length ≤ σ''.length) (h3 : ∀ i, i < σ'.length → ¬ D' i → σ''[i]? = σ'[i]?) : IN n D W0 σ1 D'' σ'' M pv wv ⟨st.gs ++ [g], nx, st.ways⟩ := by
  have hlen := h.len
  refine ⟨⟨_, by simp [hg], hm⟩, fun j hj => ?_, h.ways.fit fun i hi => h3 i (h.ways.sl.has_lt hi) (h.wdis i hi), h.wnil, h.wgrow, fun j hj hd => ?_, by omega, fun j hj k1 k2 => ?_⟩
  · rcases h1 j hj with h' | h'
    · exact h.dom j h'
    · exact .inr (by omega)
  · rcases h1 j hd with h' | h'
    · exact h.wdis j hj h'
    · have := h.ways.sl.has_lt hj; omega
  · have hnd : ¬ D' j := fun hh => by rcases h.dom j hh with h' | h'; exact k1 h'; omega
    rw [h3 j (by omega) hnd]; exact h.fr j hj k1 k2
/-- Objects behind. -/
theorem IN.app {n : Nat} {D W0 D' : Nat → Prop} {σ1 σ' σ'' : GS} {M : Nat} {pv wv : DV} {st : NS} (h : IN n D W0 σ1 D' σ' M pv wv st) (hf : Fr σ'.length σ' σ'') : IN n D W0 σ1 D' σ'' M pv wv st := by
  obtain ⟨gsd, g1, g2⟩ := h.mkr
  have hlt := g2.lt
  have hlen := h.len
  have hlf := hf.len
  exact ⟨⟨gsd, g1, g2.fit hf.len fun i hi => hf.get i (hlt i hi)⟩, h.dom, h.ways.fr hf, h.wnil, h.wgrow, h.wdis, by omega, fun j hj k1 k2 => by rw [hf.get j (by omega)]; exact h.fr j hj k1 k2⟩
end Go.Gh
namespace Go.Gh
open Go.RowKit Go.Proofs
set_option linter.unusedVariables false
set_option linter.unusedSimpArgs false
set_option maxRecDepth 20000
set_option maxHeartbeats 8000000
theorem choice_small {W : Nat} {t : Int} {m : Bool} (hW : W ≤ 2) (ht : 0 ≤ t ∧ t ≤ 100) {k : Nat} {y : Int} (h : (choiceV W t m)[k]? = some y) : -1000 ≤ y ∧ y ≤ 1000 := by
  simp [choiceV] at h
  obtain ⟨i, hi, rfl⟩ := h
  have hi' := List.mem_range.1 (List.mem_of_getElem? hi)
  obtain rfl | rfl | rfl : W = 0 ∨ W = 1 ∨ W = 2 := by omega
  all_goals (split <;> omega)
theorem into_ok {D : Nat → Prop} {M : Nat} {z : Puz} {W : Nat} {pl go av pv : DV} {at_ : List Int} {t : Int} {w : Nat} {gsd : List (Gat × DV)} {next : Int} {σb σ : GS} {Post : DV → GS → Prop}
    (hb : Fr σb.length σb σ) (hz : PuzV σb pl go z) (hD : ∀ i, D i → σb.length ≤ i) (hfi : Fine z) (hW : W ≤ 2) (hWl : ∀ x ∈ z.places, x.to.length ≤ 2 ^ W)
    (hm : MK D σ M pv gsd next) (hpv : pv.flat = true) (hat : SInt σ av at_) (hatl : at_.length = z.places.length) (hatD : ∀ i, av.has i → ¬ D i) (ht : 0 ≤ t ∧ t ≤ 100) (hw : w < 16) (hgl : gsd.length < 2 ^ 20) (hn0 : 0 ≤ next) (hn1 : next < 2 ^ 30)
    (h : ∀ (wv : DV) (D' : Nat → Prop) (gsd' : List (Gat × DV)) (σ' : GS), gsd'.map Prod.fst = (intoZ z W t w at_ ⟨gsd.map Prod.fst, next, []⟩).gs → MK D' σ' M pv gsd' (intoZ z W t w at_ ⟨gsd.map Prod.fst, next, []⟩).next → (∀ i, D' i → D i ∨ σ.length ≤ i) → OInt σ.length σ' wv (intoZ z W t w at_ ⟨gsd.map Prod.fst, next, []⟩).ways →
      ((intoZ z W t w at_ ⟨gsd.map Prod.fst, next, []⟩).ways = [] → wv = .nils) → (∀ i, wv.has i → ¬ D' i) → σ.length ≤ σ'.length → (∀ i, i < σ.length → ¬ D i → σ'[i]? = σ[i]?) → Post wv σ') :
    GCall Try.prog 53 [.ptr M 0, .agg [pl, .int .i64 z.start, go, .int .i64 z.moves, .int .i64 (W : Int)], av, .int .i64 t, .int .i64 (w : Int)] σ Post := by
  refine gc53 ?_
  have hn16 := hfi.n16
  have hfin : ∀ (st : NS) (wv : DV) (D' : Nat → Prop) (σ' : GS), intoZ z W t w at_ ⟨gsd.map Prod.fst, next, []⟩ = st → IN σ.length D (fun _ => False) (σ ++ [.row false [pl, .int .i64 z.start, go, .int .i64 z.moves, .int .i64 (W : Int)]]) D' σ' M pv wv st → Post wv σ' := by
    intro st wv D' σ' hst hin
    obtain ⟨gsd', g1, g2⟩ := hin.mkr
    have hlen := hin.len
    simp at hlen
    refine h wv D' gsd' σ' (by rw [hst]; exact g1) (by rw [hst]; exact g2) (fun i hi => ?_) (by rw [hst]; exact hin.ways) (by rw [hst]; exact hin.wnil) hin.wdis (by omega) fun i hi hno => ?_
    · rcases hin.dom i hi with h' | h'
      · exact .inl h'
      · simp at h'; exact .inr (by omega)
    · rw [hin.fr i (by simp; omega) hno (fun h => h), List.getElem?_append_left hi]
  have hin0 : IN σ.length D (fun _ => False) (σ ++ [.row false [pl, .int .i64 z.start, go, .int .i64 z.moves, .int .i64 (W : Int)]]) D (σ ++ [.row false [pl, .int .i64 z.start, go, .int .i64 z.moves, .int .i64 (W : Int)]]) M pv .nils ⟨gsd.map Prod.fst, next, []⟩ := by
    have := IN.start (n := σ.length) (wv := .nils) (st := ⟨gsd.map Prod.fst, next, []⟩) ⟨gsd, rfl, hm⟩ OInt.nil (fun _ => rfl) (fun j hj => absurd hj (nils_has j)) [.row false [pl, .int .i64 z.start, go, .int .i64 z.moves, .int .i64 (W : Int)]]
    exact ⟨this.mkr, this.dom, this.ways, this.wnil, fun j hj => absurd hj (nils_has j), this.wdis, this.len, fun j h1 h2 _ => this.fr j h1 h2 (nils_has j)⟩
  have hmlt := hm.lt
  simp [g53, genv0, List.replicate, hz.places.len]
  refine gfor z.places.length (fun i e σ' => ∃ st wv D', (z.places.zipIdx.take i).foldl (stepV W t w at_) ⟨gsd.map Prod.fst, next, []⟩ = st ∧ IN σ.length D (fun _ => False) (σ ++ [.row false [pl, .int .i64 z.start, go, .int .i64 z.moves, .int .i64 (W : Int)]]) D' σ' M pv wv st ∧
    st.gs.length ≤ gsd.length + 4 * i ∧ next ≤ st.next ∧ st.next ≤ next + 4 * i ∧ st.ways.length ≤ 4 * i ∧
    e = mkEnv 95 [(0, .ptr M 0), (2, av), (3, .int .i64 t), (4, .int .i64 (w : Int)), (6, .ptr σ.length 0), (10, wv), (18, pl), (19, .int .i64 z.places.length), (20, .int .i64 i)]) _ ?_ ⟨_, .nils, D, rfl, hin0, by simp, by simp, by simp, by simp, rfl⟩ ?_
  · simp [mkEnv, List.replicate]
  rintro i _ σ1 hi ⟨st, wv, D1, hst, hin, hgs, hnx0, hnx1, hwl, rfl⟩
  simp [mkEnv, List.replicate]
  by_cases hlt : i < z.places.length
  · obtain ⟨x, hx⟩ := get_lt hlt
    obtain ⟨id, off, v, p1, p2, p3, p4, p5⟩ := plc_get hz.places (k := .i64) hx
    have hst' := fold_take (f := stepV W t w at_) (zipIdx_get hx) ⟨gsd.map Prod.fst, next, []⟩
    rw [hst] at hst'
    have hx4 := hfi.to4 x (List.mem_of_getElem? hx)
    have hxW := hWl x (List.mem_of_getElem? hx)
    have hvf := p4.flat
    have hL1 := hin.len
    simp at hL1
    -- what lay below stays
    have hkeep : ∀ j, j < σ.length → ¬ D j → σ1[j]? = σ[j]? := fun j hj hno => by
      rw [hin.fr j (by simp; omega) hno (fun h => h), List.getElem?_append_left hj]
    have hbase : Fr σb.length σb σ1 := ⟨by have := hb.len; omega, fun j hj => by
      rw [hkeep j (by have := hb.len; omega) (fun hh => by have := hD j hh; omega)]; exact hb.get j hj⟩
    have hat1 : SInt σ1 av at_ := hat.fit fun j hj => hkeep j (hat.has_lt hj) (hatD j hj)
    have hbox : σ1[σ.length]? = some (.row false [pl, .int .i64 z.start, go, .int .i64 z.moves, .int .i64 (W : Int)]) := by
      rw [hin.fr _ (by simp) (fun hh => by have := hmlt _ hh; omega) (fun h => h)]; simp
    have hst2 := st_agg (σ := σ1) (τ := []) (cs := [.bool x.mine, v]) (zs := [.bool false, .nils]) (n := 2) rfl rfl (by simp [hvf])
    have hv2 := (p4.fr hbase).app [.row false [.bool x.mine, v]]
    have hl2 := hv2.len
    have hstart := IN.start hin.mkr hin.ways hin.wnil hin.wdis [.row false [.bool x.mine, v]]
    simp [hlt, p1, gload_fr hbase p5, hst2, hl2]
    obtain ⟨a, ha⟩ := get_lt (xs := at_) (i := i) (by omega)
    by_cases h0 : x.to.length = 0
    · have h0' : x.to = [] := List.length_eq_zero_iff.1 h0
      simp [h0']
      by_cases hiw : i = w
      · obtain ⟨ida, offa, r1, r2⟩ := (hat1.app [.row false [.bool x.mine, v]]).get (k := .i64) ha
        obtain ⟨wv', σ', q1, q2⟩ := hstart.push a (by simp; omega) (by omega)
        subst hiw
        have q1' := q1
        simp at q1'
        simp [r1, r2, q1', wrap_suc (show i < _ by omega)]
        refine forK_go _ hlt ?_ ⟨_, wv', D1, hst', ?_, ?_, ?_, ?_, ?_, rfl⟩
        · simp [mkEnv, List.replicate]
        · have := hin.trans q2
          simpa [stepV, h0', ha] using this
        · simp [stepV, h0']; omega
        · simp [stepV, h0']; omega
        · simp [stepV, h0']; omega
        · simp [stepV, h0']; omega
      · have hiw' : ¬ (i : Int) = (w : Int) := by omega
        simp [hiw', wrap_suc (show i < _ by omega)]
        refine forK_go _ hlt ?_ ⟨_, wv, D1, hst', ?_, ?_, ?_, ?_, ?_, rfl⟩
        · simp [mkEnv, List.replicate]
        · have := hin.trans hstart
          simpa [stepV, h0', hiw'] using this
        · simp [stepV, h0', hiw']; omega
        · simp [stepV, h0', hiw']; omega
        · simp [stepV, h0', hiw']; omega
        · simp [stepV, h0', hiw']; omega
    · have h0' : x.to ≠ [] := fun e => h0 (by rw [e]; rfl)
      have hsh := fun τ => shl_one (w := W) (show W ≤ 20 by omega) τ
      have hbox2 := getE_append (τ := [GObj.row false [.bool x.mine, v]]) hbox
      simp [h0', ld_at hbox2, hsh, -gb_shl]
      have hW4 : 2 ^ W ≤ 4 := by
        obtain rfl | rfl | rfl : W = 0 ∨ W = 1 ∨ W = 2 := by omega
        all_goals decide
      have hlenpos : 0 < x.to.length := by omega
      refine gfor (2 ^ W) (fun c e σ' => ∃ st' wv' D2, (List.range c).foldl (stepC W t w a x) st = st' ∧ IN σ.length D1 wv.has (σ1 ++ [.row false [.bool x.mine, v]]) D2 σ' M pv wv' st' ∧
        st'.gs.length ≤ st.gs.length + c ∧ st.next ≤ st'.next ∧ st'.next ≤ st.next + c ∧ st'.ways.length ≤ st.ways.length + c ∧
        e = mkEnv 95 [(0, .ptr M 0), (2, av), (3, .int .i64 t), (4, .int .i64 (w : Int)), (6, .ptr σ.length 0), (10, wv'), (11, .int .i64 i), (12, .ptr σ1.length 0), (18, pl), (19, .int .i64 z.places.length), (20, .int .i64 i), (41, .int .i64 ((2 ^ W : Nat) : Int)), (42, .int .i64 c)]) _ ?_ ⟨_, wv, D1, rfl, hstart, by simp, by simp, by simp, by simp, rfl⟩ ?_
      · simp [mkEnv, List.replicate]
      rintro c _ σ3 hc ⟨st', wv', D2, hst2, hin2, hgs', hnx0', hnx1', hwl', rfl⟩
      simp [mkEnv, List.replicate]
      have hcW : (2 : Int) ^ W = ((2 ^ W : Nat) : Int) := by simp
      by_cases hct : c < 2 ^ W
      · have hct' : (c : Int) < (2 : Int) ^ W := by omega
        have hall := hin.trans hin2
        have hL3 := hall.len
        simp at hL3
        have hL31 := hin2.len
        simp at hL31
        have hkeep3 : ∀ j, j < σ.length → ¬ D j → σ3[j]? = σ[j]? := fun j hj hno => by
          rw [hall.fr j (by simp; omega) hno (fun h => h), List.getElem?_append_left hj]
        have hbase3 : Fr σb.length σb σ3 := ⟨by have := hb.len; omega, fun j hj => by
          rw [hkeep3 j (by have := hb.len; omega) (fun hh => by have := hD j hh; omega)]; exact hb.get j hj⟩
        have hat3 : SInt σ3 av at_ := hat.fit fun j hj => hkeep3 j (hat.has_lt hj) (hatD j hj)
        have hbox3 : σ3[σ.length]? = some (.row false [pl, .int .i64 z.start, go, .int .i64 z.moves, .int .i64 (W : Int)]) := by
          rw [hall.fr _ (by simp) (fun hh => by have := hmlt _ hh; omega) (fun h => h)]; simp
        have hD1lt : ∀ j, D1 j → j < σ1.length := by obtain ⟨_, _, hh⟩ := hin.mkr; exact hh.lt
        have hX3 : σ3[σ1.length]? = some (.row false [.bool x.mine, v]) := by
          rw [hin2.fr _ (by simp) (fun hh => by have := hD1lt _ hh; omega) (fun hh => by have := hin.ways.sl.has_lt hh; omega)]; simp
        have hv3 := p4.fr hbase3
        obtain ⟨y, hy⟩ := get_lt (xs := x.to) (i := c % x.to.length) (Nat.mod_lt _ hlenpos)
        obtain ⟨idy, offy, r1, r2⟩ := hv3.get (k := .i64) hy
        have hrem : ∀ τ, gbin .rem τ (.int .i64 (c : Int)) (.int .i64 (x.to.length : Int)) = some (.int .i64 ((c % x.to.length : Nat) : Int)) := by
          intro τ
          rw [gb_rem, if_neg (by omega), Int.ofNat_tmod]
        have hst3 : (List.range (c + 1)).foldl (stepC W t w a x) st = stepC W t w a x st' c := by rw [List.range_succ, List.foldl_append, hst2]; rfl
        simp only [Int.natCast_emod] at hrem r1
        simp [hct', ld_at hX3, hv3.len, hrem, -gb_rem, r1, r2]
        by_cases hyw : y = (w : Int)
        · simp [hyw, ld_agg hbox3, ld_at hX3]
          refine choice_ok (by omega) ht fun iv σ4 hf4 hl4 hiv => ?_
          have hcl : (choiceV W t x.mine).length = W := by simp [choiceV]
          have hivl := hiv.sl.len
          rw [hcl] at hivl
          simp [hivl]
          refine gfor W (fun k e σ' => OInt σ3.length σ' iv (sgn c (choiceV W t x.mine) k) ∧ Fr σ3.length σ3 σ' ∧
            e = mkEnv 95 [(0, .ptr M 0), (2, av), (3, .int .i64 t), (4, .int .i64 (w : Int)), (6, .ptr σ.length 0), (10, wv'), (11, .int .i64 i), (12, .ptr σ1.length 0), (13, .int .i64 c), (14, iv), (18, pl), (19, .int .i64 z.places.length), (20, .int .i64 i), (41, .int .i64 ((2 ^ W : Nat) : Int)), (42, .int .i64 c), (62, .int .i64 (W : Int)), (63, .int .i64 k)]) _ ?_ ⟨by rw [sgn_zero]; exact hiv, hf4, rfl⟩ ?_
          · simp [mkEnv, List.replicate]
          rintro k _ σ5 hk ⟨hiv5, hf5, rfl⟩
          simp [mkEnv, List.replicate]
          by_cases hkt : k < W
          · obtain ⟨S, hshr, hand⟩ : ∃ S, (∀ τ, gbin .shr τ (.int .i64 (c : Int)) (.int .i64 (k : Int)) = some (.int .i64 S)) ∧ (∀ τ, gbin .and τ (.int .i64 S) (.int .i64 1) = some (.int .i64 (if (c >>> k) % 2 = 0 then 0 else 1))) := by
              refine ⟨_, fun τ => by rw [gb_shr, if_neg (by omega)], fun τ => ?_⟩
              rw [gb_and]
              rw [bit_small c (by omega) k (by omega)]
            obtain ⟨l, hl⟩ := get_lt (xs := choiceV W t x.mine) (i := k) (by omega)
            have hl' : (sgn c (choiceV W t x.mine) k)[k]? = some l := by rw [sgn_get, hl]; simp
            obtain ⟨b1, b2⟩ := choice_small hW ht hl
            by_cases hbit : (c >>> k) % 2 = 0
            · obtain ⟨id5, off5, s1, s2⟩ := hiv5.sl.get (k := .i64) hl'
              obtain ⟨id6, σ6, u1, u2, u3, u4, u5, u6⟩ := hiv5.set (i := k) (by rw [sgn_len, hcl]; exact hkt) (-l) hf5.len
              rw [s1] at u1
              cases u1
              have w1 : IntKind.i64.wrap (-l) = -l := by rw [wrap_small] <;> omega
              have hbit' := hbit
              simp only [hbit, if_true] at hand
              simp [hkt, hshr, hand, -gb_shr, -gb_and, s1, s2, w1, u2, wrap_suc (show k < _ by omega)]
              refine forK_go _ hkt ?_ ⟨by rw [sgn_neg hbit hl]; exact u3, hf5.trans u4, rfl⟩
              simp [mkEnv, List.replicate]
            · simp only [if_neg hbit] at hand
              simp [hkt, hshr, hand, -gb_shr, -gb_and, wrap_suc (show k < _ by omega)]
              refine forK_go _ hkt ?_ ⟨by rw [sgn_same hbit]; exact hiv5, hf5, rfl⟩
              simp [mkEnv, List.replicate]
          · have : k = W := by omega
            subst this
            obtain ⟨ida, offa, s1, s2⟩ := (hat3.fr hf5).get (k := .i64) ha
            have ho : OInt σ5.length (σ5 ++ [.row false [.int .i64 a]]) (.slice σ5.length 0 1 1 (some 1)) [a] := .inr ⟨σ5.length, some 1, [], Nat.le_refl _, rfl, by simp, by simp⟩
            obtain ⟨s6, σ6, q1, q2, q3, q4, q5, q6⟩ := ho.append (hiv5.sl.app [.row false [.int .i64 a]]) (by simp) (by rw [sgn_len, hcl]; simp; omega)
            have hf56 : Fr σ5.length σ5 σ6 := (Fr.rfl'.app _).trans q3
            have hf36 : Fr σ3.length σ3 σ6 := hf5.trans (hf56.mono hf5.len)
            have hin6 := hin2.app hf36
            obtain ⟨gsd6, g1, g2⟩ := hin6.mkr
            have hg2len : gsd6.length = st'.gs.length := by rw [← g1]; simp
            simp [s1, s2, q1]
            refine mgate_ok g2 hpv q2.sl (fun e => by simp at e) (by simp [sgn_len, hcl]; omega) (by omega) (by omega) (by omega) fun vv D7 σ7 m1 m2 m3 m4 => ?_
            have hin7 := hin6.gate g1 m1 m2 m3 m4
            obtain ⟨wv8, σ8, t1, t2⟩ := hin7.push st'.next (by have := hf36.len; omega) (by simp; omega)
            simp [t1, wrap_suc (show c < _ by omega)]
            have hstc : stepC k t w a x st' c = ⟨st'.gs ++ [⟨st'.next, 1, a :: sgn c (choiceV k t x.mine) k⟩], st'.next + 1, st'.ways ++ [st'.next]⟩ := by
              simp [stepC, hy, hyw]
            refine forK_go _ hct ?_ ⟨_, wv8, D7, hst3, ?_, ?_, ?_, ?_, ?_, rfl⟩
            · simp [mkEnv, List.replicate]
            · rw [hstc]; exact t2
            · rw [hstc]; simp; omega
            · rw [hstc]; simp; omega
            · rw [hstc]; simp; omega
            · rw [hstc]; simp; omega
        · have hstc : stepC W t w a x st' c = st' := by simp [stepC, hy, hyw]
          simp [hyw, wrap_suc (show c < _ by omega)]
          refine forK_go _ hct ?_ ⟨_, wv', D2, hst3, ?_, ?_, ?_, ?_, ?_, rfl⟩
          · simp [mkEnv, List.replicate]
          · rw [hstc]; exact hin2
          · rw [hstc]; omega
          · rw [hstc]; omega
          · rw [hstc]; omega
          · rw [hstc]; omega
      · have hct' : ¬ (c : Int) < (2 : Int) ^ W := by omega
        have : c = 2 ^ W := by omega
        subst this
        simp [hct', wrap_suc (show i < _ by omega)]
        have hfold : stepV W t w at_ st (x, i) = st' := by
          rw [← hst2]
          simp [stepV, h0', ha]
        refine forK_go _ hlt ?_ ⟨_, wv', D2, hst', ?_, ?_, ?_, ?_, ?_, rfl⟩
        · simp [mkEnv, List.replicate]
        · rw [hfold]; exact hin.trans hin2
        · rw [hfold]; omega
        · rw [hfold]; omega
        · rw [hfold]; omega
        · rw [hfold]; omega
  · have : i = z.places.length := by omega
    subst this
    simp
    refine hfin st wv D1 σ1 ?_ hin
    have hlen : z.places.zipIdx.length = z.places.length := by simp
    rw [List.take_of_length_le (by omega)] at hst
    exact hst
end Go.Gh
namespace Go.Gh
open Go.RowKit Go.Proofs
set_option linter.unusedVariables false
set_option linter.unusedSimpArgs false
set_option maxRecDepth 20000
set_option maxHeartbeats 4000000
theorem flatC_len {α : Type} {cells : α → List DV} {sz : Nat} (hc : ∀ x, (cells x).length = sz) (xs : List α) : (xs.flatMap cells).length = xs.length * sz := by
  induction xs with
  | nil => simp
  | cons x xs ih => rw [List.flatMap_cons, List.length_append, ih, hc, List.length_cons, Nat.add_mul]; omega
/-- A slice of one's own, its elements' cells given. -/
def OC {α : Type} (sz : Nat) (cells : α → List DV) (σ : GS) (v : DV) (xs : List α) : Prop :=
  (v = .nils ∧ xs = []) ∨ ∃ id cap rest, v = .slice id 0 xs.length sz cap ∧ σ[id]? = some (.row false (xs.flatMap cells ++ rest)) ∧ ∀ c, cap = some c → c * sz ≤ xs.length * sz + rest.length
theorem OC.has_lt {α : Type} {sz : Nat} {cells : α → List DV} {σ : GS} {v : DV} {xs : List α} (h : OC sz cells σ v xs) {i : Nat} (hi : v.has i) : i < σ.length := by
  rcases h with ⟨rfl, _⟩ | ⟨id, cap, rest, rfl, h2, _⟩
  · obtain ⟨_, _, _, _, e⟩ := hi; cases e
  · obtain ⟨_, _, _, _, e⟩ := hi; cases e; exact get_dom h2
theorem OC.fit {α : Type} {sz : Nat} {cells : α → List DV} {σ σ' : GS} {v : DV} {xs : List α} (h : OC sz cells σ v xs) (hf : ∀ i, v.has i → σ'[i]? = σ[i]?) : OC sz cells σ' v xs := by
  rcases h with h | ⟨id, cap, rest, rfl, h2, h3⟩
  · exact .inl h
  · exact .inr ⟨id, cap, rest, rfl, by rw [hf id ⟨_, _, _, _, rfl⟩]; exact h2, h3⟩
theorem OC.flat {α : Type} {sz : Nat} {cells : α → List DV} {σ : GS} {v : DV} {xs : List α} (h : OC sz cells σ v xs) : v.flat = true := by
  rcases h with ⟨rfl, _⟩ | ⟨id, cap, rest, rfl, _⟩ <;> rfl
theorem OC.push {α : Type} {sz by_ : Nat} {cells : α → List DV} {σ : GS} {v : DV} {xs ys : List α} (h : OC sz cells σ v xs) (hc : ∀ x, (cells x).length = sz) (hsz : 0 < sz) (hy : ys ≠ []) (hfl : (ys.flatMap cells).all DV.flat = true) (hgo : ∀ m, m ≤ xs.length + ys.length → growOk m by_ = true) :
    ∃ v' σ', gimp (.append sz by_) [v, .slice σ.length 0 ys.length sz (some ys.length)] (σ ++ [.row false (ys.flatMap cells)]) = some (v', σ') ∧ OC sz cells σ' v' (xs ++ ys) ∧ σ.length ≤ σ'.length ∧ (∀ i, i < σ.length → ¬ v.has i → σ'[i]? = σ[i]?) ∧ (∀ i, v'.has i → v.has i ∨ σ.length ≤ i) := by
  have hyl : 0 < ys.length := List.length_pos_iff.2 hy
  have hy0 : ¬ ys.length = 0 := by omega
  have hfy := flatC_len hc ys
  have hfx := flatC_len hc xs
  have hr : gread sz (.slice σ.length 0 ys.length sz (some ys.length)) (σ ++ [.row false (ys.flatMap cells)]) = some (ys.flatMap cells) := by
    simp only [gread, if_neg hy0, if_pos]
    rw [List.getElem?_append_right (Nat.le_refl _)]
    simp only [Nat.sub_self, List.getElem?_cons_zero, List.drop_zero]
    rw [if_pos (by omega), List.take_of_length_le (by omega)]
  have hcat : (xs ++ ys).flatMap cells = xs.flatMap cells ++ ys.flatMap cells := List.flatMap_append
  rcases h with ⟨rfl, rfl⟩ | ⟨id, cap, rest, rfl, h2, h3⟩
  · refine ⟨.slice (σ.length + 1) 0 ys.length sz none, σ ++ [GObj.row false (ys.flatMap cells), .row false (ys.flatMap cells)], ?_, ?_, by simp, fun i hi _ => List.getElem?_append_left hi, ?_⟩
    · have := hgo ys.length (by simp)
      simp [gimp, gappend, hr, glen, this, hy]
    · exact .inr ⟨σ.length + 1, none, [], rfl, by simp, by simp⟩
    · rintro i ⟨_, _, _, _, e⟩; cases e; exact .inr (by omega)
  · have hid := get_dom h2
    have h2' := getE_append (τ := [GObj.row false (ys.flatMap cells)]) h2
    have hrd : gread sz (.slice id 0 xs.length sz cap) (σ ++ [GObj.row false (ys.flatMap cells)]) = some (xs.flatMap cells) := by
      by_cases h0 : xs.length = 0
      · simp [gread, List.length_eq_zero_iff.1 h0]
      · simp only [gread, if_neg h0, if_pos, h2']
        rw [if_pos (by rw [List.length_append]; omega)]
        rw [List.drop_zero, List.take_append_of_le_length (by omega), List.take_of_length_le (by omega)]
    have hnew : (∃ s' σ', (s' = DV.slice (σ.length + 1) 0 (xs.length + ys.length) sz none ∧ (σ' = σ ++ [GObj.row false (ys.flatMap cells), .row false (xs.flatMap cells ++ ys.flatMap cells)] ∨ σ' = (σ ++ [GObj.row false (ys.flatMap cells)]).set id .dead ++ [GObj.row false (xs.flatMap cells ++ ys.flatMap cells)])) ∧ gimp (.append sz by_) [.slice id 0 xs.length sz cap, .slice σ.length 0 ys.length sz (some ys.length)] (σ ++ [GObj.row false (ys.flatMap cells)]) = some (s', σ')) ∨ (∃ c, cap = some c ∧ xs.length + ys.length ≤ c) := by
      cases cap with
      | none =>
        refine .inl ⟨.slice (σ.length + 1) 0 (xs.length + ys.length) sz none, (σ ++ [GObj.row false (ys.flatMap cells)]).set id .dead ++ [GObj.row false (xs.flatMap cells ++ ys.flatMap cells)], ⟨rfl, .inr rfl⟩, ?_⟩
        simp only [gimp, gappend, hr, glen, h2', hrd, hgo _ (Nat.le_refl _), hfl, if_neg hy0, and_self, if_true]
        simp
      | some c =>
        by_cases hcc : xs.length + ys.length ≤ c
        · exact .inr ⟨c, rfl, hcc⟩
        · refine .inl ⟨.slice (σ.length + 1) 0 (xs.length + ys.length) sz none, σ ++ [GObj.row false (ys.flatMap cells), .row false (xs.flatMap cells ++ ys.flatMap cells)], ⟨rfl, .inl rfl⟩, ?_⟩
          simp only [gimp, gappend, hr, glen, hrd, hgo _ (Nat.le_refl _), if_neg hy0, if_neg hcc, if_true]
          simp
    rcases hnew with ⟨s', σ', ⟨rfl, hσ⟩, hrun⟩ | ⟨c, rfl, hcc⟩
    · refine ⟨_, _, hrun, ?_, ?_, ?_, ?_⟩
      · refine .inr ⟨σ.length + 1, none, [], by simp, ?_, by simp⟩
        rw [hcat]
        rcases hσ with rfl | rfl
        · simp
        · rw [List.getElem?_append_right (by simp)]; simp
      · rcases hσ with rfl | rfl
        · simp
        · simp; omega
      · intro i hi hno
        have hne : i ≠ id := fun e => hno ⟨_, _, _, _, by rw [e]⟩
        rcases hσ with rfl | rfl
        · exact List.getElem?_append_left hi
        · rw [List.getElem?_append_left (by simp; omega), List.getElem?_set_ne (fun e => hne e.symm), List.getElem?_append_left hi]
      · rintro i ⟨_, _, _, _, e⟩; cases e; exact .inr (by omega)
    · have h4 := h3 c rfl
      have hmul : (xs.length + ys.length) * sz ≤ c * sz := Nat.mul_le_mul_right _ hcc
      rw [Nat.add_mul] at hmul
      refine ⟨.slice id 0 (xs.length + ys.length) sz (some c), (σ ++ [GObj.row false (ys.flatMap cells)]).set id (.row false (xs.flatMap cells ++ ys.flatMap cells ++ rest.drop (ys.flatMap cells).length)), ?_, ?_, by simp, ?_, ?_⟩
      · have hz2 : 0 + (xs.length + ys.length) * sz ≤ (xs.flatMap cells ++ rest).length := by rw [List.length_append, Nat.add_mul]; omega
        have hov : over (xs.flatMap cells ++ rest) (0 + xs.length * sz) (ys.flatMap cells) = xs.flatMap cells ++ ys.flatMap cells ++ rest.drop (ys.flatMap cells).length := by
          have : (0 + xs.length * sz : Nat) = (xs.flatMap cells).length := by omega
          rw [this, over_end]
        simp only [gimp, gappend, hr, glen, h2', if_neg hy0, if_true, hcc, hz2, hfl, and_self, hov]
      · refine .inr ⟨id, some c, rest.drop (ys.flatMap cells).length, by simp, ?_, fun c' hc' => ?_⟩
        · rw [hcat, List.getElem?_set_self (by simp; omega)]
        · cases hc'
          rw [List.length_append, Nat.add_mul, List.length_drop]; omega
      · intro i hi hno
        have hne : i ≠ id := fun e => hno ⟨_, _, _, _, by rw [e]⟩
        rw [List.getElem?_set_ne (fun e => hne e.symm), List.getElem?_append_left hi]
      · rintro i ⟨_, _, _, _, e⟩; cases e; exact .inl ⟨_, _, _, _, rfl⟩
theorem flatC_get {α : Type} {cells : α → List DV} {sz : Nat} (hc : ∀ x, (cells x).length = sz) : ∀ (xs : List α) (rest : List DV) (i : Nat) (x : α), xs[i]? = some x → ((xs.flatMap cells ++ rest).drop (i * sz)).take sz = cells x := by
  intro xs
  induction xs with
  | nil => intro rest i x h; simp at h
  | cons y xs ih =>
    intro rest i x h
    cases i with
    | zero =>
      simp at h
      subst h
      rw [Nat.zero_mul, List.drop_zero, List.flatMap_cons, List.append_assoc, List.take_append_of_le_length (by rw [hc]; omega), List.take_of_length_le (by rw [hc]; omega)]
    | succ i =>
      simp at h
      rw [List.flatMap_cons, List.append_assoc, Nat.add_mul, Nat.one_mul, Nat.add_comm, ← List.drop_drop, List.drop_append_of_le_length (by rw [hc]; omega), show (cells y).drop sz = [] from List.drop_of_length_le (by rw [hc]; omega), List.nil_append]
      exact ih rest i x h
theorem OC.sl {α β : Type} {sz : Nat} {cells : α → List DV} {f : α → β} {R : GS → List DV → β → Prop} {σ : GS} {v : DV} {xs : List α} (h : OC sz cells σ v xs) (hc : ∀ x, (cells x).length = sz) (hR : ∀ x ∈ xs, R σ (cells x) (f x)) : Sl sz R σ v (xs.map f) := by
  rcases h with ⟨rfl, rfl⟩ | ⟨id, cap, rest, rfl, h2, h3⟩
  · exact .inl ⟨.inl rfl, rfl⟩
  · refine .inr ⟨id, 0, cap, false, _, by simp, h2, by rw [List.length_append, flatC_len hc, List.length_map]; omega, fun i y hi => ?_⟩
    rw [List.getElem?_map] at hi
    cases hx : xs[i]? with
    | none => rw [hx] at hi; cases hi
    | some x =>
      rw [hx] at hi
      cases hi
      rw [Nat.zero_add, flatC_get hc xs rest i x hx]
      exact hR x (List.mem_of_getElem? hx)
end Go.Gh
namespace Go.Gh
open Go.RowKit Go.Proofs
set_option linter.unusedVariables false
set_option linter.unusedSimpArgs false
set_option maxRecDepth 20000
set_option maxHeartbeats 16000000
def cellsB (p : Blk × DV) : List DV := [.bool p.1.ex, p.2]
/-- The prefix that the maker has written. -/
structure PR (σ2 : GS) (M : Nat) (next : Int) (σ' : GS) (pv : DV) (bs : List (Blk × DV)) : Prop where
  oc : OC 2 cellsB σ' pv bs
  ins : ∀ p ∈ bs, SInt σ' p.2 p.1.vars ∧ ∀ j, p.2.has j → M < j ∧ ¬ pv.has j
  gt : ∀ j, pv.has j → M < j
  row : σ'[M]? = some (.row false [pv, .nils, .int .i64 0, .int .i64 next])
  fr : ∀ j, j < M → σ'[j]? = σ2[j]?
  len : M < σ'.length
def preZ (W T : Nat) : List Blk := if W = 0 then [] else (List.range T).flatMap fun (i : Nat) => [⟨true, choiceV W ((i : Int) + 1) true⟩, ⟨false, choiceV W ((i : Int) + 1) false⟩]
theorem build2a {v : DV} (hv : v.flat = true) (b : Bool) : gpure (.build [.bool false, .nils] [(0, 1), (1, 1)]) [.bool b, v] = some (.agg [.bool b, v]) := by
  simp [gfill, cells_flat (v := .bool b) rfl, cells_flat hv, over]
theorem build2b {v : DV} (hv : v.flat = true) : gpure (.build [.bool false, .nils] [(1, 1)]) [v] = some (.agg [.bool false, v]) := by
  simp [gfill, cells_flat hv, over]
theorem ga_blk (a b c d : DV) : galloc (.bslice 2 [.bool false, .nils] 2 [(0, 2), (2, 2)]) [.agg [a, b], .agg [c, d]] = some (.row false [a, b, c, d], fun id => .slice id 0 2 2 (some 2)) := rfl
theorem PR.push {σ2 σ4 : GS} {M : Nat} {next : Int} {pv v1 v2 : DV} {bs : List (Blk × DV)} {b1 b2 : Blk} (h : PR σ2 M next σ4 pv bs) (h1 : SInt σ4 v1 b1.vars) (h2 : SInt σ4 v2 b2.vars) (g1 : ∀ j, v1.has j → M < j ∧ ¬ pv.has j) (g2 : ∀ j, v2.has j → M < j ∧ ¬ pv.has j) (hl : bs.length < 2 ^ 20) :
    ∃ pv' σ5, gimp (.append 2 32) [pv, .slice σ4.length 0 2 2 (some 2)] (σ4 ++ [.row false [.bool b1.ex, v1, .bool b2.ex, v2]]) = some (pv', σ5) ∧ σ5[M]? = some (.row false [pv, .nils, .int .i64 0, .int .i64 next]) ∧ pv'.flat = true ∧ PR σ2 M next (σ5.set M (.row false [pv', .nils, .int .i64 0, .int .i64 next])) pv' (bs ++ [(b1, v1), (b2, v2)]) := by
  obtain ⟨pv', σ5, q1, q2, q3, q4, q5⟩ := h.oc.push (by_ := 32) (ys := [(b1, v1), (b2, v2)]) (fun _ => rfl) (by omega) (by simp) (by simp [cellsB, h1.flat, h2.flat]) (by intro m hm; have hm' : m ≤ bs.length + 2 := hm; simp [growOk]; omega)
  have hlen := h.len
  have hM : ¬ pv.has M := fun hh => by have := h.gt M hh; omega
  have hrow : σ5[M]? = some (.row false [pv, .nils, .int .i64 0, .int .i64 next]) := by rw [q4 M (by omega) hM]; exact h.row
  have hge : ∀ j, pv'.has j → M < j := fun j hj => by
    rcases q5 j hj with h' | h'
    · exact h.gt j h'
    · omega
  have hkeep : ∀ j, j < σ4.length → j ≠ M → ¬ pv.has j → (σ5.set M (.row false [pv', .nils, .int .i64 0, .int .i64 next]))[j]? = σ4[j]? := fun j hj hne hno => by
    rw [List.getElem?_set_ne (fun e => hne e.symm), q4 j hj hno]
  have hM5 : M < σ5.length := by omega
  refine ⟨pv', σ5, q1, hrow, q2.flat, ⟨q2.fit fun i hi => ?_, fun p hp => ?_, hge, by simp [hM5], fun j hj => ?_, by simpa using hM5⟩⟩
  · rw [List.getElem?_set_ne (by have := hge i hi; omega)]
  · have key : ∀ (u : DV) (xs : List Int), SInt σ4 u xs → (∀ j, u.has j → M < j ∧ ¬ pv.has j) → SInt (σ5.set M (.row false [pv', .nils, .int .i64 0, .int .i64 next])) u xs ∧ ∀ j, u.has j → M < j ∧ ¬ pv'.has j := fun u xs hu hg => by
      refine ⟨hu.fit fun i hi => hkeep i (hu.has_lt hi) (by have := (hg i hi).1; omega) (hg i hi).2, fun j hj => ⟨(hg j hj).1, fun hh => ?_⟩⟩
      rcases q5 j hh with h' | h'
      · exact (hg j hj).2 h'
      · have := hu.has_lt hj; omega
    rcases List.mem_append.1 hp with hp | hp
    · exact key _ _ (h.ins p hp).1 (h.ins p hp).2
    · simp at hp
      rcases hp with rfl | rfl
      · exact key _ _ h1 g1
      · exact key _ _ h2 g2
  · rw [hkeep j (by omega) (by omega) (fun hh => by have := h.gt j hh; omega)]; exact h.fr j hj
theorem PR.app {σ2 σ4 σ5 : GS} {M : Nat} {next : Int} {pv : DV} {bs : List (Blk × DV)} (h : PR σ2 M next σ4 pv bs) (hf : Fr σ4.length σ4 σ5) : PR σ2 M next σ5 pv bs := by
  have hlen := h.len
  have := hf.len
  exact ⟨h.oc.fit fun i hi => hf.get i (h.oc.has_lt hi), fun p hp => ⟨(h.ins p hp).1.fr hf, (h.ins p hp).2⟩, h.gt, hf.at_ h.row, (fun j hj => by rw [hf.get j (by omega)]; exact h.fr j hj), by omega⟩
theorem IN.set {n : Nat} {D W0 D' : Nat → Prop} {σ1 σ' : GS} {M : Nat} {pv wv : DV} {st : NS} (h : IN n D W0 σ1 D' σ' M pv wv st) {i : Nat} (hi : i < st.ways.length) (y : Int) (hn : n ≤ σ'.length) :
    ∃ id σ'', gpure (.iaddr 1) [wv, .int .i64 (i : Int)] = some (.ptr id i) ∧ gimp (.store 1) [.ptr id i, .int .i64 y] σ' = some (.tuple [], σ'') ∧ IN n D W0 σ1 D' σ'' M pv wv { st with ways := st.ways.set i y } ∧ σ''.length = σ'.length := by
  obtain ⟨id, σ'', q1, q2, q3, q4, q5, q6⟩ := h.ways.set hi y hn
  obtain ⟨gsd, g1, g2⟩ := h.mkr
  have hlen := h.len
  refine ⟨id, σ'', q1, q2, ⟨⟨gsd, g1, g2.fit (by omega) fun j hj => q6 j fun hh => h.wdis j hh hj⟩, h.dom, q3, fun e => ?_, h.wgrow, h.wdis, by omega, fun j hj k1 k2 => ?_⟩, q5⟩
  · have e' : st.ways.set i y = [] := e
    have := congrArg List.length e'
    simp at this
    rw [this] at hi
    simp at hi
  · have hnw : ¬ wv.has j := fun hh => by rcases h.wgrow j hh with h' | h'; exact k2 h'; omega
    rw [q6 j hnw]; exact h.fr j hj k1 k2
theorem IN.step {n : Nat} {D W0 D' D'' : Nat → Prop} {σ1 σ' σ'' : GS} {M : Nat} {pv wv : DV} {st : NS} {gsd' : List (Gat × DV)} {nx : Int} (h : IN n D W0 σ1 D' σ' M pv wv st) (hm : MK D'' σ'' M pv gsd' nx)
    (h1 : ∀ i, D'' i → D' i ∨ σ'.length ≤ i) (h2 : σ'.length ≤ σ''.length) (h3 : ∀ i, i < σ'.length → ¬ D' i → σ''[i]? = σ'[i]?) : IN n D W0 σ1 D'' σ'' M pv wv ⟨gsd'.map Prod.fst, nx, st.ways⟩ := by
  have hlen := h.len
  refine ⟨⟨_, rfl, hm⟩, fun j hj => ?_, h.ways.fit fun i hi => h3 i (h.ways.sl.has_lt hi) (h.wdis i hi), h.wnil, h.wgrow, fun j hj hd => ?_, by omega, fun j hj k1 k2 => ?_⟩
  · rcases h1 j hj with h' | h'
    · exact h.dom j h'
    · exact .inr (by omega)
  · rcases h1 j hd with h' | h'
    · exact h.wdis j hj h'
    · have := h.ways.sl.has_lt hj; omega
  · have hnd : ¬ D' j := fun hh => by rcases h.dom j hh with h' | h'; exact k1 h'; omega
    rw [h3 j (by omega) hnd]; exact h.fr j hj k1 k2
def stA (s : Int) (st : NS) (v : Nat) : NS := ⟨st.gs ++ [⟨st.next, if (v : Int) = s then 1 else 2, []⟩], st.next + 1, st.ways.set v st.next⟩
def firstZ (z : Puz) (next : Int) : NS := (List.range z.places.length).foldl (stA z.start) ⟨[], next, List.replicate z.places.length 0⟩
theorem stepC_bd {W : Nat} {t w a : Int} {x : Plc} : ∀ (l : List Nat) (st : NS), (l.foldl (stepC W t w a x) st).gs.length ≤ st.gs.length + l.length ∧ st.next ≤ (l.foldl (stepC W t w a x) st).next ∧ (l.foldl (stepC W t w a x) st).next ≤ st.next + l.length := by
  intro l
  induction l with
  | nil => intro st; simp
  | cons c l ih =>
    intro st
    rw [List.foldl_cons]
    obtain ⟨h1, h2, h3⟩ := ih (stepC W t w a x st c)
    have : (stepC W t w a x st c).gs.length ≤ st.gs.length + 1 ∧ st.next ≤ (stepC W t w a x st c).next ∧ (stepC W t w a x st c).next ≤ st.next + 1 := by
      unfold stepC; split <;> simp <;> omega
    simp only [List.length_cons]
    omega
theorem stepV_bd {W : Nat} (hW : W ≤ 2) {t w : Int} {at_ : List Int} : ∀ (l : List (Plc × Nat)) (st : NS), (l.foldl (stepV W t w at_) st).gs.length ≤ st.gs.length + 4 * l.length ∧ st.next ≤ (l.foldl (stepV W t w at_) st).next ∧ (l.foldl (stepV W t w at_) st).next ≤ st.next + 4 * l.length := by
  intro l
  have hW4 : 2 ^ W ≤ 4 := by
    obtain rfl | rfl | rfl : W = 0 ∨ W = 1 ∨ W = 2 := by omega
    all_goals decide
  induction l with
  | nil => intro st; simp
  | cons p l ih =>
    intro st
    rw [List.foldl_cons]
    obtain ⟨h1, h2, h3⟩ := ih (stepV W t w at_ st p)
    have : (stepV W t w at_ st p).gs.length ≤ st.gs.length + 4 ∧ st.next ≤ (stepV W t w at_ st p).next ∧ (stepV W t w at_ st p).next ≤ st.next + 4 := by
      unfold stepV
      split
      · split <;> simp <;> omega
      · obtain ⟨g1, g2, g3⟩ := stepC_bd (W := W) (t := t) (w := w) (a := at_.getD p.2 0) (x := p.1) (List.range (2 ^ W)) st
        rw [List.length_range] at g1 g3
        omega
    simp only [List.length_cons]
    omega
theorem intoZ_bd {z : Puz} {W : Nat} (hW : W ≤ 2) {t w : Int} {at_ : List Int} {st : NS} : (intoZ z W t w at_ st).gs.length ≤ st.gs.length + 4 * z.places.length ∧ st.next ≤ (intoZ z W t w at_ st).next ∧ (intoZ z W t w at_ st).next ≤ st.next + 4 * z.places.length := by
  have := stepV_bd hW (t := t) (w := w) (at_ := at_) z.places.zipIdx st
  simpa [intoZ] using this
theorem stepC_wl {W : Nat} {t w a : Int} {x : Plc} : ∀ (l : List Nat) (st : NS), (l.foldl (stepC W t w a x) st).ways.length ≤ st.ways.length + l.length := by
  intro l
  induction l with
  | nil => intro st; simp
  | cons c l ih =>
    intro st
    rw [List.foldl_cons]
    have h1 := ih (stepC W t w a x st c)
    have : (stepC W t w a x st c).ways.length ≤ st.ways.length + 1 := by
      unfold stepC; split <;> simp
    simp only [List.length_cons]
    omega
theorem stepV_wl {W : Nat} (hW : W ≤ 2) {t w : Int} {at_ : List Int} : ∀ (l : List (Plc × Nat)) (st : NS), (l.foldl (stepV W t w at_) st).ways.length ≤ st.ways.length + 4 * l.length := by
  intro l
  have hW4 : 2 ^ W ≤ 4 := by
    obtain rfl | rfl | rfl : W = 0 ∨ W = 1 ∨ W = 2 := by omega
    all_goals decide
  induction l with
  | nil => intro st; simp
  | cons p l ih =>
    intro st
    rw [List.foldl_cons]
    have h1 := ih (stepV W t w at_ st p)
    have : (stepV W t w at_ st p).ways.length ≤ st.ways.length + 4 := by
      unfold stepV
      split
      · split <;> simp
      · have g1 := stepC_wl (W := W) (t := t) (w := w) (a := at_.getD p.2 0) (x := p.1) (List.range (2 ^ W)) st
        rw [List.length_range] at g1
        omega
    simp only [List.length_cons]
    omega
theorem intoZ_wl {z : Puz} {W : Nat} (hW : W ≤ 2) {t w : Int} {at_ : List Int} {st : NS} : (intoZ z W t w at_ st).ways.length ≤ st.ways.length + 4 * z.places.length := by
  have := stepV_wl hW (t := t) (w := w) (at_ := at_) z.places.zipIdx st
  simpa [intoZ] using this
def rowStep (z : Puz) (W : Nat) (t : Int) (at_ : List Int) (st : NS) (w : Nat) : NS :=
  ⟨(intoZ z W t w at_ ⟨st.gs, st.next, []⟩).gs ++ [⟨(intoZ z W t w at_ ⟨st.gs, st.next, []⟩).next, 2, (intoZ z W t w at_ ⟨st.gs, st.next, []⟩).ways⟩], (intoZ z W t w at_ ⟨st.gs, st.next, []⟩).next + 1, st.ways.set w (intoZ z W t w at_ ⟨st.gs, st.next, []⟩).next⟩
def nextRow (z : Puz) (W : Nat) (t : Int) (st : NS) : NS := (List.range z.places.length).foldl (rowStep z W t st.ways) ⟨st.gs, st.next, List.replicate z.places.length 0⟩
/-- The gates up to a time, and the variables of the places at that time. -/
def LZ (z : Puz) (W : Nat) (next : Int) : Nat → NS
  | 0 => firstZ z next
  | t + 1 => nextRow z W ((t : Int) + 1) (LZ z W next t)
def goalsZ (z : Puz) (W : Nat) (next : Int) (t : Nat) : List Int := (List.range t).flatMap fun i => z.goals.map fun g => (LZ z W next i).ways.getD g.toNat 0
/-- The net of a puzzle. -/
def netZ (z : Puz) (W T : Nat) : NetP :=
  ⟨preZ W T, (LZ z W (2 * W * T + 1) T).gs ++ [⟨(LZ z W (2 * W * T + 1) T).next, 2, goalsZ z W (2 * W * T + 1) (T + 1)⟩], (LZ z W (2 * W * T + 1) T).next⟩
theorem net_ok {z : Puz} {pl go : DV} {σ : GS} {Post : DV → GS → Prop} (hz : PuzV σ pl go z) (hfi : Fine z) (hgl : z.goals.length < 2 ^ 20)
    (h : ∀ p g σ' T, z.moves = (T : Nat) → Fr σ.length σ σ' → NetV σ' p g (netZ z (widthZ z) T) → Post (.tuple [.agg [p, g, .int .i64 (netZ z (widthZ z) T).out], .int .i64 0]) σ') : GCall Try.prog 26 [.agg [pl, .int .i64 z.start, go, .int .i64 z.moves]] σ Post := by
  refine gc26 ?_
  obtain ⟨hW2, hWl⟩ := width_fine hfi
  have e0 : (σ ++ [GObj.row false [pl, .int .i64 z.start, go, .int .i64 z.moves], .row false [.nils, .nils, .int .i64 0]])[σ.length]? = some (.row false [pl, .int .i64 z.start, go, .int .i64 z.moves]) := by simp
  have e1 : (σ ++ [GObj.row false [pl, .int .i64 z.start, go, .int .i64 z.moves], .row false [.nils, .nils, .int .i64 0]])[σ.length + 1]? = some (.row false [.nils, .nils, .int .i64 0]) := by simp
  have hf0 : Fr σ.length σ (σ ++ [GObj.row false [pl, .int .i64 z.start, go, .int .i64 z.moves], .row false [.nils, .nils, .int .i64 0]]) := Fr.rfl'.app _
  have hl0 : (σ ++ [GObj.row false [pl, .int .i64 z.start, go, .int .i64 z.moves], .row false [.nils, .nils, .int .i64 0]]).length = σ.length + 2 := by simp
  simp [g26, genv0, List.replicate]
  generalize hσ0 : σ ++ [GObj.row false [pl, .int .i64 z.start, go, .int .i64 z.moves], .row false [.nils, .nils, .int .i64 0]] = σ0 at *
  try simp [ld_agg e0]
  refine open_ok (hz.fr hf0) hfi (by omega) fun σ1 hf1 => ?_
  have hl1 := hf1.len
  have hpf := hz.places.flat
  have hgf := hz.goals.flat
  have hst := st_agg (σ := σ1) (τ := []) (cs := [pl, .int .i64 z.start, go, .int .i64 z.moves, .int .i64 (widthZ z : Int)]) (zs := [.nils, .int .i64 0, .nils, .int .i64 0, .int .i64 0]) (n := 5) rfl rfl (by simp [hpf, hgf])
  obtain ⟨T, hT⟩ : ∃ T : Nat, z.moves = T := ⟨z.moves.toNat, by have := hfi.mv0; omega⟩
  have hT8 : T ≤ 8 := by have := hfi.mv1; omega
  obtain ⟨W, hW⟩ : ∃ W : Nat, widthZ z = W := ⟨_, rfl⟩
  rw [hW] at hst hW2 hWl
  have w1 : IntKind.i64.wrap (2 * (W : Int)) = 2 * W := by rw [wrap_small] <;> omega
  have hWT : 0 ≤ 2 * (W : Int) * T ∧ 2 * (W : Int) * T ≤ 32 := by
    obtain rfl | rfl | rfl : W = 0 ∨ W = 1 ∨ W = 2 := by omega
    all_goals omega
  have w2 : IntKind.i64.wrap (2 * (W : Int) * T) = 2 * (W : Int) * T := by rw [wrap_small] <;> omega
  have w3 : IntKind.i64.wrap (2 * (W : Int) * T + 1) = 2 * (W : Int) * T + 1 := by rw [wrap_small] <;> omega
  have hbm : gpure (.build [.nils, .nils, .int .i64 0, .int .i64 0] [(3, 1)]) [.int .i64 (2 * (W : Int) * T + 1)] = some (.agg [.nils, .nils, .int .i64 0, .int .i64 (2 * (W : Int) * T + 1)]) := rfl
  rw [hT] at hst
  have e01 := hf1.at_ e0
  have e11 := hf1.at_ e1
  rw [hT] at e01
  have eP := getE_append (τ := [GObj.row false [pl, .int .i64 z.start, go, .int .i64 T, .int .i64 (W : Int)], .row false [.nils, .nils, .int .i64 0, .int .i64 (2 * (W : Int) * T + 1)]]) e01
  have eP1 := getE_append (τ := [GObj.row false [pl, .int .i64 z.start, go, .int .i64 T, .int .i64 (W : Int)]]) e01
  simp [hW, hT, hst, -gp_build, w1, ld_at eP1, w2, w3, hbm]
  have hM : ∃ M, M = σ1.length + 1 := ⟨_, rfl⟩
  obtain ⟨M, hMe⟩ := hM
  generalize hσ2 : σ1 ++ [GObj.row false [pl, .int .i64 z.start, go, .int .i64 T, .int .i64 (W : Int)], .row false [.nils, .nils, .int .i64 0, .int .i64 (2 * (W : Int) * T + 1)]] = σ2 at *
  have eB : σ2[σ1.length]? = some (.row false [pl, .int .i64 z.start, go, .int .i64 T, .int .i64 (W : Int)]) := by rw [← hσ2]; simp
  have eM : σ2[M]? = some (.row false [.nils, .nils, .int .i64 0, .int .i64 (2 * (W : Int) * T + 1)]) := by rw [← hσ2, hMe]; simp
  have hl2 : σ2.length = M + 1 := by rw [← hσ2, hMe]; simp
  have hpr0 : PR σ2 M (2 * (W : Int) * T + 1) σ2 .nils [] := ⟨.inl ⟨rfl, rfl⟩, (fun p hp => by cases hp), (fun j hj => absurd hj (nils_has j)), eM, (fun _ _ => rfl), by omega⟩
  rw [← hMe]
  have hn16 := hfi.n16
  have hms : ∀ n : Nat, n < 2 ^ 30 → galloc (.mslice 1 8 [.int .i64 0]) [.int .i64 (n : Int), .int .i64 (n : Int)] = some (.row false (ints (List.replicate n 0)), fun id => .slice id 0 n 1 (some n)) := by
    intro n hn
    simp only [galloc]
    rw [if_pos (by omega)]
    simp [gzeros, ints]
  have hms' := hms z.places.length (by omega)
  have hfin : (W = 0 ∨ 0 < W) := by omega
  rcases hfin with hW0 | hW0
  case' inl =>
    have hWn : ¬ 0 < W := by omega
    have hp := hpr0
    have hpre : ([] : List (Blk × DV)).map Prod.fst = preZ W T := by simp [preZ, hW0]
    obtain ⟨σ3, hσ3⟩ : ∃ σ3, σ3 = σ2 := ⟨_, rfl⟩
    have eP3 : σ3[σ.length]? = some (.row false [pl, .int .i64 z.start, go, .int .i64 T]) := by rw [hσ3]; exact eP
    have eB3 : σ3[σ1.length]? = some (.row false [pl, .int .i64 z.start, go, .int .i64 T, .int .i64 (W : Int)]) := by rw [hσ3]; exact eB
    rw [show PR σ2 M (2 * (W : Int) * T + 1) σ2 .nils [] = PR σ2 M (2 * (W : Int) * T + 1) σ3 .nils [] by rw [hσ3]] at hp
    generalize ([] : List (Blk × DV)) = bs at hp hpre
    obtain ⟨pv, hpv⟩ : ∃ pv, pv = DV.nils := ⟨_, rfl⟩
    rw [← hpv] at hp
    simp [hWn, ld_at eP, hz.places.len, hms']
    rw [← hσ3]
    clear hσ3 hWn hpv
  case' inr =>
    simp [hW0]
    refine gfor T (fun i e σ' => ∃ pv bs, bs.map Prod.fst = (List.range i).flatMap (fun (i : Nat) => [(⟨true, choiceV W ((i : Int) + 1) true⟩ : Blk), ⟨false, choiceV W ((i : Int) + 1) false⟩]) ∧ bs.length = 2 * i ∧ PR σ2 M (2 * (W : Int) * T + 1) σ' pv bs ∧
      e = mkEnv 137 [(1, .ptr σ.length 0), (2, .ptr (σ.length + 1) 0), (4, .ptr σ1.length 0), (6, .ptr M 0), (7, .int .i64 ((i : Int) + 1))]) _ ?_ ⟨.nils, [], rfl, rfl, hpr0, rfl⟩ ?_
    · simp [mkEnv, List.replicate]
    rintro i _ σ3 hi ⟨pv, bs, hbs, hbl, hp, rfl⟩
    have eP3 := (hp.fr σ.length (by omega)).trans eP
    have eB3 := (hp.fr σ1.length (by omega)).trans eB
    simp [mkEnv, List.replicate, ld_at eP3]
    by_cases hlt : i < T
    · have hle : (i : Int) + 1 ≤ (T : Int) := by omega
      simp [hle, ld_at hp.row, ld_agg eB3]
      refine choice_ok (by omega) (by omega) fun v1 σ4 hf4 hl4 hv1 => ?_
      have hp4 := hp.app hf4
      have eB4 := hf4.at_ eB3
      simp [ld_at hp.row, ld_at hp4.row, ld_agg eB3, ld_agg eB4, -gp_build, build2a hv1.sl.flat]
      refine choice_ok (by omega) (by omega) fun v2 σ5 hf5 hl5 hv2 => ?_
      have hp5 := hp4.app hf5
      have hpl := hp.len
      obtain ⟨pv', σ6, q1, q2, q3, q4⟩ := hp5.push (b1 := ⟨true, choiceV W ((i : Int) + 1) true⟩) (b2 := ⟨false, choiceV W ((i : Int) + 1) false⟩) (hv1.sl.fr hf5) hv2.sl (fun j hj => ⟨by have := hv1.has_ge hj; omega, fun hh => by have := hv1.has_ge hj; have := hp.oc.has_lt hh; omega⟩) (fun j hj => ⟨by have := hv2.has_ge hj; omega, fun hh => by have := hv2.has_ge hj; have := hp4.oc.has_lt hh; omega⟩) (by omega)
      have hst5 := st_cell (k := 0) (v := pv') q2 (by simp) q3
      simp at hst5
      have hw2 : IntKind.i64.wrap ((i : Int) + 1 + 1) = (i : Int) + 1 + 1 := by rw [wrap_small] <;> omega
      simp [ld_at hp4.row, ld_at hp5.row, -gp_build, build2b hv2.sl.flat, ga_blk, q1, hst5, hw2]
      refine forK_go _ hlt ?_ ⟨pv', _, ?_, ?_, q4, rfl⟩
      · simp [mkEnv, List.replicate]
      · rw [List.map_append, hbs, List.range_succ, List.flatMap_append]; simp
      · simp [hbl]; omega
    have hnle : ¬ (i : Int) + 1 ≤ (T : Int) := by omega
    have hiT : i = T := by omega
    have hpre : bs.map Prod.fst = preZ W T := by
      have : ¬ W = 0 := by omega
      rw [hbs, hiT, preZ, if_neg this]
    simp [hnle, ld_at eP3, hz.places.len, hms']
    clear hnle hiT hlt hbs hbl hi
  all_goals
    obtain ⟨n, hn⟩ : ∃ n, z.places.length = n := ⟨_, rfl⟩
    obtain ⟨next0, hnext0⟩ : ∃ next0, 2 * (W : Int) * T + 1 = next0 := ⟨_, rfl⟩
    have hnx0 : 0 ≤ next0 ∧ next0 < 1000 := by omega
    rw [hnext0] at hp
    have hplen := hp.len
    have hpvf := hp.oc.flat
    have hmk3 : MK (fun j => j = M) σ3 M pv [] next0 := ⟨.nils, hp.row, .inl ⟨rfl, rfl⟩, (fun j hj => absurd hj (nils_has j)), (fun p hp => by cases hp), rfl, (fun j hj => by have e : j = M := hj; rw [e]; exact hp.len)⟩
    have hOat : OInt σ3.length (σ3 ++ [GObj.row false (List.replicate n (DV.int .i64 0))]) (.slice σ3.length 0 n 1 (some n)) (List.replicate n 0) := .inr ⟨σ3.length, some n, [], Nat.le_refl _, by simp, by simp [ints], by simp⟩
    have hav : ∀ j, (DV.slice σ3.length 0 n 1 (some n)).has j → j = σ3.length := fun j ⟨_, _, _, _, e⟩ => by cases e; rfl
    have hin0 : IN σ3.length (fun j => j = M) (fun j => j = σ3.length) (σ3 ++ [GObj.row false (List.replicate n (DV.int .i64 0))]) (fun j => j = M) (σ3 ++ [GObj.row false (List.replicate n (DV.int .i64 0))]) M pv (.slice σ3.length 0 n 1 (some n)) ⟨[], next0, List.replicate n 0⟩ :=
      ⟨⟨[], rfl, hmk3.fit (by simp) fun j hj => List.getElem?_append_left (by rw [hj]; exact hp.len)⟩, fun j hj => .inl hj, hOat, fun e => by have := hfi.n1; have e' := congrArg List.length e; simp at e'; omega, fun j hj => .inl (hav j hj), fun j hj hd => by have := hav j hj; omega, Nat.le_refl _, fun _ _ _ _ => rfl⟩
    have hn1 := hfi.n1
    rw [hn] at hn1 hn16
    simp only [hn]
    refine gfor n (fun v e σ' => ∃ st D', (List.range v).foldl (stA z.start) ⟨[], next0, List.replicate n 0⟩ = st ∧ IN σ3.length (fun j => j = M) (fun j => j = σ3.length) (σ3 ++ [GObj.row false (List.replicate n (DV.int .i64 0))]) D' σ' M pv (.slice σ3.length 0 n 1 (some n)) st ∧
      st.gs.length = v ∧ st.next = next0 + v ∧ st.ways.length = n ∧
      e = mkEnv 137 [(1, .ptr σ.length 0), (2, .ptr (σ.length + 1) 0), (4, .ptr σ1.length 0), (6, .ptr M 0), (8, .slice σ3.length 0 n 1 (some n)), (68, .int .i64 n), (69, .int .i64 v)]) _ ?_ ⟨_, _, rfl, hin0, rfl, by simp, by simp, rfl⟩ ?_
    · simp [mkEnv, List.replicate]
    rintro v _ σ4 hi ⟨st, D4, hst4, hin, hsg, hsn, hsw, rfl⟩
    have hL4 := hin.len
    simp at hL4
    have hfr4 : ∀ j, j < σ3.length → j ≠ M → σ4[j]? = σ3[j]? := fun j hj hne => by rw [hin.fr j (by simp; omega) hne (by omega), List.getElem?_append_left hj]
    have eP4 := (hfr4 σ.length (by omega) (by omega)).trans eP3
    simp [mkEnv, List.replicate]
    by_cases hvt : v < n
    · obtain ⟨gsd, m1, m2⟩ := hin.mkr
      have hgl : gsd.length = st.gs.length := by rw [← m1]; simp
      have hstep : (List.range (v + 1)).foldl (stA z.start) ⟨[], next0, List.replicate n 0⟩ = stA z.start st v := by rw [List.range_succ, List.foldl_append, hst4]; rfl
      have hgo : ∀ kind : Int, (kind = if (v : Int) = z.start then 1 else 2) → ∀ Post' : DV → GS → Prop, (∀ σ5 σ6 id D', gpure (.iaddr 1) [.slice σ3.length 0 n 1 (some n), .int .i64 (v : Int)] = some (.ptr id v) → gimp (.store 1) [.ptr id v, .int .i64 st.next] σ5 = some (.tuple [], σ6) → IN σ3.length (fun j => j = M) (fun j => j = σ3.length) (σ3 ++ [GObj.row false (List.replicate n (DV.int .i64 0))]) D' σ6 M pv (.slice σ3.length 0 n 1 (some n)) (stA z.start st v) → Post' (.int .i64 st.next) σ5) → GCall Try.prog 52 [.ptr M 0, .int .u8 kind, .nils] σ4 Post' := by
        intro kind hk Post' hP
        refine mgate_ok m2 hpvf (.inl ⟨.inl rfl, rfl⟩) (fun _ => rfl) (by simp) (by omega) (by omega) (by omega) fun vv D7 σ7 k1 k2 k3 k4 => ?_
        have hin7 := hin.gate m1 k1 k2 k3 k4
        obtain ⟨id, σ8, t1, t2, t3, t4⟩ := hin7.set (i := v) (by simp; omega) st.next (by omega)
        exact hP σ7 σ8 id D7 t1 t2 (by rw [hk] at t3; exact t3)
      have hnext : ∀ σ6 D', IN σ3.length (fun j => j = M) (fun j => j = σ3.length) (σ3 ++ [GObj.row false (List.replicate n (DV.int .i64 0))]) D' σ6 M pv (.slice σ3.length 0 n 1 (some n)) (stA z.start st v) →
          (fun (v : Nat) (e : Env) (σ' : GS) => ∃ st D', (List.range v).foldl (stA z.start) ⟨[], next0, List.replicate n 0⟩ = st ∧ IN σ3.length (fun j => j = M) (fun j => j = σ3.length) (σ3 ++ [GObj.row false (List.replicate n (DV.int .i64 0))]) D' σ' M pv (.slice σ3.length 0 n 1 (some n)) st ∧
            st.gs.length = v ∧ st.next = next0 + v ∧ st.ways.length = n ∧
            e = mkEnv 137 [(1, .ptr σ.length 0), (2, .ptr (σ.length + 1) 0), (4, .ptr σ1.length 0), (6, .ptr M 0), (8, .slice σ3.length 0 n 1 (some n)), (68, .int .i64 n), (69, .int .i64 v)]) (v + 1) (mkEnv 137 [(1, .ptr σ.length 0), (2, .ptr (σ.length + 1) 0), (4, .ptr σ1.length 0), (6, .ptr M 0), (8, .slice σ3.length 0 n 1 (some n)), (68, .int .i64 n), (69, .int .i64 ((v + 1 : Nat) : Int))]) σ6 :=
        fun σ6 D' hh => ⟨_, D', hstep, hh, by simp [stA, hsg], by simp [stA, hsn]; omega, by simp [stA, hsw], rfl⟩
      by_cases hvs : (v : Int) = z.start
      · have hd : decide ((v : Int) = z.start) = true := by simp [hvs]
        simp [hvt, ld_at eP4, hd]
        refine hgo 1 (by simp [hvs]) _ fun σ5 σ6 id D' t1 t2 t3 => ?_
        simp [t1, t2, wrap_suc (show v < _ by omega)]
        exact forK_go _ hvt (by simp [mkEnv, List.replicate]) (hnext σ6 D' t3)
      · simp [hvt, ld_at eP4, hvs]
        refine hgo 2 (by simp [hvs]) _ fun σ5 σ6 id D' t1 t2 t3 => ?_
        simp [t1, t2, wrap_suc (show v < _ by omega)]
        exact forK_go _ hvt (by simp [mkEnv, List.replicate]) (hnext σ6 D' t3)
    have hvn : n = v := by omega
    subst hvn
    simp
    have hLZ0 : st = LZ z W next0 0 := by rw [← hst4]; simp [LZ, firstZ, hn]
    have hf4b : Fr σ.length σ σ4 := ⟨by omega, fun j hj => by
      rw [hfr4 j (by omega) (by omega), hp.fr j (by omega), ← hσ2, List.getElem?_append_left (by omega)]
      rw [hf1.get j (by omega)]; exact hf0.get j hj⟩
    refine gfor T (fun t e σ' => ∃ D' gsd av gv, gsd.map Prod.fst = (LZ z W next0 t).gs ∧ MK D' σ' M pv gsd (LZ z W next0 t).next ∧ (∀ j, D' j → j = M ∨ σ3.length ≤ j) ∧
      OInt σ3.length σ' av (LZ z W next0 t).ways ∧ (∀ j, av.has j → ¬ D' j) ∧ OInt σ3.length σ' gv (goalsZ z W next0 t) ∧ (goalsZ z W next0 t = [] → gv = .nils) ∧ (∀ j, gv.has j → ¬ D' j ∧ ¬ av.has j) ∧
      σ3.length ≤ σ'.length ∧ (∀ j, j < σ3.length → j ≠ M → σ'[j]? = σ3[j]?) ∧ (LZ z W next0 t).gs.length ≤ 16 + 1040 * t ∧ next0 ≤ (LZ z W next0 t).next ∧ (LZ z W next0 t).next ≤ next0 + 16 + 1040 * t ∧ (LZ z W next0 t).ways.length = n ∧ (goalsZ z W next0 t).length = t * z.goals.length ∧
      e = mkEnv 137 [(1, .ptr σ.length 0), (2, .ptr (σ.length + 1) 0), (4, .ptr σ1.length 0), (6, .ptr M 0), (8, av), (11, gv), (12, .int .i64 t)]) (mkEnv 137 [(1, .ptr σ.length 0), (2, .ptr (σ.length + 1) 0), (4, .ptr σ1.length 0), (6, .ptr M 0), (8, .slice σ3.length 0 n 1 (some n)), (11, .nils), (12, .int .i64 ((0 : Nat) : Int))]) ?_ ?_ ?_
    · simp [mkEnv, List.replicate]
    · obtain ⟨gsd, m1, m2⟩ := hin.mkr
      refine ⟨D4, gsd, _, .nils, by rw [← hLZ0]; exact m1, by rw [← hLZ0]; exact m2, fun j hj => ?_, by rw [← hLZ0]; exact hin.ways, hin.wdis, .inl ⟨rfl, by simp [goalsZ]⟩, fun _ => rfl, fun j hj => absurd hj (nils_has j), by omega, hfr4, by rw [← hLZ0]; omega, by rw [← hLZ0]; omega, by rw [← hLZ0]; omega, by rw [← hLZ0]; exact hsw, by simp [goalsZ], rfl⟩
      rcases hin.dom j hj with h' | h'
      · exact .inl h'
      · simp at h'; exact .inr (by omega)
    clear hin hst4 hsg hsn hsw hLZ0 hin0 hOat hav hmk3 hf4b eP4 hfr4 hL4
    rintro t _ σ4 htT ⟨D4, gsd, av, gv, m1, m2, m3, a1, a2, g1, g2, g3, hL4, hfr4, b1, b2, b3, b4, b5, rfl⟩
    have eP4 := (hfr4 σ.length (by omega) (by omega)).trans eP3
    have hf4b : Fr σ.length σ σ4 := ⟨by omega, fun j hj => by
      rw [hfr4 j (by omega) (by omega), hp.fr j (by omega), ← hσ2, List.getElem?_append_left (by omega)]
      rw [hf1.get j (by omega)]; exact hf0.get j hj⟩
    have hgo4 := hz.goals.fr hf4b
    simp [mkEnv, List.replicate, ld_at eP4, hgo4.len]
    refine gfor z.goals.length (fun k e σ' => ∃ gv', OInt σ3.length σ' gv' (goalsZ z W next0 t ++ (z.goals.take k).map fun g => (LZ z W next0 t).ways.getD g.toNat 0) ∧ (goalsZ z W next0 t ++ ((z.goals.take k).map fun g => (LZ z W next0 t).ways.getD g.toNat 0) = [] → gv' = .nils) ∧ (∀ j, gv'.has j → ¬ D4 j ∧ ¬ av.has j) ∧ (∀ j, gv'.has j → gv.has j ∨ σ4.length ≤ j) ∧
      σ4.length ≤ σ'.length ∧ (∀ j, j < σ4.length → ¬ gv.has j → σ'[j]? = σ4[j]?) ∧
      e = mkEnv 137 [(1, .ptr σ.length 0), (2, .ptr (σ.length + 1) 0), (4, .ptr σ1.length 0), (6, .ptr M 0), (8, av), (11, gv'), (12, .int .i64 t), (86, go), (87, .int .i64 z.goals.length), (88, .int .i64 k)]) _ ?_ ⟨gv, by simpa using g1, by simpa using g2, g3, fun j hj => .inl hj, Nat.le_refl _, fun _ _ _ => rfl, rfl⟩ ?_
    · simp [mkEnv, List.replicate]
    rintro k _ σ5 hk ⟨gv', c1, c2, c3, c4, hL5, hfr5, rfl⟩
    have hgvge : ∀ j, gv.has j → σ3.length ≤ j := fun j hj => g1.has_ge hj
    have hfr35 : ∀ j, j < σ3.length → j ≠ M → σ5[j]? = σ3[j]? := fun j hj hne => by
      rw [hfr5 j (by omega) (fun hh => by have := hgvge j hh; omega)]; exact hfr4 j hj hne
    have hf5b : Fr σ.length σ σ5 := ⟨by omega, fun j hj => by
      rw [hfr5 j (by omega) (fun hh => by have := hgvge j hh; omega)]; exact hf4b.get j hj⟩
    have hav5 : OInt σ3.length σ5 av (LZ z W next0 t).ways := a1.fit fun j hj => hfr5 j (a1.sl.has_lt hj) (fun hh => (g3 j hh).2 hj)
    have hm5 : MK D4 σ5 M pv gsd (LZ z W next0 t).next := m2.fit hL5 fun j hj => hfr5 j (m2.lt j hj) (fun hh => (g3 j hh).1 hj)
    simp [mkEnv, List.replicate]
    by_cases hkt : k < z.goals.length
    · obtain ⟨G, hG⟩ := get_lt hkt
      obtain ⟨id, off, r1, r2⟩ := (hz.goals.fr hf5b).get (k := .i64) hG
      obtain ⟨hG0, hG1⟩ := hfi.goals G (List.mem_of_getElem? hG)
      obtain ⟨a, ha⟩ := get_lt (xs := (LZ z W next0 t).ways) (i := G.toNat) (by omega)
      obtain ⟨id2, off2, s1, s2⟩ := hav5.sl.get (k := .i64) ha
      rw [show ((G.toNat : Nat) : Int) = G by omega] at s1
      have hlen5 : (goalsZ z W next0 t ++ (z.goals.take k).map fun g => (LZ z W next0 t).ways.getD g.toNat 0).length < 2 ^ 39 := by
        rw [List.length_append, b5, List.length_map, List.length_take]
        have : t * z.goals.length ≤ 8 * z.goals.length := Nat.mul_le_mul_right _ (by omega)
        omega
      obtain ⟨gv2, σ6, q1, q2, q3, q4, q5, q6⟩ := c1.push a (by omega) hlen5
      simp [hkt, r1, r2, s1, s2, q1, wrap_suc (show k < _ by omega)]
      have htake : (goalsZ z W next0 t ++ (z.goals.take (k + 1)).map fun g => (LZ z W next0 t).ways.getD g.toNat 0) = (goalsZ z W next0 t ++ (z.goals.take k).map fun g => (LZ z W next0 t).ways.getD g.toNat 0) ++ [a] := by
        obtain ⟨hk', rfl⟩ := List.getElem?_eq_some_iff.1 hG
        rw [List.take_succ_eq_append_getElem hk', List.map_append, List.append_assoc]
        simp [ha]
      refine forK_go _ hkt ?_ ⟨gv2, by rw [htake]; exact q2, fun e => by rw [htake] at e; simp at e, fun j hj => ?_, fun j hj => ?_, by omega, fun j hj hno => ?_, rfl⟩
      · simp [mkEnv, List.replicate]
      · rcases q6 j hj with h' | h'
        · exact c3 j h'
        · exact ⟨fun hd => by have := m2.lt j hd; omega, fun hh => by have := a1.sl.has_lt hh; omega⟩
      · rcases q6 j hj with h' | h'
        · exact c4 j h'
        · exact .inr (by omega)
      · rw [q5 j (by omega) (fun hh => by rcases c4 j hh with h' | h'; exact hno h'; omega)]; exact hfr5 j hj hno
    have hkn : k = z.goals.length := by omega
    subst hkn
    have eP5 := (hfr35 σ.length (by omega) (by omega)).trans eP3
    rw [List.take_length] at c1 c2
    have hgs : goalsZ z W next0 t ++ (z.goals.map fun g => (LZ z W next0 t).ways.getD g.toNat 0) = goalsZ z W next0 (t + 1) := by
      unfold goalsZ
      rw [List.range_succ, List.flatMap_append]; simp
    rw [hgs] at c1 c2
    have hglen : (goalsZ z W next0 (t + 1)).length = (t + 1) * z.goals.length := by rw [← hgs, List.length_append, b5, List.length_map, Nat.add_mul]; omega
    have hgl8 : (t + 1) * z.goals.length ≤ 9 * z.goals.length := Nat.mul_le_mul_right _ (by omega)
    have hgsl : gsd.length = (LZ z W next0 t).gs.length := by rw [← m1]; simp
    by_cases htT' : t = T
    · have hd : ((t : Int) = (T : Int)) := by omega
      simp [ld_at eP5, hd]
      refine mgate_ok hm5 hpvf c1.sl c2 (by omega) (by omega) (by omega) (by omega) fun vv D7 σ7 k1 k2 k3 k4 => ?_
      obtain ⟨gvv, n1, n2, n3, n4, n5, n6⟩ := k1
      have hgvf : gvv.flat = true := OC.flat (cells := cellsG) (sz := 3) n2
      have hsc := st_cell (k := 2) (v := .int .i64 (LZ z W next0 t).next) n1 (by simp) rfl
      have hM7 : M < σ7.length := get_dom n1
      have hrow8 : (σ7.set M (.row false [pv, gvv, .int .i64 (LZ z W next0 t).next, .int .i64 ((LZ z W next0 t).next + 1)]))[M]? = some (.row false [pv, gvv, .int .i64 (LZ z W next0 t).next, .int .i64 ((LZ z W next0 t).next + 1)]) := by simp [hM7]
      have hfr37 : ∀ j, j < σ3.length → j ≠ M → σ7[j]? = σ3[j]? := fun j hj hne => by
        rw [k4 j (by omega) (fun hh => by rcases m3 j hh with h' | h'; exact hne h'; omega)]; exact hfr35 j hj hne
      have eR3 : σ3[σ.length + 1]? = some (.row false [.nils, .nils, .int .i64 0]) := by
        rw [hp.fr _ (by omega), ← hσ2, List.getElem?_append_left (by omega)]; exact e11
      have eR8 : (σ7.set M (.row false [pv, gvv, .int .i64 (LZ z W next0 t).next, .int .i64 ((LZ z W next0 t).next + 1)]))[σ.length + 1]? = some (.row false [.nils, .nils, .int .i64 0]) := by
        rw [List.getElem?_set_ne (by omega), hfr37 _ (by omega) (by omega)]; exact eR3
      have hst8 := st_agg_at (cs := [pv, gvv, .int .i64 (LZ z W next0 t).next]) (n := 3) eR8 rfl rfl (by simp [hpvf, hgvf])
      simp at hsc
      simp [hsc, ld_agg hrow8, hst8]
      have hR9 : σ.length + 1 < σ7.length := by omega
      simp [gresL, gres1, gload, hR9, gresV]
      have keep9 : ∀ j, j ≠ M → j ≠ σ.length + 1 → ((σ7.set M (.row false [pv, gvv, .int .i64 (LZ z W next0 t).next, .int .i64 ((LZ z W next0 t).next + 1)])).set (σ.length + 1) (.row false [pv, gvv, .int .i64 (LZ z W next0 t).next]))[j]? = σ7[j]? := fun j h1 h2 => by
        rw [List.getElem?_set_ne (fun e => h2 e.symm), List.getElem?_set_ne (fun e => h1 e.symm)]
      subst htT'
      have hres := h pv gvv ((σ7.set M (.row false [pv, gvv, .int .i64 (LZ z W next0 t).next, .int .i64 ((LZ z W next0 t).next + 1)])).set (σ.length + 1) (.row false [pv, gvv, .int .i64 (LZ z W next0 t).next])) t hT ⟨by simp; omega, fun j hj => ?_⟩ ⟨?_, ?_⟩
      · rw [hW] at hres
        simp only [netZ, hnext0] at hres
        exact hres
      · rw [keep9 j (by omega) (by omega), k4 j (by omega) (fun hh => by rcases m3 j hh with h' | h' <;> omega)]
        exact hf5b.get j hj
      · rw [hW]
        show Sl 2 RBlk _ pv (preZ W t)
        rw [← hpre]
        refine OC.sl (hp.oc.fit fun j hj => ?_) (fun _ => rfl) fun p hpm => ⟨p.2, rfl, (hp.ins p hpm).1.fit fun j hj => ?_⟩
        · have := hp.gt j hj; have := hp.oc.has_lt hj
          rw [keep9 j (by omega) (by omega), hfr37 j (by omega) (by omega)]
        · have := ((hp.ins p hpm).2 j hj).1; have := (hp.ins p hpm).1.has_lt hj
          rw [keep9 j (by omega) (by omega), hfr37 j (by omega) (by omega)]
      · rw [hW]
        simp only [netZ, hnext0]
        have hmap : (gsd ++ [((⟨(LZ z W next0 t).next, 2, goalsZ z W next0 (t + 1)⟩ : Gat), vv)]).map Prod.fst = (LZ z W next0 t).gs ++ [⟨(LZ z W next0 t).next, 2, goalsZ z W next0 (t + 1)⟩] := by simp [m1]
        rw [← hmap]
        have hDge : ∀ j, (D7 j → j ≠ σ.length + 1) := fun j hj => by
          rcases k2 j hj with h' | h'
          · rcases m3 j h' with h'' | h'' <;> omega
          · omega
        refine OC.sl (cells := cellsG) (OC.fit n2 fun j hj => keep9 j (n3 j hj).2 (hDge j (n3 j hj).1)) (fun _ => rfl) fun p hpm => ⟨p.2, rfl, (n4 p hpm).1.fit fun j hj => ?_⟩
        obtain ⟨u1, u2, u3⟩ := (n4 p hpm).2 j hj
        exact keep9 j u2 (hDge j u1)
    · have hd : ¬ ((t : Int) = (T : Int)) := by omega
      have hms5 := hms n (by omega)
      have hav5l := hav5.sl.len
      rw [b4] at hav5l
      simp [ints] at hms5
      simp [ld_at eP5, hd, hav5l, hms5]
      have hD4lt := m2.lt
      have hOat : OInt σ3.length (σ5 ++ [GObj.row false (List.replicate n (DV.int .i64 0))]) (.slice σ5.length 0 n 1 (some n)) (List.replicate n 0) := .inr ⟨σ5.length, some n, [], by omega, by simp, by simp [ints], by simp⟩
      have hav6 : ∀ j, (DV.slice σ5.length 0 n 1 (some n)).has j → j = σ5.length := fun j ⟨_, _, _, _, e⟩ => by cases e; rfl
      have hin0 : IN σ3.length D4 (fun j => j = σ5.length) (σ5 ++ [GObj.row false (List.replicate n (DV.int .i64 0))]) D4 (σ5 ++ [GObj.row false (List.replicate n (DV.int .i64 0))]) M pv (.slice σ5.length 0 n 1 (some n)) ⟨(LZ z W next0 t).gs, (LZ z W next0 t).next, List.replicate n 0⟩ :=
        ⟨⟨gsd, m1, hm5.fit (by simp) fun j hj => List.getElem?_append_left (by have := hD4lt j hj; omega)⟩, fun j hj => .inl hj, hOat, fun e => by have e' := congrArg List.length e; simp at e'; omega, fun j hj => .inl (hav6 j hj), fun j hj hd => by have := hav6 j hj; have := hD4lt j hd; omega, Nat.le_refl _, fun _ _ _ _ => rfl⟩
      have hW1 : IntKind.i64.wrap ((t : Int) + 1) = (t : Int) + 1 := by rw [wrap_small] <;> omega
      refine gfor n (fun w e σ' => ∃ st D', (List.range w).foldl (rowStep z W ((t : Int) + 1) (LZ z W next0 t).ways) ⟨(LZ z W next0 t).gs, (LZ z W next0 t).next, List.replicate n 0⟩ = st ∧ IN σ3.length D4 (fun j => j = σ5.length) (σ5 ++ [GObj.row false (List.replicate n (DV.int .i64 0))]) D' σ' M pv (.slice σ5.length 0 n 1 (some n)) st ∧
        st.gs.length ≤ (LZ z W next0 t).gs.length + 65 * w ∧ (LZ z W next0 t).next ≤ st.next ∧ st.next ≤ (LZ z W next0 t).next + 65 * w ∧ st.ways.length = n ∧
        e = mkEnv 137 [(1, .ptr σ.length 0), (2, .ptr (σ.length + 1) 0), (4, .ptr σ1.length 0), (6, .ptr M 0), (8, av), (11, gv'), (12, .int .i64 t), (15, .slice σ5.length 0 n 1 (some n)), (108, .int .i64 n), (109, .int .i64 w)]) _ ?_ ⟨_, _, rfl, hin0, by simp, by simp, by simp, by simp, rfl⟩ ?_
      · simp [mkEnv, List.replicate]
      rintro w _ σ6 hw ⟨st6, D6, hst6, hin6, f1, f2, f3, f4, rfl⟩
      have hL6 := hin6.len
      simp at hL6
      have hD4n : ∀ j, j < σ3.length → j ≠ M → ¬ D4 j := fun j hj hne hh => by rcases m3 j hh with h' | h' <;> omega
      have hfr56 : ∀ j, j < σ5.length → ¬ D4 j → σ6[j]? = σ5[j]? := fun j hj hno => by
        rw [hin6.fr j (by simp; omega) hno (by omega), List.getElem?_append_left hj]
      have hfr36 : ∀ j, j < σ3.length → j ≠ M → σ6[j]? = σ3[j]? := fun j hj hne => by
        rw [hfr56 j (by omega) (hD4n j hj hne)]; exact hfr35 j hj hne
      have hf6b : Fr σ.length σ σ6 := ⟨by omega, fun j hj => by rw [hfr56 j (by omega) (hD4n j (by omega) (by omega))]; exact hf5b.get j hj⟩
      have eB6 := (hfr36 σ1.length (by omega) (by omega)).trans eB3
      have hav66 : OInt σ3.length σ6 av (LZ z W next0 t).ways := hav5.fit fun j hj => hfr56 j (hav5.sl.has_lt hj) (a2 j hj)
      simp [mkEnv, List.replicate]
      by_cases hwt : w < n
      · simp [hwt, ld_agg eB6, hW1]
        rw [show (DV.int .i64 (T : Int)) = DV.int .i64 z.moves by rw [hT]]
        obtain ⟨gsd6, p1, p2⟩ := hin6.mkr
        have hg6 : gsd6.length = st6.gs.length := by rw [← p1]; simp
        have hbd := intoZ_bd (z := z) hW2 (t := (t : Int) + 1) (w := (w : Int)) (at_ := (LZ z W next0 t).ways) (st := ⟨gsd6.map Prod.fst, st6.next, []⟩)
        have hm8 : (gsd6.map Prod.fst).length = st6.gs.length := by rw [p1]
        simp only [hm8] at hbd
        refine into_ok (w := w) hf6b hz (fun j hj => ?_) hfi hW2 hWl p2 hpvf hav66.sl (by omega) (fun j hj hh => ?_) (by omega) (by omega) (by omega) (by omega) (by omega) fun wv D7 gsd7 σ7 i1 i2 i3 i4 i5 i6 i7 i8 => ?_
        · rcases hin6.dom j hj with h' | h'
          · rcases m3 j h' with h'' | h'' <;> omega
          · simp at h'; omega
        · rcases hin6.dom j hh with h' | h'
          · exact a2 j hj h'
          · have := hav5.sl.has_lt hj; simp at h'; omega
        have hg7 : gsd7.length = (intoZ z W ((t : Int) + 1) w (LZ z W next0 t).ways ⟨gsd6.map Prod.fst, st6.next, []⟩).gs.length := by rw [← i1]; simp
        simp
        refine mgate_ok i2 hpvf i4.sl i5 ?_ (by omega) (by omega) (by omega) fun vv D8 σ8 k1 k2 k3 k4 => ?_
        · have := intoZ_wl (z := z) hW2 (t := (t : Int) + 1) (w := (w : Int)) (at_ := (LZ z W next0 t).ways) (st := ⟨gsd6.map Prod.fst, st6.next, []⟩)
          simp only [List.length_nil] at this
          omega
        have hin7 := hin6.step i2 i3 i7 i8
        have hin8 := hin7.gate (gsd := gsd7) rfl k1 k2 k3 k4
        obtain ⟨id, σ9, t1, t2, t3, t4⟩ := hin8.set (i := w) (by simp; omega) (intoZ z W ((t : Int) + 1) w (LZ z W next0 t).ways ⟨gsd6.map Prod.fst, st6.next, []⟩).next (by omega)
        simp [t1, t2, wrap_suc (show w < _ by omega)]
        have hstep : (List.range (w + 1)).foldl (rowStep z W ((t : Int) + 1) (LZ z W next0 t).ways) ⟨(LZ z W next0 t).gs, (LZ z W next0 t).next, List.replicate n 0⟩ = rowStep z W ((t : Int) + 1) (LZ z W next0 t).ways st6 w := by rw [List.range_succ, List.foldl_append, hst6]; rfl
        rw [i1] at t3
        rw [p1] at t3 hbd
        refine forK_go _ hwt (by simp [mkEnv, List.replicate]) ⟨_, D8, hstep, t3, ?_, ?_, ?_, ?_, rfl⟩
        · simp [rowStep]; omega
        · simp [rowStep]; omega
        · simp [rowStep]; omega
        · simp [rowStep, f4]
      · have hwn : n = w := by omega
        subst hwn
        obtain ⟨gsd6, p1, p2⟩ := hin6.mkr
        have hst7 : st6 = LZ z W next0 (t + 1) := by rw [← hst6]; simp [LZ, nextRow, hn]
        have htt : t < T := by omega
        have hD6lt := p2.lt
        simp [wrap_suc (show t < _ by omega)]
        refine forK_go _ htt ?_ ⟨D6, gsd6, _, gv', by rw [← hst7]; exact p1, by rw [← hst7]; exact p2, fun j hj => ?_, by rw [← hst7]; exact hin6.ways, hin6.wdis, c1.fit fun j hj => hfr56 j (c1.sl.has_lt hj) (c3 j hj).1, c2, fun j hj => ⟨fun hh => ?_, fun hh => ?_⟩, by omega, hfr36, by rw [← hst7]; omega, by rw [← hst7]; omega, by rw [← hst7]; omega, by rw [← hst7]; exact f4, hglen, rfl⟩
        · simp [mkEnv, List.replicate]
        · rcases hin6.dom j hj with h' | h'
          · exact m3 j h'
          · simp at h'; exact .inr (by omega)
        · rcases hin6.dom j hh with h' | h'
          · exact (c3 j hj).1 h'
          · have := c1.sl.has_lt hj; simp at h'; omega
        · have := hav6 j hh; have := c1.sl.has_lt hj; omega
end Go.Gh
namespace Go.Gh
open Go.RowKit Go.Proofs
set_option linter.unusedVariables false
set_option linter.unusedSimpArgs false
set_option maxRecDepth 20000
set_option maxHeartbeats 8000000
/-- A map from numbers to true: its keys. -/
def KeysM (σ : GS) (id : Nat) (ks : List Int) : Prop := ∃ es : List (DV × DV), σ[id]? = some (.mp es) ∧ (∀ e ∈ es, ∃ k, e = (.int .i64 k, .bool true)) ∧ ∀ x, (∃ e ∈ es, e.1 = .int .i64 x) ↔ x ∈ ks
theorem gfind_keys {es : List (DV × DV)} (h : ∀ e ∈ es, ∃ k, e = (DV.int .i64 k, DV.bool true)) (x : Int) : ∀ n, (∃ i, gfind (.int .i64) (.int .i64 x) es n = some (some (i, .bool true)) ∧ (∃ e ∈ es, e.1 = .int .i64 x) ∧ n ≤ i ∧ (∃ e, es[i - n]? = some e ∧ e.1 = .int .i64 x)) ∨ (gfind (.int .i64) (.int .i64 x) es n = some none ∧ ¬ ∃ e ∈ es, e.1 = .int .i64 x) := by
  induction es with
  | nil => intro n; exact .inr ⟨rfl, by simp⟩
  | cons e es ih =>
    intro n
    obtain ⟨k, rfl⟩ := h e (by simp)
    by_cases hk : k = x
    · subst hk
      exact .inl ⟨n, by simp [gfind, keyEq], ⟨_, List.mem_cons_self, rfl⟩, Nat.le_refl _, (.int .i64 k, .bool true), by simp, rfl⟩
    · have hk' : (x == k) = false := by simpa using fun e => hk e.symm
      rcases ih (fun e he => h e (by simp [he])) (n + 1) with ⟨i, h1, ⟨e, he, h2⟩, h3, e', h4, h5⟩ | ⟨h1, h2⟩
      · refine .inl ⟨i, by simp [gfind, keyEq, hk', h1], ⟨e, by simp [he], h2⟩, by omega, e', ?_, h5⟩
        rw [show i - n = (i - (n + 1)) + 1 by omega]; simpa using h4
      · refine .inr ⟨by simp [gfind, keyEq, hk', h1], ?_⟩
        rintro ⟨e, he, h3⟩
        rcases List.mem_cons.1 he with rfl | he
        · simp at h3; exact hk h3
        · exact h2 ⟨e, he, h3⟩
theorem keys_lookup {σ : GS} {id : Nat} {ks : List Int} (h : KeysM σ id ks) (x : Int) : gload (.lookup (.int .i64) (.bool false) false) [.map id, .int .i64 x] σ = some (.bool (ks.contains x)) := by
  obtain ⟨es, h1, h2, h3⟩ := h
  have hk : keyFits (.int .i64) (.int .i64 x) = true := rfl
  rcases gfind_keys h2 x 0 with ⟨i, g1, g2, _⟩ | ⟨g1, g2⟩
  · have hc : ks.contains x = true := List.contains_iff_mem.2 ((h3 x).1 g2)
    simp only [gload, hk, h1, g1, lres, hc, if_true]
    simp
  · have hc : ks.contains x = false := by
      rw [Bool.eq_false_iff]; intro hc
      exact g2 ((h3 x).2 (List.contains_iff_mem.1 hc))
    simp only [gload, hk, h1, g1, lres, hc, if_true]
    simp
theorem keys_set {σ : GS} {id : Nat} {ks : List Int} (h : KeysM σ id ks) (x : Int) : ∃ σ', gimp (.mset (.int .i64)) [.map id, .int .i64 x, .bool true] σ = some (.tuple [], σ') ∧ KeysM σ' id (ks ++ [x]) ∧ σ'.length = σ.length ∧ ∀ j, j ≠ id → σ'[j]? = σ[j]? := by
  obtain ⟨es, h1, h2, h3⟩ := h
  have hid := get_dom h1
  have hk : keyFits (.int .i64) (.int .i64 x) = true := rfl
  rcases gfind_keys h2 x 0 with ⟨i, g1, g2, _, e, g4, g5⟩ | ⟨g1, g2⟩
  · refine ⟨σ.set id (.mp (es.set i (.int .i64 x, .bool true))), by simp only [gimp, hk, h1, g1, if_true], ⟨_, by rw [List.getElem?_set_self hid], fun e he => ?_, fun y => ?_⟩, by simp, fun j hj => List.getElem?_set_ne (fun e => hj e.symm)⟩
    · rcases List.mem_or_eq_of_mem_set he with he | rfl
      · exact h2 e he
      · exact ⟨x, rfl⟩
    · have hxk : x ∈ ks := (h3 x).1 g2
      simp only [Nat.sub_zero] at g4
      obtain ⟨k, rfl⟩ := h2 e (List.mem_of_getElem? g4)
      simp at g5
      subst g5
      have hset : es.set i (.int .i64 k, .bool true) = es := by
        obtain ⟨hi, hh⟩ := List.getElem?_eq_some_iff.1 g4
        rw [← hh, List.set_getElem_self]
      rw [hset, h3 y]
      constructor
      · intro hy; simp [hy]
      · intro hy; rcases List.mem_append.1 hy with hy | hy
        · exact hy
        · simp at hy; rw [hy]; exact hxk
  · refine ⟨σ.set id (.mp (es ++ [(.int .i64 x, .bool true)])), by simp only [gimp, hk, h1, g1, if_true], ⟨_, by rw [List.getElem?_set_self hid], fun e he => ?_, fun y => ?_⟩, by simp, fun j hj => List.getElem?_set_ne (fun e => hj e.symm)⟩
    · rcases List.mem_append.1 he with he | he
      · exact h2 e he
      · simp at he; exact ⟨x, he⟩
    · rw [List.mem_append, ← h3 y]
      constructor
      · rintro ⟨e, he, hy⟩
        rcases List.mem_append.1 he with he | he
        · exact .inl ⟨e, he, hy⟩
        · simp at he; subst he; simp at hy; exact .inr (by simp [hy])
      · rintro (⟨e, he, hy⟩ | hy)
        · exact ⟨e, by simp [he], hy⟩
        · simp at hy; exact ⟨(.int .i64 x, .bool true), by simp, by simp [hy]⟩
theorem thas_ok {id : Nat} {ks : List Int} {x : Int} {σ : GS} {Post : DV → GS → Prop} (h : KeysM σ id ks) (k : Post (.bool (ks.contains x)) σ) : GCall Try.prog 48 [.map id, .int .i64 x] σ Post := by
  refine gc48 ?_
  simp [g48, genv0, List.replicate, keys_lookup h]
  simpa using k
end Go.Gh
namespace Go.Gh
open Go.RowKit Go.Proofs
set_option linter.unusedVariables false
set_option linter.unusedSimpArgs false
set_option maxRecDepth 20000
set_option maxHeartbeats 8000000
theorem KeysM.fr {σ σ' : GS} {id : Nat} {ks : List Int} (h : KeysM σ id ks) (hf : Fr σ.length σ σ') : KeysM σ' id ks := by
  obtain ⟨es, h1, h2⟩ := h; exact ⟨es, hf.at_ h1, h2⟩
/-- The number of a choice. -/
def cnum (l ks : List Int) : Nat → Nat
  | 0 => 0
  | k + 1 => if ks.contains (l.getD k 0) then cnum l ks k ||| 2 ^ k else cnum l ks k
theorem cnum_lt (l ks : List Int) : ∀ k, k ≤ 2 → cnum l ks k < 2 ^ k := by
  intro k hk
  obtain rfl | rfl | rfl : k = 0 ∨ k = 1 ∨ k = 2 := by omega
  · simp [cnum]
  · simp only [cnum]; split <;> decide
  · simp only [cnum]; split <;> split <;> decide
theorem or_small : ∀ c, c < 4 → ∀ i, i < 2 → bits .or .i64 ((c : Nat) : Int) ((2 ^ i : Nat) : Int) = ((c ||| 2 ^ i : Nat) : Int) := by decide
def stepP (z : Puz) (W : Nat) (ks : List Int) (t : Int) (v : Int) : Int :=
  match z.places[v.toNat]? with
  | some x => if x.to.length = 0 then v else x.to.getD (cnum (choiceV W t x.mine) ks W % x.to.length) 0
  | none => v
def posZ (z : Puz) (W : Nat) (ks : List Int) : Nat → Int
  | 0 => z.start
  | t + 1 => stepP z W ks ((t : Int) + 1) (posZ z W ks t)
theorem posZ_in {z : Puz} (h : Fine z) (W : Nat) (ks : List Int) : ∀ t, 0 ≤ posZ z W ks t ∧ posZ z W ks t < z.places.length
  | 0 => ⟨h.st0, h.st1⟩
  | t + 1 => by
    have ih := posZ_in h W ks t
    simp only [posZ, stepP]
    split
    · rename_i x hx
      split
      · exact ih
      · rename_i hne
        obtain ⟨y, hy⟩ := get_lt (xs := x.to) (i := cnum (choiceV W ((t : Int) + 1) x.mine) ks W % x.to.length) (Nat.mod_lt _ (by omega))
        have := h.tos x (List.mem_of_getElem? hx) y (List.mem_of_getElem? hy)
        simpa [List.getD, hy] using this
    · exact ih
theorem play_ok {z : Puz} {W id : Nat} {T : Nat} {ks : List Int} {pl go : DV} {σ : GS} {Post : DV → GS → Prop} (hz : PuzV σ pl go z) (hfi : Fine z) (hT : z.moves = T) (hW : W ≤ 2) (hk : KeysM σ id ks)
    (h : ∀ v σ', Fr σ.length σ σ' → OInt σ.length σ' v ((List.range (T + 1)).map (posZ z W ks)) → Post v σ') : GCall Try.prog 47 [.agg [pl, .int .i64 z.start, go, .int .i64 z.moves, .int .i64 (W : Int)], .func 48 [.map id] []] σ Post := by
  refine gc47 ?_
  have hT8 : T ≤ 8 := by have := hfi.mv1; omega
  rw [hT]
  have e0 : (σ ++ [GObj.row false [pl, .int .i64 z.start, go, .int .i64 T, .int .i64 (W : Int)], .row false [.int .i64 z.start]])[σ.length]? = some (.row false [pl, .int .i64 z.start, go, .int .i64 T, .int .i64 (W : Int)]) := by simp
  have hf0 : Fr σ.length σ (σ ++ [GObj.row false [pl, .int .i64 z.start, go, .int .i64 T, .int .i64 (W : Int)], .row false [.int .i64 z.start]]) := Fr.rfl'.app _
  have hl0 : (σ ++ [GObj.row false [pl, .int .i64 z.start, go, .int .i64 T, .int .i64 (W : Int)], .row false [.int .i64 z.start]]).length = σ.length + 2 := by simp
  have ho : OInt (σ.length + 1) (σ ++ [GObj.row false [pl, .int .i64 z.start, go, .int .i64 T, .int .i64 (W : Int)], .row false [.int .i64 z.start]]) (.slice (σ.length + 1) 0 1 1 (some 1)) [z.start] := .inr ⟨σ.length + 1, some 1, [], Nat.le_refl _, rfl, by simp, by simp⟩
  simp [g47, genv0, List.replicate]
  generalize hσ1 : σ ++ [GObj.row false [pl, .int .i64 z.start, go, .int .i64 T, .int .i64 (W : Int)], .row false [.int .i64 z.start]] = σ1 at *
  refine gfor T (fun t e σ' => ∃ lv, OInt (σ.length + 1) σ' lv ((List.range (t + 1)).map (posZ z W ks)) ∧ Fr (σ.length + 1) σ1 σ' ∧ e = mkEnv 67 [(1, .func 48 [.map id] []), (2, .ptr σ.length 0), (5, .int .i64 (posZ z W ks t)), (6, lv), (7, .int .i64 ((t : Int) + 1))]) _ ?_ ⟨_, by simpa [posZ] using ho, Fr.refl (by omega), rfl⟩ ?_
  · simp [mkEnv, List.replicate, posZ]
  rintro t _ σ2 ht ⟨lv, hlv, hf2, rfl⟩
  have e2 : σ2[σ.length]? = some (.row false [pl, .int .i64 z.start, go, .int .i64 T, .int .i64 (W : Int)]) := by rw [hf2.get _ (by omega)]; exact e0
  have hf02 : Fr σ.length σ σ2 := hf0.trans (hf2.mono (by omega))
  have hl2 := hf2.len
  simp [mkEnv, List.replicate, ld_at e2]
  by_cases htt : t < T
  · have hle : (t : Int) + 1 ≤ (T : Int) := by omega
    obtain ⟨hp0, hp1⟩ := posZ_in hfi W ks t
    obtain ⟨x, hx⟩ := get_lt (xs := z.places) (i := (posZ z W ks t).toNat) (by omega)
    obtain ⟨idp, off, v, p1, p2, p3, p4, p5⟩ := plc_get (hz.fr hf02).places (k := .i64) hx
    rw [show (((posZ z W ks t).toNat : Nat) : Int) = posZ z W ks t by omega] at p1
    have hst2 := st_agg (σ := σ2) (τ := []) (cs := [.bool x.mine, v]) (zs := [.bool false, .nils]) (n := 2) rfl rfl (by simp [p4.flat])
    have e3 := getE_append (τ := [GObj.row false [.bool x.mine, v]]) e2
    simp [hle, ld_at e2, p1, p5, hst2, ld_agg e3]
    refine choice_ok (by omega) (by omega) fun cv σ4 hf4 hl4 hcv => ?_
    have hcl : (choiceV W ((t : Int) + 1) x.mine).length = W := by simp [choiceV]
    have hf24 : Fr σ2.length σ2 σ4 := (Fr.rfl'.app _).trans (hf4.mono (by simp))
    have hX4 : σ4[σ2.length]? = some (.row false [.bool x.mine, v]) := hf4.at_ (by simp)
    have hcvl := hcv.sl.len
    rw [hcl] at hcvl
    have hk4 := hk.fr (hf02.trans (hf24.mono (by omega)))
    simp [hcvl]
    refine gfor W (fun k e σ' => σ' = σ4 ∧ e = mkEnv 67 [(1, .func 48 [.map id] []), (2, .ptr σ.length 0), (5, .int .i64 (posZ z W ks t)), (6, lv), (7, .int .i64 ((t : Int) + 1)), (8, .ptr σ2.length 0), (9, .int .i64 (cnum (choiceV W ((t : Int) + 1) x.mine) ks k : Nat)), (34, cv), (35, .int .i64 (W : Int)), (36, .int .i64 k)]) _ ?_ ⟨rfl, rfl⟩ ?_
    · simp [mkEnv, List.replicate, cnum]
    rintro k _ σ4 hkk ⟨rfl, rfl⟩
    simp [mkEnv, List.replicate]
    by_cases hkt : k < W
    · obtain ⟨y, hy⟩ := get_lt (xs := choiceV W ((t : Int) + 1) x.mine) (i := k) (by omega)
      obtain ⟨idy, offy, r1, r2⟩ := hcv.sl.get (k := .i64) hy
      simp [hkt, r1, r2]
      refine thas_ok hk4 ?_
      have hlt4 := cnum_lt (choiceV W ((t : Int) + 1) x.mine) ks k (by omega)
      have hp4 : 2 ^ k ≤ 4 := by
        obtain rfl | rfl : k = 0 ∨ k = 1 := by omega
        all_goals decide
      have hsh := fun τ => shl_one (w := k) (show k ≤ 20 by omega) τ
      have hor : ∀ τ, gbin .or τ (.int .i64 ((cnum (choiceV W ((t : Int) + 1) x.mine) ks k : Nat) : Int)) (.int .i64 ((2 ^ k : Nat) : Int)) = some (.int .i64 ((cnum (choiceV W ((t : Int) + 1) x.mine) ks k ||| 2 ^ k : Nat) : Int)) := by
        intro τ
        rw [gb_or, or_small _ (by omega) _ (by omega)]
      by_cases hc : ks.contains y = true
      · simp only [hc]
        have hb : bits .or .i64 ((cnum (choiceV W ((t : Int) + 1) x.mine) ks k : Nat) : Int) ((2 : Int) ^ k) = ((cnum (choiceV W ((t : Int) + 1) x.mine) ks k ||| 2 ^ k : Nat) : Int) := by
          rw [show ((2 : Int) ^ k) = ((2 ^ k : Nat) : Int) by simp]
          exact or_small _ (by omega) _ (by omega)
        have hm : y ∈ ks := List.contains_iff_mem.1 hc
        simp [-gb_shl, hsh, hb, wrap_suc (show k < _ by omega)]
        refine forK_go _ hkt ?_ ⟨rfl, rfl⟩
        simp [mkEnv, List.replicate, cnum, hy, hm]
      · have hc' : ks.contains y = false := by simpa using hc
        simp only [hc']
        simp [wrap_suc (show k < _ by omega)]
        refine forK_go _ hkt ?_ ⟨rfl, rfl⟩
        have hm : y ∉ ks := fun hm => by rw [List.contains_iff_mem.2 hm] at hc'; cases hc'
        simp [mkEnv, List.replicate, cnum, hy, hm]
    · have hkW : k = W := by omega
      subst hkW
      have p44 := p4.fr (hf24)
      have hrange : (List.range (t + 1 + 1)).map (posZ z k ks) = (List.range (t + 1)).map (posZ z k ks) ++ [posZ z k ks (t + 1)] := by rw [List.range_succ, List.map_append]; rfl
      have hlv4 := hlv.fr hf24
      have hl24 := hf24.len
      have hw2 : IntKind.i64.wrap ((t : Int) + 1 + 1) = (t : Int) + 1 + 1 := by rw [wrap_small] <;> omega
      obtain ⟨lv', σ5, q1, q2, q3, q4, q5⟩ := hlv4.push (posZ z k ks (t + 1)) (by omega) (by simp; omega)
      by_cases h0 : x.to.length = 0
      · have hpos : posZ z k ks (t + 1) = posZ z k ks t := by simp [posZ, stepP, hx, h0]
        rw [hpos] at q1
        simp [ld_at hX4, p44.len, h0, q1, hw2]
        refine forK_go _ htt ?_ ⟨lv', by rw [hrange]; exact q2, hf2.trans ((hf24.mono hl2).trans q3), rfl⟩
        simp [mkEnv, List.replicate, hpos]
      · obtain ⟨y, hy⟩ := get_lt (xs := x.to) (i := cnum (choiceV k ((t : Int) + 1) x.mine) ks k % x.to.length) (Nat.mod_lt _ (by omega))
        have hpos : posZ z k ks (t + 1) = y := by simp [posZ, stepP, hx, h0, hy]
        rw [hpos] at q1
        obtain ⟨idy, offy, r1, r2⟩ := p44.get (k := .i64) hy
        have hrem : ∀ τ, gbin .rem τ (.int .i64 ((cnum (choiceV k ((t : Int) + 1) x.mine) ks k : Nat) : Int)) (.int .i64 (x.to.length : Int)) = some (.int .i64 ((cnum (choiceV k ((t : Int) + 1) x.mine) ks k % x.to.length : Nat) : Int)) := by
          intro τ
          rw [gb_rem, if_neg (by omega), Int.ofNat_tmod]
        simp only [Int.natCast_emod] at hrem r1
        have hlp : (0 : Int) < (x.to.length : Int) := by omega
        have h0p : 0 < x.to.length := by omega
        simp [ld_at hX4, p44.len, h0p, hrem, -gb_rem, r1, r2, q1, hw2]
        refine forK_go _ htt ?_ ⟨lv', by rw [hrange]; exact q2, hf2.trans ((hf24.mono hl2).trans q3), rfl⟩
        simp [mkEnv, List.replicate, hpos]
  · have htT : t = T := by omega
    subst htT
    have hnle : ¬ (t : Int) + 1 ≤ (t : Int) := by omega
    simp [hnle]
    exact h _ _ hf02 (hlv.weaken (by omega))
end Go.Gh
namespace Go.Gh
open Go.Proofs
theorem seatfollows : Try.prog.follows .mixedOrders = true := by kernel_rfl
abbrev F_slices_IndexFunc_int_int : Nat := 39
abbrev F_slices_ContainsFunc_int_int : Nat := 43
abbrev F_aig_Eval : Nat := 46
abbrev F_aig_all : Nat := 60
abbrev F_aig_normal : Nat := 61
abbrev F_aig_nodes : Nat := 62
abbrev F_aig_run : Nat := 63
abbrev F_aig_Eval_1 : Nat := 64
abbrev F_slices_BinarySearchFunc_int_int_int : Nat := 65
abbrev F_aig_Eval_1_1 : Nat := 66
abbrev F_slices_Contains_int_int : Nat := 67
abbrev F_aig_value : Nat := 68
abbrev F_aig_May : Nat := 77
abbrev F_aig_all_1 : Nat := 78
abbrev F_aig_variable : Nat := 79
abbrev F_slices_Index_int_int : Nat := 80
abbrev F_aig_inputs : Nat := 81
abbrev G_aig_variable : GFun := ⟨9, [(.tmp 2)], (.seq (.region [⟨0, ⟨(some 2), none, (.pure .id), [(.const (.bool false))]⟩, []⟩]) (.seq (.region [⟨0, ⟨(some 3), none, (.pure .id), [(.tmp 0)]⟩, []⟩, ⟨0, ⟨(some 4), none, (.pure (.bin .geq .none)), [(.tmp 3), (.const (.int .i64 1))]⟩, []⟩, ⟨0, ⟨(some 5), none, (.pure .id), [(.tmp 4)]⟩, []⟩, ⟨0, ⟨(some 6), (some (5, true)), (.pure .id), [(.tmp 0)]⟩, []⟩, ⟨0, ⟨(some 7), (some (5, true)), (.pure (.bin .leq .none)), [(.tmp 6), (.const (.int .i64 65536))]⟩, []⟩, ⟨0, ⟨(some 8), none, (.pure .pick), [(.tmp 5), (.tmp 7), (.const (.bool false))]⟩, []⟩, ⟨0, ⟨(some 2), none, (.pure .id), [(.tmp 8)]⟩, []⟩]) .ret))⟩
theorem c_aig_variable : compF Try.prog Try.f79 = some G_aig_variable := by kernel_rfl
theorem gc_aig_variable {args : List DV} {σ : GS} {Post : DV → GS → Prop} (h : @exB Try.prog ⟨G_aig_variable.body⟩ (genv0 args G_aig_variable.ntmps) σ ⟨@gretB G_aig_variable.results ⟨Post⟩⟩) : GCall Try.prog F_aig_variable args σ Post := gcall_ofB seatfollows Try.func79 (by kernel_rfl) c_aig_variable h
abbrev G_aig_inputs : GFun := ⟨22, [(.tmp 2)], (.seq (.region [⟨0, ⟨(some 2), none, (.pure .id), [(.const (.bool false))]⟩, []⟩]) (.seq (.region [⟨0, ⟨(some 3), none, (.pure .id), [(.const (.int .i64 0))]⟩, []⟩]) (.seq (.seq (.region [⟨0, ⟨(some 6), none, (.pure .id), [(.tmp 0)]⟩, []⟩, ⟨0, ⟨(some 7), none, (.pure .len), [(.tmp 6)]⟩, []⟩, ⟨0, ⟨(some 8), none, (.pure .id), [(.const (.int .i64 0))]⟩, []⟩]) (.block 0 (.loop (.seq (.region [⟨0, ⟨(some 9), none, (.pure (.bin .lss .none)), [(.tmp 8), (.tmp 7)]⟩, []⟩]) (.seq (.cond (.tmp 9) .skip (.exit 0)) (.seq (.block 1 (.seq (.region [⟨0, ⟨(some 10), none, (.pure (.iaddr 1)), [(.tmp 6), (.tmp 8)]⟩, []⟩, ⟨0, ⟨(some 11), none, (.load (.load 1 false)), [(.tmp 10)]⟩, []⟩, ⟨0, ⟨(some 5), none, (.pure .id), [(.tmp 11)]⟩, []⟩]) (.seq (.seq (.region [⟨0, ⟨(some 12), none, (.pure .id), [(.tmp 5)]⟩, []⟩, ⟨0, ⟨(some 13), none, (.call F_aig_variable), [(.tmp 12)]⟩, []⟩, ⟨0, ⟨(some 14), none, (.pure (.un .not)), [(.tmp 13)]⟩, []⟩, ⟨0, ⟨(some 15), none, (.pure .id), [(.tmp 14)]⟩, []⟩, ⟨0, ⟨(some 16), (some (15, false)), (.pure .id), [(.tmp 5)]⟩, []⟩, ⟨0, ⟨(some 17), (some (15, false)), (.pure .id), [(.tmp 3)]⟩, []⟩, ⟨0, ⟨(some 18), (some (15, false)), (.pure (.bin .leq .none)), [(.tmp 16), (.tmp 17)]⟩, []⟩, ⟨0, ⟨(some 19), none, (.pure .pick), [(.tmp 15), (.const (.bool true)), (.tmp 18)]⟩, []⟩]) (.cond (.tmp 19) (.seq (.region [⟨0, ⟨(some 2), none, (.pure .id), [(.const (.bool false))]⟩, []⟩]) .ret) .skip)) (.region [⟨0, ⟨(some 20), none, (.pure .id), [(.tmp 5)]⟩, []⟩, ⟨0, ⟨(some 3), none, (.pure .id), [(.tmp 20)]⟩, []⟩])))) (.region [⟨0, ⟨(some 21), none, (.pure (.bin .add .none)), [(.tmp 8), (.const (.int .i64 1))]⟩, []⟩, ⟨0, ⟨(some 8), none, (.pure .id), [(.tmp 21)]⟩, []⟩]))))))) (.seq (.region [⟨0, ⟨(some 2), none, (.pure .id), [(.const (.bool true))]⟩, []⟩]) .ret))))⟩
theorem c_aig_inputs : compF Try.prog Try.f81 = some G_aig_inputs := by kernel_rfl
theorem gc_aig_inputs {args : List DV} {σ : GS} {Post : DV → GS → Prop} (h : @exB Try.prog ⟨G_aig_inputs.body⟩ (genv0 args G_aig_inputs.ntmps) σ ⟨@gretB G_aig_inputs.results ⟨Post⟩⟩) : GCall Try.prog F_aig_inputs args σ Post := gcall_ofB seatfollows Try.func81 (by kernel_rfl) c_aig_inputs h
abbrev G_aig_May : GFun := ⟨46, [(.tmp 2)], (.seq (.region [⟨0, ⟨(some 1), none, (.new .box), [(.tmp 0)]⟩, []⟩, ⟨0, ⟨(some 2), none, (.pure .id), [(.const (.bool false))]⟩, []⟩]) (.seq (.seq (.region [⟨0, ⟨(some 6), none, (.pure (.faddr 0)), [(.tmp 1)]⟩, []⟩, ⟨0, ⟨(some 7), none, (.load (.load 1 false)), [(.tmp 6)]⟩, []⟩, ⟨0, ⟨(some 8), none, (.call F_aig_inputs), [(.tmp 7)]⟩, []⟩, ⟨0, ⟨(some 9), none, (.pure (.un .not)), [(.tmp 8)]⟩, []⟩, ⟨0, ⟨(some 10), none, (.pure .id), [(.tmp 9)]⟩, []⟩, ⟨0, ⟨(some 11), (some (10, false)), (.load (.load 2 true)), [(.tmp 1)]⟩, []⟩, ⟨0, ⟨(some 12), (some (10, false)), (.call F_aig_nodes), [(.tmp 11)]⟩, []⟩, ⟨0, ⟨(some 13), (some (10, false)), (.pure (.bin .gtr .none)), [(.tmp 12), (.const (.int .i64 200000))]⟩, []⟩, ⟨0, ⟨(some 14), none, (.pure .pick), [(.tmp 10), (.const (.bool true)), (.tmp 13)]⟩, []⟩]) (.cond (.tmp 14) (.seq (.region [⟨0, ⟨(some 2), none, (.pure .id), [(.const (.bool false))]⟩, []⟩]) .ret) .skip)) (.seq (.seq (.region [⟨0, ⟨(some 15), none, (.pure (.faddr 1)), [(.tmp 1)]⟩, []⟩, ⟨0, ⟨(some 16), none, (.load (.load 1 false)), [(.tmp 15)]⟩, []⟩, ⟨0, ⟨(some 17), none, (.pure .len), [(.tmp 16)]⟩, []⟩, ⟨0, ⟨(some 18), none, (.pure .id), [(.const (.int .i64 0))]⟩, []⟩]) (.block 0 (.loop (.seq (.region [⟨0, ⟨(some 19), none, (.pure (.bin .lss .none)), [(.tmp 18), (.tmp 17)]⟩, []⟩]) (.seq (.cond (.tmp 19) .skip (.exit 0)) (.seq (.block 1 (.seq (.region [⟨0, ⟨(some 20), none, (.pure .id), [(.tmp 18)]⟩, []⟩, ⟨0, ⟨(some 21), none, (.pure (.iaddr 2)), [(.tmp 16), (.tmp 18)]⟩, []⟩, ⟨0, ⟨(some 22), none, (.load (.load 2 true)), [(.tmp 21)]⟩, []⟩, ⟨0, ⟨(some 4), none, (.new (.alloc [(.int .i64 0), (.int .i64 0)])), []⟩, []⟩, ⟨0, ⟨(some 3), none, (.pure .id), [(.tmp 20)]⟩, []⟩, ⟨0, ⟨none, none, (.imp (.store 2)), [(.tmp 4), (.tmp 22)]⟩, []⟩]) (.seq (.region [⟨0, ⟨(some 23), none, (.pure (.faddr 0)), [(.tmp 1)]⟩, []⟩, ⟨0, ⟨(some 24), none, (.load (.load 1 false)), [(.tmp 23)]⟩, []⟩, ⟨0, ⟨(some 25), none, (.pure .len), [(.tmp 24)]⟩, []⟩, ⟨0, ⟨(some 26), none, (.pure (.bin .add .none)), [(.const (.int .i64 1)), (.tmp 25)]⟩, []⟩, ⟨0, ⟨(some 27), none, (.pure .id), [(.tmp 3)]⟩, []⟩, ⟨0, ⟨(some 28), none, (.pure (.bin .add .none)), [(.tmp 26), (.tmp 27)]⟩, []⟩, ⟨0, ⟨(some 29), none, (.pure (.bin .mul .none)), [(.const (.int .i64 2)), (.tmp 28)]⟩, []⟩, ⟨0, ⟨(some 5), none, (.pure .id), [(.tmp 29)]⟩, []⟩]) (.seq (.region [⟨0, ⟨(some 30), none, (.pure (.iarr 2 1)), [(.tmp 4), (.const (.int .i64 0))]⟩, []⟩, ⟨0, ⟨(some 31), none, (.load (.load 1 false)), [(.tmp 30)]⟩, []⟩, ⟨0, ⟨(some 32), none, (.pure (.iarr 2 1)), [(.tmp 4), (.const (.int .i64 1))]⟩, []⟩, ⟨0, ⟨(some 33), none, (.load (.load 1 false)), [(.tmp 32)]⟩, []⟩, ⟨0, ⟨(some 34), none, (.pure .mn), [(.tmp 31), (.tmp 33)]⟩, []⟩, ⟨0, ⟨(some 35), none, (.pure (.bin .lss .none)), [(.tmp 34), (.const (.int .i64 0))]⟩, []⟩, ⟨0, ⟨(some 36), none, (.pure .id), [(.tmp 35)]⟩, []⟩, ⟨0, ⟨(some 37), (some (36, false)), (.pure (.iarr 2 1)), [(.tmp 4), (.const (.int .i64 0))]⟩, []⟩, ⟨0, ⟨(some 38), (some (36, false)), (.load (.load 1 false)), [(.tmp 37)]⟩, []⟩, ⟨0, ⟨(some 39), (some (36, false)), (.pure (.iarr 2 1)), [(.tmp 4), (.const (.int .i64 1))]⟩, []⟩, ⟨0, ⟨(some 40), (some (36, false)), (.load (.load 1 false)), [(.tmp 39)]⟩, []⟩, ⟨0, ⟨(some 41), (some (36, false)), (.pure .mx), [(.tmp 38), (.tmp 40)]⟩, []⟩, ⟨0, ⟨(some 42), (some (36, false)), (.pure .id), [(.tmp 5)]⟩, []⟩, ⟨0, ⟨(some 43), (some (36, false)), (.pure (.bin .geq .none)), [(.tmp 41), (.tmp 42)]⟩, []⟩, ⟨0, ⟨(some 44), none, (.pure .pick), [(.tmp 36), (.const (.bool true)), (.tmp 43)]⟩, []⟩]) (.cond (.tmp 44) (.seq (.region [⟨0, ⟨(some 2), none, (.pure .id), [(.const (.bool false))]⟩, []⟩]) .ret) .skip))))) (.region [⟨0, ⟨(some 45), none, (.pure (.bin .add .none)), [(.tmp 18), (.const (.int .i64 1))]⟩, []⟩, ⟨0, ⟨(some 18), none, (.pure .id), [(.tmp 45)]⟩, []⟩]))))))) (.seq (.region [⟨0, ⟨(some 2), none, (.pure .id), [(.const (.bool true))]⟩, []⟩]) .ret))))⟩
theorem c_aig_May : compF Try.prog Try.f77 = some G_aig_May := by kernel_rfl
theorem gc_aig_May {args : List DV} {σ : GS} {Post : DV → GS → Prop} (h : @exB Try.prog ⟨G_aig_May.body⟩ (genv0 args G_aig_May.ntmps) σ ⟨@gretB G_aig_May.results ⟨Post⟩⟩) : GCall Try.prog F_aig_May args σ Post := gcall_ofB seatfollows Try.func77 (by kernel_rfl) c_aig_May h
abbrev G_aig_nodes : GFun := ⟨11, [(.tmp 2)], (.seq (.region [⟨0, ⟨(some 1), none, (.new .box), [(.tmp 0)]⟩, []⟩, ⟨0, ⟨(some 2), none, (.pure .id), [(.const (.int .i64 0))]⟩, []⟩]) (.seq (.region [⟨0, ⟨(some 3), none, (.pure (.faddr 0)), [(.tmp 1)]⟩, []⟩, ⟨0, ⟨(some 4), none, (.load (.load 1 false)), [(.tmp 3)]⟩, []⟩, ⟨0, ⟨(some 5), none, (.pure .len), [(.tmp 4)]⟩, []⟩, ⟨0, ⟨(some 6), none, (.pure (.bin .add .none)), [(.const (.int .i64 1)), (.tmp 5)]⟩, []⟩, ⟨0, ⟨(some 7), none, (.pure (.faddr 1)), [(.tmp 1)]⟩, []⟩, ⟨0, ⟨(some 8), none, (.load (.load 1 false)), [(.tmp 7)]⟩, []⟩, ⟨0, ⟨(some 9), none, (.pure .len), [(.tmp 8)]⟩, []⟩, ⟨0, ⟨(some 10), none, (.pure (.bin .add .none)), [(.tmp 6), (.tmp 9)]⟩, []⟩, ⟨0, ⟨(some 2), none, (.pure .id), [(.tmp 10)]⟩, []⟩]) .ret))⟩
theorem c_aig_nodes : compF Try.prog Try.f62 = some G_aig_nodes := by kernel_rfl
theorem gc_aig_nodes {args : List DV} {σ : GS} {Post : DV → GS → Prop} (h : @exB Try.prog ⟨G_aig_nodes.body⟩ (genv0 args G_aig_nodes.ntmps) σ ⟨@gretB G_aig_nodes.results ⟨Post⟩⟩) : GCall Try.prog F_aig_nodes args σ Post := gcall_ofB seatfollows Try.func62 (by kernel_rfl) c_aig_nodes h
abbrev G_aig_all_1 : GFun := ⟨11, [(.tmp 3)], (.seq (.region [⟨0, ⟨(some 3), none, (.pure .id), [(.const (.bool false))]⟩, []⟩]) (.seq (.region [⟨0, ⟨(some 4), none, (.pure .id), [(.tmp 0)]⟩, []⟩, ⟨0, ⟨(some 5), none, (.pure (.bin .lss .none)), [(.tmp 4), (.const (.int .i64 0))]⟩, []⟩, ⟨0, ⟨(some 6), none, (.pure .id), [(.tmp 5)]⟩, []⟩, ⟨0, ⟨(some 7), (some (6, false)), (.pure .id), [(.tmp 0)]⟩, []⟩, ⟨0, ⟨(some 8), (some (6, false)), (.load (.load 1 false)), [(.tmp 1)]⟩, []⟩, ⟨0, ⟨(some 9), (some (6, false)), (.pure (.bin .gtr .none)), [(.tmp 7), (.tmp 8)]⟩, []⟩, ⟨0, ⟨(some 10), none, (.pure .pick), [(.tmp 6), (.const (.bool true)), (.tmp 9)]⟩, []⟩, ⟨0, ⟨(some 3), none, (.pure .id), [(.tmp 10)]⟩, []⟩]) .ret))⟩
theorem c_aig_all_1 : compF Try.prog Try.f78 = some G_aig_all_1 := by kernel_rfl
theorem gc_aig_all_1 {args : List DV} {σ : GS} {Post : DV → GS → Prop} (h : @exB Try.prog ⟨G_aig_all_1.body⟩ (genv0 args G_aig_all_1.ntmps) σ ⟨@gretB G_aig_all_1.results ⟨Post⟩⟩) : GCall Try.prog F_aig_all_1 args σ Post := gcall_ofB seatfollows Try.func78 (by kernel_rfl) c_aig_all_1 h
abbrev G_aig_all : GFun := ⟨18, [(.tmp 4)], (.seq (.region [⟨0, ⟨(some 2), none, (.new .box), [(.tmp 0)]⟩, []⟩, ⟨0, ⟨(some 4), none, (.pure .id), [(.const (.bool false))]⟩, []⟩]) (.seq (.region [⟨0, ⟨(some 6), none, (.load (.load 2 true)), [(.tmp 2)]⟩, []⟩, ⟨0, ⟨(some 7), none, (.call F_aig_nodes), [(.tmp 6)]⟩, []⟩, ⟨0, ⟨(some 8), none, (.pure (.bin .mul .none)), [(.const (.int .i64 2)), (.tmp 7)]⟩, []⟩, ⟨0, ⟨(some 9), none, (.pure (.bin .sub .none)), [(.tmp 8), (.const (.int .i64 1))]⟩, []⟩, ⟨0, ⟨(some 5), none, (.new (.alloc [(.int .i64 0)])), []⟩, []⟩, ⟨0, ⟨none, none, (.imp (.store 1)), [(.tmp 5), (.tmp 9)]⟩, []⟩]) (.seq (.region [⟨0, ⟨(some 10), none, (.load (.load 2 true)), [(.tmp 2)]⟩, []⟩, ⟨0, ⟨(some 11), none, (.call F_aig_May), [(.tmp 10)]⟩, []⟩, ⟨0, ⟨(some 12), none, (.pure .id), [(.tmp 11)]⟩, []⟩, ⟨0, ⟨(some 13), (some (12, true)), (.pure .id), [(.tmp 1)]⟩, []⟩, ⟨0, ⟨(some 14), (some (12, true)), (.pure (.mkfunc F_aig_all_1 0)), [(.tmp 5)]⟩, []⟩, ⟨0, ⟨(some 15), (some (12, true)), (.call F_slices_ContainsFunc_int_int), [(.tmp 13), (.tmp 14)]⟩, []⟩, ⟨0, ⟨(some 16), (some (12, true)), (.pure (.un .not)), [(.tmp 15)]⟩, []⟩, ⟨0, ⟨(some 17), none, (.pure .pick), [(.tmp 12), (.tmp 16), (.const (.bool false))]⟩, []⟩, ⟨0, ⟨(some 4), none, (.pure .id), [(.tmp 17)]⟩, []⟩]) .ret)))⟩
theorem c_aig_all : compF Try.prog Try.f60 = some G_aig_all := by kernel_rfl
theorem gc_aig_all {args : List DV} {σ : GS} {Post : DV → GS → Prop} (h : @exB Try.prog ⟨G_aig_all.body⟩ (genv0 args G_aig_all.ntmps) σ ⟨@gretB G_aig_all.results ⟨Post⟩⟩) : GCall Try.prog F_aig_all args σ Post := gcall_ofB seatfollows Try.func60 (by kernel_rfl) c_aig_all h
abbrev G_aig_normal : GFun := ⟨27, [(.tmp 2)], (.seq (.region [⟨0, ⟨(some 2), none, (.pure .id), [(.const (.bool false))]⟩, []⟩]) (.seq (.region [⟨0, ⟨(some 3), none, (.pure .id), [(.const (.int .i64 0))]⟩, []⟩]) (.seq (.seq (.region [⟨0, ⟨(some 7), none, (.pure .id), [(.tmp 0)]⟩, []⟩, ⟨0, ⟨(some 8), none, (.pure .len), [(.tmp 7)]⟩, []⟩, ⟨0, ⟨(some 9), none, (.pure .id), [(.const (.int .i64 0))]⟩, []⟩]) (.block 0 (.loop (.seq (.region [⟨0, ⟨(some 10), none, (.pure (.bin .lss .none)), [(.tmp 9), (.tmp 8)]⟩, []⟩]) (.seq (.cond (.tmp 10) .skip (.exit 0)) (.seq (.block 1 (.seq (.region [⟨0, ⟨(some 11), none, (.pure (.iaddr 1)), [(.tmp 7), (.tmp 9)]⟩, []⟩, ⟨0, ⟨(some 12), none, (.load (.load 1 false)), [(.tmp 11)]⟩, []⟩, ⟨0, ⟨(some 5), none, (.pure .id), [(.tmp 12)]⟩, []⟩]) (.seq (.region [⟨0, ⟨(some 13), none, (.pure .id), [(.tmp 5)]⟩, []⟩, ⟨0, ⟨(some 14), none, (.pure .id), [(.tmp 5)]⟩, []⟩, ⟨0, ⟨(some 15), none, (.pure (.un .neg)), [(.tmp 14)]⟩, []⟩, ⟨0, ⟨(some 16), none, (.pure .mx), [(.tmp 13), (.tmp 15)]⟩, []⟩, ⟨0, ⟨(some 6), none, (.pure .id), [(.tmp 16)]⟩, []⟩]) (.seq (.seq (.region [⟨0, ⟨(some 17), none, (.pure .id), [(.tmp 6)]⟩, []⟩, ⟨0, ⟨(some 18), none, (.call F_aig_variable), [(.tmp 17)]⟩, []⟩, ⟨0, ⟨(some 19), none, (.pure (.un .not)), [(.tmp 18)]⟩, []⟩, ⟨0, ⟨(some 20), none, (.pure .id), [(.tmp 19)]⟩, []⟩, ⟨0, ⟨(some 21), (some (20, false)), (.pure .id), [(.tmp 6)]⟩, []⟩, ⟨0, ⟨(some 22), (some (20, false)), (.pure .id), [(.tmp 3)]⟩, []⟩, ⟨0, ⟨(some 23), (some (20, false)), (.pure (.bin .leq .none)), [(.tmp 21), (.tmp 22)]⟩, []⟩, ⟨0, ⟨(some 24), none, (.pure .pick), [(.tmp 20), (.const (.bool true)), (.tmp 23)]⟩, []⟩]) (.cond (.tmp 24) (.seq (.region [⟨0, ⟨(some 2), none, (.pure .id), [(.const (.bool false))]⟩, []⟩]) .ret) .skip)) (.region [⟨0, ⟨(some 25), none, (.pure .id), [(.tmp 6)]⟩, []⟩, ⟨0, ⟨(some 3), none, (.pure .id), [(.tmp 25)]⟩, []⟩]))))) (.region [⟨0, ⟨(some 26), none, (.pure (.bin .add .none)), [(.tmp 9), (.const (.int .i64 1))]⟩, []⟩, ⟨0, ⟨(some 9), none, (.pure .id), [(.tmp 26)]⟩, []⟩]))))))) (.seq (.region [⟨0, ⟨(some 2), none, (.pure .id), [(.const (.bool true))]⟩, []⟩]) .ret))))⟩
theorem c_aig_normal : compF Try.prog Try.f61 = some G_aig_normal := by kernel_rfl
theorem gc_aig_normal {args : List DV} {σ : GS} {Post : DV → GS → Prop} (h : @exB Try.prog ⟨G_aig_normal.body⟩ (genv0 args G_aig_normal.ntmps) σ ⟨@gretB G_aig_normal.results ⟨Post⟩⟩) : GCall Try.prog F_aig_normal args σ Post := gcall_ofB seatfollows Try.func61 (by kernel_rfl) c_aig_normal h
abbrev G_slices_BinarySearchFunc_int_int_int : GFun := ⟨49, [(.tmp 6), (.tmp 7)], (.seq (.region [⟨0, ⟨(some 6), none, (.pure .id), [(.const (.int .i64 0))]⟩, []⟩, ⟨0, ⟨(some 7), none, (.pure .id), [(.const (.bool false))]⟩, []⟩]) (.seq (.region [⟨0, ⟨(some 12), none, (.pure .id), [(.tmp 0)]⟩, []⟩, ⟨0, ⟨(some 13), none, (.pure .len), [(.tmp 12)]⟩, []⟩, ⟨0, ⟨(some 8), none, (.pure .id), [(.tmp 13)]⟩, []⟩]) (.seq (.region [⟨0, ⟨(some 14), none, (.pure .id), [(.tmp 8)]⟩, []⟩, ⟨0, ⟨(some 9), none, (.pure .id), [(.const (.int .i64 0))]⟩, []⟩, ⟨0, ⟨(some 10), none, (.pure .id), [(.tmp 14)]⟩, []⟩]) (.seq (.block 0 (.loop (.seq (.seq (.region [⟨0, ⟨(some 15), none, (.pure .id), [(.tmp 9)]⟩, []⟩, ⟨0, ⟨(some 16), none, (.pure .id), [(.tmp 10)]⟩, []⟩, ⟨0, ⟨(some 17), none, (.pure (.bin .lss .none)), [(.tmp 15), (.tmp 16)]⟩, []⟩]) (.cond (.tmp 17) .skip (.exit 0))) (.block 1 (.seq (.region [⟨0, ⟨(some 18), none, (.pure .id), [(.tmp 9)]⟩, []⟩, ⟨0, ⟨(some 19), none, (.pure .id), [(.tmp 10)]⟩, []⟩, ⟨0, ⟨(some 20), none, (.pure (.bin .add .none)), [(.tmp 18), (.tmp 19)]⟩, []⟩, ⟨0, ⟨(some 21), none, (.pure (.conv .u64)), [(.tmp 20)]⟩, []⟩, ⟨0, ⟨(some 22), none, (.pure (.bin .shr .none)), [(.tmp 21), (.const (.int .u64 1))]⟩, []⟩, ⟨0, ⟨(some 23), none, (.pure (.conv .i64)), [(.tmp 22)]⟩, []⟩, ⟨0, ⟨(some 11), none, (.pure .id), [(.tmp 23)]⟩, []⟩]) (.seq (.region [⟨0, ⟨(some 24), none, (.pure .id), [(.tmp 2)]⟩, []⟩, ⟨0, ⟨(some 25), none, (.pure .id), [(.tmp 0)]⟩, []⟩, ⟨0, ⟨(some 26), none, (.pure .id), [(.tmp 11)]⟩, []⟩, ⟨0, ⟨(some 27), none, (.pure (.iaddr 1)), [(.tmp 25), (.tmp 26)]⟩, []⟩, ⟨0, ⟨(some 28), none, (.load (.load 1 false)), [(.tmp 27)]⟩, []⟩, ⟨0, ⟨(some 29), none, (.pure .id), [(.tmp 1)]⟩, []⟩, ⟨0, ⟨(some 30), none, .callv, [(.tmp 24), (.tmp 28), (.tmp 29)]⟩, []⟩, ⟨0, ⟨(some 31), none, (.pure (.bin .lss .none)), [(.tmp 30), (.const (.int .i64 0))]⟩, []⟩]) (.cond (.tmp 31) (.region [⟨0, ⟨(some 32), none, (.pure .id), [(.tmp 11)]⟩, []⟩, ⟨0, ⟨(some 33), none, (.pure (.bin .add .none)), [(.tmp 32), (.const (.int .i64 1))]⟩, []⟩, ⟨0, ⟨(some 9), none, (.pure .id), [(.tmp 33)]⟩, []⟩]) (.region [⟨0, ⟨(some 34), none, (.pure .id), [(.tmp 11)]⟩, []⟩, ⟨0, ⟨(some 10), none, (.pure .id), [(.tmp 34)]⟩, []⟩])))))))) (.seq (.region [⟨0, ⟨(some 35), none, (.pure .id), [(.tmp 9)]⟩, []⟩, ⟨0, ⟨(some 36), none, (.pure .id), [(.tmp 9)]⟩, []⟩, ⟨0, ⟨(some 37), none, (.pure .id), [(.tmp 8)]⟩, []⟩, ⟨0, ⟨(some 38), none, (.pure (.bin .lss .none)), [(.tmp 36), (.tmp 37)]⟩, []⟩, ⟨0, ⟨(some 39), none, (.pure .id), [(.tmp 38)]⟩, []⟩, ⟨0, ⟨(some 40), (some (39, true)), (.pure .id), [(.tmp 2)]⟩, []⟩, ⟨0, ⟨(some 41), (some (39, true)), (.pure .id), [(.tmp 0)]⟩, []⟩, ⟨0, ⟨(some 42), (some (39, true)), (.pure .id), [(.tmp 9)]⟩, []⟩, ⟨0, ⟨(some 43), (some (39, true)), (.pure (.iaddr 1)), [(.tmp 41), (.tmp 42)]⟩, []⟩, ⟨0, ⟨(some 44), (some (39, true)), (.load (.load 1 false)), [(.tmp 43)]⟩, []⟩, ⟨0, ⟨(some 45), (some (39, true)), (.pure .id), [(.tmp 1)]⟩, []⟩, ⟨0, ⟨(some 46), (some (39, true)), .callv, [(.tmp 40), (.tmp 44), (.tmp 45)]⟩, []⟩, ⟨0, ⟨(some 47), (some (39, true)), (.pure (.bin .eql .none)), [(.tmp 46), (.const (.int .i64 0))]⟩, []⟩, ⟨0, ⟨(some 48), none, (.pure .pick), [(.tmp 39), (.tmp 47), (.const (.bool false))]⟩, []⟩, ⟨0, ⟨(some 6), none, (.pure .id), [(.tmp 35)]⟩, []⟩, ⟨0, ⟨(some 7), none, (.pure .id), [(.tmp 48)]⟩, []⟩]) .ret)))))⟩
theorem c_slices_BinarySearchFunc_int_int_int : compF Try.prog Try.f65 = some G_slices_BinarySearchFunc_int_int_int := by kernel_rfl
theorem gc_slices_BinarySearchFunc_int_int_int {args : List DV} {σ : GS} {Post : DV → GS → Prop} (h : @exB Try.prog ⟨G_slices_BinarySearchFunc_int_int_int.body⟩ (genv0 args G_slices_BinarySearchFunc_int_int_int.ntmps) σ ⟨@gretB G_slices_BinarySearchFunc_int_int_int.results ⟨Post⟩⟩) : GCall Try.prog F_slices_BinarySearchFunc_int_int_int args σ Post := gcall_ofB seatfollows Try.func65 (by kernel_rfl) c_slices_BinarySearchFunc_int_int_int h
abbrev G_slices_Contains_int_int : GFun := ⟨9, [(.tmp 4)], (.seq (.region [⟨0, ⟨(some 4), none, (.pure .id), [(.const (.bool false))]⟩, []⟩]) (.seq (.region [⟨0, ⟨(some 5), none, (.pure .id), [(.tmp 0)]⟩, []⟩, ⟨0, ⟨(some 6), none, (.pure .id), [(.tmp 1)]⟩, []⟩, ⟨0, ⟨(some 7), none, (.call F_slices_Index_int_int), [(.tmp 5), (.tmp 6)]⟩, []⟩, ⟨0, ⟨(some 8), none, (.pure (.bin .geq .none)), [(.tmp 7), (.const (.int .i64 0))]⟩, []⟩, ⟨0, ⟨(some 4), none, (.pure .id), [(.tmp 8)]⟩, []⟩]) .ret))⟩
theorem c_slices_Contains_int_int : compF Try.prog Try.f67 = some G_slices_Contains_int_int := by kernel_rfl
theorem gc_slices_Contains_int_int {args : List DV} {σ : GS} {Post : DV → GS → Prop} (h : @exB Try.prog ⟨G_slices_Contains_int_int.body⟩ (genv0 args G_slices_Contains_int_int.ntmps) σ ⟨@gretB G_slices_Contains_int_int.results ⟨Post⟩⟩) : GCall Try.prog F_slices_Contains_int_int args σ Post := gcall_ofB seatfollows Try.func67 (by kernel_rfl) c_slices_Contains_int_int h
abbrev G_slices_Index_int_int : GFun := ⟨19, [(.tmp 4)], (.seq (.region [⟨0, ⟨(some 4), none, (.pure .id), [(.const (.int .i64 0))]⟩, []⟩]) (.seq (.seq (.region [⟨0, ⟨(some 6), none, (.pure .id), [(.tmp 0)]⟩, []⟩, ⟨0, ⟨(some 7), none, (.pure .len), [(.tmp 6)]⟩, []⟩, ⟨0, ⟨(some 8), none, (.pure .id), [(.const (.int .i64 0))]⟩, []⟩]) (.block 0 (.loop (.seq (.region [⟨0, ⟨(some 9), none, (.pure (.bin .lss .none)), [(.tmp 8), (.tmp 7)]⟩, []⟩]) (.seq (.cond (.tmp 9) .skip (.exit 0)) (.seq (.block 1 (.seq (.region [⟨0, ⟨(some 10), none, (.pure .id), [(.tmp 8)]⟩, []⟩, ⟨0, ⟨(some 5), none, (.pure .id), [(.tmp 10)]⟩, []⟩]) (.seq (.region [⟨0, ⟨(some 11), none, (.pure .id), [(.tmp 1)]⟩, []⟩, ⟨0, ⟨(some 12), none, (.pure .id), [(.tmp 0)]⟩, []⟩, ⟨0, ⟨(some 13), none, (.pure .id), [(.tmp 5)]⟩, []⟩, ⟨0, ⟨(some 14), none, (.pure (.iaddr 1)), [(.tmp 12), (.tmp 13)]⟩, []⟩, ⟨0, ⟨(some 15), none, (.load (.load 1 false)), [(.tmp 14)]⟩, []⟩, ⟨0, ⟨(some 16), none, (.pure (.bin .eql .none)), [(.tmp 11), (.tmp 15)]⟩, []⟩]) (.cond (.tmp 16) (.seq (.region [⟨0, ⟨(some 17), none, (.pure .id), [(.tmp 5)]⟩, []⟩, ⟨0, ⟨(some 4), none, (.pure .id), [(.tmp 17)]⟩, []⟩]) .ret) .skip)))) (.region [⟨0, ⟨(some 18), none, (.pure (.bin .add .none)), [(.tmp 8), (.const (.int .i64 1))]⟩, []⟩, ⟨0, ⟨(some 8), none, (.pure .id), [(.tmp 18)]⟩, []⟩]))))))) (.seq (.region [⟨0, ⟨(some 4), none, (.pure .id), [(.const (.int .i64 (-1)))]⟩, []⟩]) .ret)))⟩
theorem c_slices_Index_int_int : compF Try.prog Try.f80 = some G_slices_Index_int_int := by kernel_rfl
theorem gc_slices_Index_int_int {args : List DV} {σ : GS} {Post : DV → GS → Prop} (h : @exB Try.prog ⟨G_slices_Index_int_int.body⟩ (genv0 args G_slices_Index_int_int.ntmps) σ ⟨@gretB G_slices_Index_int_int.results ⟨Post⟩⟩) : GCall Try.prog F_slices_Index_int_int args σ Post := gcall_ofB seatfollows Try.func80 (by kernel_rfl) c_slices_Index_int_int h
abbrev G_slices_IndexFunc_int_int : GFun := ⟨19, [(.tmp 4)], (.seq (.region [⟨0, ⟨(some 4), none, (.pure .id), [(.const (.int .i64 0))]⟩, []⟩]) (.seq (.seq (.region [⟨0, ⟨(some 6), none, (.pure .id), [(.tmp 0)]⟩, []⟩, ⟨0, ⟨(some 7), none, (.pure .len), [(.tmp 6)]⟩, []⟩, ⟨0, ⟨(some 8), none, (.pure .id), [(.const (.int .i64 0))]⟩, []⟩]) (.block 0 (.loop (.seq (.region [⟨0, ⟨(some 9), none, (.pure (.bin .lss .none)), [(.tmp 8), (.tmp 7)]⟩, []⟩]) (.seq (.cond (.tmp 9) .skip (.exit 0)) (.seq (.block 1 (.seq (.region [⟨0, ⟨(some 10), none, (.pure .id), [(.tmp 8)]⟩, []⟩, ⟨0, ⟨(some 5), none, (.pure .id), [(.tmp 10)]⟩, []⟩]) (.seq (.region [⟨0, ⟨(some 11), none, (.pure .id), [(.tmp 1)]⟩, []⟩, ⟨0, ⟨(some 12), none, (.pure .id), [(.tmp 0)]⟩, []⟩, ⟨0, ⟨(some 13), none, (.pure .id), [(.tmp 5)]⟩, []⟩, ⟨0, ⟨(some 14), none, (.pure (.iaddr 1)), [(.tmp 12), (.tmp 13)]⟩, []⟩, ⟨0, ⟨(some 15), none, (.load (.load 1 false)), [(.tmp 14)]⟩, []⟩, ⟨0, ⟨(some 16), none, .callv, [(.tmp 11), (.tmp 15)]⟩, []⟩]) (.cond (.tmp 16) (.seq (.region [⟨0, ⟨(some 17), none, (.pure .id), [(.tmp 5)]⟩, []⟩, ⟨0, ⟨(some 4), none, (.pure .id), [(.tmp 17)]⟩, []⟩]) .ret) .skip)))) (.region [⟨0, ⟨(some 18), none, (.pure (.bin .add .none)), [(.tmp 8), (.const (.int .i64 1))]⟩, []⟩, ⟨0, ⟨(some 8), none, (.pure .id), [(.tmp 18)]⟩, []⟩]))))))) (.seq (.region [⟨0, ⟨(some 4), none, (.pure .id), [(.const (.int .i64 (-1)))]⟩, []⟩]) .ret)))⟩
theorem c_slices_IndexFunc_int_int : compF Try.prog Try.f39 = some G_slices_IndexFunc_int_int := by kernel_rfl
theorem gc_slices_IndexFunc_int_int {args : List DV} {σ : GS} {Post : DV → GS → Prop} (h : @exB Try.prog ⟨G_slices_IndexFunc_int_int.body⟩ (genv0 args G_slices_IndexFunc_int_int.ntmps) σ ⟨@gretB G_slices_IndexFunc_int_int.results ⟨Post⟩⟩) : GCall Try.prog F_slices_IndexFunc_int_int args σ Post := gcall_ofB seatfollows Try.func39 (by kernel_rfl) c_slices_IndexFunc_int_int h
abbrev G_slices_ContainsFunc_int_int : GFun := ⟨9, [(.tmp 4)], (.seq (.region [⟨0, ⟨(some 4), none, (.pure .id), [(.const (.bool false))]⟩, []⟩]) (.seq (.region [⟨0, ⟨(some 5), none, (.pure .id), [(.tmp 0)]⟩, []⟩, ⟨0, ⟨(some 6), none, (.pure .id), [(.tmp 1)]⟩, []⟩, ⟨0, ⟨(some 7), none, (.call F_slices_IndexFunc_int_int), [(.tmp 5), (.tmp 6)]⟩, []⟩, ⟨0, ⟨(some 8), none, (.pure (.bin .geq .none)), [(.tmp 7), (.const (.int .i64 0))]⟩, []⟩, ⟨0, ⟨(some 4), none, (.pure .id), [(.tmp 8)]⟩, []⟩]) .ret))⟩
theorem c_slices_ContainsFunc_int_int : compF Try.prog Try.f43 = some G_slices_ContainsFunc_int_int := by kernel_rfl
theorem gc_slices_ContainsFunc_int_int {args : List DV} {σ : GS} {Post : DV → GS → Prop} (h : @exB Try.prog ⟨G_slices_ContainsFunc_int_int.body⟩ (genv0 args G_slices_ContainsFunc_int_int.ntmps) σ ⟨@gretB G_slices_ContainsFunc_int_int.results ⟨Post⟩⟩) : GCall Try.prog F_slices_ContainsFunc_int_int args σ Post := gcall_ofB seatfollows Try.func43 (by kernel_rfl) c_slices_ContainsFunc_int_int h
abbrev G_aig_Eval_1_1 : GFun := ⟨11, [(.tmp 4)], (.seq (.region [⟨0, ⟨(some 4), none, (.pure .id), [(.const (.int .i64 0))]⟩, []⟩]) (.seq (.region [⟨0, ⟨(some 5), none, (.pure .id), [(.tmp 0)]⟩, []⟩, ⟨0, ⟨(some 6), none, (.pure .id), [(.tmp 0)]⟩, []⟩, ⟨0, ⟨(some 7), none, (.pure (.un .neg)), [(.tmp 6)]⟩, []⟩, ⟨0, ⟨(some 8), none, (.pure .mx), [(.tmp 5), (.tmp 7)]⟩, []⟩, ⟨0, ⟨(some 9), none, (.pure .id), [(.tmp 1)]⟩, []⟩, ⟨0, ⟨(some 10), none, (.pure (.bin .sub .none)), [(.tmp 8), (.tmp 9)]⟩, []⟩, ⟨0, ⟨(some 4), none, (.pure .id), [(.tmp 10)]⟩, []⟩]) .ret))⟩
theorem c_aig_Eval_1_1 : compF Try.prog Try.f66 = some G_aig_Eval_1_1 := by kernel_rfl
theorem gc_aig_Eval_1_1 {args : List DV} {σ : GS} {Post : DV → GS → Prop} (h : @exB Try.prog ⟨G_aig_Eval_1_1.body⟩ (genv0 args G_aig_Eval_1_1.ntmps) σ ⟨@gretB G_aig_Eval_1_1.results ⟨Post⟩⟩) : GCall Try.prog F_aig_Eval_1_1 args σ Post := gcall_ofB seatfollows Try.func66 (by kernel_rfl) c_aig_Eval_1_1 h
abbrev G_aig_Eval_1 : GFun := ⟨18, [(.tmp 3)], (.seq (.region [⟨0, ⟨(some 3), none, (.pure .id), [(.const (.bool false))]⟩, []⟩]) (.seq (.region [⟨0, ⟨(some 7), none, (.load (.load 1 false)), [(.tmp 1)]⟩, []⟩, ⟨0, ⟨(some 8), none, (.pure .id), [(.tmp 0)]⟩, []⟩, ⟨0, ⟨(some 9), none, (.call F_slices_BinarySearchFunc_int_int_int), [(.tmp 7), (.tmp 8), (.const (.func F_aig_Eval_1_1 [] []))]⟩, []⟩, ⟨0, ⟨(some 6), none, (.pure .id), [(.tmp 9)]⟩, []⟩, ⟨0, ⟨(some 10), none, (.pure (.extract 0)), [(.tmp 6)]⟩, []⟩, ⟨0, ⟨(some 11), none, (.pure (.extract 1)), [(.tmp 6)]⟩, []⟩, ⟨0, ⟨(some 4), none, (.pure .id), [(.tmp 10)]⟩, []⟩, ⟨0, ⟨(some 5), none, (.pure .id), [(.tmp 11)]⟩, []⟩]) (.seq (.region [⟨0, ⟨(some 12), none, (.pure .id), [(.tmp 5)]⟩, []⟩, ⟨0, ⟨(some 13), none, (.pure .id), [(.tmp 12)]⟩, []⟩, ⟨0, ⟨(some 14), (some (13, true)), (.load (.load 1 false)), [(.tmp 1)]⟩, []⟩, ⟨0, ⟨(some 15), (some (13, true)), (.pure .id), [(.tmp 0)]⟩, []⟩, ⟨0, ⟨(some 16), (some (13, true)), (.call F_slices_Contains_int_int), [(.tmp 14), (.tmp 15)]⟩, []⟩, ⟨0, ⟨(some 17), none, (.pure .pick), [(.tmp 13), (.tmp 16), (.const (.bool false))]⟩, []⟩, ⟨0, ⟨(some 3), none, (.pure .id), [(.tmp 17)]⟩, []⟩]) .ret)))⟩
theorem c_aig_Eval_1 : compF Try.prog Try.f64 = some G_aig_Eval_1 := by kernel_rfl
theorem gc_aig_Eval_1 {args : List DV} {σ : GS} {Post : DV → GS → Prop} (h : @exB Try.prog ⟨G_aig_Eval_1.body⟩ (genv0 args G_aig_Eval_1.ntmps) σ ⟨@gretB G_aig_Eval_1.results ⟨Post⟩⟩) : GCall Try.prog F_aig_Eval_1 args σ Post := gcall_ofB seatfollows Try.func64 (by kernel_rfl) c_aig_Eval_1 h
abbrev G_aig_value : GFun := ⟨14, [(.tmp 4)], (.seq (.region [⟨0, ⟨(some 4), none, (.pure .id), [(.const (.bool false))]⟩, []⟩]) (.seq (.region [⟨0, ⟨(some 5), none, (.pure .id), [(.tmp 0)]⟩, []⟩, ⟨0, ⟨(some 6), none, (.pure .id), [(.tmp 1)]⟩, []⟩, ⟨0, ⟨(some 7), none, (.pure (.bin .shr .none)), [(.tmp 6), (.const (.int .u64 1))]⟩, []⟩, ⟨0, ⟨(some 8), none, (.pure (.iaddr 1)), [(.tmp 5), (.tmp 7)]⟩, []⟩, ⟨0, ⟨(some 9), none, (.load (.load 1 false)), [(.tmp 8)]⟩, []⟩, ⟨0, ⟨(some 10), none, (.pure .id), [(.tmp 1)]⟩, []⟩, ⟨0, ⟨(some 11), none, (.pure (.bin .and .none)), [(.tmp 10), (.const (.int .i64 1))]⟩, []⟩, ⟨0, ⟨(some 12), none, (.pure (.bin .eql .none)), [(.tmp 11), (.const (.int .i64 1))]⟩, []⟩, ⟨0, ⟨(some 13), none, (.pure (.bin .neq .bool)), [(.tmp 9), (.tmp 12)]⟩, []⟩, ⟨0, ⟨(some 4), none, (.pure .id), [(.tmp 13)]⟩, []⟩]) .ret))⟩
theorem c_aig_value : compF Try.prog Try.f68 = some G_aig_value := by kernel_rfl
theorem gc_aig_value {args : List DV} {σ : GS} {Post : DV → GS → Prop} (h : @exB Try.prog ⟨G_aig_value.body⟩ (genv0 args G_aig_value.ntmps) σ ⟨@gretB G_aig_value.results ⟨Post⟩⟩) : GCall Try.prog F_aig_value args σ Post := gcall_ofB seatfollows Try.func68 (by kernel_rfl) c_aig_value h
abbrev G_aig_run : GFun := ⟨55, [], (.seq (.region [⟨0, ⟨(some 3), none, (.new .box), [(.tmp 0)]⟩, []⟩]) (.seq (.seq (.region [⟨0, ⟨(some 11), none, (.pure (.faddr 0)), [(.tmp 3)]⟩, []⟩, ⟨0, ⟨(some 12), none, (.load (.load 1 false)), [(.tmp 11)]⟩, []⟩, ⟨0, ⟨(some 13), none, (.pure .len), [(.tmp 12)]⟩, []⟩, ⟨0, ⟨(some 14), none, (.pure .id), [(.const (.int .i64 0))]⟩, []⟩]) (.block 0 (.loop (.seq (.region [⟨0, ⟨(some 15), none, (.pure (.bin .lss .none)), [(.tmp 14), (.tmp 13)]⟩, []⟩]) (.seq (.cond (.tmp 15) .skip (.exit 0)) (.seq (.block 1 (.seq (.region [⟨0, ⟨(some 16), none, (.pure .id), [(.tmp 14)]⟩, []⟩, ⟨0, ⟨(some 17), none, (.pure (.iaddr 1)), [(.tmp 12), (.tmp 14)]⟩, []⟩, ⟨0, ⟨(some 18), none, (.load (.load 1 false)), [(.tmp 17)]⟩, []⟩, ⟨0, ⟨(some 6), none, (.pure .id), [(.tmp 16)]⟩, []⟩, ⟨0, ⟨(some 7), none, (.pure .id), [(.tmp 18)]⟩, []⟩]) (.region [⟨0, ⟨(some 19), none, (.pure .id), [(.tmp 1)]⟩, []⟩, ⟨0, ⟨(some 20), none, (.pure .id), [(.tmp 6)]⟩, []⟩, ⟨0, ⟨(some 21), none, (.pure (.bin .add .none)), [(.tmp 20), (.const (.int .i64 1))]⟩, []⟩, ⟨0, ⟨(some 22), none, (.pure .id), [(.tmp 2)]⟩, []⟩, ⟨0, ⟨(some 23), none, (.pure .id), [(.tmp 7)]⟩, []⟩, ⟨0, ⟨(some 24), none, .callv, [(.tmp 22), (.tmp 23)]⟩, []⟩, ⟨0, ⟨(some 25), none, (.pure (.iaddr 1)), [(.tmp 19), (.tmp 21)]⟩, []⟩, ⟨0, ⟨none, none, (.imp (.store 1)), [(.tmp 25), (.tmp 24)]⟩, []⟩]))) (.region [⟨0, ⟨(some 26), none, (.pure (.bin .add .none)), [(.tmp 14), (.const (.int .i64 1))]⟩, []⟩, ⟨0, ⟨(some 14), none, (.pure .id), [(.tmp 26)]⟩, []⟩]))))))) (.seq (.region [⟨0, ⟨(some 27), none, (.pure (.faddr 0)), [(.tmp 3)]⟩, []⟩, ⟨0, ⟨(some 28), none, (.load (.load 1 false)), [(.tmp 27)]⟩, []⟩, ⟨0, ⟨(some 29), none, (.pure .len), [(.tmp 28)]⟩, []⟩, ⟨0, ⟨(some 30), none, (.pure (.bin .add .none)), [(.const (.int .i64 1)), (.tmp 29)]⟩, []⟩, ⟨0, ⟨(some 8), none, (.pure .id), [(.tmp 30)]⟩, []⟩]) (.seq (.region [⟨0, ⟨(some 31), none, (.pure (.faddr 1)), [(.tmp 3)]⟩, []⟩, ⟨0, ⟨(some 32), none, (.load (.load 1 false)), [(.tmp 31)]⟩, []⟩, ⟨0, ⟨(some 33), none, (.pure .len), [(.tmp 32)]⟩, []⟩, ⟨0, ⟨(some 34), none, (.pure .id), [(.const (.int .i64 0))]⟩, []⟩]) (.block 2 (.loop (.seq (.region [⟨0, ⟨(some 35), none, (.pure (.bin .lss .none)), [(.tmp 34), (.tmp 33)]⟩, []⟩]) (.seq (.cond (.tmp 35) .skip (.exit 2)) (.seq (.block 3 (.seq (.region [⟨0, ⟨(some 36), none, (.pure .id), [(.tmp 34)]⟩, []⟩, ⟨0, ⟨(some 37), none, (.pure (.iaddr 2)), [(.tmp 32), (.tmp 34)]⟩, []⟩, ⟨0, ⟨(some 38), none, (.load (.load 2 true)), [(.tmp 37)]⟩, []⟩, ⟨0, ⟨(some 10), none, (.new (.alloc [(.int .i64 0), (.int .i64 0)])), []⟩, []⟩, ⟨0, ⟨(some 9), none, (.pure .id), [(.tmp 36)]⟩, []⟩, ⟨0, ⟨none, none, (.imp (.store 2)), [(.tmp 10), (.tmp 38)]⟩, []⟩]) (.region [⟨0, ⟨(some 39), none, (.pure .id), [(.tmp 1)]⟩, []⟩, ⟨0, ⟨(some 40), none, (.pure .id), [(.tmp 8)]⟩, []⟩, ⟨0, ⟨(some 41), none, (.pure .id), [(.tmp 9)]⟩, []⟩, ⟨0, ⟨(some 42), none, (.pure (.bin .add .none)), [(.tmp 40), (.tmp 41)]⟩, []⟩, ⟨0, ⟨(some 43), none, (.pure .id), [(.tmp 1)]⟩, []⟩, ⟨0, ⟨(some 44), none, (.pure (.iarr 2 1)), [(.tmp 10), (.const (.int .i64 0))]⟩, []⟩, ⟨0, ⟨(some 45), none, (.load (.load 1 false)), [(.tmp 44)]⟩, []⟩, ⟨0, ⟨(some 46), none, (.call F_aig_value), [(.tmp 43), (.tmp 45)]⟩, []⟩, ⟨0, ⟨(some 47), none, (.pure .id), [(.tmp 46)]⟩, []⟩, ⟨0, ⟨(some 48), (some (47, true)), (.pure .id), [(.tmp 1)]⟩, []⟩, ⟨0, ⟨(some 49), (some (47, true)), (.pure (.iarr 2 1)), [(.tmp 10), (.const (.int .i64 1))]⟩, []⟩, ⟨0, ⟨(some 50), (some (47, true)), (.load (.load 1 false)), [(.tmp 49)]⟩, []⟩, ⟨0, ⟨(some 51), (some (47, true)), (.call F_aig_value), [(.tmp 48), (.tmp 50)]⟩, []⟩, ⟨0, ⟨(some 52), none, (.pure .pick), [(.tmp 47), (.tmp 51), (.const (.bool false))]⟩, []⟩, ⟨0, ⟨(some 53), none, (.pure (.iaddr 1)), [(.tmp 39), (.tmp 42)]⟩, []⟩, ⟨0, ⟨none, none, (.imp (.store 1)), [(.tmp 53), (.tmp 52)]⟩, []⟩]))) (.region [⟨0, ⟨(some 54), none, (.pure (.bin .add .none)), [(.tmp 34), (.const (.int .i64 1))]⟩, []⟩, ⟨0, ⟨(some 34), none, (.pure .id), [(.tmp 54)]⟩, []⟩]))))))))))⟩
theorem c_aig_run : compF Try.prog Try.f63 = some G_aig_run := by kernel_rfl
theorem gc_aig_run {args : List DV} {σ : GS} {Post : DV → GS → Prop} (h : @exB Try.prog ⟨G_aig_run.body⟩ (genv0 args G_aig_run.ntmps) σ ⟨@gretB G_aig_run.results ⟨Post⟩⟩) : GCall Try.prog F_aig_run args σ Post := gcall_ofB seatfollows Try.func63 (by kernel_rfl) c_aig_run h
abbrev G_aig_Eval : GFun := ⟨29, [(.tmp 6), (.tmp 7)], (.seq (.region [⟨0, ⟨(some 3), none, (.new .box), [(.tmp 0)]⟩, []⟩, ⟨0, ⟨(some 5), none, (.new .box), [(.tmp 2)]⟩, []⟩, ⟨0, ⟨(some 6), none, (.pure .id), [(.const (.bool false))]⟩, []⟩, ⟨0, ⟨(some 7), none, (.pure .id), [(.const (.int .i64 0))]⟩, []⟩]) (.seq (.seq (.region [⟨0, ⟨(some 9), none, (.load (.load 2 true)), [(.tmp 3)]⟩, []⟩, ⟨0, ⟨(some 10), none, (.pure .id), [(.tmp 1)]⟩, []⟩, ⟨0, ⟨(some 11), none, (.new (.bslice 1 [(.int .i64 0)] 1 [(0, 1)])), [(.tmp 10)]⟩, []⟩, ⟨0, ⟨(some 12), none, (.call F_aig_all), [(.tmp 9), (.tmp 11)]⟩, []⟩, ⟨0, ⟨(some 13), none, (.pure (.un .not)), [(.tmp 12)]⟩, []⟩, ⟨0, ⟨(some 14), none, (.pure .id), [(.tmp 13)]⟩, []⟩, ⟨0, ⟨(some 15), (some (14, false)), (.load (.load 1 false)), [(.tmp 5)]⟩, []⟩, ⟨0, ⟨(some 16), (some (14, false)), (.call F_aig_normal), [(.tmp 15)]⟩, []⟩, ⟨0, ⟨(some 17), (some (14, false)), (.pure (.un .not)), [(.tmp 16)]⟩, []⟩, ⟨0, ⟨(some 18), none, (.pure .pick), [(.tmp 14), (.const (.bool true)), (.tmp 17)]⟩, []⟩]) (.cond (.tmp 18) (.seq (.region [⟨0, ⟨(some 6), none, (.pure .id), [(.const (.bool false))]⟩, []⟩, ⟨0, ⟨(some 7), none, (.pure .id), [(.const (.int .i64 2))]⟩, []⟩]) .ret) .skip)) (.seq (.region [⟨0, ⟨(some 19), none, (.load (.load 2 true)), [(.tmp 3)]⟩, []⟩, ⟨0, ⟨(some 20), none, (.call F_aig_nodes), [(.tmp 19)]⟩, []⟩, ⟨0, ⟨(some 21), none, (.new (.mslice 1 1 [(.bool false)])), [(.tmp 20), (.tmp 20)]⟩, []⟩, ⟨0, ⟨(some 8), none, (.pure .id), [(.tmp 21)]⟩, []⟩]) (.seq (.region [⟨0, ⟨(some 22), none, (.load (.load 2 true)), [(.tmp 3)]⟩, []⟩, ⟨0, ⟨(some 23), none, (.pure .id), [(.tmp 8)]⟩, []⟩, ⟨0, ⟨(some 24), none, (.pure (.mkfunc F_aig_Eval_1 0)), [(.tmp 5)]⟩, []⟩, ⟨0, ⟨(some 25), none, (.call F_aig_run), [(.tmp 22), (.tmp 23), (.tmp 24)]⟩, []⟩]) (.seq (.region [⟨0, ⟨(some 26), none, (.pure .id), [(.tmp 8)]⟩, []⟩, ⟨0, ⟨(some 27), none, (.pure .id), [(.tmp 1)]⟩, []⟩, ⟨0, ⟨(some 28), none, (.call F_aig_value), [(.tmp 26), (.tmp 27)]⟩, []⟩, ⟨0, ⟨(some 6), none, (.pure .id), [(.tmp 28)]⟩, []⟩, ⟨0, ⟨(some 7), none, (.pure .id), [(.const (.int .i64 0))]⟩, []⟩]) .ret)))))⟩
theorem c_aig_Eval : compF Try.prog Try.f46 = some G_aig_Eval := by kernel_rfl
theorem gc_aig_Eval {args : List DV} {σ : GS} {Post : DV → GS → Prop} (h : @exB Try.prog ⟨G_aig_Eval.body⟩ (genv0 args G_aig_Eval.ntmps) σ ⟨@gretB G_aig_Eval.results ⟨Post⟩⟩) : GCall Try.prog F_aig_Eval args σ Post := gcall_ofB seatfollows Try.func46 (by kernel_rfl) c_aig_Eval h
end Go.Gh
namespace Go.Gh
open Go.RowKit Go.Proofs
set_option linter.unusedVariables false
set_option linter.unusedSimpArgs false
theorem aig_variable_ok {v : Int} {σ : GS} {Post : DV → GS → Prop} (h : Post (.bool (isVar v)) σ) : GCall Try.prog F_aig_variable [.int .i64 v] σ Post := by
  refine gc_aig_variable ?_
  by_cases h1 : 1 ≤ v <;> simp [G_aig_variable, genv0, List.replicate, h1] <;> simpa [isVar, h1] using h
theorem aig_inputs_ok {ins : List Int} {σ : GS} {Post : DV → GS → Prop} (hl : ins.length < 2 ^ 50) (h : Post (.bool (insOk 0 ins)) σ) : GCall Try.prog F_aig_inputs [fints ins] σ Post := by
  refine gc_aig_inputs ?_
  simp [G_aig_inputs, genv0, List.replicate]
  refine gfor ins.length (fun i e σ' => σ' = σ ∧ ∃ last, insOk 0 ins = insOk last (ins.drop i) ∧ e = mkEnv 22 [(3, .int .i64 last), (6, fints ins), (7, .int .i64 ins.length), (8, .int .i64 i)]) _ ?_ ⟨rfl, 0, by simp, rfl⟩ ?_
  · simp [mkEnv, List.replicate]
  rintro i _ _ hi ⟨rfl, last, hI, rfl⟩
  simp [mkEnv, List.replicate]
  by_cases hlt : i < ins.length
  · obtain ⟨y, hy⟩ := nth_lt hlt
    rw [drop_get hy] at hI
    simp [hlt, hy]
    refine aig_variable_ok ?_
    by_cases h1 : isVar y = true
    · by_cases h2 : y ≤ last
      · have h3 : ¬ last < y := by omega
        simp [h1, h2]
        simpa [hI, insOk, h3] using h
      · have h3 : last < y := by omega
        simp [h1, h2, wrap_suc (show i < _ by omega)]
        exact forK_go _ hlt (by simp [mkEnv, List.replicate]) ⟨rfl, y, by simp [hI, insOk, h1, h3], rfl⟩
    · simp [h1]
      simpa [hI, insOk, h1] using h
  · have : i = ins.length := by omega
    subst this
    simp
    simpa [hI, insOk] using h
theorem aig_nodes_ok {g : AigP} {σ : GS} {Post : DV → GS → Prop} (hs : g.Sm) (h : Post (.int .i64 g.nodes) σ) : GCall Try.prog F_aig_nodes [g.enc] σ Post := by
  have h1 := hs.ins
  have h2 := hs.ands
  refine GCall.say (r := .int .i64 g.nodes) ?_ rfl h
  refine gc_aig_nodes ?_
  simp [G_aig_nodes, genv0, List.replicate]
  have e1 : IntKind.i64.wrap (1 + (g.ins.length : Int)) = 1 + g.ins.length := by rw [wrap_small] <;> omega
  rw [e1, wrap_small] <;> first | (simp [AigP.nodes]; done) | omega
theorem aig_May_ok {g : AigP} {σ : GS} {Post : DV → GS → Prop} (hs : g.Sm) (h : Post (.bool g.may) σ) : GCall Try.prog F_aig_May [g.enc] σ Post := by
  have h1 := hs.ins
  have h2 := hs.ands
  refine GCall.say (r := .bool g.may) ?_ rfl h
  refine gc_aig_May ?_
  simp [G_aig_May, genv0, List.replicate]
  refine aig_inputs_ok h1 ?_
  by_cases g1 : insOk 0 g.ins = true
  · simp [g1]
    refine aig_nodes_ok hs ?_
    by_cases g2 : (200000 : Int) < g.nodes
    · have : ¬ g.nodes ≤ 200000 := by omega
      simp [g2, AigP.may, this]
    · have g2' : g.nodes ≤ 200000 := by omega
      simp [g2]
      refine gfor g.ands.length (fun i e σ' => (∃ τ, σ' = σ ++ .row false [fints g.ins, fands g.ands] :: τ) ∧ g.may = andsOk (2 * (1 + g.ins.length + i)) (g.ands.drop i) ∧ e = mkEnv 46 [(1, .ptr σ.length 0), (16, fands g.ands), (17, .int .i64 g.ands.length), (18, .int .i64 i)]) _ ?_ ⟨⟨_, rfl⟩, by simp [AigP.may, g1, g2'], rfl⟩ ?_
      · simp [mkEnv, List.replicate]
      rintro i _ _ hi ⟨⟨τ, rfl⟩, hI, rfl⟩
      simp [mkEnv, List.replicate]
      by_cases hlt : i < g.ands.length
      · obtain ⟨p, hp⟩ := nth_lt hlt
        rw [drop_get hp] at hI
        have e1 : IntKind.i64.wrap (1 + (g.ins.length : Int)) = 1 + g.ins.length := by rw [wrap_small] <;> omega
        have e2 : IntKind.i64.wrap (1 + (g.ins.length : Int) + i) = 1 + g.ins.length + i := by rw [wrap_small] <;> omega
        have e3 : IntKind.i64.wrap (2 * (1 + (g.ins.length : Int) + i)) = 2 * (1 + g.ins.length + i) := by rw [wrap_small] <;> omega
        have hb : ∀ b : Bool, g.may = b → Post (.bool b) σ := fun b hb => hb ▸ h
        by_cases a1 : min p.1 p.2 < 0
        · have : (decide (0 ≤ p.1) && decide (0 ≤ p.2)) = false := by simp; omega
          simp [hlt, hp, a1]
          simpa [andsOk, this] using hI.symm
        · by_cases a2 : 2 * (1 + (g.ins.length : Int) + i) ≤ max p.1 p.2
          · have : (decide (p.1 < 2 * (1 + (g.ins.length : Int) + i)) && decide (p.2 < 2 * (1 + (g.ins.length : Int) + i))) = false := by simp; omega
            simp [hlt, hp, a1, e1, e2, e3, a2]
            rw [hI]
            simp only [andsOk, Bool.and_assoc]
            rw [← Bool.and_assoc (decide (p.1 < _)), this]
            simp
          · have h5 : 0 ≤ p.1 ∧ 0 ≤ p.2 ∧ p.1 < 2 * (1 + (g.ins.length : Int) + i) ∧ p.2 < 2 * (1 + (g.ins.length : Int) + i) := by omega
            simp [hlt, hp, a1, e1, e2, e3, a2, wrap_suc (show i < _ by omega)]
            refine forK_go _ hlt (by simp [mkEnv, List.replicate]) ⟨⟨_, rfl⟩, ?_, rfl⟩
            rw [hI]
            simp [andsOk, h5]
            congr 1
      · have : i = g.ands.length := by omega
        subst this
        simp
        simpa [andsOk] using hI
  · simp [g1, AigP.may]
end Go.Gh
namespace Go.Gh
open Go.RowKit Go.Proofs
set_option linter.unusedVariables false
set_option linter.unusedSimpArgs false
theorem idx_func_ok {f : FuncId} {pre caps : List DV} {xs : List Int} {p : Int → Bool} {σ : GS} {Post : DV → GS → Prop} (hl : xs.length < 2 ^ 60)
    (hf : ∀ x ∈ xs, ∀ K : DV → GS → Prop, K (.bool (p x)) σ → GCall Try.prog f (pre ++ .int .i64 x :: caps) σ K) (h : Post (.int .i64 (idxF p 0 xs)) σ) :
    GCall Try.prog F_slices_IndexFunc_int_int [fints xs, .func f pre caps] σ Post := by
  refine gc_slices_IndexFunc_int_int ?_
  simp [G_slices_IndexFunc_int_int, genv0, List.replicate]
  refine gfor xs.length (fun i e σ' => σ' = σ ∧ idxF p 0 xs = idxF p i (xs.drop i) ∧ e = mkEnv 19 [(0, fints xs), (1, .func f pre caps), (7, .int .i64 xs.length), (8, .int .i64 i)]) _ ?_ ⟨rfl, by simp, rfl⟩ ?_
  · simp [mkEnv, List.replicate]
  rintro i _ _ hi ⟨rfl, hI, rfl⟩
  simp [mkEnv, List.replicate]
  by_cases hlt : i < xs.length
  · obtain ⟨y, hy⟩ := nth_lt hlt
    rw [drop_get hy] at hI
    simp [hlt, hy]
    refine hf y (List.mem_of_getElem? hy) _ ?_
    by_cases h1 : p y = true
    · simp [h1]
      simpa [hI, idxF, h1] using h
    · simp [h1, wrap_suc (show i < _ by omega)]
      exact forK_go _ hlt (by simp [mkEnv, List.replicate]) ⟨rfl, by simp [hI, idxF, h1], rfl⟩
  · have : i = xs.length := by omega
    subst this
    simp
    simpa [hI, idxF] using h
theorem contains_func_ok {f : FuncId} {pre caps : List DV} {xs : List Int} {p : Int → Bool} {σ : GS} {Post : DV → GS → Prop} (hl : xs.length < 2 ^ 60)
    (hf : ∀ x ∈ xs, ∀ K : DV → GS → Prop, K (.bool (p x)) σ → GCall Try.prog f (pre ++ .int .i64 x :: caps) σ K) (h : Post (.bool (xs.any p)) σ) :
    GCall Try.prog F_slices_ContainsFunc_int_int [fints xs, .func f pre caps] σ Post := by
  refine gc_slices_ContainsFunc_int_int ?_
  simp [G_slices_ContainsFunc_int_int, genv0, List.replicate]
  refine idx_func_ok hl hf ?_
  simp [idxF_any]
  exact h
theorem index_ok {xs : List Int} {x : Int} {σ : GS} {Post : DV → GS → Prop} (hl : xs.length < 2 ^ 60) (h : Post (.int .i64 (idxF (fun y => decide (x = y)) 0 xs)) σ) : GCall Try.prog F_slices_Index_int_int [fints xs, .int .i64 x] σ Post := by
  refine gc_slices_Index_int_int ?_
  simp [G_slices_Index_int_int, genv0, List.replicate]
  refine gfor xs.length (fun i e σ' => σ' = σ ∧ idxF (fun y => decide (x = y)) 0 xs = idxF (fun y => decide (x = y)) i (xs.drop i) ∧ e = mkEnv 19 [(0, fints xs), (1, .int .i64 x), (7, .int .i64 xs.length), (8, .int .i64 i)]) _ ?_ ⟨rfl, by simp, rfl⟩ ?_
  · simp [mkEnv, List.replicate]
  rintro i _ _ hi ⟨rfl, hI, rfl⟩
  simp [mkEnv, List.replicate]
  by_cases hlt : i < xs.length
  · obtain ⟨y, hy⟩ := nth_lt hlt
    rw [drop_get hy] at hI
    simp only [idxF, decide_eq_true_eq] at hI
    by_cases h1 : x = y
    · simp [hlt, hy, h1]
      rw [if_pos h1] at hI
      rw [hI] at h; exact h
    · simp [hlt, hy, h1, wrap_suc (show i < _ by omega)]
      exact forK_go _ hlt (by simp [mkEnv, List.replicate]) ⟨rfl, by rw [hI, if_neg h1], rfl⟩
  · have : i = xs.length := by omega
    subst this
    simp
    simpa [hI, idxF] using h
theorem contains_eq (xs : List Int) (x : Int) : (xs.any fun y => decide (x = y)) = xs.contains x := by
  induction xs with
  | nil => rfl
  | cons y xs ih => simp only [List.any_cons, List.contains_cons, ih]; rfl
theorem contains_ok {xs : List Int} {x : Int} {σ : GS} {Post : DV → GS → Prop} (hl : xs.length < 2 ^ 60) (h : Post (.bool (xs.contains x)) σ) : GCall Try.prog F_slices_Contains_int_int [fints xs, .int .i64 x] σ Post := by
  refine gc_slices_Contains_int_int ?_
  simp [G_slices_Contains_int_int, genv0, List.replicate]
  refine index_ok hl ?_
  rw [← contains_eq, ← idxF_any _ 0] at h
  simpa using h
theorem aig_all_1_ok {e last : Int} {id : Nat} {ro : Bool} {σ : GS} {Post : DV → GS → Prop} (hb : gload (.load 1 false) [.ptr id 0] σ = some (.int .i64 last)) (h : Post (.bool (decide (e < 0) || decide (last < e))) σ) : GCall Try.prog F_aig_all_1 [.int .i64 e, .ptr id 0] σ Post := by
  refine gc_aig_all_1 ?_
  by_cases h1 : e < 0
  · simp [G_aig_all_1, genv0, List.replicate, h1]
    simpa [h1] using h
  · simp [G_aig_all_1, genv0, List.replicate, h1, hb]
    simpa [h1] using h
/-- Has a graph an edge? -/
def AigP.has (g : AigP) (e : Int) : Bool := decide (0 ≤ e) && decide (e < 2 * g.nodes)
def AigP.all (g : AigP) (l : List Int) : Bool := g.may && l.all g.has
theorem AigP.may_nodes {g : AigP} (h : g.may = true) : g.nodes ≤ 200000 := by
  simp only [AigP.may, Bool.and_eq_true, decide_eq_true_eq] at h; exact h.1.2
theorem aig_all_ok {g : AigP} {l : List Int} {σ : GS} {Post : DV → GS → Prop} (hs : g.Sm) (hl : l.length < 2 ^ 60) (h : Post (.bool (g.all l)) σ) : GCall Try.prog F_aig_all [g.enc, fints l] σ Post := by
  have h1 := hs.ins
  have h2 := hs.ands
  refine GCall.say (r := .bool (g.all l)) ?_ rfl h
  refine gc_aig_all ?_
  simp [G_aig_all, genv0, List.replicate]
  refine aig_nodes_ok hs ?_
  have hn : g.nodes = 1 + g.ins.length + g.ands.length := rfl
  have e1 : IntKind.i64.wrap (2 * (g.nodes : Int)) = 2 * g.nodes := by rw [wrap_small] <;> omega
  have e2 : IntKind.i64.wrap (2 * (g.nodes : Int) - 1) = 2 * g.nodes - 1 := by rw [wrap_small] <;> omega
  simp [e1, e2]
  refine aig_May_ok hs ?_
  by_cases hm : g.may = true
  · simp [hm]
    refine contains_func_ok hl (p := fun e => decide (e < 0) || decide (2 * (g.nodes : Int) - 1 < e)) (fun x hx K hK => aig_all_1_ok (last := 2 * (g.nodes : Int) - 1) (ro := false) (by simp) hK) ?_
    simp
    rw [AigP.all, hm]
    simp only [Bool.true_and]
    congr 1
    rw [Bool.eq_iff_iff]
    simp [List.all_eq_true, AigP.has]
    constructor
    · rintro ⟨x, hx, hh⟩; exact ⟨x, hx, by omega⟩
    · rintro ⟨x, hx, hh⟩; exact ⟨x, hx, by omega⟩
  · simp [hm]
    simp [AigP.all, hm]
theorem aig_normal_ok {a : List Int} {σ : GS} {Post : DV → GS → Prop} (hl : a.length < 2 ^ 60) (h6 : I64 a) (h : Post (.bool (normal a)) σ) : GCall Try.prog F_aig_normal [fints a] σ Post := by
  rw [normal_eq] at h
  refine gc_aig_normal ?_
  simp [G_aig_normal, genv0, List.replicate]
  refine gfor a.length (fun i e σ' => σ' = σ ∧ ∃ pv, normR 0 a = normR pv (a.drop i) ∧ e = mkEnv 27 [(3, .int .i64 pv), (7, fints a), (8, .int .i64 a.length), (9, .int .i64 i)]) _ ?_ ⟨rfl, 0, by simp, rfl⟩ ?_
  · simp [mkEnv, List.replicate]
  rintro i _ _ hi ⟨rfl, pv, hI, rfl⟩
  simp [mkEnv, List.replicate]
  by_cases hlt : i < a.length
  · obtain ⟨y, hy⟩ := nth_lt hlt
    rw [drop_get hy] at hI
    have h64 := h6 y (List.mem_of_getElem? hy)
    simp [hlt, hy]
    refine aig_variable_ok ?_
    by_cases h1 : isVar (gabs y) = true
    · rw [max_abs h1]
      by_cases h2 : gabs y ≤ pv
      · have h3 : ¬ pv < gabs y := by omega
        simp [h1, h2]
        simpa [hI, normR, h1, h3] using h
      · have h3 : pv < gabs y := by omega
        simp [h1, h2, wrap_suc (show i < _ by omega)]
        exact forK_go _ hlt (by simp [mkEnv, List.replicate]) ⟨rfl, gabs y, by simp [hI, normR, h1, h3], rfl⟩
    · have h1' : isVar (gabs y) = false := by simpa using h1
      have h3 := max_abs_not h64.1 h64.2 h1'
      simp [h3]
      simpa [hI, normR, h1'] using h
  · have : i = a.length := by omega
    subst this
    simp
    simpa [hI, normR] using h
end Go.Gh
namespace Go.Gh
open Go.RowKit Go.Proofs
set_option linter.unusedVariables false
set_option linter.unusedSimpArgs false
theorem bsearch_ok {f : FuncId} {pre caps : List DV} {xs : List Int} {t : Int} {c : Int → Int} {k : Nat} {σ : GS} {Post : DV → GS → Prop} (hl : xs.length < 2 ^ 60)
    (hf : ∀ x ∈ xs, ∀ K : DV → GS → Prop, K (.int .i64 (c x)) σ → GCall Try.prog f (pre ++ .int .i64 x :: .int .i64 t :: caps) σ K) (hk : k ≤ xs.length)
    (hlow : ∀ (i : Nat) (x : Int), i < k → xs[i]? = some x → c x < 0) (hhi : ∀ (i : Nat) (x : Int), k ≤ i → xs[i]? = some x → 0 ≤ c x)
    (h : Post (.tuple [.int .i64 k, .bool (match xs[k]? with | some x => decide (c x = 0) | none => false)]) σ) :
    GCall Try.prog F_slices_BinarySearchFunc_int_int_int [fints xs, .int .i64 t, .func f pre caps] σ Post := by
  refine gc_slices_BinarySearchFunc_int_int_int ?_
  simp [G_slices_BinarySearchFunc_int_int_int, genv0, List.replicate]
  refine gwhile (mkEnv 49 [(0, fints xs), (1, .int .i64 t), (2, .func f pre caps), (8, .int .i64 xs.length), (9, .int .i64 (0 : Nat)), (10, .int .i64 xs.length)]) xs.length (fun m e σ' => σ' = σ ∧ ∃ i j : Nat, i ≤ k ∧ k ≤ j ∧ j ≤ xs.length ∧ m = j - i ∧ e = mkEnv 49 [(0, fints xs), (1, .int .i64 t), (2, .func f pre caps), (8, .int .i64 xs.length), (9, .int .i64 i), (10, .int .i64 j)]) ?_ ⟨rfl, 0, xs.length, by omega, hk, by omega, rfl, rfl⟩ ?_
  · simp [mkEnv, List.replicate]
  rintro m _ _ ⟨rfl, i, j, h1, h2, h3, rfl, rfl⟩
  simp [mkEnv, List.replicate]
  by_cases hlt : i < j
  · have e1 : IntKind.i64.wrap ((i : Int) + j) = i + j := by rw [wrap_small] <;> omega
    have e2 : IntKind.u64.wrap ((i : Int) + j) = i + j := by rw [u64_small] <;> omega
    have e3 : gbin .shr .none (.int .u64 ((i : Int) + j)) (.int .u64 1) = some (.int .u64 (((i + j) / 2 : Nat) : Int)) := by
      rw [gb_shr, if_neg (by omega)]
      have : (min ((1 : Int).toNat) IntKind.u64.bits) = 1 := by decide
      rw [this]
      congr 2
      rw [Int.fdiv_eq_ediv_of_nonneg _ (by decide)]
      omega
    have e4 : IntKind.i64.wrap (((i + j) / 2 : Nat) : Int) = (((i + j) / 2 : Nat) : Int) := by rw [wrap_small] <;> omega
    obtain ⟨m, hm⟩ : ∃ m, (i + j) / 2 = m := ⟨_, rfl⟩
    rw [hm] at e3 e4
    obtain ⟨y, hy⟩ := nth_lt (l := xs) (i := m) (by omega)
    simp [hlt, e1, e2, e3, e4, hy, -gb_shr]
    refine hf y (List.mem_of_getElem? hy) _ ?_
    by_cases hc : c y < 0
    · have hmk : m < k := by
        rcases Nat.lt_or_ge m k with h' | h'
        · exact h'
        · have := hhi m y h' hy; omega
      simp [hc, wrap_suc (show m < _ by omega)]
      refine whK_go (j - (m + 1)) _ (by omega) ?_ ⟨rfl, m + 1, j, by omega, h2, h3, rfl, rfl⟩
      simp [mkEnv, List.replicate]
    · have hmk : k ≤ m := by
        rcases Nat.lt_or_ge m k with h' | h'
        · have := hlow m y h' hy; omega
        · exact h'
      simp [hc]
      refine whK_go (m - i) _ (by omega) ?_ ⟨rfl, i, m, h1, hmk, by omega, rfl, rfl⟩
      simp [mkEnv, List.replicate]
  · have hik : i = k := by omega
    subst hik
    simp [hlt]
    by_cases hkl : i < xs.length
    · obtain ⟨y, hy⟩ := nth_lt hkl
      have hy' : xs[i]? = some y := hy
      simp [hkl, hy]
      refine hf y (List.mem_of_getElem? hy) _ ?_
      rw [hy'] at h
      simpa using h
    · have hy' : xs[i]? = none := List.getElem?_eq_none (by omega)
      rw [hy'] at h
      simp [hkl]
      simpa using h
theorem aig_Eval_1_1_ok {l x : Int} {σ : GS} {Post : DV → GS → Prop} (hl : isVar (gabs l) = true) (hx : -9223372036854700000 ≤ x ∧ x < 9223372036854700000) (h : Post (.int .i64 (gabs l - x)) σ) : GCall Try.prog F_aig_Eval_1_1 [.int .i64 l, .int .i64 x] σ Post := by
  refine gc_aig_Eval_1_1 ?_
  have hv := hl
  simp only [isVar, Bool.and_eq_true, decide_eq_true_eq] at hv
  have e : IntKind.i64.wrap (gabs l - x) = gabs l - x := by rw [wrap_small] <;> omega
  simp [G_aig_Eval_1_1, genv0, List.replicate, max_abs hl, e]
  exact h
/-- Where the literals of variables from x on begin. -/
theorem normR_split {x : Int} : ∀ {a : List Int} {s : Int}, normR s a = true → ∃ k, k ≤ a.length ∧ (∀ (i : Nat) (y : Int), i < k → a[i]? = some y → gabs y < x) ∧ (∀ (i : Nat) (y : Int), k ≤ i → a[i]? = some y → x ≤ gabs y)
  | [], s, _ => ⟨0, by simp, fun i y h => absurd h (Nat.not_lt_zero _), fun i y _ h => by simp at h⟩
  | z :: a, s, h => by
    simp only [normR, Bool.and_eq_true, decide_eq_true_eq] at h
    obtain ⟨⟨h1, h2⟩, h3⟩ := h
    obtain ⟨k, k1, k2, k3⟩ := normR_split (x := x) h3
    by_cases hz : gabs z < x
    · refine ⟨k + 1, by simp; omega, fun i y hi hy => ?_, fun i y hi hy => ?_⟩
      · cases i with
        | zero => simp at hy; subst hy; exact hz
        | succ i => exact k2 i y (by omega) (by simpa using hy)
      · cases i with
        | zero => omega
        | succ i => exact k3 i y (by omega) (by simpa using hy)
    · have hall : ∀ {a : List Int} {s : Int}, normR s a = true → ∀ (i : Nat) (y : Int), a[i]? = some y → s < gabs y := by
        intro a
        induction a with
        | nil => intro s _ i y hy; simp at hy
        | cons u a ih =>
          intro s hs i y hy
          simp only [normR, Bool.and_eq_true, decide_eq_true_eq] at hs
          cases i with
          | zero => simp at hy; subst hy; exact hs.1.2
          | succ i => have := ih hs.2 i y (by simpa using hy); omega
      refine ⟨0, by simp, fun i y hi => absurd hi (Nat.not_lt_zero _), fun i y _ hy => ?_⟩
      cases i with
      | zero => simp at hy; subst hy; omega
      | succ i => have := hall h3 i y (by simpa using hy); omega
theorem normR_vars : ∀ {a : List Int} {s : Int}, normR s a = true → ∀ y ∈ a, isVar (gabs y) = true
  | [], s, _, y, hy => by cases hy
  | z :: a, s, h, y, hy => by
    simp only [normR, Bool.and_eq_true, decide_eq_true_eq] at h
    rcases List.mem_cons.1 hy with rfl | hy
    · exact h.1.1
    · exact normR_vars h.2 y hy
theorem gabs_pos {x : Int} (h : isVar x = true) : gabs x = x := by
  simp only [isVar, Bool.and_eq_true, decide_eq_true_eq] at h
  unfold gabs; rw [if_neg (by omega)]
theorem aig_Eval_1_ok {a : List Int} {x : Int} {id : Nat} {σ : GS} {Post : DV → GS → Prop} (hb : gload (.load 1 false) [.ptr id 0] σ = some (fints a)) (hl : a.length < 2 ^ 60) (hn : normal a = true) (hx : isVar x = true) (h : Post (.bool (a.contains x)) σ) :
    GCall Try.prog F_aig_Eval_1 [.int .i64 x, .ptr id 0] σ Post := by
  rw [normal_eq] at hn
  have hv := normR_vars hn
  have hxr := hx
  simp only [isVar, Bool.and_eq_true, decide_eq_true_eq] at hxr
  obtain ⟨k, k1, k2, k3⟩ := normR_split (x := x) hn
  refine gc_aig_Eval_1 ?_
  simp [G_aig_Eval_1, genv0, List.replicate, hb]
  refine bsearch_ok (pre := []) (caps := []) (c := fun y => gabs y - x) (k := k) hl (fun y hy K hK => aig_Eval_1_1_ok (hv y hy) (by omega) hK) k1 (fun i y hi hy => by have := k2 i y hi hy; show gabs y - x < 0; omega) (fun i y hi hy => by have := k3 i y hi hy; show 0 ≤ gabs y - x; omega) ?_
  have hno : ∀ b : Bool, (match a[k]? with | some y => decide (gabs y - x = 0) | none => false) = b → b = false → a.contains x = false := by
    rintro b hb rfl
    rw [Bool.eq_false_iff]
    intro hc
    obtain ⟨i, hi⟩ := List.mem_iff_getElem?.1 (List.contains_iff_mem.1 hc)
    have hgx := gabs_pos hx
    have hik : k ≤ i := by
      rcases Nat.lt_or_ge i k with h' | h'
      · have := k2 i x h' hi; omega
      · exact h'
    -- what lies at k is no greater
    have hasc : ∀ {a : List Int} {s : Int}, normR s a = true → ∀ (i j : Nat) (y z : Int), i < j → a[i]? = some y → a[j]? = some z → gabs y < gabs z := by
      intro a
      induction a with
      | nil => intro s _ i j y z _ hy; simp at hy
      | cons u a ih =>
        intro s hs i j y z hij hy hz
        simp only [normR, Bool.and_eq_true, decide_eq_true_eq] at hs
        cases j with
        | zero => omega
        | succ j =>
          cases i with
          | zero =>
            simp at hy; subst hy
            have hall : ∀ {a : List Int} {s : Int}, normR s a = true → ∀ (i : Nat) (y : Int), a[i]? = some y → s < gabs y := by
              intro a
              induction a with
              | nil => intro s _ i y hy; simp at hy
              | cons u a ih =>
                intro s hs i y hy
                simp only [normR, Bool.and_eq_true, decide_eq_true_eq] at hs
                cases i with
                | zero => simp at hy; subst hy; exact hs.1.2
                | succ i => have := ih hs.2 i y (by simpa using hy); omega
            exact hall hs.2 j z (by simpa using hz)
          | succ i => exact ih hs.2 i j y z (by omega) (by simpa using hy) (by simpa using hz)
    have hkl : k < a.length := Nat.lt_of_le_of_lt hik (get_dom hi)
    obtain ⟨y, hy⟩ := get_lt hkl
    rw [hy] at hb
    simp at hb
    have h1 := k3 k y (Nat.le_refl _) hy
    rcases Nat.lt_or_ge k i with h' | h'
    · have := hasc hn k i y x h' hy hi; omega
    · have : i = k := by omega
      subst this
      rw [hy] at hi; cases hi
      omega
  generalize hbb : (match a[k]? with | some y => decide (gabs y - x = 0) | none => false) = b at *
  cases b with
  | false =>
    simp
    rw [hno false rfl rfl] at h; exact h
  | true =>
    simp [hb]
    refine contains_ok hl ?_
    simpa using h
end Go.Gh
namespace Go.Gh
open Go.RowKit Go.Proofs
set_option linter.unusedVariables false
set_option linter.unusedSimpArgs false
theorem aig_value_ok {vs : List Bool} {e : Int} {σ : GS} {Post : DV → GS → Prop} (h0 : 0 ≤ e) (h1 : e < 2 * vs.length) (hl : vs.length < 2 ^ 60) (h : Post (.bool (edgeV vs e)) σ) : GCall Try.prog F_aig_value [fbools vs, .int .i64 e] σ Post := by
  refine gc_aig_value ?_
  obtain ⟨y, hy⟩ := nth_lt (l := vs) (i := (e / 2).toNat) (by omega)
  have hy' : vs[(e / 2).toNat]? = some y := hy
  have h2 : 0 ≤ e / 2 := by omega
  simp [G_aig_value, genv0, List.replicate, -gb_shr, shr_one h0, bits_and_one h0 (by omega), h2, hy]
  simpa [edgeV, List.getD, hy'] using h
theorem aig_value_row {vs : List Bool} {e : Int} {id : Nat} {cap : Option Nat} {σ : GS} {Post : DV → GS → Prop} (hr : σ[id]? = some (.row false (bools vs))) (h0 : 0 ≤ e) (h1 : e < 2 * vs.length) (hl : vs.length < 2 ^ 60) (h : Post (.bool (edgeV vs e)) σ) :
    GCall Try.prog F_aig_value [.slice id 0 vs.length 1 cap, .int .i64 e] σ Post :=
  GCall.borrow (.cons (rd_bools hr trivial) (.cons (.same _) .nil)) (by simp) rfl (aig_value_ok h0 h1 hl rfl) h
theorem andsOk_get : ∀ {l : List (Int × Int)} {m : Int} {i : Nat} {p : Int × Int}, andsOk m l = true → l[i]? = some p → 0 ≤ p.1 ∧ 0 ≤ p.2 ∧ p.1 < m + 2 * i ∧ p.2 < m + 2 * i
  | [], m, i, p, _, h => by simp at h
  | q :: l, m, 0, p, ho, h => by
    simp only [andsOk, Bool.and_eq_true, decide_eq_true_eq] at ho
    simp at h; subst h; omega
  | q :: l, m, i + 1, p, ho, h => by
    simp only [andsOk, Bool.and_eq_true, decide_eq_true_eq] at ho
    have := andsOk_get ho.2 (by simpa using h)
    omega
theorem edgeV_app {vs us : List Bool} {e : Int} (h : (e / 2).toNat < vs.length) : edgeV (vs ++ us) e = edgeV vs e := by
  unfold edgeV; rw [List.getD_eq_getElem?_getD, List.getElem?_append_left h, ← List.getD_eq_getElem?_getD]
/-- The state of run: the row of values, and the box of the graph. -/
structure RunSt (σ0 σ' : GS) (id : Nat) (g : AigP) (vs : List Bool) : Prop where
  row : σ'[id]? = some (.row false (bools vs))
  box : σ'[σ0.length]? = some (.row false [fints g.ins, fands g.ands])
  len : σ0.length < σ'.length
  oth : ∀ j, j ≠ id → j < σ0.length → σ'[j]? = σ0[j]?
theorem RunSt.set {σ0 σ' : GS} {id : Nat} {g : AigP} {vs : List Bool} (h : RunSt σ0 σ' id g vs) (hid : id < σ0.length) (i : Nat) (b : Bool) (τ : GS) : RunSt σ0 (σ'.set id (.row false (bools (vs.set i b))) ++ τ) id g (vs.set i b) := by
  have hl := h.len
  refine ⟨?_, ?_, by simp; omega, fun j hj hlt => ?_⟩
  · rw [List.getElem?_append_left (by simp; omega), List.getElem?_set_self (by omega)]
  · rw [List.getElem?_append_left (by simp; omega), List.getElem?_set_ne (by omega)]; exact h.box
  · rw [List.getElem?_append_left (by simp; omega), List.getElem?_set_ne (fun e => hj e.symm)]; exact h.oth j hj hlt
theorem set_mid {α : Type} {a r : List α} {x y : α} {i : Nat} (h : i = a.length) : (a ++ x :: r).set i y = a ++ y :: r := by
  subst h; rw [List.set_append_right _ _ (Nat.le_refl _)]; simp
theorem aig_run_ok {g : AigP} {vs : List Bool} {id : Nat} {cap : Option Nat} {f : FuncId} {pre caps : List DV} {on : Int → Bool} {σ : GS} {Post : DV → GS → Prop} (hs : g.Sm) (hm : g.may = true) (hr : σ[id]? = some (.row false (bools vs))) (hvl : vs.length = g.nodes) (hv0 : vs[0]? = some false)
    (hf : ∀ x ∈ g.ins, ∀ σ', (∀ j, j ≠ id → j < σ.length → σ'[j]? = σ[j]?) → ∀ K : DV → GS → Prop, K (.bool (on x)) σ' → GCall Try.prog f (pre ++ .int .i64 x :: caps) σ' K)
    (h : Post (.tuple []) (σ.set id (.row false (bools (g.vals on))))) : GCall Try.prog F_aig_run [g.enc, .slice id 0 vs.length 1 cap, .func f pre caps] σ Post := by
  have h1 := hs.ins
  have h2 := hs.ands
  have hid := get_dom hr
  have hn := AigP.may_nodes hm
  have hnn : g.nodes = 1 + g.ins.length + g.ands.length := rfl
  have hok : andsOk (2 * (1 + g.ins.length)) g.ands = true := by
    simp only [AigP.may, Bool.and_eq_true] at hm; exact hm.2
  refine GCall.cut ?_
  refine gc_aig_run ?_
  simp [G_aig_run, genv0, List.replicate]
  have hst0 : RunSt σ (σ ++ [.row false [fints g.ins, fands g.ands]]) id g vs := ⟨getE_append hr, by simp, by simp, fun j _ hj => List.getElem?_append_left hj⟩
  obtain ⟨r0, rfl⟩ : ∃ r0, vs = false :: r0 := by
    cases vs with
    | nil => simp at hv0
    | cons a l => simp at hv0; exact ⟨l, by rw [hv0]⟩
  obtain ⟨n, hnv⟩ : ∃ n, (false :: r0).length = n := ⟨_, rfl⟩
  rw [hnv] at hvl
  simp only [List.length_cons] at hnv
  have hvn : ∀ us : List Bool, us.length = n → DV.slice id 0 n 1 cap = .slice id 0 us.length 1 cap := fun us h => by rw [h]
  simp only [List.length_cons, hnv]
  refine gfor g.ins.length (fun i e σ' => (∃ r, RunSt σ σ' id g ((false :: (g.ins.take i).map on) ++ r) ∧ 1 + i + r.length = n) ∧ e = mkEnv 55 [(1, .slice id 0 n 1 cap), (2, .func f pre caps), (3, .ptr σ.length 0), (12, fints g.ins), (13, .int .i64 g.ins.length), (14, .int .i64 i)]) _ ?_ ⟨⟨r0, hst0, by omega⟩, rfl⟩ ?_
  · simp [mkEnv, List.replicate]
  rintro i _ σ1 hi ⟨⟨r, hst, hrl⟩, rfl⟩
  simp [mkEnv, List.replicate]
  by_cases hlt : i < g.ins.length
  · obtain ⟨y, hy⟩ := nth_lt hlt
    have hpl : (false :: (g.ins.take i).map on).length = i + 1 := by simp; omega
    cases r with
    | nil => simp at hrl; omega
    | cons z r =>
    simp at hrl
    have e1 := iaddr_own (id := id) (n := n) (sz := 1) (i := i + 1) (k := .i64) (cap := cap) (by omega)
    have e2 := store_bool (b := on y) hst.row (i := i + 1) (by simp; omega)
    simp only [Nat.mul_one] at e1
    rw [show (((i + 1 : Nat)) : Int) = (i : Int) + 1 by omega] at e1
    have hst' := hst.set hid (i + 1) (on y) []
    rw [set_mid hpl.symm, List.append_nil] at hst'
    rw [set_mid hpl.symm] at e2
    simp only [List.cons_append, List.nil_append] at e2
    simp [hlt, hy, wrap_suc (show i < _ by omega)]
    refine hf y (List.mem_of_getElem? hy) σ1 hst.oth _ ?_
    simp at e2
    simp [e1, e2, wrap_suc (show i < _ by omega)]
    refine forK_go _ hlt (by simp [mkEnv, List.replicate]) ⟨⟨r, ?_, by omega⟩, rfl⟩
    have hy' : g.ins[i]? = some y := hy
    simpa [take_get hy'] using hst'
  · have : i = g.ins.length := by omega
    subst this
    rw [List.take_length] at hst
    have e0 : IntKind.i64.wrap (1 + (g.ins.length : Int)) = 1 + g.ins.length := by rw [wrap_small] <;> omega
    simp [ld_at hst.box, e0]
    refine gfor g.ands.length (fun i e σ' => (∃ r, RunSt σ σ' id g ((g.ands.take i).foldl andStep (false :: g.ins.map on) ++ r) ∧ 1 + g.ins.length + i + r.length = n) ∧ e = mkEnv 55 [(1, .slice id 0 n 1 cap), (8, .int .i64 (1 + g.ins.length)), (32, fands g.ands), (33, .int .i64 g.ands.length), (34, .int .i64 i)]) _ ?_ ⟨⟨r, by simpa using hst, by omega⟩, rfl⟩ ?_
    · simp [mkEnv, List.replicate]
    clear hst e0 hi hst0 σ1 hlt hrl r
    rintro i _ σ1 hi ⟨⟨r, hst, hrl⟩, rfl⟩
    simp [mkEnv, List.replicate]
    by_cases hlt : i < g.ands.length
    · obtain ⟨p, hp⟩ := nth_lt hlt
      have hp' : g.ands[i]? = some p := hp
      obtain ⟨q1, q2, q3, q4⟩ := andsOk_get hok hp
      have hl1 := hst.len
      cases r with
      | nil => simp at hrl; omega
      | cons z r =>
      simp at hrl
      have hpl : ((g.ands.take i).foldl andStep (false :: g.ins.map on)).length = 1 + g.ins.length + i := by rw [foldl_andStep_len]; simp; omega
      obtain ⟨P, hP⟩ : ∃ P, (g.ands.take i).foldl andStep (false :: g.ins.map on) = P := ⟨_, rfl⟩
      have hfin : (g.ands.take (i + 1)).foldl andStep (false :: g.ins.map on) = P ++ [edgeV P p.1 && edgeV P p.2] := by rw [fold_take hp', hP]; rfl
      rw [hP] at hst hpl
      have e0 : IntKind.i64.wrap (1 + (g.ins.length : Int) + i) = ((1 + g.ins.length + i : Nat) : Int) := by rw [wrap_small] <;> omega
      have e1 := iaddr_own (id := id) (n := n) (sz := 1) (i := 1 + g.ins.length + i) (k := .i64) (cap := cap) (by omega)
      simp only [Nat.mul_one] at e1
      have hrow' : ∀ τ, (σ1 ++ τ)[id]? = some (.row false (bools (P ++ z :: r))) := fun τ => getE_append hst.row
      have hus : (P ++ z :: r).length = n := by simp; omega
      have hval : ∀ e : Int, 0 ≤ e → e < 2 * (1 + g.ins.length) + 2 * i → edgeV (P ++ z :: r) e = edgeV P e := fun e he1 he2 => edgeV_app (by omega)
      have hset : ∀ (b : Bool) (τ : GS), gimp (.store 1) [.ptr id (1 + g.ins.length + i), .bool b] (σ1 ++ τ) = some (.tuple [], σ1.set id (.row false (bools (P ++ b :: r))) ++ τ) := fun b τ => by
        rw [st_app (by omega), store_bool hst.row (by omega), set_mid hpl.symm]; rfl
      have hst' : ∀ (b : Bool) (τ : GS), RunSt σ (σ1.set id (.row false (bools (P ++ b :: r))) ++ τ) id g (P ++ b :: r) := fun b τ => by
        have := hst.set hid (1 + g.ins.length + i) b τ
        rwa [set_mid hpl.symm] at this
      simp [hlt, hp, e0]
      rw [← hus]
      refine aig_value_row (hrow' _) q1 (by omega) (by omega) ?_
      rw [hval _ q1 q3, hus]
      by_cases b1 : edgeV P p.1 = true
      · simp [b1]
        rw [← hus]
        refine aig_value_row (hrow' _) q2 (by omega) (by omega) ?_
        rw [hval _ q2 q4, hus]
        simp at e1
        simp [e1, hset, wrap_suc (show i < _ by omega)]
        refine forK_go _ hlt (by simp [mkEnv, List.replicate]) ⟨⟨r, ?_, by omega⟩, rfl⟩
        rw [hfin, b1]
        simpa using hst' (edgeV P p.2) _
      · simp at e1
        simp [b1, e1, hset, wrap_suc (show i < _ by omega)]
        refine forK_go _ hlt (by simp [mkEnv, List.replicate]) ⟨⟨r, ?_, by omega⟩, rfl⟩
        simp only [Bool.not_eq_true] at b1
        rw [hfin, b1]
        simpa using hst' false _
    · have : i = g.ands.length := by omega
      subst this
      rw [List.take_length] at hst
      have : r = [] := List.length_eq_zero_iff.1 (by omega)
      subst this
      have hl1 := hst.len
      have hvals : g.ands.foldl andStep (false :: g.ins.map on) ++ [] = g.vals on := by rw [List.append_nil]; rfl
      rw [hvals] at hst
      simp
      have htk : σ1.take σ.length = σ.set id (.row false (bools (g.vals on))) := by
        apply List.ext_getElem?
        intro j
        rw [List.getElem?_take]
        by_cases hj : j < σ.length
        · rw [if_pos hj]
          by_cases hji : j = id
          · subst hji; rw [hst.row, List.getElem?_set_self hid]
          · rw [hst.oth j hji hj, List.getElem?_set_ne (fun e => hji e.symm)]
        · rw [if_neg hj, List.getElem?_eq_none (by simp; omega)]
      refine ⟨fun j o hj ho => ?_, rfl, by rw [htk]; exact h⟩
      by_cases hji : j = id
      · subst hji; rw [hst.row] at ho; cases ho; exact .inr (unders_bools _ _)
      · rw [hst.oth j hji hj] at ho; exact .inl ho
end Go.Gh
namespace Go.Gh
open Go.RowKit Go.Proofs
set_option linter.unusedVariables false
set_option linter.unusedSimpArgs false
theorem mslice_bools {n : Nat} (h : n < 2 ^ 40) (k j : IntKind) : galloc (.mslice 1 1 [.bool false]) [.int k (n : Int), .int j (n : Int)] = some (.row false (bools (List.replicate n false)), fun id => .slice id 0 n 1 (some n)) := by
  simp only [galloc]
  rw [if_pos (by omega)]
  simp [gzeros, bools]
theorem mslice_ints {n : Nat} (h : n < 2 ^ 40) (k j : IntKind) : galloc (.mslice 1 8 [.int .i64 0]) [.int k (n : Int), .int j (n : Int)] = some (.row false (ints (List.replicate n 0)), fun id => .slice id 0 n 1 (some n)) := by
  simp only [galloc]
  rw [if_pos (by omega)]
  simp [gzeros, ints]
theorem insOk_vars : ∀ {l : List Int} {s : Int}, insOk s l = true → ∀ x ∈ l, isVar x = true
  | [], s, _, x, hx => by cases hx
  | y :: l, s, h, x, hx => by
    simp only [insOk, Bool.and_eq_true, decide_eq_true_eq] at h
    rcases List.mem_cons.1 hx with rfl | hx
    · exact h.1.1
    · exact insOk_vars h.2 x hx
theorem AigP.may_ins {g : AigP} (h : g.may = true) : insOk 0 g.ins = true := by simp only [AigP.may, Bool.and_eq_true] at h; exact h.1.1
theorem AigP.all_may {g : AigP} {l : List Int} (h : g.all l = true) : g.may = true := by simp only [AigP.all, Bool.and_eq_true] at h; exact h.1
theorem AigP.all_has {g : AigP} {l : List Int} (h : g.all l = true) {e : Int} (he : e ∈ l) : 0 ≤ e ∧ e < 2 * g.nodes := by
  simp only [AigP.all, Bool.and_eq_true, List.all_eq_true, AigP.has, decide_eq_true_eq] at h; exact h.2 e he
/-- The value of an edge under an assignment, and the error. -/
def AigP.eval (g : AigP) (e : Int) (a : List Int) : Bool × Int := if g.all [e] && normal a then (edgeV (g.vals a.contains) e, 0) else (false, 2)
theorem aig_Eval_ok {g : AigP} {e : Int} {a : List Int} {σ : GS} {Post : DV → GS → Prop} (hs : g.Sm) (hl : a.length < 2 ^ 60) (h6 : I64 a) (h : Post (.tuple [.bool (g.eval e a).1, .int .i64 (g.eval e a).2]) σ) : GCall Try.prog F_aig_Eval [g.enc, .int .i64 e, fints a] σ Post := by
  refine GCall.say (r := .tuple [.bool (g.eval e a).1, .int .i64 (g.eval e a).2]) ?_ rfl h
  refine gc_aig_Eval ?_
  simp [G_aig_Eval, genv0, List.replicate]
  refine GCall.borrow (args' := [g.enc, fints [e]]) (r := .bool (g.all [e])) (.cons (.same _) (.cons (rd_ints (vs := [e]) (ro := false) (cap := some 1) (by simp) trivial) .nil)) (by simp) rfl (aig_all_ok hs (by simp) rfl) ?_
  by_cases ha : g.all [e] = true
  · simp [ha]
    refine aig_normal_ok hl h6 ?_
    by_cases hn : normal a = true
    · have hm := AigP.all_may ha
      have hnn := AigP.may_nodes hm
      obtain ⟨he0, he1⟩ := AigP.all_has ha (List.mem_singleton_self e)
      simp [hn]
      refine aig_nodes_ok hs ?_
      simp [mslice_bools (show g.nodes < 2 ^ 40 by omega)]
      obtain ⟨vs, hvs⟩ : ∃ vs, List.replicate g.nodes false = vs := ⟨_, rfl⟩
      have hvl : vs.length = g.nodes := by rw [← hvs]; simp
      have hpos : 0 < g.nodes := by unfold AigP.nodes; omega
      have hv0 : vs[0]? = some false := by rw [← hvs]; simp [hpos]
      rw [show List.replicate g.nodes (DV.bool false) = bools vs by rw [← hvs]; simp [bools]]
      have e1 : (DV.slice (σ.length + (0 + 1 + 1 + 1)) 0 g.nodes 1 (some g.nodes)) = .slice (σ.length + 3) 0 vs.length 1 (some g.nodes) := by rw [hvl]
      rw [← hvl]
      refine aig_run_ok (on := a.contains) (pre := []) hs hm (by simp) hvl hv0 (fun x hx σ' hf K hK => ?_) ?_
      · refine aig_Eval_1_ok (id := σ.length + 1) ?_ hl hn (insOk_vars (AigP.may_ins hm) x hx) hK
        rw [ld_at ((hf (σ.length + 1) (by omega) (by simp)).trans (show _ = some (GObj.row false [fints a]) by simp))]
        rfl
      · simp
        rw [hvl, ← AigP.vals_len g a.contains]
        refine aig_value_row (by simp) he0 (by rw [AigP.vals_len]; omega) (by rw [AigP.vals_len]; omega) ?_
        simp [AigP.eval, ha, hn]
    · simp [hn, AigP.eval]
  · simp [ha, AigP.eval]
end Go.Gh
namespace Go.Gh
open Go.Proofs
abbrev F_skolemlaw35_PuzzleValues : Nat := 6
abbrev F_skolemlaw35_PuzzleTruth : Nat := 7
abbrev F_skolemlaw35_large : Nat := 8
abbrev F_skolemlaw35_head : Nat := 9
abbrev F_puzzle_Wins : Nat := 14
abbrev F_skolemref35_May : Nat := 19
abbrev F_puzzle_Play : Nat := 22
abbrev F_skolemref03_Has : Nat := 24
abbrev F_skolemref05_Normal : Nat := 25
abbrev F_puzzle_Net : Nat := 26
abbrev F_skolemref05_Eval : Nat := 27
abbrev F_skolemlaw35_reaches : Nat := 28
abbrev F_skolemref03_Flat : Nat := 29
abbrev F_skolemlaw35_game : Nat := 30
abbrev F_puzzle_open : Nat := 32
abbrev F_puzzle_board_goals : Nat := 36
abbrev F_puzzle_board_before : Nat := 37
abbrev F_puzzle_board_play : Nat := 47
abbrev F_puzzle_truth_has : Nat := 48
abbrev F_skolemref03_Find : Nat := 57
abbrev F_puzzle_board_before_1 : Nat := 58
abbrev G_puzzle_Play : GFun := ⟨44, [(.tmp 4), (.tmp 5)], (.seq (.region [⟨0, ⟨(some 2), none, (.new .box), [(.tmp 0)]⟩, []⟩, ⟨0, ⟨(some 4), none, (.pure .id), [(.const .nils)]⟩, []⟩, ⟨0, ⟨(some 5), none, (.pure .id), [(.const (.int .i64 0))]⟩, []⟩]) (.seq (.region [⟨0, ⟨(some 14), none, (.load (.load 4 true)), [(.tmp 2)]⟩, []⟩, ⟨0, ⟨(some 15), none, (.call F_puzzle_open), [(.tmp 14)]⟩, []⟩, ⟨0, ⟨(some 13), none, (.pure .id), [(.tmp 15)]⟩, []⟩, ⟨0, ⟨(some 16), none, (.pure (.extract 0)), [(.tmp 13)]⟩, []⟩, ⟨0, ⟨(some 17), none, (.pure (.extract 1)), [(.tmp 13)]⟩, []⟩, ⟨0, ⟨(some 6), none, (.new (.alloc [.nils, (.int .i64 0), .nils, (.int .i64 0), (.int .i64 0)])), []⟩, []⟩, ⟨0, ⟨none, none, (.imp (.store 5)), [(.tmp 6), (.tmp 16)]⟩, []⟩, ⟨0, ⟨(some 7), none, (.pure .id), [(.tmp 17)]⟩, []⟩]) (.seq (.seq (.region [⟨0, ⟨(some 19), none, (.pure (.build [.nils, .nils] [])), []⟩, []⟩, ⟨0, ⟨(some 20), none, (.pure .id), [(.tmp 1)]⟩, []⟩, ⟨0, ⟨(some 21), none, (.call F_aig_Eval), [(.tmp 19), (.const (.int .i64 0)), (.tmp 20)]⟩, []⟩, ⟨0, ⟨(some 18), none, (.pure .id), [(.tmp 21)]⟩, []⟩, ⟨0, ⟨(some 22), none, (.pure (.extract 0)), [(.tmp 18)]⟩, []⟩, ⟨0, ⟨(some 23), none, (.pure (.extract 1)), [(.tmp 18)]⟩, []⟩, ⟨0, ⟨(some 8), none, (.pure .id), [(.tmp 22)]⟩, []⟩, ⟨0, ⟨(some 9), none, (.pure .id), [(.tmp 23)]⟩, []⟩]) (.seq (.region [⟨0, ⟨(some 24), none, (.pure .id), [(.tmp 7)]⟩, []⟩, ⟨0, ⟨(some 25), none, (.pure (.bin .neq .none)), [(.tmp 24), (.const (.int .i64 0))]⟩, []⟩, ⟨0, ⟨(some 26), none, (.pure .id), [(.tmp 25)]⟩, []⟩, ⟨0, ⟨(some 27), (some (26, false)), (.pure .id), [(.tmp 9)]⟩, []⟩, ⟨0, ⟨(some 28), (some (26, false)), (.pure (.bin .neq .none)), [(.tmp 27), (.const (.int .i64 0))]⟩, []⟩, ⟨0, ⟨(some 29), none, (.pure .pick), [(.tmp 26), (.const (.bool true)), (.tmp 28)]⟩, []⟩]) (.cond (.tmp 29) (.seq (.region [⟨0, ⟨(some 4), none, (.pure .id), [(.const .nils)]⟩, []⟩, ⟨0, ⟨(some 5), none, (.pure .id), [(.const (.int .i64 2))]⟩, []⟩]) .ret) .skip))) (.seq (.region [⟨0, ⟨(some 30), none, (.new .mmap), []⟩, []⟩, ⟨0, ⟨(some 10), none, (.pure .id), [(.tmp 30)]⟩, []⟩]) (.seq (.seq (.region [⟨0, ⟨(some 31), none, (.pure .id), [(.tmp 1)]⟩, []⟩, ⟨0, ⟨(some 32), none, (.pure .len), [(.tmp 31)]⟩, []⟩, ⟨0, ⟨(some 33), none, (.pure .id), [(.const (.int .i64 0))]⟩, []⟩]) (.block 0 (.loop (.seq (.region [⟨0, ⟨(some 34), none, (.pure (.bin .lss .none)), [(.tmp 33), (.tmp 32)]⟩, []⟩]) (.seq (.cond (.tmp 34) .skip (.exit 0)) (.seq (.block 1 (.seq (.region [⟨0, ⟨(some 35), none, (.pure (.iaddr 1)), [(.tmp 31), (.tmp 33)]⟩, []⟩, ⟨0, ⟨(some 36), none, (.load (.load 1 false)), [(.tmp 35)]⟩, []⟩, ⟨0, ⟨(some 12), none, (.pure .id), [(.tmp 36)]⟩, []⟩]) (.region [⟨0, ⟨(some 37), none, (.pure .id), [(.tmp 10)]⟩, []⟩, ⟨0, ⟨(some 38), none, (.pure .id), [(.tmp 12)]⟩, []⟩, ⟨0, ⟨none, none, (.imp (.mset (.int .i64))), [(.tmp 37), (.tmp 38), (.const (.bool true))]⟩, []⟩]))) (.region [⟨0, ⟨(some 39), none, (.pure (.bin .add .none)), [(.tmp 33), (.const (.int .i64 1))]⟩, []⟩, ⟨0, ⟨(some 33), none, (.pure .id), [(.tmp 39)]⟩, []⟩]))))))) (.seq (.region [⟨0, ⟨(some 40), none, (.load (.load 5 true)), [(.tmp 6)]⟩, []⟩, ⟨0, ⟨(some 41), none, (.pure .id), [(.tmp 10)]⟩, []⟩, ⟨0, ⟨(some 42), none, (.pure (.mkfunc F_puzzle_truth_has 1)), [(.tmp 41)]⟩, []⟩, ⟨0, ⟨(some 43), none, (.call F_puzzle_board_play), [(.tmp 40), (.tmp 42)]⟩, []⟩, ⟨0, ⟨(some 4), none, (.pure .id), [(.tmp 43)]⟩, []⟩, ⟨0, ⟨(some 5), none, (.pure .id), [(.const (.int .i64 0))]⟩, []⟩]) .ret))))))⟩
theorem c_puzzle_Play : compF Try.prog Try.f22 = some G_puzzle_Play := by kernel_rfl
theorem gc_puzzle_Play {args : List DV} {σ : GS} {Post : DV → GS → Prop} (h : @exB Try.prog ⟨G_puzzle_Play.body⟩ (genv0 args G_puzzle_Play.ntmps) σ ⟨@gretB G_puzzle_Play.results ⟨Post⟩⟩) : GCall Try.prog F_puzzle_Play args σ Post := gcall_ofB seatfollows Try.func22 (by kernel_rfl) c_puzzle_Play h
abbrev G_puzzle_board_goals : GFun := ⟨17, [(.cell 2 16 true)], (.seq (.region [⟨0, ⟨(some 1), none, (.new .box), [(.tmp 0)]⟩, []⟩, ⟨0, ⟨(some 2), none, (.new (.alloc [(.bool false), (.bool false), (.bool false), (.bool false), (.bool false), (.bool false), (.bool false), (.bool false), (.bool false), (.bool false), (.bool false), (.bool false), (.bool false), (.bool false), (.bool false), (.bool false)])), []⟩, []⟩]) (.seq (.seq (.region [⟨0, ⟨(some 5), none, (.pure (.faddr 0)), [(.tmp 1)]⟩, []⟩, ⟨0, ⟨(some 6), none, (.pure (.faddr 2)), [(.tmp 5)]⟩, []⟩, ⟨0, ⟨(some 7), none, (.load (.load 1 false)), [(.tmp 6)]⟩, []⟩, ⟨0, ⟨(some 8), none, (.pure .len), [(.tmp 7)]⟩, []⟩, ⟨0, ⟨(some 9), none, (.pure .id), [(.const (.int .i64 0))]⟩, []⟩]) (.block 0 (.loop (.seq (.region [⟨0, ⟨(some 10), none, (.pure (.bin .lss .none)), [(.tmp 9), (.tmp 8)]⟩, []⟩]) (.seq (.cond (.tmp 10) .skip (.exit 0)) (.seq (.block 1 (.seq (.region [⟨0, ⟨(some 11), none, (.pure (.iaddr 1)), [(.tmp 7), (.tmp 9)]⟩, []⟩, ⟨0, ⟨(some 12), none, (.load (.load 1 false)), [(.tmp 11)]⟩, []⟩, ⟨0, ⟨(some 4), none, (.pure .id), [(.tmp 12)]⟩, []⟩]) (.region [⟨0, ⟨(some 13), none, (.pure .id), [(.tmp 4)]⟩, []⟩, ⟨0, ⟨(some 14), none, (.pure (.iarr 16 1)), [(.tmp 2), (.tmp 13)]⟩, []⟩, ⟨0, ⟨none, none, (.imp (.store 1)), [(.tmp 14), (.const (.bool true))]⟩, []⟩]))) (.region [⟨0, ⟨(some 15), none, (.pure (.bin .add .none)), [(.tmp 9), (.const (.int .i64 1))]⟩, []⟩, ⟨0, ⟨(some 9), none, (.pure .id), [(.tmp 15)]⟩, []⟩]))))))) (.seq (.region [⟨0, ⟨(some 16), none, (.load (.load 16 true)), [(.tmp 2)]⟩, []⟩, ⟨0, ⟨none, none, (.imp (.store 16)), [(.tmp 2), (.tmp 16)]⟩, []⟩]) .ret)))⟩
theorem c_puzzle_board_goals : compF Try.prog Try.f36 = some G_puzzle_board_goals := by kernel_rfl
theorem gc_puzzle_board_goals {args : List DV} {σ : GS} {Post : DV → GS → Prop} (h : @exB Try.prog ⟨G_puzzle_board_goals.body⟩ (genv0 args G_puzzle_board_goals.ntmps) σ ⟨@gretB G_puzzle_board_goals.results ⟨Post⟩⟩) : GCall Try.prog F_puzzle_board_goals args σ Post := gcall_ofB seatfollows Try.func36 (by kernel_rfl) c_puzzle_board_goals h
abbrev G_puzzle_board_before : GFun := ⟨38, [(.cell 4 16 true)], (.seq (.region [⟨0, ⟨(some 2), none, (.new .box), [(.tmp 0)]⟩, []⟩, ⟨0, ⟨(some 3), none, (.new .box), [(.tmp 1)]⟩, []⟩, ⟨0, ⟨(some 4), none, (.new (.alloc [(.bool false), (.bool false), (.bool false), (.bool false), (.bool false), (.bool false), (.bool false), (.bool false), (.bool false), (.bool false), (.bool false), (.bool false), (.bool false), (.bool false), (.bool false), (.bool false)])), []⟩, []⟩]) (.seq (.region [⟨0, ⟨(some 9), none, (.load (.load 5 true)), [(.tmp 2)]⟩, []⟩, ⟨0, ⟨(some 10), none, (.call F_puzzle_board_goals), [(.tmp 9)]⟩, []⟩, ⟨0, ⟨(some 5), none, (.new (.alloc [(.bool false), (.bool false), (.bool false), (.bool false), (.bool false), (.bool false), (.bool false), (.bool false), (.bool false), (.bool false), (.bool false), (.bool false), (.bool false), (.bool false), (.bool false), (.bool false)])), []⟩, []⟩, ⟨0, ⟨none, none, (.imp (.store 16)), [(.tmp 5), (.tmp 10)]⟩, []⟩]) (.seq (.seq (.region [⟨0, ⟨(some 11), none, (.pure (.faddr 0)), [(.tmp 2)]⟩, []⟩, ⟨0, ⟨(some 12), none, (.pure (.faddr 0)), [(.tmp 11)]⟩, []⟩, ⟨0, ⟨(some 13), none, (.load (.load 1 false)), [(.tmp 12)]⟩, []⟩, ⟨0, ⟨(some 14), none, (.pure .len), [(.tmp 13)]⟩, []⟩, ⟨0, ⟨(some 15), none, (.pure .id), [(.const (.int .i64 0))]⟩, []⟩]) (.block 0 (.loop (.seq (.region [⟨0, ⟨(some 16), none, (.pure (.bin .lss .none)), [(.tmp 15), (.tmp 14)]⟩, []⟩]) (.seq (.cond (.tmp 16) .skip (.exit 0)) (.seq (.block 1 (.seq (.region [⟨0, ⟨(some 17), none, (.pure .id), [(.tmp 15)]⟩, []⟩, ⟨0, ⟨(some 18), none, (.pure (.iaddr 2)), [(.tmp 13), (.tmp 15)]⟩, []⟩, ⟨0, ⟨(some 19), none, (.load (.load 2 true)), [(.tmp 18)]⟩, []⟩, ⟨0, ⟨(some 7), none, (.new (.alloc [(.bool false), .nils])), []⟩, []⟩, ⟨0, ⟨(some 6), none, (.pure .id), [(.tmp 17)]⟩, []⟩, ⟨0, ⟨none, none, (.imp (.store 2)), [(.tmp 7), (.tmp 19)]⟩, []⟩]) (.seq (.region [⟨0, ⟨(some 20), none, (.pure (.mkfunc F_puzzle_board_before_1 0)), [(.tmp 3), (.tmp 7)]⟩, []⟩, ⟨0, ⟨(some 8), none, (.pure .id), [(.tmp 20)]⟩, []⟩]) (.seq (.region [⟨0, ⟨(some 21), none, (.pure (.faddr 1)), [(.tmp 7)]⟩, []⟩, ⟨1, ⟨(some 22), none, (.load (.load 1 false)), [(.tmp 21)]⟩, []⟩, ⟨2, ⟨(some 23), none, (.pure .len), [(.tmp 22)]⟩, []⟩, ⟨3, ⟨(some 24), none, (.pure (.bin .gtr .none)), [(.tmp 23), (.const (.int .i64 0))]⟩, []⟩, ⟨4, ⟨(some 25), none, (.pure .id), [(.tmp 24)]⟩, []⟩, ⟨5, ⟨(some 26), (some (25, true)), (.pure (.faddr 1)), [(.tmp 7)]⟩, []⟩, ⟨6, ⟨(some 27), (some (25, true)), (.load (.load 1 false)), [(.tmp 26)]⟩, []⟩, ⟨7, ⟨(some 28), (some (25, true)), (.pure .id), [(.tmp 8)]⟩, []⟩, ⟨9, ⟨(some 30), (some (25, true)), (.pure (.faddr 0)), [(.tmp 7)]⟩, []⟩, ⟨10, ⟨(some 31), (some (25, true)), (.load (.load 1 false)), [(.tmp 30)]⟩, []⟩, ⟨8, ⟨(some 29), (some (25, true)), (.call F_slices_ContainsFunc_int_int), [(.tmp 27), (.tmp 28)]⟩, [⟨(some 31), (some (25, true)), (.load (.load 1 false)), [(.tmp 30)]⟩]⟩, ⟨11, ⟨(some 32), (some (25, true)), (.pure (.bin .eql .bool)), [(.tmp 29), (.tmp 31)]⟩, []⟩, ⟨12, ⟨(some 33), none, (.pure .pick), [(.tmp 25), (.tmp 32), (.const (.bool false))]⟩, []⟩]) (.cond (.tmp 33) (.region [⟨0, ⟨(some 34), none, (.pure .id), [(.tmp 6)]⟩, []⟩, ⟨0, ⟨(some 35), none, (.pure (.iarr 16 1)), [(.tmp 5), (.tmp 34)]⟩, []⟩, ⟨0, ⟨none, none, (.imp (.store 1)), [(.tmp 35), (.const (.bool true))]⟩, []⟩]) .skip))))) (.region [⟨0, ⟨(some 36), none, (.pure (.bin .add .none)), [(.tmp 15), (.const (.int .i64 1))]⟩, []⟩, ⟨0, ⟨(some 15), none, (.pure .id), [(.tmp 36)]⟩, []⟩]))))))) (.seq (.region [⟨0, ⟨(some 37), none, (.load (.load 16 true)), [(.tmp 5)]⟩, []⟩, ⟨0, ⟨none, none, (.imp (.store 16)), [(.tmp 4), (.tmp 37)]⟩, []⟩]) .ret))))⟩
theorem c_puzzle_board_before : compF Try.prog Try.f37 = some G_puzzle_board_before := by kernel_rfl
theorem gc_puzzle_board_before {args : List DV} {σ : GS} {Post : DV → GS → Prop} (h : @exB Try.prog ⟨G_puzzle_board_before.body⟩ (genv0 args G_puzzle_board_before.ntmps) σ ⟨@gretB G_puzzle_board_before.results ⟨Post⟩⟩) : GCall Try.prog F_puzzle_board_before args σ Post := gcall_ofB seatfollows Try.func37 (by kernel_rfl) c_puzzle_board_before h
abbrev G_puzzle_board_before_1 : GFun := ⟨11, [(.tmp 4)], (.seq (.region [⟨0, ⟨(some 4), none, (.pure .id), [(.const (.bool false))]⟩, []⟩]) (.seq (.region [⟨0, ⟨(some 5), none, (.pure .id), [(.tmp 0)]⟩, []⟩, ⟨1, ⟨(some 6), none, (.pure (.iarr 16 1)), [(.tmp 1), (.tmp 5)]⟩, []⟩, ⟨2, ⟨(some 7), none, (.load (.load 1 false)), [(.tmp 6)]⟩, []⟩, ⟨3, ⟨(some 8), none, (.pure (.faddr 0)), [(.tmp 2)]⟩, []⟩, ⟨4, ⟨(some 9), none, (.load (.load 1 false)), [(.tmp 8)]⟩, []⟩, ⟨5, ⟨(some 10), none, (.pure (.bin .eql .bool)), [(.tmp 7), (.tmp 9)]⟩, []⟩, ⟨6, ⟨(some 4), none, (.pure .id), [(.tmp 10)]⟩, []⟩]) .ret))⟩
theorem c_puzzle_board_before_1 : compF Try.prog Try.f58 = some G_puzzle_board_before_1 := by kernel_rfl
theorem gc_puzzle_board_before_1 {args : List DV} {σ : GS} {Post : DV → GS → Prop} (h : @exB Try.prog ⟨G_puzzle_board_before_1.body⟩ (genv0 args G_puzzle_board_before_1.ntmps) σ ⟨@gretB G_puzzle_board_before_1.results ⟨Post⟩⟩) : GCall Try.prog F_puzzle_board_before_1 args σ Post := gcall_ofB seatfollows Try.func58 (by kernel_rfl) c_puzzle_board_before_1 h
abbrev G_puzzle_Wins : GFun := ⟨29, [(.tmp 2), (.tmp 3)], (.seq (.region [⟨0, ⟨(some 1), none, (.new .box), [(.tmp 0)]⟩, []⟩, ⟨0, ⟨(some 2), none, (.pure .id), [(.const (.bool false))]⟩, []⟩, ⟨0, ⟨(some 3), none, (.pure .id), [(.const (.int .i64 0))]⟩, []⟩]) (.seq (.region [⟨0, ⟨(some 8), none, (.load (.load 4 true)), [(.tmp 1)]⟩, []⟩, ⟨0, ⟨(some 9), none, (.call F_puzzle_open), [(.tmp 8)]⟩, []⟩, ⟨0, ⟨(some 7), none, (.pure .id), [(.tmp 9)]⟩, []⟩, ⟨0, ⟨(some 10), none, (.pure (.extract 0)), [(.tmp 7)]⟩, []⟩, ⟨0, ⟨(some 11), none, (.pure (.extract 1)), [(.tmp 7)]⟩, []⟩, ⟨0, ⟨(some 4), none, (.new (.alloc [.nils, (.int .i64 0), .nils, (.int .i64 0), (.int .i64 0)])), []⟩, []⟩, ⟨0, ⟨none, none, (.imp (.store 5)), [(.tmp 4), (.tmp 10)]⟩, []⟩, ⟨0, ⟨(some 5), none, (.pure .id), [(.tmp 11)]⟩, []⟩]) (.seq (.seq (.region [⟨0, ⟨(some 12), none, (.pure .id), [(.tmp 5)]⟩, []⟩, ⟨0, ⟨(some 13), none, (.pure (.bin .neq .none)), [(.tmp 12), (.const (.int .i64 0))]⟩, []⟩]) (.cond (.tmp 13) (.seq (.region [⟨0, ⟨(some 14), none, (.pure .id), [(.tmp 5)]⟩, []⟩, ⟨0, ⟨(some 2), none, (.pure .id), [(.const (.bool false))]⟩, []⟩, ⟨0, ⟨(some 3), none, (.pure .id), [(.tmp 14)]⟩, []⟩]) .ret) .skip)) (.seq (.region [⟨0, ⟨(some 15), none, (.load (.load 5 true)), [(.tmp 4)]⟩, []⟩, ⟨0, ⟨(some 16), none, (.call F_puzzle_board_goals), [(.tmp 15)]⟩, []⟩, ⟨0, ⟨(some 6), none, (.new (.alloc [(.bool false), (.bool false), (.bool false), (.bool false), (.bool false), (.bool false), (.bool false), (.bool false), (.bool false), (.bool false), (.bool false), (.bool false), (.bool false), (.bool false), (.bool false), (.bool false)])), []⟩, []⟩, ⟨0, ⟨none, none, (.imp (.store 16)), [(.tmp 6), (.tmp 16)]⟩, []⟩]) (.seq (.seq (.region [⟨0, ⟨(some 17), none, (.pure (.faddr 3)), [(.tmp 1)]⟩, []⟩, ⟨0, ⟨(some 18), none, (.load (.load 1 false)), [(.tmp 17)]⟩, []⟩, ⟨0, ⟨(some 19), none, (.pure .id), [(.const (.int .i64 0))]⟩, []⟩]) (.block 0 (.loop (.seq (.region [⟨0, ⟨(some 20), none, (.pure (.bin .lss .none)), [(.tmp 19), (.tmp 18)]⟩, []⟩]) (.seq (.cond (.tmp 20) .skip (.exit 0)) (.seq (.block 1 (.region [⟨0, ⟨(some 21), none, (.load (.load 5 true)), [(.tmp 4)]⟩, []⟩, ⟨0, ⟨(some 22), none, (.load (.load 16 true)), [(.tmp 6)]⟩, []⟩, ⟨0, ⟨(some 23), none, (.call F_puzzle_board_before), [(.tmp 21), (.tmp 22)]⟩, []⟩, ⟨0, ⟨none, none, (.imp (.store 16)), [(.tmp 6), (.tmp 23)]⟩, []⟩])) (.region [⟨0, ⟨(some 24), none, (.pure (.bin .add .none)), [(.tmp 19), (.const (.int .i64 1))]⟩, []⟩, ⟨0, ⟨(some 19), none, (.pure .id), [(.tmp 24)]⟩, []⟩]))))))) (.seq (.region [⟨0, ⟨(some 25), none, (.pure (.faddr 1)), [(.tmp 1)]⟩, []⟩, ⟨0, ⟨(some 26), none, (.load (.load 1 false)), [(.tmp 25)]⟩, []⟩, ⟨0, ⟨(some 27), none, (.pure (.iarr 16 1)), [(.tmp 6), (.tmp 26)]⟩, []⟩, ⟨0, ⟨(some 28), none, (.load (.load 1 false)), [(.tmp 27)]⟩, []⟩, ⟨0, ⟨(some 2), none, (.pure .id), [(.tmp 28)]⟩, []⟩, ⟨0, ⟨(some 3), none, (.pure .id), [(.const (.int .i64 0))]⟩, []⟩]) .ret))))))⟩
theorem c_puzzle_Wins : compF Try.prog Try.f14 = some G_puzzle_Wins := by kernel_rfl
theorem gc_puzzle_Wins {args : List DV} {σ : GS} {Post : DV → GS → Prop} (h : @exB Try.prog ⟨G_puzzle_Wins.body⟩ (genv0 args G_puzzle_Wins.ntmps) σ ⟨@gretB G_puzzle_Wins.results ⟨Post⟩⟩) : GCall Try.prog F_puzzle_Wins args σ Post := gcall_ofB seatfollows Try.func14 (by kernel_rfl) c_puzzle_Wins h
abbrev G_skolemlaw35_game : GFun := ⟨70, [(.tmp 8)], (.seq (.region [⟨0, ⟨(some 4), none, (.new .box), [(.tmp 0)]⟩, []⟩, ⟨0, ⟨(some 8), none, (.pure .id), [(.const (.bool false))]⟩, []⟩]) (.seq (.seq (.region [⟨0, ⟨(some 15), none, (.pure .id), [(.tmp 2)]⟩, []⟩, ⟨0, ⟨(some 16), none, (.pure .id), [(.tmp 1)]⟩, []⟩, ⟨0, ⟨(some 17), none, (.pure .len), [(.tmp 16)]⟩, []⟩, ⟨0, ⟨(some 18), none, (.pure (.bin .eql .none)), [(.tmp 15), (.tmp 17)]⟩, []⟩]) (.cond (.tmp 18) (.seq (.region [⟨0, ⟨(some 20), none, (.load (.load 3 true)), [(.tmp 4)]⟩, []⟩, ⟨0, ⟨(some 21), none, (.pure .id), [(.tmp 3)]⟩, []⟩, ⟨0, ⟨(some 22), none, (.call F_skolemref05_Eval), [(.tmp 20), (.tmp 21)]⟩, []⟩, ⟨0, ⟨(some 19), none, (.pure .id), [(.tmp 22)]⟩, []⟩, ⟨0, ⟨(some 23), none, (.pure (.extract 0)), [(.tmp 19)]⟩, []⟩, ⟨0, ⟨(some 24), none, (.pure (.extract 1)), [(.tmp 19)]⟩, []⟩, ⟨0, ⟨(some 9), none, (.pure .id), [(.tmp 23)]⟩, []⟩, ⟨0, ⟨(some 10), none, (.pure .id), [(.tmp 24)]⟩, []⟩]) (.seq (.region [⟨0, ⟨(some 25), none, (.pure .id), [(.tmp 9)]⟩, []⟩, ⟨0, ⟨(some 8), none, (.pure .id), [(.tmp 25)]⟩, []⟩]) .ret)) .skip)) (.seq (.region [⟨0, ⟨(some 27), none, (.pure (.faddr 0)), [(.tmp 4)]⟩, []⟩, ⟨1, ⟨(some 28), none, (.load (.load 1 false)), [(.tmp 27)]⟩, []⟩, ⟨2, ⟨(some 29), none, (.pure .id), [(.tmp 1)]⟩, []⟩, ⟨3, ⟨(some 30), none, (.pure .id), [(.tmp 2)]⟩, []⟩, ⟨4, ⟨(some 31), none, (.pure (.iaddr 1)), [(.tmp 29), (.tmp 30)]⟩, []⟩, ⟨5, ⟨(some 32), none, (.load (.load 1 false)), [(.tmp 31)]⟩, []⟩, ⟨6, ⟨(some 33), none, (.call F_skolemref03_Find), [(.tmp 28), (.tmp 32)]⟩, []⟩, ⟨7, ⟨(some 26), none, (.pure .id), [(.tmp 33)]⟩, []⟩, ⟨8, ⟨(some 34), none, (.pure (.extract 0)), [(.tmp 26)]⟩, []⟩, ⟨9, ⟨(some 35), none, (.pure (.extract 1)), [(.tmp 26)]⟩, []⟩, ⟨10, ⟨(some 36), none, (.pure (.extract 2)), [(.tmp 26)]⟩, []⟩, ⟨11, ⟨(some 11), none, (.pure .id), [(.tmp 34)]⟩, []⟩, ⟨12, ⟨(some 12), none, (.pure .id), [(.tmp 35)]⟩, []⟩, ⟨13, ⟨(some 13), none, (.pure .id), [(.tmp 36)]⟩, []⟩]) (.seq (.region [⟨0, ⟨(some 37), none, (.load (.load 3 true)), [(.tmp 4)]⟩, []⟩, ⟨1, ⟨(some 38), none, (.pure .id), [(.tmp 1)]⟩, []⟩, ⟨2, ⟨(some 39), none, (.pure .id), [(.tmp 2)]⟩, []⟩, ⟨3, ⟨(some 40), none, (.pure (.bin .add .none)), [(.tmp 39), (.const (.int .i64 1))]⟩, []⟩, ⟨4, ⟨(some 41), none, (.new (.bslice 1 [(.int .i64 0)] 0 [])), []⟩, []⟩, ⟨5, ⟨(some 42), none, (.pure .id), [(.tmp 3)]⟩, []⟩, ⟨7, ⟨(some 44), none, (.pure .id), [(.tmp 1)]⟩, []⟩, ⟨8, ⟨(some 45), none, (.pure .id), [(.tmp 2)]⟩, []⟩, ⟨9, ⟨(some 46), none, (.pure (.iaddr 1)), [(.tmp 44), (.tmp 45)]⟩, []⟩, ⟨10, ⟨(some 47), none, (.load (.load 1 false)), [(.tmp 46)]⟩, []⟩, ⟨11, ⟨(some 48), none, (.new (.bslice 1 [(.int .i64 0)] 1 [(0, 1)])), [(.tmp 47)]⟩, []⟩, ⟨6, ⟨(some 43), none, (.imp (.append 1 8)), [(.tmp 41), (.tmp 42)]⟩, [⟨(some 37), none, (.load (.load 3 true)), [(.tmp 4)]⟩, ⟨(some 47), none, (.load (.load 1 false)), [(.tmp 46)]⟩, ⟨(some 48), none, (.new (.bslice 1 [(.int .i64 0)] 1 [(0, 1)])), [(.tmp 47)]⟩]⟩, ⟨12, ⟨(some 49), none, (.imp (.append 1 8)), [(.tmp 43), (.tmp 48)]⟩, [⟨(some 37), none, (.load (.load 3 true)), [(.tmp 4)]⟩]⟩, ⟨13, ⟨(some 50), none, (.call F_skolemlaw35_game), [(.tmp 37), (.tmp 38), (.tmp 40), (.tmp 49)]⟩, []⟩, ⟨14, ⟨(some 14), none, (.pure .id), [(.tmp 50)]⟩, []⟩]) (.seq (.seq (.region [⟨0, ⟨(some 51), none, (.pure .id), [(.tmp 14)]⟩, []⟩, ⟨0, ⟨(some 52), none, (.pure .id), [(.tmp 12)]⟩, []⟩, ⟨0, ⟨(some 53), none, (.pure (.bin .eql .bool)), [(.tmp 51), (.tmp 52)]⟩, []⟩]) (.cond (.tmp 53) (.seq (.region [⟨0, ⟨(some 54), none, (.pure .id), [(.tmp 14)]⟩, []⟩, ⟨0, ⟨(some 8), none, (.pure .id), [(.tmp 54)]⟩, []⟩]) .ret) .skip)) (.seq (.region [⟨0, ⟨(some 55), none, (.load (.load 3 true)), [(.tmp 4)]⟩, []⟩, ⟨1, ⟨(some 56), none, (.pure .id), [(.tmp 1)]⟩, []⟩, ⟨2, ⟨(some 57), none, (.pure .id), [(.tmp 2)]⟩, []⟩, ⟨3, ⟨(some 58), none, (.pure (.bin .add .none)), [(.tmp 57), (.const (.int .i64 1))]⟩, []⟩, ⟨4, ⟨(some 59), none, (.new (.bslice 1 [(.int .i64 0)] 0 [])), []⟩, []⟩, ⟨5, ⟨(some 60), none, (.pure .id), [(.tmp 3)]⟩, []⟩, ⟨7, ⟨(some 62), none, (.pure .id), [(.tmp 1)]⟩, []⟩, ⟨8, ⟨(some 63), none, (.pure .id), [(.tmp 2)]⟩, []⟩, ⟨9, ⟨(some 64), none, (.pure (.iaddr 1)), [(.tmp 62), (.tmp 63)]⟩, []⟩, ⟨10, ⟨(some 65), none, (.load (.load 1 false)), [(.tmp 64)]⟩, []⟩, ⟨11, ⟨(some 66), none, (.pure (.un .neg)), [(.tmp 65)]⟩, []⟩, ⟨12, ⟨(some 67), none, (.new (.bslice 1 [(.int .i64 0)] 1 [(0, 1)])), [(.tmp 66)]⟩, []⟩, ⟨6, ⟨(some 61), none, (.imp (.append 1 8)), [(.tmp 59), (.tmp 60)]⟩, [⟨(some 55), none, (.load (.load 3 true)), [(.tmp 4)]⟩, ⟨(some 65), none, (.load (.load 1 false)), [(.tmp 64)]⟩, ⟨(some 67), none, (.new (.bslice 1 [(.int .i64 0)] 1 [(0, 1)])), [(.tmp 66)]⟩]⟩, ⟨13, ⟨(some 68), none, (.imp (.append 1 8)), [(.tmp 61), (.tmp 67)]⟩, [⟨(some 55), none, (.load (.load 3 true)), [(.tmp 4)]⟩]⟩, ⟨14, ⟨(some 69), none, (.call F_skolemlaw35_game), [(.tmp 55), (.tmp 56), (.tmp 58), (.tmp 68)]⟩, []⟩, ⟨15, ⟨(some 8), none, (.pure .id), [(.tmp 69)]⟩, []⟩]) .ret))))))⟩
theorem c_skolemlaw35_game : compF Try.prog Try.f30 = some G_skolemlaw35_game := by kernel_rfl
theorem gc_skolemlaw35_game {args : List DV} {σ : GS} {Post : DV → GS → Prop} (h : @exB Try.prog ⟨G_skolemlaw35_game.body⟩ (genv0 args G_skolemlaw35_game.ntmps) σ ⟨@gretB G_skolemlaw35_game.results ⟨Post⟩⟩) : GCall Try.prog F_skolemlaw35_game args σ Post := gcall_ofB seatfollows Try.func30 (by kernel_rfl) c_skolemlaw35_game h
abbrev G_skolemlaw35_PuzzleValues : GFun := ⟨122, [(.tmp 4)], (.seq (.region [⟨0, ⟨(some 2), none, (.new .box), [(.tmp 0)]⟩, []⟩, ⟨0, ⟨(some 4), none, (.pure .id), [(.const (.bool false))]⟩, []⟩]) (.seq (.seq (.region [⟨0, ⟨(some 13), none, (.load (.load 4 true)), [(.tmp 2)]⟩, []⟩, ⟨0, ⟨(some 14), none, (.call F_skolemlaw35_large), [(.tmp 13)]⟩, []⟩, ⟨0, ⟨(some 15), none, (.pure .id), [(.tmp 14)]⟩, []⟩, ⟨0, ⟨(some 16), (some (15, false)), (.pure .id), [(.tmp 1)]⟩, []⟩, ⟨0, ⟨(some 17), (some (15, false)), (.pure .len), [(.tmp 16)]⟩, []⟩, ⟨0, ⟨(some 18), (some (15, false)), (.pure (.bin .gtr .none)), [(.tmp 17), (.const (.int .i64 100))]⟩, []⟩, ⟨0, ⟨(some 19), none, (.pure .pick), [(.tmp 15), (.const (.bool true)), (.tmp 18)]⟩, []⟩, ⟨0, ⟨(some 20), none, (.pure .id), [(.tmp 19)]⟩, []⟩, ⟨0, ⟨(some 21), (some (20, false)), (.load (.load 4 true)), [(.tmp 2)]⟩, []⟩, ⟨0, ⟨(some 22), (some (20, false)), (.call F_skolemref35_May), [(.tmp 21)]⟩, []⟩, ⟨0, ⟨(some 23), (some (20, false)), (.pure (.un .not)), [(.tmp 22)]⟩, []⟩, ⟨0, ⟨(some 24), none, (.pure .pick), [(.tmp 20), (.const (.bool true)), (.tmp 23)]⟩, []⟩, ⟨0, ⟨(some 25), none, (.pure .id), [(.tmp 24)]⟩, []⟩, ⟨0, ⟨(some 26), (some (25, false)), (.pure .id), [(.tmp 1)]⟩, []⟩, ⟨0, ⟨(some 27), (some (25, false)), (.call F_skolemref05_Normal), [(.tmp 26)]⟩, []⟩, ⟨0, ⟨(some 28), (some (25, false)), (.pure (.un .not)), [(.tmp 27)]⟩, []⟩, ⟨0, ⟨(some 29), none, (.pure .pick), [(.tmp 25), (.const (.bool true)), (.tmp 28)]⟩, []⟩]) (.cond (.tmp 29) (.seq (.region [⟨0, ⟨(some 30), none, (.call F_skolemlaw35_head), []⟩, []⟩, ⟨0, ⟨(some 4), none, (.pure .id), [(.tmp 30)]⟩, []⟩]) .ret) .skip)) (.seq (.region [⟨0, ⟨(some 32), none, (.load (.load 4 true)), [(.tmp 2)]⟩, []⟩, ⟨0, ⟨(some 33), none, (.call F_puzzle_Net), [(.tmp 32)]⟩, []⟩, ⟨0, ⟨(some 31), none, (.pure .id), [(.tmp 33)]⟩, []⟩, ⟨0, ⟨(some 34), none, (.pure (.extract 0)), [(.tmp 31)]⟩, []⟩, ⟨0, ⟨(some 35), none, (.pure (.extract 1)), [(.tmp 31)]⟩, []⟩, ⟨0, ⟨(some 5), none, (.new (.alloc [.nils, .nils, (.int .i64 0)])), []⟩, []⟩, ⟨0, ⟨none, none, (.imp (.store 3)), [(.tmp 5), (.tmp 34)]⟩, []⟩, ⟨0, ⟨(some 6), none, (.pure .id), [(.tmp 35)]⟩, []⟩]) (.seq (.region [⟨0, ⟨(some 37), none, (.load (.load 4 true)), [(.tmp 2)]⟩, []⟩, ⟨0, ⟨(some 38), none, (.pure .id), [(.tmp 1)]⟩, []⟩, ⟨0, ⟨(some 39), none, (.call F_puzzle_Play), [(.tmp 37), (.tmp 38)]⟩, []⟩, ⟨0, ⟨(some 36), none, (.pure .id), [(.tmp 39)]⟩, []⟩, ⟨0, ⟨(some 40), none, (.pure (.extract 0)), [(.tmp 36)]⟩, []⟩, ⟨0, ⟨(some 41), none, (.pure (.extract 1)), [(.tmp 36)]⟩, []⟩, ⟨0, ⟨(some 7), none, (.pure .id), [(.tmp 40)]⟩, []⟩, ⟨0, ⟨(some 8), none, (.pure .id), [(.tmp 41)]⟩, []⟩]) (.seq (.seq (.region [⟨0, ⟨(some 42), none, (.pure .id), [(.tmp 6)]⟩, []⟩, ⟨1, ⟨(some 43), none, (.pure (.bin .neq .none)), [(.tmp 42), (.const (.int .i64 0))]⟩, []⟩, ⟨2, ⟨(some 44), none, (.pure .id), [(.tmp 43)]⟩, []⟩, ⟨3, ⟨(some 45), (some (44, false)), (.pure .id), [(.tmp 8)]⟩, []⟩, ⟨4, ⟨(some 46), (some (44, false)), (.pure (.bin .neq .none)), [(.tmp 45), (.const (.int .i64 0))]⟩, []⟩, ⟨5, ⟨(some 47), none, (.pure .pick), [(.tmp 44), (.const (.bool true)), (.tmp 46)]⟩, []⟩, ⟨6, ⟨(some 48), none, (.pure .id), [(.tmp 47)]⟩, []⟩, ⟨7, ⟨(some 49), (some (48, false)), (.pure .id), [(.tmp 7)]⟩, []⟩, ⟨8, ⟨(some 50), (some (48, false)), (.pure .len), [(.tmp 49)]⟩, []⟩, ⟨9, ⟨(some 51), (some (48, false)), (.pure (.faddr 3)), [(.tmp 2)]⟩, []⟩, ⟨10, ⟨(some 52), (some (48, false)), (.load (.load 1 false)), [(.tmp 51)]⟩, []⟩, ⟨11, ⟨(some 53), (some (48, false)), (.pure (.bin .add .none)), [(.tmp 52), (.const (.int .i64 1))]⟩, []⟩, ⟨12, ⟨(some 54), (some (48, false)), (.pure (.bin .neq .none)), [(.tmp 50), (.tmp 53)]⟩, []⟩, ⟨13, ⟨(some 55), none, (.pure .pick), [(.tmp 48), (.const (.bool true)), (.tmp 54)]⟩, []⟩, ⟨14, ⟨(some 56), none, (.pure .id), [(.tmp 55)]⟩, []⟩, ⟨15, ⟨(some 57), (some (56, false)), (.pure .id), [(.tmp 7)]⟩, []⟩, ⟨16, ⟨(some 58), (some (56, false)), (.pure (.iaddr 1)), [(.tmp 57), (.const (.int .i64 0))]⟩, []⟩, ⟨17, ⟨(some 59), (some (56, false)), (.load (.load 1 false)), [(.tmp 58)]⟩, []⟩, ⟨18, ⟨(some 60), (some (56, false)), (.pure (.faddr 1)), [(.tmp 2)]⟩, []⟩, ⟨19, ⟨(some 61), (some (56, false)), (.load (.load 1 false)), [(.tmp 60)]⟩, []⟩, ⟨20, ⟨(some 62), (some (56, false)), (.pure (.bin .neq .none)), [(.tmp 59), (.tmp 61)]⟩, []⟩, ⟨21, ⟨(some 63), none, (.pure .pick), [(.tmp 56), (.const (.bool true)), (.tmp 62)]⟩, []⟩]) (.cond (.tmp 63) (.seq (.region [⟨0, ⟨(some 4), none, (.pure .id), [(.const (.bool false))]⟩, []⟩]) .ret) .skip)) (.seq (.seq (.region [⟨0, ⟨(some 9), none, (.pure .id), [(.const (.int .i64 1))]⟩, []⟩]) (.block 0 (.loop (.seq (.seq (.region [⟨0, ⟨(some 64), none, (.pure .id), [(.tmp 9)]⟩, []⟩, ⟨0, ⟨(some 65), none, (.pure .id), [(.tmp 7)]⟩, []⟩, ⟨0, ⟨(some 66), none, (.pure .len), [(.tmp 65)]⟩, []⟩, ⟨0, ⟨(some 67), none, (.pure (.bin .lss .none)), [(.tmp 64), (.tmp 66)]⟩, []⟩]) (.cond (.tmp 67) .skip (.exit 0))) (.seq (.block 1 (.seq (.region [⟨0, ⟨(some 70), none, (.pure (.faddr 0)), [(.tmp 2)]⟩, []⟩, ⟨1, ⟨(some 71), none, (.load (.load 1 false)), [(.tmp 70)]⟩, []⟩, ⟨2, ⟨(some 72), none, (.pure .id), [(.tmp 7)]⟩, []⟩, ⟨3, ⟨(some 73), none, (.pure .id), [(.tmp 9)]⟩, []⟩, ⟨4, ⟨(some 74), none, (.pure (.bin .sub .none)), [(.tmp 73), (.const (.int .i64 1))]⟩, []⟩, ⟨5, ⟨(some 75), none, (.pure (.iaddr 1)), [(.tmp 72), (.tmp 74)]⟩, []⟩, ⟨6, ⟨(some 76), none, (.load (.load 1 false)), [(.tmp 75)]⟩, []⟩, ⟨7, ⟨(some 77), none, (.pure (.iaddr 2)), [(.tmp 71), (.tmp 76)]⟩, []⟩, ⟨8, ⟨(some 78), none, (.pure (.faddr 1)), [(.tmp 77)]⟩, []⟩, ⟨9, ⟨(some 79), none, (.load (.load 1 false)), [(.tmp 78)]⟩, []⟩, ⟨10, ⟨(some 10), none, (.pure .id), [(.tmp 79)]⟩, []⟩]) (.seq (.region [⟨0, ⟨(some 80), none, (.pure .id), [(.tmp 10)]⟩, []⟩, ⟨1, ⟨(some 81), none, (.pure .id), [(.tmp 7)]⟩, []⟩, ⟨2, ⟨(some 82), none, (.pure .id), [(.tmp 9)]⟩, []⟩, ⟨3, ⟨(some 83), none, (.pure (.iaddr 1)), [(.tmp 81), (.tmp 82)]⟩, []⟩, ⟨4, ⟨(some 84), none, (.load (.load 1 false)), [(.tmp 83)]⟩, []⟩, ⟨5, ⟨(some 85), none, (.call F_skolemref03_Has), [(.tmp 80), (.tmp 84)]⟩, []⟩, ⟨6, ⟨(some 86), none, (.pure (.un .not)), [(.tmp 85)]⟩, []⟩, ⟨7, ⟨(some 87), none, (.pure .id), [(.tmp 86)]⟩, []⟩, ⟨8, ⟨(some 88), (some (87, true)), (.pure .id), [(.tmp 10)]⟩, []⟩, ⟨9, ⟨(some 89), (some (87, true)), (.pure .len), [(.tmp 88)]⟩, []⟩, ⟨10, ⟨(some 90), (some (87, true)), (.pure (.bin .gtr .none)), [(.tmp 89), (.const (.int .i64 0))]⟩, []⟩, ⟨11, ⟨(some 91), (some (87, true)), (.pure .id), [(.tmp 90)]⟩, []⟩, ⟨12, ⟨(some 92), (some (91, false)), (.pure .id), [(.tmp 7)]⟩, []⟩, ⟨13, ⟨(some 93), (some (91, false)), (.pure .id), [(.tmp 9)]⟩, []⟩, ⟨14, ⟨(some 94), (some (91, false)), (.pure (.iaddr 1)), [(.tmp 92), (.tmp 93)]⟩, []⟩, ⟨15, ⟨(some 95), (some (91, false)), (.load (.load 1 false)), [(.tmp 94)]⟩, []⟩, ⟨16, ⟨(some 96), (some (91, false)), (.pure .id), [(.tmp 7)]⟩, []⟩, ⟨17, ⟨(some 97), (some (91, false)), (.pure .id), [(.tmp 9)]⟩, []⟩, ⟨18, ⟨(some 98), (some (91, false)), (.pure (.bin .sub .none)), [(.tmp 97), (.const (.int .i64 1))]⟩, []⟩, ⟨19, ⟨(some 99), (some (91, false)), (.pure (.iaddr 1)), [(.tmp 96), (.tmp 98)]⟩, []⟩, ⟨20, ⟨(some 100), (some (91, false)), (.load (.load 1 false)), [(.tmp 99)]⟩, []⟩, ⟨21, ⟨(some 101), (some (91, false)), (.pure (.bin .neq .none)), [(.tmp 95), (.tmp 100)]⟩, []⟩, ⟨22, ⟨(some 102), (some (87, true)), (.pure .pick), [(.tmp 91), (.const (.bool true)), (.tmp 101)]⟩, []⟩, ⟨23, ⟨(some 103), none, (.pure .pick), [(.tmp 87), (.tmp 102), (.const (.bool false))]⟩, []⟩]) (.cond (.tmp 103) (.seq (.region [⟨0, ⟨(some 4), none, (.pure .id), [(.const (.bool false))]⟩, []⟩]) .ret) .skip)))) (.region [⟨0, ⟨(some 68), none, (.pure .id), [(.tmp 9)]⟩, []⟩, ⟨0, ⟨(some 69), none, (.pure (.bin .add .none)), [(.tmp 68), (.const (.int .i64 1))]⟩, []⟩, ⟨0, ⟨(some 9), none, (.pure .id), [(.tmp 69)]⟩, []⟩])))))) (.seq (.region [⟨0, ⟨(some 105), none, (.load (.load 3 true)), [(.tmp 5)]⟩, []⟩, ⟨0, ⟨(some 106), none, (.pure .id), [(.tmp 1)]⟩, []⟩, ⟨0, ⟨(some 107), none, (.call F_skolemref05_Eval), [(.tmp 105), (.tmp 106)]⟩, []⟩, ⟨0, ⟨(some 104), none, (.pure .id), [(.tmp 107)]⟩, []⟩, ⟨0, ⟨(some 108), none, (.pure (.extract 0)), [(.tmp 104)]⟩, []⟩, ⟨0, ⟨(some 109), none, (.pure (.extract 1)), [(.tmp 104)]⟩, []⟩, ⟨0, ⟨(some 11), none, (.pure .id), [(.tmp 108)]⟩, []⟩, ⟨0, ⟨(some 12), none, (.pure .id), [(.tmp 109)]⟩, []⟩]) (.seq (.region [⟨0, ⟨(some 110), none, (.pure .id), [(.tmp 12)]⟩, []⟩, ⟨0, ⟨(some 111), none, (.pure (.bin .eql .none)), [(.tmp 110), (.const (.int .i64 0))]⟩, []⟩, ⟨0, ⟨(some 112), none, (.pure .id), [(.tmp 111)]⟩, []⟩, ⟨0, ⟨(some 113), (some (112, true)), (.pure .id), [(.tmp 11)]⟩, []⟩, ⟨0, ⟨(some 114), (some (112, true)), (.load (.load 4 true)), [(.tmp 2)]⟩, []⟩, ⟨0, ⟨(some 115), (some (112, true)), (.pure .id), [(.tmp 7)]⟩, []⟩, ⟨0, ⟨(some 116), (some (112, true)), (.call F_skolemlaw35_reaches), [(.tmp 114), (.tmp 115)]⟩, []⟩, ⟨0, ⟨(some 117), (some (112, true)), (.pure (.bin .eql .bool)), [(.tmp 113), (.tmp 116)]⟩, []⟩, ⟨0, ⟨(some 118), none, (.pure .pick), [(.tmp 112), (.tmp 117), (.const (.bool false))]⟩, []⟩, ⟨0, ⟨(some 119), none, (.pure .id), [(.tmp 118)]⟩, []⟩, ⟨0, ⟨(some 120), (some (119, true)), (.call F_skolemlaw35_head), []⟩, []⟩, ⟨0, ⟨(some 121), none, (.pure .pick), [(.tmp 119), (.tmp 120), (.const (.bool false))]⟩, []⟩, ⟨0, ⟨(some 4), none, (.pure .id), [(.tmp 121)]⟩, []⟩]) .ret))))))))⟩
theorem c_skolemlaw35_PuzzleValues : compF Try.prog Try.f6 = some G_skolemlaw35_PuzzleValues := by kernel_rfl
theorem gc_skolemlaw35_PuzzleValues {args : List DV} {σ : GS} {Post : DV → GS → Prop} (h : @exB Try.prog ⟨G_skolemlaw35_PuzzleValues.body⟩ (genv0 args G_skolemlaw35_PuzzleValues.ntmps) σ ⟨@gretB G_skolemlaw35_PuzzleValues.results ⟨Post⟩⟩) : GCall Try.prog F_skolemlaw35_PuzzleValues args σ Post := gcall_ofB seatfollows Try.func6 (by kernel_rfl) c_skolemlaw35_PuzzleValues h
abbrev G_skolemlaw35_PuzzleTruth : GFun := ⟨49, [(.tmp 2)], (.seq (.region [⟨0, ⟨(some 1), none, (.new .box), [(.tmp 0)]⟩, []⟩, ⟨0, ⟨(some 2), none, (.pure .id), [(.const (.bool false))]⟩, []⟩]) (.seq (.seq (.region [⟨0, ⟨(some 8), none, (.load (.load 4 true)), [(.tmp 1)]⟩, []⟩, ⟨0, ⟨(some 9), none, (.call F_skolemlaw35_large), [(.tmp 8)]⟩, []⟩, ⟨0, ⟨(some 10), none, (.pure .id), [(.tmp 9)]⟩, []⟩, ⟨0, ⟨(some 11), (some (10, false)), (.load (.load 4 true)), [(.tmp 1)]⟩, []⟩, ⟨0, ⟨(some 12), (some (10, false)), (.call F_skolemref35_May), [(.tmp 11)]⟩, []⟩, ⟨0, ⟨(some 13), (some (10, false)), (.pure (.un .not)), [(.tmp 12)]⟩, []⟩, ⟨0, ⟨(some 14), none, (.pure .pick), [(.tmp 10), (.const (.bool true)), (.tmp 13)]⟩, []⟩]) (.cond (.tmp 14) (.seq (.region [⟨0, ⟨(some 15), none, (.call F_skolemlaw35_head), []⟩, []⟩, ⟨0, ⟨(some 2), none, (.pure .id), [(.tmp 15)]⟩, []⟩]) .ret) .skip)) (.seq (.region [⟨0, ⟨(some 17), none, (.load (.load 4 true)), [(.tmp 1)]⟩, []⟩, ⟨0, ⟨(some 18), none, (.call F_puzzle_Net), [(.tmp 17)]⟩, []⟩, ⟨0, ⟨(some 16), none, (.pure .id), [(.tmp 18)]⟩, []⟩, ⟨0, ⟨(some 19), none, (.pure (.extract 0)), [(.tmp 16)]⟩, []⟩, ⟨0, ⟨(some 20), none, (.pure (.extract 1)), [(.tmp 16)]⟩, []⟩, ⟨0, ⟨(some 3), none, (.new (.alloc [.nils, .nils, (.int .i64 0)])), []⟩, []⟩, ⟨0, ⟨none, none, (.imp (.store 3)), [(.tmp 3), (.tmp 19)]⟩, []⟩, ⟨0, ⟨(some 4), none, (.pure .id), [(.tmp 20)]⟩, []⟩]) (.seq (.region [⟨0, ⟨(some 22), none, (.load (.load 4 true)), [(.tmp 1)]⟩, []⟩, ⟨0, ⟨(some 23), none, (.call F_puzzle_Wins), [(.tmp 22)]⟩, []⟩, ⟨0, ⟨(some 21), none, (.pure .id), [(.tmp 23)]⟩, []⟩, ⟨0, ⟨(some 24), none, (.pure (.extract 0)), [(.tmp 21)]⟩, []⟩, ⟨0, ⟨(some 25), none, (.pure (.extract 1)), [(.tmp 21)]⟩, []⟩, ⟨0, ⟨(some 5), none, (.pure .id), [(.tmp 24)]⟩, []⟩, ⟨0, ⟨(some 6), none, (.pure .id), [(.tmp 25)]⟩, []⟩]) (.seq (.region [⟨0, ⟨(some 26), none, (.pure (.faddr 0)), [(.tmp 3)]⟩, []⟩, ⟨0, ⟨(some 27), none, (.load (.load 1 false)), [(.tmp 26)]⟩, []⟩, ⟨0, ⟨(some 28), none, (.call F_skolemref03_Flat), [(.tmp 27)]⟩, []⟩, ⟨0, ⟨(some 7), none, (.pure .id), [(.tmp 28)]⟩, []⟩]) (.seq (.seq (.region [⟨0, ⟨(some 29), none, (.pure .id), [(.tmp 7)]⟩, []⟩, ⟨0, ⟨(some 30), none, (.pure .len), [(.tmp 29)]⟩, []⟩, ⟨0, ⟨(some 31), none, (.pure (.bin .gtr .none)), [(.tmp 30), (.const (.int .i64 6))]⟩, []⟩]) (.cond (.tmp 31) (.seq (.region [⟨0, ⟨(some 32), none, (.call F_skolemlaw35_head), []⟩, []⟩, ⟨0, ⟨(some 2), none, (.pure .id), [(.tmp 32)]⟩, []⟩]) .ret) .skip)) (.seq (.region [⟨0, ⟨(some 33), none, (.pure .id), [(.tmp 4)]⟩, []⟩, ⟨0, ⟨(some 34), none, (.pure (.bin .eql .none)), [(.tmp 33), (.const (.int .i64 0))]⟩, []⟩, ⟨0, ⟨(some 35), none, (.pure .id), [(.tmp 34)]⟩, []⟩, ⟨0, ⟨(some 36), (some (35, true)), (.pure .id), [(.tmp 6)]⟩, []⟩, ⟨0, ⟨(some 37), (some (35, true)), (.pure (.bin .eql .none)), [(.tmp 36), (.const (.int .i64 0))]⟩, []⟩, ⟨0, ⟨(some 38), none, (.pure .pick), [(.tmp 35), (.tmp 37), (.const (.bool false))]⟩, []⟩, ⟨0, ⟨(some 39), none, (.pure .id), [(.tmp 38)]⟩, []⟩, ⟨0, ⟨(some 40), (some (39, true)), (.load (.load 3 true)), [(.tmp 3)]⟩, []⟩, ⟨0, ⟨(some 41), (some (39, true)), (.pure .id), [(.tmp 7)]⟩, []⟩, ⟨0, ⟨(some 42), (some (39, true)), (.call F_skolemlaw35_game), [(.tmp 40), (.tmp 41), (.const (.int .i64 0)), (.const .nils)]⟩, []⟩, ⟨0, ⟨(some 43), (some (39, true)), (.pure .id), [(.tmp 5)]⟩, []⟩, ⟨0, ⟨(some 44), (some (39, true)), (.pure (.bin .eql .bool)), [(.tmp 42), (.tmp 43)]⟩, []⟩, ⟨0, ⟨(some 45), none, (.pure .pick), [(.tmp 39), (.tmp 44), (.const (.bool false))]⟩, []⟩, ⟨0, ⟨(some 46), none, (.pure .id), [(.tmp 45)]⟩, []⟩, ⟨0, ⟨(some 47), (some (46, true)), (.call F_skolemlaw35_head), []⟩, []⟩, ⟨0, ⟨(some 48), none, (.pure .pick), [(.tmp 46), (.tmp 47), (.const (.bool false))]⟩, []⟩, ⟨0, ⟨(some 2), none, (.pure .id), [(.tmp 48)]⟩, []⟩]) .ret)))))))⟩
theorem c_skolemlaw35_PuzzleTruth : compF Try.prog Try.f7 = some G_skolemlaw35_PuzzleTruth := by kernel_rfl
theorem gc_skolemlaw35_PuzzleTruth {args : List DV} {σ : GS} {Post : DV → GS → Prop} (h : @exB Try.prog ⟨G_skolemlaw35_PuzzleTruth.body⟩ (genv0 args G_skolemlaw35_PuzzleTruth.ntmps) σ ⟨@gretB G_skolemlaw35_PuzzleTruth.results ⟨Post⟩⟩) : GCall Try.prog F_skolemlaw35_PuzzleTruth args σ Post := gcall_ofB seatfollows Try.func7 (by kernel_rfl) c_skolemlaw35_PuzzleTruth h
end Go.Gh
namespace Go.Gh
open Go.RowKit Go.Proofs
set_option linter.unusedVariables false
set_option linter.unusedSimpArgs false
set_option maxRecDepth 20000
set_option maxHeartbeats 8000000
theorem SInt.rd {σ : GS} {s : DV} {xs : List Int} (h : SInt σ s xs) : Rd σ (fun _ => True) s (fints xs) := by
  rcases h with ⟨rfl | rfl, rfl⟩ | ⟨id, off, cap, ro, cs, rfl, h1, h2, h3⟩
  · exact .nils 1
  · exact .same _
  · have := Rd.slice (σ := σ) (ok := fun _ => True) (id := id) (off := off) (sz := 1) (cap := cap) (es := xs.map eint) trivial h1 (by simpa using h2) (fun e he => by obtain ⟨x, _, rfl⟩ := List.mem_map.1 he; rfl) (by
      have hr : (cs.drop off).take (xs.length * 1) = ints xs := by
        have := (SInt.read (σ := σ) (s := .slice id off xs.length 1 cap) (.inr ⟨id, off, cap, ro, cs, rfl, h1, h2, h3⟩)).1
        by_cases h0 : xs.length = 0
        · have : xs = [] := List.length_eq_zero_iff.1 h0
          subst this; simp
        · simp only [gread, if_neg h0, if_pos, h1] at this
          rw [if_pos h2] at this
          simpa using this
      rw [List.length_map, hr, flat_eints]
      exact Rds.refl _)
    simpa using this
theorem Eval0_ok {s : DV} {a : List Int} {σ : GS} {Post : DV → GS → Prop} (ha : SInt σ s a) (hl : a.length < 2 ^ 60) (h6 : I64 a) (hn : normal a = true) (h : Post (.tuple [.bool false, .int .i64 0]) σ) : GCall Try.prog 46 [.agg [.nils, .nils], .int .i64 0, s] σ Post := by
  refine GCall.borrow (args' := [AigP.enc ⟨[], []⟩, .int .i64 0, fints a]) (r := .tuple [.bool false, .int .i64 0]) (.cons (.agg (.cons (.nils 1) (.cons (.nils 2) .nil))) (.cons (.same _) (.cons ha.rd .nil))) (by simp) rfl (aig_Eval_ok ⟨by simp, by simp⟩ hl h6 ?_) h
  have : AigP.all ⟨[], []⟩ [0] = true := by decide
  simp [AigP.eval, this, hn]
  rfl
theorem Play_ok {z : Puz} {T : Nat} {a : List Int} {pl go s : DV} {σ : GS} {Post : DV → GS → Prop} (hz : PuzV σ pl go z) (hfi : Fine z) (hgl : z.goals.length < 2 ^ 60) (hT : z.moves = T) (ha : SInt σ s a) (hl : a.length < 2 ^ 60) (h6 : I64 a) (hn : normal a = true)
    (h : ∀ v σ', Fr σ.length σ σ' → OInt σ.length σ' v ((List.range (T + 1)).map (posZ z (widthZ z) a)) → Post (.tuple [v, .int .i64 0]) σ') : GCall Try.prog F_puzzle_Play [.agg [pl, .int .i64 z.start, go, .int .i64 z.moves], s] σ Post := by
  refine gc_puzzle_Play ?_
  obtain ⟨hW2, hWl⟩ := width_fine hfi
  have hf0 : Fr σ.length σ (σ ++ [GObj.row false [pl, .int .i64 z.start, go, .int .i64 z.moves]]) := Fr.rfl'.app _
  simp [G_puzzle_Play, genv0, List.replicate]
  have hl0 : (σ ++ [GObj.row false [pl, .int .i64 z.start, go, .int .i64 z.moves]]).length = σ.length + 1 := by simp
  generalize hσ0 : σ ++ [GObj.row false [pl, .int .i64 z.start, go, .int .i64 z.moves]] = σ0 at *
  refine open_ok (hz.fr hf0) hfi hgl fun σ1 hf1 => ?_
  have hl1 := hf1.len
  have hf01 := hf0.trans (hf1.mono (by omega))
  have hpf := hz.places.flat
  have hgf := hz.goals.flat
  simp [hpf, hgf, gfill, -gp_build, show gpure (.build [.nils, .nils] []) [] = some (.agg [.nils, .nils]) from rfl]
  have hb2 : (σ1 ++ [GObj.row false [pl, .int .i64 z.start, go, .int .i64 z.moves, .int .i64 (widthZ z : Int)]])[σ1.length]? = some (.row false [pl, .int .i64 z.start, go, .int .i64 z.moves, .int .i64 (widthZ z : Int)]) := by simp
  have hf02 := hf01.app [GObj.row false [pl, .int .i64 z.start, go, .int .i64 z.moves, .int .i64 (widthZ z : Int)]]
  have hl2 : (σ1 ++ [GObj.row false [pl, .int .i64 z.start, go, .int .i64 z.moves, .int .i64 (widthZ z : Int)]]).length = σ1.length + 1 := by simp
  generalize hσ2 : σ1 ++ [GObj.row false [pl, .int .i64 z.start, go, .int .i64 z.moves, .int .i64 (widthZ z : Int)]] = σ2 at *
  have ha2 := ha.fr hf02
  refine Eval0_ok ha2 hl h6 hn ?_
  simp
  have hmm : galloc .mmap [] = some (.mp [], fun id => .map id) := rfl
  simp [hmm, ha2.len]
  refine gfor a.length (fun i e σ' => KeysM σ' σ2.length (a.take i) ∧ σ'.length = σ2.length + 1 ∧ Fr σ2.length σ2 σ' ∧ e = mkEnv 44 [(6, .ptr σ1.length 0), (10, .map σ2.length), (31, s), (32, .int .i64 a.length), (33, .int .i64 i)]) _ ?_ ⟨⟨[], by simp, by simp, by simp⟩, by simp, by simp, rfl⟩ ?_
  · simp [mkEnv, List.replicate]
  rintro i _ σ3 hi ⟨hk, hl3, hf3, rfl⟩
  simp [mkEnv, List.replicate]
  by_cases hlt : i < a.length
  · obtain ⟨y, hy⟩ := get_lt hlt
    have ha3 := ha2.fr hf3
    obtain ⟨id, off, p1, p2⟩ := ha3.get (k := .i64) hy
    obtain ⟨σ4, k1, k2, k3, k4⟩ := keys_set hk y
    simp [hlt, p1, p2, k1, wrap_suc (show i < _ by omega)]
    refine forK_go _ hlt (by simp [mkEnv, List.replicate]) ⟨by rw [take_get hy]; exact k2, by omega, ⟨by omega, fun j hj => ?_⟩, rfl⟩
    rw [k4 j (by omega)]; exact hf3.get j hj
  · have : i = a.length := by omega
    subst this
    rw [List.take_length] at hk
    simp [ld_agg (hf3.at_ hb2)]
    refine play_ok (hz.fr (hf02.trans (hf3.mono (by omega)))) hfi hT hW2 hk fun v σ4 hf4 ho => ?_
    simp
    exact h v σ4 ((hf02.trans (hf3.mono (by omega))).trans (hf4.mono (by omega))) (ho.weaken (by omega))
end Go.Gh
namespace Go.Gh
open Go.Proofs
theorem head_true : sayTrue Try.prog 100 9 [] [] = true := by kernel_rfl
theorem head_ok {σ : GS} {Post : DV → GS → Prop} (h : Post (.bool true) σ) : GCall Try.prog 9 [] σ Post := (sayTrue_ok tryfollows head_true).closed h
end Go.Gh
namespace Go.Gh
open Go.RowKit Go.Proofs
set_option linter.unusedVariables false
set_option linter.unusedSimpArgs false
set_option maxRecDepth 20000
set_option maxHeartbeats 8000000
theorem values_ok {z : Puz} {a : List Int} {pl go s : DV} {σ : GS} {Post : DV → GS → Prop} (hz : PuzV σ pl go z) (hsm : PuzSm z) (hg20 : z.goals.length < 2 ^ 60) (ha : SInt σ s a) (hl : a.length < 2 ^ 60) (h6 : I64 a)
    (hlaw : Fine z → z.goals.length < 2 ^ 20 → ∀ T : Nat, z.moves = T → normal a = true → NetSm (netZ z (widthZ z) T) ∧ mayNet (netZ z (widthZ z) T) = true ∧ evalNet (netZ z (widthZ z) T) a = ((List.range (T + 1)).map (posZ z (widthZ z) a)).any z.goals.contains)
    (hgs : Fine z → z.goals.length < 2 ^ 20)
    (h : ∀ σ', Post (.bool true) σ') : GCall Try.prog F_skolemlaw35_PuzzleValues [.agg [pl, .int .i64 z.start, go, .int .i64 z.moves], s] σ Post := by
  refine gc_skolemlaw35_PuzzleValues ?_
  have hb0 := puz_box σ pl (.int .i64 z.start) go (.int .i64 z.moves)
  have hf0 : Fr σ.length σ (σ ++ [GObj.row false [pl, .int .i64 z.start, go, .int .i64 z.moves]]) := Fr.rfl'.app _
  simp [G_skolemlaw35_PuzzleValues, genv0, List.replicate]
  have hl0 : (σ ++ [GObj.row false [pl, .int .i64 z.start, go, .int .i64 z.moves]]).length = σ.length + 1 := by simp
  generalize hσ0 : σ ++ [GObj.row false [pl, .int .i64 z.start, go, .int .i64 z.moves]] = σ0 at *
  refine large_ok (hz.fr hf0) hsm fun lg σ1 hf1 => ?_
  have hl1 := hf1.len
  have hb1 := hf1.at_ hb0
  have hf01 := hf0.trans (hf1.mono (by omega))
  have hhead : ∀ (k : Bx (DV → GS → Prop)) σ', k.val (.bool true) σ' → @callB Try.prog 9 [] σ' k := fun k σ' hk => head_ok hk
  have hlen := (ha.fr hf01).len
  cases lg with
  | true =>
    simp
    refine head_ok ?_
    simp
    exact h _
  | false =>
    by_cases h100 : 100 < a.length
    · have : (100 : Int) < a.length := by omega
      simp [hlen, this]
      refine head_ok ?_
      simp
      exact h _
    have h100' : ¬ (100 : Int) < a.length := by omega
    simp [hlen, h100', ld_agg hb1]
    refine refMay_ok (hz.fr hf01) hsm fun b σ2 hf2 hfi => ?_
    have hl2 := hf2.len
    have hb2 := hf2.at_ hb1
    have hf02 := hf01.trans (hf2.mono (by omega))
    cases b with
    | false =>
      simp
      refine head_ok ?_
      simp
      exact h _
    | true =>
      have hfi := hfi rfl
      simp
      refine normal_ok (ha.fr hf02) hl ?_
      by_cases hn : normal a = true
      · simp [hn, ld_agg hb2]
        obtain ⟨T, hT⟩ : ∃ T : Nat, z.moves = T := ⟨z.moves.toNat, by have := hfi.mv0; omega⟩
        have hT8 : T ≤ 8 := by have := hfi.mv1; omega
        obtain ⟨hsmN, hmay, hev⟩ := hlaw hfi (hgs hfi) T hT hn
        refine net_ok (hz.fr hf02) hfi (hgs hfi) fun p g σ3 T' hT' hf3 hnv => ?_
        have hTT : T' = T := by omega
        subst hTT
        have hl3 := hf3.len
        have hb3 := hf3.at_ hb2
        have hf03 := hf02.trans (hf3.mono (by omega))
        have hpf := hnv.pre.flat
        have hgf := hnv.gates.flat
        simp [hpf, hgf]
        have e4 : (σ3 ++ [GObj.row false [p, g, .int .i64 (netZ z (widthZ z) T').out]])[σ3.length]? = some (.row false [p, g, .int .i64 (netZ z (widthZ z) T').out]) := by simp
        have hb4 := getE_append (τ := [GObj.row false [p, g, .int .i64 (netZ z (widthZ z) T').out]]) hb3
        have hf04 := hf03.app [GObj.row false [p, g, .int .i64 (netZ z (widthZ z) T').out]]
        have hnv4 := hnv.fr (Fr.rfl'.app [GObj.row false [p, g, .int .i64 (netZ z (widthZ z) T').out]])
        have hl4 : (σ3 ++ [GObj.row false [p, g, .int .i64 (netZ z (widthZ z) T').out]]).length = σ3.length + 1 := by simp
        generalize hσ4 : σ3 ++ [GObj.row false [p, g, .int .i64 (netZ z (widthZ z) T').out]] = σ4 at *
        simp [ld_agg hb4]
        refine Play_ok (hz.fr hf04) hfi hg20 hT (ha.fr hf04) hl h6 hn fun lv σ5 hf5 hlv => ?_
        have hl5 := hf5.len
        have hb5 := hf5.at_ hb4
        have e5 := hf5.at_ e4
        have hf05 := hf04.trans (hf5.mono (by omega))
        have hlv' := hlv.sl
        obtain ⟨L, hL⟩ : ∃ L, (List.range (T' + 1)).map (posZ z (widthZ z) a) = L := ⟨_, rfl⟩
        rw [hL] at hlv' hev
        have hLl : L.length = T' + 1 := by rw [← hL]; simp
        have hLg : ∀ i, i < T' + 1 → L[i]? = some (posZ z (widthZ z) a i) := fun i hi => by rw [← hL]; simp [hi]
        have hw : IntKind.i64.wrap ((T' : Int) + 1) = T' + 1 := by rw [wrap_small] <;> omega
        obtain ⟨id0, off0, r1, r2⟩ := hlv'.get (k := .i64) (hLg 0 (by omega))
        simp only [posZ] at r2
        simp [hlv'.len, hLl, ld_at hb5, hT, hw, r1, r2]
        simp at r1
        simp [r1, r2, ld_at hb5]
        refine gfor T' (fun i e σ' => σ' = σ5 ∧ e = mkEnv 122 [(1, s), (2, .ptr σ.length 0), (5, .ptr σ3.length 0), (7, lv), (9, .int .i64 ((i : Int) + 1))]) _ ?_ ⟨rfl, rfl⟩ ?_
        · simp [mkEnv, List.replicate]
        rintro i _ _ hi ⟨rfl, rfl⟩
        simp [mkEnv, List.replicate, hlv'.len, hLl]
        by_cases hlt : i < T'
        · have hlt' : (i : Int) + 1 < (T' : Int) + 1 := by omega
          have hw1 : IntKind.i64.wrap (i : Int) = i := by rw [wrap_small] <;> omega
          have hw2 : IntKind.i64.wrap ((i : Int) + 1 + 1) = (i : Int) + 1 + 1 := by rw [wrap_small] <;> omega
          obtain ⟨id1, off1, p1, p2⟩ := hlv'.get (k := .i64) (hLg i (by omega))
          obtain ⟨id2, off2, q1, q2⟩ := hlv'.get (k := .i64) (hLg (i + 1) (by omega))
          obtain ⟨hp0, hp1⟩ := posZ_in hfi (widthZ z) a i
          obtain ⟨x, hx⟩ := get_lt (xs := z.places) (i := (posZ z (widthZ z) a i).toNat) (by omega)
          obtain ⟨idp, offp, tv, t1, t2, t3, t4, t5⟩ := plc_get (hz.fr hf05).places (k := .i64) hx
          rw [show (((posZ z (widthZ z) a i).toNat : Nat) : Int) = posZ z (widthZ z) a i by omega] at t1
          rw [show (((i + 1 : Nat)) : Int) = (i : Int) + 1 by omega] at q1
          simp [hlt, ld_at hb5, hw1, p1, p2, t1, t3, q1, q2]
          have hto := hfi.to4 x (List.mem_of_getElem? hx)
          refine has_ok t4 (by omega) ?_
          have hst : posZ z (widthZ z) a (i + 1) = if x.to.length = 0 then posZ z (widthZ z) a i else x.to.getD (cnum (choiceV (widthZ z) ((i : Int) + 1) x.mine) a (widthZ z) % x.to.length) 0 := by simp only [posZ, stepP, hx]
          by_cases h0 : x.to.length = 0
          · rw [if_pos h0] at hst
            have hto0 : x.to = [] := List.length_eq_zero_iff.1 h0
            simp [hto0, hst, t4.len, h0, p1, p2, q1, q2, hw1, hw2]
            exact forK_go _ hlt (by simp [mkEnv, List.replicate]) ⟨rfl, rfl⟩
          · rw [if_neg h0] at hst
            have hlt2 : cnum (choiceV (widthZ z) ((i : Int) + 1) x.mine) a (widthZ z) % x.to.length < x.to.length := Nat.mod_lt _ (by omega)
            have hm : x.to.contains (posZ z (widthZ z) a (i + 1)) = true := by
              rw [hst, List.contains_iff_mem, List.getD_eq_getElem?_getD, List.getElem?_eq_getElem hlt2]
              exact List.getElem_mem hlt2
            simp only [hm]
            simp [hw2]
            exact forK_go _ hlt (by simp [mkEnv, List.replicate]) ⟨rfl, rfl⟩
        · have hnlt : ¬ (i : Int) + 1 < (T' : Int) + 1 := by omega
          simp [hlt, ld_agg e5]
          refine eval_ok (hnv4.fr hf5) (ha.fr hf05) hsmN hl fun σ6 hf6 => ?_
          have hb6 := hf6.at_ hb5
          have hf06 := hf05.trans (hf6.mono (by have := hf5.len; omega))
          simp only [hmay, hn, hev]
          simp [ld_agg hb6]
          refine reaches_ok (hz.fr hf06) (hlv'.fr hf6) hg20 (by omega) fun σ7 hf7 => ?_
          simp
          refine head_ok ?_
          simp
          exact h _
      · simp [hn]
        refine head_ok ?_
        simp
        exact h _
end Go.Gh
namespace Go.Gh
open Go.RowKit Go.Proofs
set_option linter.unusedVariables false
set_option linter.unusedSimpArgs false
set_option maxRecDepth 20000
set_option maxHeartbeats 8000000
abbrev eplc (x : Plc) : List DV := [.bool x.mine, fints x.to]
abbrev fplcs (l : List Plc) : DV := .fsl 2 (l.map eplc)
abbrev epuz (z : Puz) : List DV := [fplcs z.places, .int .i64 z.start, fints z.goals, .int .i64 z.moves]
@[simp] theorem closed_fplcs (l : List Plc) : (fplcs l).closed = true := closedss_map fun x _ => by simp
theorem Sl.rd_plc {σ : GS} {s : DV} {xs : List Plc} (h : Sl 2 RPlc σ s xs) : Rd σ (fun _ => True) s (fplcs xs) := by
  rcases h with ⟨rfl | rfl, rfl⟩ | ⟨id, off, cap, ro, cs, rfl, h1, h2, h3⟩
  · exact .nils 2
  · exact .same _
  · have key : ∀ (xs : List Plc) (c : List DV), c.length = xs.length * 2 → (∀ (i : Nat) (x : Plc), xs[i]? = some x → RPlc σ ((c.drop (i * 2)).take 2) x) → Rds σ (fun _ => True) c (xs.map eplc).flatten := by
      intro xs
      induction xs with
      | nil => intro c hc _; have : c = [] := List.length_eq_zero_iff.1 (by simpa using hc); subst this; exact .nil
      | cons x xs ih =>
        intro c hc hr
        obtain ⟨s, hs, hv⟩ := hr 0 x rfl
        match c, hc with
        | a :: b :: c, hc =>
          simp at hs
          obtain ⟨rfl, rfl⟩ := hs
          refine .cons (.same _) (.cons hv.rd (ih c (by simp at hc; omega) fun i y hy => ?_))
          have := hr (i + 1) y (by simpa using hy)
          rw [Nat.add_mul] at this
          simpa using this
        | [a], hc => simp at hc; omega
        | [], hc => simp at hc
    have := Rd.slice (σ := σ) (ok := fun _ => True) (id := id) (off := off) (sz := 2) (cap := cap) (es := xs.map eplc) trivial h1 (by simpa using h2) (fun e he => by obtain ⟨x, _, rfl⟩ := List.mem_map.1 he; rfl) (by
      rw [List.length_map]
      refine key xs _ (by simp; omega) fun i x hi => ?_
      have hlt := get_dom hi
      have := h3 i x hi
      rwa [List.drop_take, List.drop_drop, List.take_take, Nat.min_eq_left (by omega)])
    simpa using this
theorem PuzV.rd {σ : GS} {pl go : DV} {z : Puz} (h : PuzV σ pl go z) : Rds σ (fun _ => True) [pl, .int .i64 z.start, go, .int .i64 z.moves] (epuz z) :=
  .cons h.places.rd_plc (.cons (.same _) (.cons h.goals.rd (.cons (.same _) .nil)))
theorem Rds.snoc {σ : GS} {ok : Nat → Prop} {a b : DV} : ∀ {l l' : List DV}, Rds σ ok l l' → Rd σ ok a b → Rds σ ok (l ++ [a]) (l' ++ [b])
  | _, _, .nil, h => .cons h .nil
  | _, _, .cons h1 h2, h => .cons h1 (Rds.snoc h2 h)
@[simp] theorem gres_cell (env : Env) (σ : GS) (t : Tmp) (n : Nat) (b : Bool) : gresL env σ [.cell t n b] = (gload (.load n b) [env[t]?.getD (.tuple [])] σ).map fun v => [v] := by
  simp only [gresL, gres1, garg_tmp]; cases gload (.load n b) [env[t]?.getD (.tuple [])] σ <;> rfl
def goalsB (gs : List Int) : List Bool := gs.foldl (fun s v => s.set v.toNat true) (List.replicate 16 false)
theorem goalsB_len (gs : List Int) : (goalsB gs).length = 16 := by
  have : ∀ (l : List Int) (s : List Bool), (l.foldl (fun s v => s.set v.toNat true) s).length = s.length := by
    intro l; induction l with
    | nil => intro s; rfl
    | cons v l ih => intro s; rw [List.foldl_cons, ih]; simp
  unfold goalsB; rw [this]; simp
theorem scalars_bools (l : List Bool) : scalars (bools l) = true := by induction l <;> simp_all [scalars, DV.scalar]
theorem closeds_bools (l : List Bool) : closeds (bools l) = true := by induction l <;> simp_all [closeds, DV.closed]
theorem board_goals_ok {z : Puz} {W : Nat} {σ : GS} {Post : DV → GS → Prop} (hg : ∀ g ∈ z.goals, 0 ≤ g ∧ g < 16) (hl : z.goals.length < 2 ^ 60) (h : Post (.agg (bools (goalsB z.goals))) σ) : GCall Try.prog F_puzzle_board_goals [.agg (epuz z ++ [.int .i64 (W : Int)])] σ Post := by
  refine GCall.say (r := .agg (bools (goalsB z.goals))) ?_ (closeds_bools _) h
  refine gc_puzzle_board_goals ?_
  simp [G_puzzle_board_goals, genv0, List.replicate]
  refine gfor z.goals.length (fun i e σ' => σ' = σ ++ [.row false (epuz z ++ [.int .i64 (W : Int)]), .row false (bools (goalsB (z.goals.take i)))] ∧ e = mkEnv 17 [(2, .ptr (σ.length + 1) 0), (7, fints z.goals), (8, .int .i64 z.goals.length), (9, .int .i64 i)]) _ ?_ ⟨rfl, rfl⟩ ?_
  · simp [mkEnv, List.replicate]
  rintro i _ _ hi ⟨rfl, rfl⟩
  simp [mkEnv, List.replicate]
  by_cases hlt : i < z.goals.length
  · obtain ⟨y, hy⟩ := nth_lt hlt
    obtain ⟨y0, y1⟩ := hg y (List.mem_of_getElem? hy)
    have hlen := goalsB_len (z.goals.take i)
    have hst : (bools (goalsB (z.goals.take i))).set y.toNat (.bool true) = bools (goalsB (z.goals.take (i + 1))) := by
      rw [take_get (show z.goals[i]? = some y from hy)]
      unfold goalsB
      rw [List.foldl_append]
      simp [bools, List.map_set]
    have hlt2 : y.toNat < (bools (goalsB (z.goals.take i))).length := by simp [hlen]; omega
    have hz := st_zero (τ := []) (v := .bool true) hlt2 rfl
    rw [hst] at hz
    simp [hlt, hy, y0, y1, hz, wrap_suc (show i < _ by omega)]
    exact forK_go _ hlt (by simp [mkEnv, List.replicate]) ⟨rfl, rfl⟩
  · have : i = z.goals.length := by omega
    subst this
    have hlen := goalsB_len z.goals
    have hall : (bools (goalsB z.goals)).all DV.flat = true := by simp [bools]
    have hz := st_zero_agg (n := 16) (τ := []) (cs := bools (goalsB z.goals)) (zs := bools (goalsB z.goals)) (by simp [hlen]) (by simp [hlen]) hall
    have htk : (bools (goalsB z.goals)).take 16 = bools (goalsB z.goals) := List.take_of_length_le (by simp [hlen])
    try simp at hz
    try simp at htk
    simp [hlen, htk, hz]
end Go.Gh
namespace Go.Gh
open Go.RowKit
set_option linter.unusedVariables false
set_option linter.unusedSimpArgs false
set_option maxRecDepth 20000
/-- A gate that may stand at place i. -/
def WFg (D : Int) (i : Nat) (g : Gat) : Prop := g.var = D + 1 + i ∧ (g.kind = 1 ∨ g.kind = 2) ∧ ∀ l ∈ g.ins, l ≠ 0 ∧ -(D + 1 + i) < l ∧ l < D + 1 + i
def WF (D : Int) (gs : List Gat) : Prop := ∀ (i : Nat) (g : Gat), gs[i]? = some g → WFg D i g
theorem WF.snoc {D : Int} {gs : List Gat} {g : Gat} (h : WF D gs) (k : WFg D gs.length g) : WF D (gs ++ [g]) := by
  intro i x hx
  rcases Nat.lt_trichotomy i gs.length with hi | rfl | hi
  · rw [List.getElem?_append_left hi] at hx; exact h i x hx
  · rw [List.getElem?_append_right (Nat.le_refl _)] at hx; simp at hx; subst hx; exact k
  · rw [List.getElem?_eq_none (by simp; omega)] at hx; cases hx
/-- The value of a variable behind gates. -/
def valG (S : List Bool) (gs : List Gat) (x : Int) : Bool := (gs.foldl gtV S).getD x.toNat false
theorem valG_snoc {S : List Bool} {gs : List Gat} {g : Gat} (hS : S.length = 65537) (h0 : 0 < g.var) (h1 : g.var < 65537) : valG S (gs ++ [g]) g.var = gateV (gs.foldl gtV S) g ∧ ∀ x, 0 ≤ x → x < g.var → valG S (gs ++ [g]) x = valG S gs x := by
  have hl : (gs.foldl gtV S).length = 65537 := by rw [gtV_len, hS]
  simp only [valG, List.foldl_append, List.foldl_cons, List.foldl_nil, gtV]
  refine ⟨?_, fun x hx hlt => ?_⟩
  · rw [List.getD_eq_getElem?_getD, List.getElem?_set_self (by omega)]; rfl
  · rw [List.getD_eq_getElem?_getD, List.getElem?_set_ne (by omega), ← List.getD_eq_getElem?_getD]
theorem lit_pos {V : List Bool} {x : Int} (h : 0 < x) : lit V x = V.getD x.toNat false := by
  unfold lit gabs; rw [if_neg (by omega)]; simp [h]
theorem lit_neg {V : List Bool} {x : Int} (h : 0 < x) (h1 : x < 100000) : lit V (-x) = !V.getD x.toNat false := by
  unfold lit gabs
  rw [if_pos (by omega), Int.neg_neg, wrap_small (by omega) (by omega), Int.max_eq_right (by omega)]
  have : decide ((0 : Int) < -x) = false := by simp; omega
  rw [this]; cases V.getD x.toNat false <;> rfl
def Rn (D : Int) (st : NS) : Prop := WF D st.gs ∧ st.next = D + 1 + st.gs.length
/-- What was there keeps its value. -/
def Ex (S : List Bool) (st st' : NS) : Prop := st.next ≤ st'.next ∧ ∀ x, 0 ≤ x → x < st.next → valG S st'.gs x = valG S st.gs x
theorem Ex.refl (S : List Bool) (st : NS) : Ex S st st := ⟨Int.le_refl _, fun _ _ _ => rfl⟩
theorem Ex.trans {S : List Bool} {a b c : NS} (h : Ex S a b) (k : Ex S b c) : Ex S a c := ⟨Int.le_trans h.1 k.1, fun x h0 h1 => (k.2 x h0 (by have := h.1; omega)).trans (h.2 x h0 h1)⟩
def lits (gs : List Gat) : Nat := (gs.map fun g => g.ins.length).sum
theorem lits_snoc (gs : List Gat) (g : Gat) : lits (gs ++ [g]) = lits gs + g.ins.length := by simp [lits]
theorem addG {D : Int} {S : List Bool} {st : NS} (hD : 0 ≤ D ∧ D ≤ 100) (hS : S.length = 65537) (h : Rn D st) (hb : st.gs.length < 30000) {k : Int} {ins : List Int} (hk : k = 1 ∨ k = 2) (hi : ∀ l ∈ ins, l ≠ 0 ∧ -st.next < l ∧ l < st.next) (ways : List Int) :
    Rn D ⟨st.gs ++ [⟨st.next, k, ins⟩], st.next + 1, ways⟩ ∧ Ex S st ⟨st.gs ++ [⟨st.next, k, ins⟩], st.next + 1, ways⟩ ∧ valG S (st.gs ++ [⟨st.next, k, ins⟩]) st.next = if k = 1 then ins.all (lit (st.gs.foldl gtV S)) else ins.any (lit (st.gs.foldl gtV S)) := by
  obtain ⟨h1, h2⟩ := h
  obtain ⟨v1, v2⟩ := valG_snoc (S := S) (gs := st.gs) (g := ⟨st.next, k, ins⟩) hS (by simp only; omega) (by simp only; omega)
  refine ⟨⟨h1.snoc ⟨h2, hk, fun l hl => by rw [← h2]; exact hi l hl⟩, by simp; omega⟩, ⟨by simp only; omega, v2⟩, ?_⟩
  simp only at v1
  rw [v1]
  unfold gateV
  rcases hk with rfl | rfl <;> simp
def orV (S : List Bool) (st : NS) : Bool := st.ways.any (valG S st.gs)
theorem orV_ex {S : List Bool} {st : NS} {gs : List Gat} (hw : ∀ y ∈ st.ways, 0 < y ∧ y < st.next) (h : ∀ x, 0 ≤ x → x < st.next → valG S gs x = valG S st.gs x) : st.ways.any (valG S gs) = orV S st := by
  unfold orV
  have : ∀ l : List Int, (∀ y ∈ l, 0 < y ∧ y < st.next) → l.any (valG S gs) = l.any (valG S st.gs) := by
    intro l
    induction l with
    | nil => intro _; rfl
    | cons y l ih =>
      intro hl
      have hy := hl y (by simp)
      simp only [List.any_cons, h y (by omega) hy.2, ih fun z hz => hl z (by simp [hz])]
  exact this _ hw
/-- The literals of a choice say which number it is. -/
theorem sgn_all {W c : Nat} {t : Int} {m : Bool} {ks : List Int} {V : List Bool} (hW : W ≤ 2) (hc : c < 2 ^ W) (hv : ∀ y ∈ choiceV W t m, 0 < y ∧ y < 100000 ∧ V.getD y.toNat false = ks.contains y) : (sgn c (choiceV W t m) W).all (lit V) = decide (cnum (choiceV W t m) ks W = c) := by
  obtain ⟨l, hl⟩ : ∃ l, choiceV W t m = l := ⟨_, rfl⟩
  have hll : l.length = W := by rw [← hl]; simp [choiceV]
  rw [hl] at hv ⊢
  clear hl
  obtain rfl | rfl | rfl : W = 0 ∨ W = 1 ∨ W = 2 := by omega
  · have : l = [] := List.length_eq_zero_iff.1 hll
    subst this
    have : c = 0 := by simpa using hc
    subst this
    rfl
  · obtain ⟨y, rfl⟩ := List.length_eq_one_iff.1 hll
    obtain ⟨h1, h2, h3⟩ := hv y (by simp)
    simp at h3
    obtain rfl | rfl : c = 0 ∨ c = 1 := by omega
    · simp only [sgn, cnum, List.mapIdx_cons, List.mapIdx_nil, List.all_cons, List.all_nil]
      simp [lit_neg h1 h2, h3]
    · simp only [sgn, cnum, List.mapIdx_cons, List.mapIdx_nil, List.all_cons, List.all_nil]
      simp [lit_pos h1, h3]
  · obtain ⟨y, y', rfl⟩ : ∃ y y', l = [y, y'] := by
      match l, hll with
      | [a, b], _ => exact ⟨a, b, rfl⟩
    obtain ⟨h1, h2, h3⟩ := hv y (by simp)
    simp at h3
    obtain ⟨h1', h2', h3'⟩ := hv y' (by simp)
    simp at h3'
    have hcc : c = 0 ∨ c = 1 ∨ c = 2 ∨ c = 3 := by have : c < 4 := hc; omega
    rcases hcc with rfl | rfl | rfl | rfl <;>
      (simp only [sgn, cnum, List.mapIdx_cons, List.mapIdx_nil, List.all_cons, List.all_nil]
       simp [lit_neg h1 h2, lit_neg h1' h2', lit_pos h1, lit_pos h1', h3, h3']
       by_cases g1 : y ∈ ks <;> by_cases g2 : y' ∈ ks <;> simp [g1, g2])

theorem sgn_mem {W c : Nat} {t : Int} {m : Bool} {x : Int} (h : x ∈ sgn c (choiceV W t m) W) : ∃ y ∈ choiceV W t m, x = y ∨ x = -y := by
  obtain ⟨i, hi⟩ := List.mem_iff_getElem?.1 h
  rw [sgn_get] at hi
  obtain ⟨y, hy, rfl⟩ := Option.map_eq_some_iff.1 hi
  refine ⟨y, List.mem_of_getElem? hy, ?_⟩
  split
  · exact .inr rfl
  · exact .inl rfl
/-- What holds of the state while the ways into a place are gathered. -/
structure Gt (D : Int) (S : List Bool) (st0 st : NS) (b : Nat) (r : Bool) : Prop where
  rn : Rn D st
  ex : Ex S st0 st
  len : st.gs.length ≤ st0.gs.length + b
  lit : lits st.gs ≤ lits st0.gs + 3 * b
  ways : ∀ y ∈ st.ways, 0 < y ∧ y < st.next
  val : orV S st = r
  base : D + 1 ≤ st0.next
theorem stepC_law {D : Int} {S : List Bool} {st0 st : NS} {b : Nat} {r : Bool} (hD : 0 ≤ D ∧ D ≤ 100) (hS : S.length = 65537) {W : Nat} (hW : W ≤ 2) {t w a : Int} {x : Plc} {ks : List Int} {bv : Bool} (h : Gt D S st0 st b r) (hb : st0.gs.length + b < 20000)
    (ha : 0 < a ∧ a < st0.next) (hav : valG S st0.gs a = bv) (hc : ∀ y ∈ choiceV W t x.mine, 0 < y ∧ y ≤ D ∧ valG S st0.gs y = ks.contains y) :
    ∀ k, k ≤ 2 ^ W → Gt D S st0 ((List.range k).foldl (stepC W t w a x) st) (b + k) (r || (bv && decide (cnum (choiceV W t x.mine) ks W < k) && decide (x.to.getD (cnum (choiceV W t x.mine) ks W % x.to.length) 0 = w))) := by
  have hW4 : 2 ^ W ≤ 4 := by
    obtain rfl | rfl | rfl : W = 0 ∨ W = 1 ∨ W = 2 := by omega
    all_goals decide
  intro k
  induction k with
  | zero => intro _; simpa using h
  | succ k ih =>
    intro hk
    have g := ih (by omega)
    rw [List.range_succ, List.foldl_append, List.foldl_cons, List.foldl_nil]
    obtain ⟨sk, hsk⟩ : ∃ sk, (List.range k).foldl (stepC W t w a x) st = sk := ⟨_, rfl⟩
    rw [hsk] at g ⊢
    obtain ⟨n, hn⟩ : ∃ n, cnum (choiceV W t x.mine) ks W = n := ⟨_, rfl⟩
    rw [hn] at g ⊢
    unfold stepC
    by_cases hto : x.to.getD (k % x.to.length) 0 = w
    · rw [if_pos hto]
      have hex := g.ex
      have hbig := g.rn.2
      have hst0 := hex.1
      have hcy : ∀ y ∈ choiceV W t x.mine, 0 < y ∧ y < 100000 ∧ (sk.gs.foldl gtV S).getD y.toNat false = ks.contains y := fun y hy => by
        obtain ⟨p1, p2, p3⟩ := hc y hy
        have hlt : y < st0.next := by have := g.base; omega
        exact ⟨p1, by omega, (hex.2 y (by omega) hlt).trans p3⟩
      have hlen := g.len
      have hsg : (sgn k (choiceV W t x.mine) W).length = W := by rw [sgn_len]; simp [choiceV]
      have hlt0 : D + 1 ≤ sk.next := by omega
      obtain ⟨q1, q2, q3⟩ := addG (S := S) hD hS g.rn (by omega) (k := 1) (.inl rfl) (ins := a :: sgn k (choiceV W t x.mine) W) (fun l hl => by
        rcases List.mem_cons.1 hl with rfl | hl
        · omega
        · obtain ⟨y, hy, hyl⟩ := sgn_mem hl
          obtain ⟨p1, p2, p3⟩ := hc y hy
          rcases hyl with rfl | rfl <;> omega) (sk.ways ++ [sk.next])
      have hval : valG S (sk.gs ++ [⟨sk.next, 1, a :: sgn k (choiceV W t x.mine) W⟩]) sk.next = (bv && decide (n = k)) := by
        rw [q3, if_pos rfl, List.all_cons, lit_pos ha.1, sgn_all hW (by omega) hcy, hn]
        have : (sk.gs.foldl gtV S).getD a.toNat false = bv := (hex.2 a (by omega) ha.2).trans hav
        rw [this]
      refine ⟨q1, hex.trans q2, by simp; omega, ?_, ?_, ?_, g.base⟩
      · rw [lits_snoc]; have := g.lit; simp only [List.length_cons, hsg]; omega
      · intro y hy
        rcases List.mem_append.1 hy with hy | hy
        · have := g.ways y hy; simp only; omega
        · simp at hy; subst hy; simp only; omega
      · unfold orV
        simp only [List.any_append, List.any_cons, List.any_nil, Bool.or_false]
        rw [orV_ex g.ways (fun y h0 h1 => q2.2 y h0 h1), g.val, hval]
        rcases Nat.lt_trichotomy n k with h1 | h1 | h1
        · have : ¬ n = k := by omega
          have e2 : n < k + 1 := by omega
          simp [h1, this, e2]
        · have : ¬ n < k := by omega
          subst h1
          rw [List.getD_eq_getElem?_getD] at hto
          simp [hto]
        · have e1 : ¬ n = k := by omega
          have e2 : ¬ n < k := by omega
          have e3 : ¬ n < k + 1 := by omega
          simp [e1, e2, e3]
    · rw [if_neg hto]
      refine ⟨g.rn, g.ex, by have := g.len; omega, by have := g.lit; omega, g.ways, ?_, g.base⟩
      rw [g.val]
      congr 1
      rcases Nat.lt_trichotomy n k with h1 | h1 | h1
      · have e2 : n < k + 1 := by omega
        simp [h1, e2]
      · have e2 : ¬ n < k := by omega
        subst h1
        rw [List.getD_eq_getElem?_getD] at hto
        simp [hto]
      · have e2 : ¬ n < k := by omega
        have e3 : ¬ n < k + 1 := by omega
        simp [e2, e3]
/-- Where a move leads from a place. -/
def nxZ (W : Nat) (t : Int) (ks : List Int) (v : Nat) (x : Plc) : Int := if x.to.length = 0 then (v : Int) else x.to.getD (cnum (choiceV W t x.mine) ks W % x.to.length) 0
theorem stepV_law {D : Int} {S : List Bool} {st0 st : NS} {b : Nat} {r : Bool} (hD : 0 ≤ D ∧ D ≤ 100) (hS : S.length = 65537) {W : Nat} (hW : W ≤ 2) {t w : Int} {at_ : List Int} {x : Plc} {v : Nat} {ks : List Int} {pos : Int} (h : Gt D S st0 st b r) (hb : st0.gs.length + b + 4 < 20000)
    (ha : 0 < at_.getD v 0 ∧ at_.getD v 0 < st0.next) (hav : valG S st0.gs (at_.getD v 0) = decide (pos = v)) (hc : ∀ y ∈ choiceV W t x.mine, 0 < y ∧ y ≤ D ∧ valG S st0.gs y = ks.contains y) :
    Gt D S st0 (stepV W t w at_ st (x, v)) (b + 4) (r || (decide (pos = v) && decide (nxZ W t ks v x = w))) := by
  have hW4 : 2 ^ W ≤ 4 := by
    obtain rfl | rfl | rfl : W = 0 ∨ W = 1 ∨ W = 2 := by omega
    all_goals decide
  unfold stepV nxZ
  simp only
  by_cases h0 : x.to.length = 0
  · simp only [if_pos h0]
    by_cases hv : (v : Int) = w
    · rw [if_pos hv]
      refine ⟨h.rn, h.ex, by have := h.len; simp only; omega, by have := h.lit; simp only; omega, ?_, ?_, h.base⟩
      · intro y hy
        rcases List.mem_append.1 hy with hy | hy
        · exact h.ways y hy
        · simp at hy; subst hy
          have := h.ex.1
          rw [List.getD_eq_getElem?_getD] at ha
          simp only; omega
      · have hval := h.val
        unfold orV at hval ⊢
        simp only [List.any_append, List.any_cons, List.any_nil, Bool.or_false]
        rw [hval, h.ex.2 _ (by omega) ha.2, hav]
        simp [hv]
    · rw [if_neg hv]
      refine ⟨h.rn, h.ex, by have := h.len; omega, by have := h.lit; omega, h.ways, ?_, h.base⟩
      rw [h.val]; simp [hv]
  · simp only [if_neg h0]
    have g := stepC_law hD hS hW (w := w) (x := x) h (by omega) ha hav hc (2 ^ W) (Nat.le_refl _)
    have hlt := cnum_lt (choiceV W t x.mine) ks W (by omega)
    refine ⟨g.rn, g.ex, by have := g.len; omega, by have := g.lit; omega, g.ways, ?_, g.base⟩
    rw [g.val]; simp [hlt]
theorem into_law {D : Int} {S : List Bool} {st0 : NS} (hD : 0 ≤ D ∧ D ≤ 100) (hS : S.length = 65537) {W : Nat} (hW : W ≤ 2) {t w : Int} {at_ : List Int} {ks : List Int} {pos : Int} (hr : Rn D st0) (hw0 : st0.ways = [])
    : ∀ (l : List (Plc × Nat)) (st : NS) (b : Nat) (r : Bool), Gt D S st0 st b r → st0.gs.length + b + 4 * l.length < 20000 →
    (∀ p ∈ l, (0 < at_.getD p.2 0 ∧ at_.getD p.2 0 < st0.next) ∧ valG S st0.gs (at_.getD p.2 0) = decide (pos = p.2) ∧ ∀ y ∈ choiceV W t p.1.mine, 0 < y ∧ y ≤ D ∧ valG S st0.gs y = ks.contains y) →
    Gt D S st0 (l.foldl (stepV W t w at_) st) (b + 4 * l.length) (r || l.any fun p => decide (pos = p.2) && decide (nxZ W t ks p.2 p.1 = w))
  | [], st, b, r, h, _, _ => by simpa using h
  | (x, v) :: l, st, b, r, h, hb, hp => by
    obtain ⟨h1, h2, h3⟩ := hp (x, v) (by simp)
    simp only [List.length_cons] at hb
    have g := stepV_law (w := w) hD hS hW h (by omega) h1 h2 h3
    have := into_law hD hS hW (w := w) hr hw0 l _ _ _ g (by omega) fun p hpl => hp p (by simp [hpl])
    simp only [List.foldl_cons, List.length_cons, List.any_cons]
    rw [show b + 4 * (l.length + 1) = b + 4 + 4 * l.length by omega, ← Bool.or_assoc]
    exact this
end Go.Gh
namespace Go.Gh
open Go.RowKit
set_option linter.unusedVariables false
set_option linter.unusedSimpArgs false
set_option maxRecDepth 20000
theorem zipIdx_any {l : List Plc} {W : Nat} {t w pos : Int} {ks : List Int} (h0 : 0 ≤ pos) (h1 : pos < l.length) : (l.zipIdx.any fun p => decide (pos = p.2) && decide (nxZ W t ks p.2 p.1 = w)) = decide ((match l[pos.toNat]? with | some x => nxZ W t ks pos.toNat x | none => pos) = w) := by
  obtain ⟨x, hx⟩ := get_lt (xs := l) (i := pos.toNat) (by omega)
  rw [hx]
  simp only
  by_cases h : nxZ W t ks pos.toNat x = w
  · rw [decide_eq_true h, List.any_eq_true]
    refine ⟨(x, pos.toNat), List.mem_zipIdx_iff_getElem?.2 hx, ?_⟩
    simp [h]; omega
  · rw [decide_eq_false h, List.any_eq_false]
    rintro ⟨y, i⟩ hy
    rw [List.mem_zipIdx_iff_getElem?] at hy
    simp only at hy
    simp only [Bool.and_eq_true, decide_eq_true_eq, not_and]
    intro hp
    have : i = pos.toNat := by omega
    subst this
    rw [hx] at hy; cases hy; exact h
/-- The variables of the places at a time: they say where the play stands. -/
structure Tb (D : Int) (S : List Bool) (st : NS) (n k : Nat) (pos : Int) : Prop where
  rn : Rn D st
  wl : st.ways.length = n
  ws : ∀ v : Nat, v < k → (0 < st.ways.getD v 0 ∧ st.ways.getD v 0 < st.next) ∧ valG S st.gs (st.ways.getD v 0) = decide (pos = v)
theorem getD_set_eq {l : List Int} {i : Nat} {y : Int} (h : i < l.length) : (l.set i y).getD i 0 = y := by rw [List.getD_eq_getElem?_getD, List.getElem?_set_self h]; rfl
theorem getD_set_off {l : List Int} {i j : Nat} {y : Int} (h : i ≠ j) : (l.set i y).getD j 0 = l.getD j 0 := by rw [List.getD_eq_getElem?_getD, List.getElem?_set_ne h, ← List.getD_eq_getElem?_getD]
theorem first_law {D : Int} {S : List Bool} {n : Nat} {s : Int} (hD : 0 ≤ D ∧ D ≤ 100) (hS : S.length = 65537) (hn : n ≤ 16) : ∀ k, k ≤ n → Tb D S ((List.range k).foldl (stA s) ⟨[], D + 1, List.replicate n 0⟩) n k s ∧ ((List.range k).foldl (stA s) ⟨[], D + 1, List.replicate n 0⟩).gs.length = k ∧ lits ((List.range k).foldl (stA s) ⟨[], D + 1, List.replicate n 0⟩).gs = 0 := by
  intro k
  induction k with
  | zero => intro _; exact ⟨⟨⟨fun i g h => by simp at h, by simp⟩, by simp, fun v hv => absurd hv (Nat.not_lt_zero _)⟩, rfl, rfl⟩
  | succ k ih =>
    intro hk
    obtain ⟨h, hl, hli⟩ := ih (by omega)
    rw [List.range_succ, List.foldl_append, List.foldl_cons, List.foldl_nil]
    obtain ⟨sk, hsk⟩ : ∃ sk, (List.range k).foldl (stA s) ⟨[], D + 1, List.replicate n 0⟩ = sk := ⟨_, rfl⟩
    rw [hsk] at h hl hli ⊢
    unfold stA
    have hnx := h.rn.2
    obtain ⟨q1, q2, q3⟩ := addG (S := S) hD hS h.rn (by omega) (k := if (k : Int) = s then 1 else 2) (by split <;> simp) (ins := []) (fun l hl => by cases hl) (sk.ways.set k sk.next)
    refine ⟨⟨q1, by simp [h.wl], fun v hv => ?_⟩, by simp [hl], by rw [lits_snoc, hli]; rfl⟩
    by_cases hvk : v = k
    · subst hvk
      simp only
      rw [getD_set_eq (by rw [h.wl]; omega)]
      refine ⟨by omega, ?_⟩
      rw [q3]
      by_cases hs : (v : Int) = s
      · simp [hs]
      · have : ¬ s = v := fun e => hs e.symm
        simp [hs, this]
    · have hlt : v < k := by omega
      obtain ⟨w1, w2⟩ := h.ws v hlt
      simp only
      rw [getD_set_off (fun e => hvk e.symm)]
      exact ⟨by omega, (q2.2 _ (by omega) w1.2).trans w2⟩
theorem row_law {z : Puz} {D : Int} {S : List Bool} {stt : NS} {W : Nat} {t pos : Int} {ks : List Int} (hD : 0 ≤ D ∧ D ≤ 100) (hS : S.length = 65537) (hW : W ≤ 2) (hn : z.places.length ≤ 16) (h0 : 0 ≤ pos) (h1 : pos < z.places.length) (ht : Tb D S stt z.places.length z.places.length pos)
    (hb : stt.gs.length ≤ 15000) (hc : ∀ m : Bool, ∀ y ∈ choiceV W t m, 0 < y ∧ y ≤ D ∧ valG S stt.gs y = ks.contains y) :
    ∀ k, k ≤ z.places.length → ∀ st, (List.range k).foldl (rowStep z W t stt.ways) ⟨stt.gs, stt.next, List.replicate z.places.length 0⟩ = st → Tb D S st z.places.length k (stepP z W ks t pos) ∧ Ex S stt st ∧ st.gs.length ≤ stt.gs.length + 65 * k ∧ lits st.gs ≤ lits stt.gs + 256 * k := by
  intro k
  induction k with
  | zero =>
    rintro _ st rfl
    exact ⟨⟨ht.rn, by simp, fun v hv => absurd hv (Nat.not_lt_zero _)⟩, Ex.refl S stt, Nat.le_refl _, Nat.le_refl _⟩
  | succ k ih =>
    rintro hk st hst
    rw [List.range_succ, List.foldl_append, List.foldl_cons, List.foldl_nil] at hst
    obtain ⟨sk, hsk⟩ : ∃ sk, (List.range k).foldl (rowStep z W t stt.ways) ⟨stt.gs, stt.next, List.replicate z.places.length 0⟩ = sk := ⟨_, rfl⟩
    obtain ⟨h, hex, hl, hli⟩ := ih (by omega) sk hsk
    rw [hsk] at hst
    have hbase := ht.rn.2
    have hex1 := hex.1
    have g0 : Gt D S ⟨sk.gs, sk.next, []⟩ ⟨sk.gs, sk.next, []⟩ 0 false := ⟨h.rn, Ex.refl _ _, Nat.le_refl _, Nat.le_refl _, (fun y hy => by cases hy), rfl, (by simp only; omega)⟩
    have g := into_law (w := (k : Int)) (t := t) (at_ := stt.ways) (ks := ks) (pos := pos) hD hS hW (st0 := ⟨sk.gs, sk.next, []⟩) h.rn rfl z.places.zipIdx _ 0 false g0 (by simp; omega) (fun p hp => by
      obtain ⟨x, i⟩ := p
      have hi : i < z.places.length := get_dom (List.mem_zipIdx_iff_getElem?.1 hp)
      obtain ⟨w1, w2⟩ := ht.ws i hi
      refine ⟨⟨w1.1, by have := w1.2; simp only; omega⟩, (hex.2 _ (by omega) w1.2).trans w2, fun y hy => ?_⟩
      obtain ⟨y1, y2, y3⟩ := hc _ y hy
      exact ⟨y1, y2, (hex.2 y (by omega) (by omega)).trans y3⟩)
    have hway := intoZ_wl (z := z) hW (t := t) (w := (k : Int)) (at_ := stt.ways) (st := ⟨sk.gs, sk.next, []⟩)
    unfold rowStep at hst
    have hfold : z.places.zipIdx.foldl (stepV W t (k : Int) stt.ways) ⟨sk.gs, sk.next, []⟩ = intoZ z W t (k : Int) stt.ways ⟨sk.gs, sk.next, []⟩ := rfl
    rw [hfold] at g
    obtain ⟨si, hsi⟩ : ∃ si, intoZ z W t (k : Int) stt.ways ⟨sk.gs, sk.next, []⟩ = si := ⟨_, rfl⟩
    rw [hsi] at hst g hway
    simp only [List.length_zipIdx, Nat.zero_add, Bool.false_or] at g
    have gl := g.len
    have gi := g.lit
    simp only [List.length_nil, Nat.zero_add] at hway
    simp only at gl gi
    obtain ⟨q1, q2, q3⟩ := addG (S := S) hD hS g.rn (by omega) (k := 2) (.inr rfl) (ins := si.ways) (fun l hl => by have := g.ways l hl; omega) (sk.ways.set k si.next)
    have hval : valG S (si.gs ++ [⟨si.next, 2, si.ways⟩]) si.next = decide (stepP z W ks t pos = k) := by
      rw [q3, if_neg (by decide)]
      have : si.ways.any (lit (si.gs.foldl gtV S)) = orV S si := by
        unfold orV
        have : ∀ l : List Int, (∀ y ∈ l, 0 < y) → l.any (lit (si.gs.foldl gtV S)) = l.any (valG S si.gs) := by
          intro l
          induction l with
          | nil => intro _; rfl
          | cons y l ih => intro hl; simp only [List.any_cons, lit_pos (hl y (by simp)), ih fun z hz => hl z (by simp [hz])]; rfl
        exact this _ fun y hy => (g.ways y hy).1
      rw [this, g.val, zipIdx_any h0 h1]
      congr 2
      unfold stepP nxZ
      obtain ⟨x, hx⟩ := get_lt (xs := z.places) (i := pos.toNat) (by omega)
      rw [hx]
      simp only
      split <;> omega
    subst hst
    have hgx := g.ex
    have hex' : Ex S sk ⟨si.gs ++ [⟨si.next, 2, si.ways⟩], si.next + 1, sk.ways.set k si.next⟩ := ⟨by have := hgx.1; have := q2.1; simp only at *; omega, fun x hx0 hx1 => (q2.2 x hx0 (by have := hgx.1; simp only at *; omega)).trans (hgx.2 x hx0 hx1)⟩
    refine ⟨⟨q1, by simp [h.wl], fun v hv => ?_⟩, hex.trans hex', by simp; omega, by rw [lits_snoc]; simp only; omega⟩
    have hg1 := hgx.1
    have hnx := g.rn.2
    simp only at hg1
    by_cases hvk : v = k
    · subst hvk
      simp only
      rw [getD_set_eq (by rw [h.wl]; omega)]
      exact ⟨by omega, hval⟩
    · have hlt : v < k := by omega
      obtain ⟨w1, w2⟩ := h.ws v hlt
      simp only
      rw [getD_set_off (fun e => hvk e.symm)]
      exact ⟨by omega, (hex'.2 _ (by omega) w1.2).trans w2⟩
/-- All rows: where the play stands, at each time. -/
theorem rows_law {z : Puz} {D : Int} {S : List Bool} {W : Nat} {ks : List Int} (hfi : Fine z) (hD : 0 ≤ D ∧ D ≤ 100) (hS : S.length = 65537) (hW : W ≤ 2) (T : Nat) (hT : T ≤ 8) (hc : ∀ t : Nat, t < T → ∀ m : Bool, ∀ y ∈ choiceV W ((t : Int) + 1) m, 0 < y ∧ y ≤ D ∧ S.getD y.toNat false = ks.contains y) :
    ∀ t, t ≤ T → Tb D S (LZ z W (D + 1) t) z.places.length z.places.length (posZ z W ks t) ∧ (LZ z W (D + 1) t).gs.length ≤ 16 + 1040 * t ∧ lits (LZ z W (D + 1) t).gs ≤ 4096 * t ∧ (∀ i, i ≤ t → Ex S (LZ z W (D + 1) i) (LZ z W (D + 1) t)) ∧ ∀ y, 0 < y → y ≤ D → valG S (LZ z W (D + 1) t).gs y = S.getD y.toNat false := by
  have hn := hfi.n16
  intro t
  induction t with
  | zero =>
    intro _
    obtain ⟨h1, h2, h3⟩ := first_law (D := D) (S := S) (s := z.start) hD hS hn z.places.length (Nat.le_refl _)
    refine ⟨h1, ?_, ?_, fun i hi => by obtain rfl : i = 0 := by omega
                                       exact Ex.refl _ _, fun y hy0 hyD => ?_⟩
    · show (firstZ z (D + 1)).gs.length ≤ _
      unfold firstZ; omega
    · show lits (firstZ z (D + 1)).gs ≤ _
      unfold firstZ; omega
    · -- gates lie above
      have hkeep : ∀ gs : List Gat, WF D gs → ∀ V : List Bool, (gs.foldl gtV V).getD y.toNat false = V.getD y.toNat false := by
        intro gs hwf
        have : ∀ l : List Gat, (∀ g ∈ l, g.var.toNat ≠ y.toNat) → ∀ V : List Bool, (l.foldl gtV V).getD y.toNat false = V.getD y.toNat false := by
          intro l
          induction l with
          | nil => intro _ V; rfl
          | cons g l ih =>
            intro hl V
            rw [List.foldl_cons, ih (fun g hg => hl g (by simp [hg]))]
            unfold gtV
            rw [List.getD_eq_getElem?_getD, List.getElem?_set_ne (hl g (by simp)), ← List.getD_eq_getElem?_getD]
        refine this gs fun g hg => ?_
        obtain ⟨i, hi⟩ := List.mem_iff_getElem?.1 hg
        have := (hwf i g hi).1
        omega
      exact hkeep _ h1.rn.1 S
  | succ t ih =>
    intro ht
    obtain ⟨h1, h2, h3, h4, h5⟩ := ih (by omega)
    obtain ⟨hp0, hp1⟩ := posZ_in hfi W ks t
    obtain ⟨r1, r2, r3, r4⟩ := row_law (z := z) (W := W) (t := (t : Int) + 1) (ks := ks) hD hS hW hn hp0 hp1 h1 (by omega) (fun m y hy => by
      obtain ⟨y1, y2, y3⟩ := hc t (by omega) m y hy
      exact ⟨y1, y2, (h5 y y1 y2).trans y3⟩) z.places.length (Nat.le_refl _) _ rfl
    have hrec : LZ z W (D + 1) (t + 1) = (List.range z.places.length).foldl (rowStep z W ((t : Int) + 1) (LZ z W (D + 1) t).ways) ⟨(LZ z W (D + 1) t).gs, (LZ z W (D + 1) t).next, List.replicate z.places.length 0⟩ := rfl
    rw [← hrec] at r1 r2 r3 r4
    have hm : 65 * z.places.length ≤ 1040 := by omega
    have hm2 : 256 * z.places.length ≤ 4096 := by omega
    refine ⟨r1, by omega, by omega, fun i hi => ?_, fun y hy0 hyD => ?_⟩
    · rcases Nat.lt_or_ge i (t + 1) with h' | h'
      · exact (h4 i (by omega)).trans r2
      · obtain rfl : i = t + 1 := by omega
        exact Ex.refl _ _
    · have hnx := h1.rn.2
      rw [r2.2 y (by omega) (by omega)]; exact h5 y hy0 hyD
end Go.Gh
namespace Go.Gh
open Go.RowKit
set_option linter.unusedVariables false
set_option linter.unusedSimpArgs false
set_option maxRecDepth 20000
theorem mark_get : ∀ (l : List Int), (∀ x ∈ l, isVar x = true) → ∀ k : Nat, (mark l).getD k false = l.any fun x => decide (x = (k : Int)) := by
  have key : ∀ (l : List Int), (∀ x ∈ l, isVar x = true) → ∀ (m : List Bool), m.length = 65537 → ∀ k : Nat, (l.foldl (fun m v => m.set v.toNat true) m).getD k false = (m.getD k false || l.any fun x => decide (x = (k : Int))) := by
    intro l
    induction l with
    | nil => intro _ m _ k; simp
    | cons x l ih =>
      intro hl m hm k
      obtain ⟨h1, h2⟩ := isVar_nat (hl x (by simp))
      rw [List.foldl_cons, ih (fun y hy => hl y (by simp [hy])) _ (by simpa using hm), List.any_cons, ← Bool.or_assoc]
      congr 1
      by_cases hk : x.toNat = k
      · subst hk
        rw [List.getD_eq_getElem?_getD, List.getElem?_set_self (by omega)]
        have : decide (x = ((x.toNat : Nat) : Int)) = true := by simp; omega
        rw [this]; simp
      · rw [List.getD_eq_getElem?_getD, List.getElem?_set_ne hk, ← List.getD_eq_getElem?_getD]
        have : decide (x = (k : Int)) = false := by simp; omega
        rw [this]; simp
  intro l hl k
  unfold mark
  rw [key l hl blank blank_len k]
  have : blank.getD k false = false := by
    unfold blank
    rw [List.getD_eq_getElem?_getD, List.getElem?_replicate]
    split <;> rfl
  rw [this]; simp
theorem flat_preZ {W T : Nat} (hW : W ≤ 2) (hT : T ≤ 8) : flatVars (preZ W T) = (List.range (2 * W * T)).map (fun (i : Nat) => (i : Int) + 1) ∧ prefOk (preZ W T) = true := by
  have : ∀ W, W < 3 → ∀ T, T < 9 → flatVars (preZ W T) = (List.range (2 * W * T)).map (fun (i : Nat) => (i : Int) + 1) ∧ prefOk (preZ W T) = true := by decide
  exact this W (by omega) T (by omega)
theorem mark_pre {W T : Nat} (hW : W ≤ 2) (hT : T ≤ 8) (k : Nat) : (mark (flatVars (preZ W T))).getD k false = decide (1 ≤ k ∧ (k : Int) < 2 * W * T + 1) := by
  obtain ⟨h1, h2⟩ := flat_preZ hW hT
  rw [mark_get _ (prefOk_vars h2).1, h1]
  rw [Bool.eq_iff_iff]
  have e : ((2 * W * T : Nat) : Int) = 2 * W * T := by simp
  simp only [List.any_map, List.any_eq_true, List.mem_range, Function.comp, decide_eq_true_eq]
  constructor
  · rintro ⟨i, hi, hk⟩; omega
  · rintro ⟨h1, h2⟩; exact ⟨k - 1, by omega, by omega⟩
/-- The values that an assignment gives. -/
theorem inV_get {m : List Bool} (hm : m.length = 65537) : ∀ (a : List Int) (s : Int), I64 a → normR s a = true → 0 ≤ s → ∀ v : List Bool, v.length = 65537 → ∀ k : Nat, 1 ≤ k → k < 65537 → (k ≤ s.toNat → (a.foldl (inV m) v).getD k false = v.getD k false) ∧ (s.toNat < k → (a.foldl (inV m) v).getD k false = if a.contains (k : Int) then m.getD k false else if a.contains (-(k : Int)) then false else v.getD k false)
  | [], s, _, _, _, v, hv, k, _, _ => by simp
  | x :: a, s, h64, h, hs, v, hv, k, hk0, hk => by
    have hx64 := h64 x (by simp)
    have ha64 : I64 a := fun y hy => h64 y (by simp [hy])
    simp only [normR, Bool.and_eq_true, decide_eq_true_eq] at h
    obtain ⟨⟨h1, h2⟩, h3⟩ := h
    obtain ⟨g1, g2⟩ := isVar_nat h1
    have hv1 := h1
    simp only [isVar, Bool.and_eq_true, decide_eq_true_eq] at hv1
    have hx : x = gabs x ∨ x = -gabs x := by
      unfold gabs at hv1 ⊢
      by_cases hx : x < 0
      · rw [if_pos hx] at hv1 ⊢
        right
        by_cases h : -9223372036854775808 < x
        · rw [wrap_small (by omega) (by omega)] at hv1 ⊢; omega
        · exfalso
          rw [IntKind.wrap_i64] at hv1
          omega
      · rw [if_neg hx]; left; rfl
    rw [List.foldl_cons]
    have hl : (inV m v x).length = 65537 := by unfold inV; simpa using hv
    obtain ⟨i1, i2⟩ := inV_get hm a (gabs x) ha64 h3 (by omega) (inV m v x) hl k hk0 hk
    have hoff : (gabs x).toNat ≠ k → (inV m v x).getD k false = v.getD k false := fun hne => by
      unfold inV; rw [List.getD_eq_getElem?_getD, List.getElem?_set_ne hne, ← List.getD_eq_getElem?_getD]
    -- what comes later is greater
    have hall : ∀ {a : List Int} {s : Int}, normR s a = true → ∀ y ∈ a, s < gabs y := by
      intro a
      induction a with
      | nil => intro s _ y hy; cases hy
      | cons u a ih =>
        intro s hs y hy
        simp only [normR, Bool.and_eq_true, decide_eq_true_eq] at hs
        rcases List.mem_cons.1 hy with rfl | hy
        · exact hs.1.2
        · have := ih hs.2 y hy; omega
    have hgk : gabs (k : Int) = k := gabs_pos' hk0 hk
    have hgk' : gabs (-(k : Int)) = k := gabs_neg' hk0 hk
    refine ⟨fun hks => ?_, fun hks => ?_⟩
    · rw [i1 (by omega), hoff (by omega)]
    · by_cases hkx : k ≤ (gabs x).toNat
      · rw [i1 hkx]
        have hc1 : a.contains (k : Int) = false := by
          rw [Bool.eq_false_iff]; intro hc
          have := hall h3 _ (List.contains_iff_mem.1 hc); omega
        have hc2 : a.contains (-(k : Int)) = false := by
          rw [Bool.eq_false_iff]; intro hc
          have := hall h3 _ (List.contains_iff_mem.1 hc); omega
        rw [List.contains_cons, List.contains_cons, hc1, hc2]
        simp only [Bool.or_false]
        by_cases he : (gabs x).toNat = k
        · have hset : (inV m v x).getD k false = (decide (0 < x) && m.getD k false) := by
            unfold inV; rw [he, List.getD_eq_getElem?_getD, List.getElem?_set_self (by omega)]; rfl
          rw [hset]
          rcases hx with hx | hx
          · have e1 : ((k : Int) == x) = true := by simp; omega
            have e2 : decide (0 < x) = true := by simp; omega
            rw [e1, e2]; simp
          · have e1 : ((k : Int) == x) = false := by simp; omega
            have e2 : (-(k : Int) == x) = true := by simp; omega
            have e3 : decide (0 < x) = false := by simp; omega
            rw [e1, e2, e3]; simp
        · rw [hoff he]
          have e1 : ((k : Int) == x) = false := by simp; omega
          have e2 : (-(k : Int) == x) = false := by simp; omega
          rw [e1, e2]; simp
      · rw [i2 (by omega), hoff (by omega), List.contains_cons, List.contains_cons]
        have e1 : ((k : Int) == x) = false := by simp; omega
        have e2 : (-(k : Int) == x) = false := by simp; omega
        rw [e1, e2]; simp
where
  gabs_pos' {k : Nat} (h0 : 1 ≤ k) (h1 : k < 65537) : gabs (k : Int) = k := by unfold gabs; rw [if_neg (by omega)]
  gabs_neg' {k : Nat} (h0 : 1 ≤ k) (h1 : k < 65537) : gabs (-(k : Int)) = k := by
    unfold gabs; rw [if_pos (by omega), Int.neg_neg, wrap_small (by omega) (by omega)]; omega
theorem shapeG_of {g : Gat} (h : g.kind = 1 ∨ g.kind = 2) : shapeG g = true := by unfold shapeG; rw [if_pos h]
/-- A list of gates in order is valid. -/
theorem may_of_WF {D : Int} {gs : List Gat} {m0 : List Bool} (hD : 0 ≤ D ∧ D ≤ 100) (hwf : WF D gs) (hlen : gs.length ≤ 30000) (hlit : lits gs ≤ 200000) (hm : m0.length = 65537) (hm0 : ∀ k : Nat, m0.getD k false = decide (1 ≤ k ∧ (k : Int) < D + 1)) :
    ∀ n, n ≤ gs.length → ∃ m : List Bool, (gs.take n).foldl mstep (some (m0, 0)) = some (m, (lits (gs.take n) : Int)) ∧ m.length = 65537 ∧ ∀ k : Nat, m.getD k false = decide (1 ≤ k ∧ (k : Int) < D + 1 + n) := by
  have hmono : ∀ n, lits (gs.take n) ≤ lits gs := by
    intro n
    have happ : ∀ a b : List Gat, lits (a ++ b) = lits a + lits b := fun a b => by simp [lits]
    have := happ (gs.take n) (gs.drop n)
    rw [List.take_append_drop] at this
    omega
  intro n
  induction n with
  | zero => intro _; exact ⟨m0, rfl, hm, by simpa using hm0⟩
  | succ n ih =>
    intro hn
    obtain ⟨m, h1, h2, h3⟩ := ih (by omega)
    obtain ⟨g, hg⟩ := get_lt (xs := gs) (i := n) (by omega)
    obtain ⟨w1, w2, w3⟩ := hwf n g hg
    have htk := take_get hg
    have hli : lits (gs.take (n + 1)) = lits (gs.take n) + g.ins.length := by rw [htk, lits_snoc]
    have hb := hmono (n + 1)
    have hvar : isVar g.var = true := by simp [isVar]; omega
    have hfresh : m.getD g.var.toNat false = false := by rw [h3]; simp; omega
    have hins : g.ins.all (knownB m) = true := by
      rw [List.all_eq_true]
      intro l hl
      obtain ⟨l0, l1, l2⟩ := w3 l hl
      have hga : 1 ≤ gabs l ∧ gabs l < D + 1 + n := by
        unfold gabs
        split
        · rw [wrap_small (by omega) (by omega)]; omega
        · omega
      unfold knownB
      rw [Bool.and_eq_true]
      refine ⟨by simp [isVar]; omega, ?_⟩
      rw [h3]; simp; omega
    have hdec : decide (200000 < (lits (gs.take n) : Int) + g.ins.length) = false := by simp; omega
    refine ⟨m.set g.var.toNat true, ?_, by simpa using h2, fun k => ?_⟩
    · rw [fold_take hg, h1]
      simp only [mstep, Option.bind_some, hvar, hfresh, shapeG_of w2, hdec, hins]
      rw [hli]; simp
    · by_cases hk : g.var.toNat = k
      · subst hk
        rw [List.getD_eq_getElem?_getD, List.getElem?_set_self (by omega)]
        have : (1 ≤ g.var.toNat ∧ ((g.var.toNat : Nat) : Int) < D + 1 + ((n + 1 : Nat) : Int)) := by omega
        simp only [Option.getD_some]
        rw [decide_eq_true this]
      · rw [List.getD_eq_getElem?_getD, List.getElem?_set_ne hk, ← List.getD_eq_getElem?_getD, h3]
        rw [Bool.eq_iff_iff]
        simp only [decide_eq_true_eq]
        omega
theorem asc_len {n : Int} : ∀ (l : List Int) (b : Int), 0 ≤ b → b ≤ n → (∀ (i : Nat) (x y : Int), l[i]? = some x → l[i + 1]? = some y → x < y) → (∀ x ∈ l, x < n) → (∀ x, l[0]? = some x → b ≤ x) → (l.length : Int) ≤ n - b
  | [], b, h0, h1, _, _, _ => by simp; omega
  | x :: l, b, h0, h1, ha, hl, hb => by
    have hbx := hb x rfl
    have hxn := hl x (by simp)
    have := asc_len (n := n) l (x + 1) (by omega) (by omega) (fun i u v hu hv => ha (i + 1) u v (by simpa using hu) (by simpa using hv)) (fun y hy => hl y (by simp [hy])) (fun y hy => by
      have := ha 0 x y rfl (by simpa using hy); omega)
    simp only [List.length_cons]
    omega
theorem goals_len {z : Puz} (h : Fine z) : z.goals.length ≤ 16 := by
  have := asc_len (n := z.places.length) z.goals 0 (by omega) (by omega) h.asc (fun g hg => (h.goals g hg).2) (fun x hx => (h.goals x (List.mem_of_getElem? hx)).1)
  have := h.n16
  omega
theorem choice_in {W : Nat} {t : Nat} {m : Bool} {T : Nat} (hW : W ≤ 2) (ht : t < T) (hT : T ≤ 8) {y : Int} (h : y ∈ choiceV W ((t : Int) + 1) m) : 0 < y ∧ y ≤ 2 * W * T := by
  have key : ∀ W : Nat, W < 3 → ∀ T : Nat, T < 9 → ∀ t : Nat, t < T → ∀ m : Bool, ∀ y ∈ choiceV W ((t : Int) + 1) m, 0 < y ∧ y ≤ 2 * W * T := by decide
  exact key W (by omega) T (by omega) t ht m y h
/-- **The net of a puzzle is valid, and true just if the play comes to a goal.** -/
theorem net_law {z : Puz} {T : Nat} {a : List Int} (hfi : Fine z) (hT : z.moves = T) (h64 : I64 a) (hn : normal a = true) :
    NetSm (netZ z (widthZ z) T) ∧ mayNet (netZ z (widthZ z) T) = true ∧ evalNet (netZ z (widthZ z) T) a = ((List.range (T + 1)).map (posZ z (widthZ z) a)).any z.goals.contains := by
  obtain ⟨hW2, _⟩ := width_fine hfi
  obtain ⟨W, hW⟩ : ∃ W, widthZ z = W := ⟨_, rfl⟩
  rw [hW] at hW2 ⊢
  have hT8 : T ≤ 8 := by have := hfi.mv1; omega
  have hg16 := goals_len hfi
  obtain ⟨D, hD⟩ : ∃ D : Int, 2 * (W : Int) * T = D := ⟨_, rfl⟩
  have hDb : 0 ≤ D ∧ D ≤ 100 := by
    subst hD
    obtain rfl | rfl | rfl : W = 0 ∨ W = 1 ∨ W = 2 := by omega
    all_goals omega
  have hm0 : ∀ k : Nat, (mark (flatVars (preZ W T))).getD k false = decide (1 ≤ k ∧ (k : Int) < D + 1) := fun k => by rw [mark_pre hW2 hT8, hD]
  obtain ⟨S, hS⟩ : ∃ S, a.foldl (inV (mark (flatVars (preZ W T)))) blank = S := ⟨_, rfl⟩
  have hSl : S.length = 65537 := by rw [← hS, inV_len, blank_len]
  rw [normal_eq] at hn
  have hSv : ∀ y : Int, 0 < y → y ≤ D → S.getD y.toNat false = a.contains y := fun y h0 h1 => by
    obtain ⟨k, rfl⟩ : ∃ k : Nat, y = k := ⟨y.toNat, by omega⟩
    have := (inV_get (m := mark (flatVars (preZ W T))) (mark_len _) a 0 h64 hn (by omega) blank blank_len k (by omega) (by omega)).2 (by simp; omega)
    rw [hS] at this
    simp only [Int.toNat_natCast]
    rw [this, hm0 k]
    have hb : blank.getD k false = false := by
      unfold blank; rw [List.getD_eq_getElem?_getD, List.getElem?_replicate]; split <;> rfl
    have hd : decide (1 ≤ k ∧ (k : Int) < D + 1) = true := by simp; omega
    rw [hb, hd]
    cases a.contains (k : Int) <;> simp
  obtain ⟨R, hR⟩ : ∃ R, LZ z W (D + 1) T = R := ⟨_, rfl⟩
  have rows := rows_law (ks := a) hfi hDb hSl hW2 T hT8 (fun t ht m y hy => by
    obtain ⟨y1, y2⟩ := choice_in hW2 ht hT8 hy
    rw [hD] at y2
    exact ⟨y1, y2, hSv y y1 y2⟩)
  obtain ⟨tb, len, lit, ex, _⟩ := rows T (Nat.le_refl _)
  rw [hR] at tb len lit ex
  have hnx := tb.rn.2
  -- the last gate
  obtain ⟨G, hG⟩ : ∃ G, goalsZ z W (D + 1) (T + 1) = G := ⟨_, rfl⟩
  have hGm : ∀ y, y ∈ G ↔ ∃ i, i < T + 1 ∧ ∃ g ∈ z.goals, (LZ z W (D + 1) i).ways.getD g.toNat 0 = y := fun y => by
    rw [← hG]; unfold goalsZ; simp only [List.mem_flatMap, List.mem_range, List.mem_map]
  have hGv : ∀ i, i < T + 1 → ∀ g ∈ z.goals, (0 < (LZ z W (D + 1) i).ways.getD g.toNat 0 ∧ (LZ z W (D + 1) i).ways.getD g.toNat 0 < R.next) ∧ valG S R.gs ((LZ z W (D + 1) i).ways.getD g.toNat 0) = decide (posZ z W a i = g) := fun i hi g hg => by
    obtain ⟨tbi, _⟩ := rows i (by omega)
    obtain ⟨g0, g1⟩ := hfi.goals g hg
    obtain ⟨w1, w2⟩ := tbi.ws g.toNat (by omega)
    have hex := ex i (by omega)
    refine ⟨⟨w1.1, by have := hex.1; omega⟩, (hex.2 _ (by omega) w1.2).trans ?_⟩
    rw [w2]; congr 1; rw [show ((g.toNat : Nat) : Int) = g by omega]
  have hGl : G.length ≤ 144 := by
    rw [← hG]; unfold goalsZ
    have : ∀ n, ((List.range n).flatMap fun i => z.goals.map fun g => (LZ z W (D + 1) i).ways.getD g.toNat 0).length = n * z.goals.length := by
      intro n
      induction n with
      | zero => simp
      | succ n ih => rw [List.range_succ, List.flatMap_append, List.length_append, ih]; simp [Nat.add_mul]
    rw [this]
    have : (T + 1) * z.goals.length ≤ 9 * 16 := Nat.mul_le_mul (by omega) hg16
    omega
  obtain ⟨q1, q2, q3⟩ := addG (S := S) hDb hSl tb.rn (by omega) (k := 2) (.inr rfl) (ins := G) (fun l hl => by
    obtain ⟨i, hi, g, hg, rfl⟩ := (hGm l).1 hl
    have := (hGv i hi g hg).1; omega) []
  have hnet : netZ z W T = ⟨preZ W T, R.gs ++ [⟨R.next, 2, G⟩], R.next⟩ := by unfold netZ; rw [hD, hR, hG]
  have hlits : lits (R.gs ++ [⟨R.next, 2, G⟩]) ≤ 200000 := by rw [lits_snoc]; simp only; omega
  obtain ⟨m, m1, m2, m3⟩ := may_of_WF (m0 := mark (flatVars (preZ W T))) hDb q1.1 (by simp; omega) hlits (mark_len _) hm0 _ (Nat.le_refl _)
  rw [List.take_length] at m1
  have hpre := flat_preZ hW2 hT8
  refine ⟨⟨?_, ?_, ?_, ?_⟩, ?_, ?_⟩
  · rw [hnet]
    have : ∀ W, W < 3 → ∀ T, T < 9 → (preZ W T).length < 2 ^ 60 := by decide
    exact this W (by omega) T (by omega)
  · rw [hnet]
    have : ∀ W, W < 3 → ∀ T, T < 9 → ∀ b ∈ preZ W T, b.vars.length < 2 ^ 60 := by decide
    exact this W (by omega) T (by omega)
  · rw [hnet]; simp; omega
  · rw [hnet]
    intro g hg
    have hle : ∀ (gs : List Gat), ∀ g ∈ gs, g.ins.length ≤ lits gs := by
      intro gs
      induction gs with
      | nil => intro g hg; cases hg
      | cons x gs ih =>
        intro g hg
        simp only [lits, List.map_cons, List.sum_cons]
        rcases List.mem_cons.1 hg with rfl | hg
        · omega
        · have := ih g hg; unfold lits at this; omega
    have h1 := hle _ g hg
    have h2 : g.ins.length ≤ 200000 := Nat.le_trans h1 hlits
    exact Nat.lt_of_le_of_lt h2 (by decide)
  · rw [hnet]
    unfold mayNet
    simp only
    rw [hpre.2, m1]
    simp only [Bool.true_and]
    unfold knownB
    have hga : gabs R.next = R.next := by unfold gabs; rw [if_neg (by omega)]
    rw [hga, Bool.and_eq_true]
    refine ⟨by simp [isVar]; omega, ?_⟩
    rw [m3]; simp; omega
  · rw [hnet]
    unfold evalNet allV
    simp only
    rw [hS, lit_pos (by omega)]
    show valG S (R.gs ++ [⟨R.next, 2, G⟩]) R.next = _
    rw [q3, if_neg (by decide), Bool.eq_iff_iff]
    simp only [List.any_eq_true, List.mem_map, List.mem_range]
    constructor
    · rintro ⟨y, hy, hl⟩
      obtain ⟨i, hi, g, hg, rfl⟩ := (hGm y).1 hy
      obtain ⟨v1, v2⟩ := hGv i hi g hg
      rw [lit_pos v1.1] at hl
      have h3 : valG S R.gs ((LZ z W (D + 1) i).ways.getD g.toNat 0) = true := hl
      rw [v2, decide_eq_true_eq] at h3
      exact ⟨_, ⟨i, hi, rfl⟩, by rw [h3]; exact List.contains_iff_mem.2 hg⟩
    · rintro ⟨y, ⟨i, hi, rfl⟩, hc⟩
      have hg := List.contains_iff_mem.1 hc
      obtain ⟨v1, v2⟩ := hGv i hi _ hg
      refine ⟨_, (hGm _).2 ⟨i, hi, _, hg, rfl⟩, ?_⟩
      rw [lit_pos v1.1]
      show valG S R.gs _ = true
      rw [v2]; simp
end Go.Gh
