/-
  Proved: the reference's game over the net of a puzzle has the answer of the table of winning places.
  Part 7 of 7. Conditions: none. A verified frame that runs compiled texts over a ghost heap, the contracts of the functions that the statement reaches, and the plain law.
-/
import Derived.Test.YtjlehbncpjccmaaXT6
import Derived.ProofKit
import Derived.ChangeSlices
import Derived.ChangeSame
import Derived.WalkKit
import Derived.OpenShut
import Derived.ChangeOld
import Derived.SizedLaws
import Derived.Carry
import Derived.Test.YtjlehbncpjccmaaRows
namespace Go.Gh
open Go.RowKit Go.ChangeShapes Go.WideShapes Go.ChangeAt
set_option linter.unusedVariables false
set_option linter.unusedSimpArgs false
theorem add_none (b o n : Nat) : (⟨b, o, none⟩ : Addr).add n = ⟨b, o + n, none⟩ := by unfold Addr.add; split <;> simp_all
/-- Nothing is written any more. -/
def frzW (w : World) : Ren := ⟨fun _ => none, fun b o => w.cell? ⟨b, o, none⟩⟩
theorem rel_frzW (w : World) : Rel w.heap.size w (frzW w) [] w := ⟨Below.refl _ _, Nat.le_refl _, (fun id L hL => by cases hL), (fun id L hL => by cases hL), (fun id L ro cs hL => by cases hL), (fun id L o hL => by cases hL), (fun i j Li Lj _ hL => by cases hL), (fun b o v hv => hv), (fun b o v i L _ hi => by cases hi)⟩
/-- What a datum of type t is. -/
def OpnD {α : Type} (P : Program) (t : TypeId) (enc : α → List DV) (R : α → Prop) : Prop :=
  ∀ (H : Type) (en : TypeId × Value → H) (w : World) (base : Nat) (held : Bool) (fuel : Nat) (cs : List Value) (x : DataW H × List MemPlace),
    DataW.trod en P w base (fun _ => true) held fuel t cs = some x → (DataW.weights P t x.1).all (· ≤ reachBytes) = true → ∃ v : α, VRs (frzW w) (enc v) cs ∧ R v
theorem opnD_int {P : Program} {t : TypeId} {k : IntKind} (ht : P.underlying t = some (.int k)) : OpnD P t (fun x => [.int k x]) (fun x => (Lit.int k x).wf = true) := by
  intro H enc w base held fuel cs x h _
  obtain ⟨n, rfl, _, hw⟩ := DataW.trod_int ht h
  exact ⟨n, VRs.cons (by simp [VR]) VRs.nil, hw⟩
theorem opnD_bool {P : Program} {t : TypeId} (ht : P.underlying t = some .bool) : OpnD P t (fun x => [.bool x]) (fun _ => True) := by
  intro H enc w base held fuel cs x h _
  obtain ⟨n, rfl, _⟩ := DataW.trod_bool ht h
  exact ⟨n, VRs.cons (by simp [VR]) VRs.nil, trivial⟩
theorem list_ex {α : Type} {Q : Nat → α → Prop} : ∀ (n : Nat), (∀ i, i < n → ∃ v, Q i v) → ∃ vs : List α, vs.length = n ∧ ∀ i v, vs[i]? = some v → Q i v
  | 0, _ => ⟨[], rfl, fun i v h => by simp at h⟩
  | n + 1, h => by
    obtain ⟨vs, hl, hv⟩ := list_ex n (fun i hi => h i (by omega))
    obtain ⟨u, hu⟩ := h n (by omega)
    refine ⟨vs ++ [u], by simp [hl], fun i v hi => ?_⟩
    by_cases hin : i < n
    · rw [List.getElem?_append_left (by omega)] at hi
      exact hv i v hi
    · have hi2 : i < (vs ++ [u]).length := (List.getElem?_eq_some_iff.1 hi).1
      have : i = n := by simp [hl] at hi2; omega
      subst this
      rw [List.getElem?_append_right (by omega), hl] at hi
      simp at hi
      exact hi ▸ hu
theorem weightsAll_mem {H : Type} {P : Program} {e : TypeId} : ∀ {l : List (DataW H)} {d : DataW H}, (DataW.weightsAll P e l).all (· ≤ reachBytes) = true → d ∈ l → (DataW.weights P e d).all (· ≤ reachBytes) = true
  | [], d, _, h => by cases h
  | x :: l, d, hw, h => by
    simp only [DataW.weightsAll, List.all_append, Bool.and_eq_true] at hw
    rcases List.mem_cons.1 h with rfl | h
    · exact hw.1
    · exact weightsAll_mem hw.2 h
theorem vrs_flat {α : Type} {w : World} {enc : α → List DV} {sz : Nat} (hsz : ∀ v, (enc v).length = sz) {b o : Nat} : ∀ (vs : List α) (k : Nat), (∀ (i : Nat) (v : α), vs[i]? = some v → ∃ c, VRs (frzW w) (enc v) c ∧ ∀ j, j < sz → w.cell? ⟨b, o + (k + i) * sz + j, none⟩ = c[j]?) →
    ∃ us : List Value, VRs (frzW w) (vs.map enc).flatten us ∧ ∀ (j : Nat) (x : Value), us[j]? = some x → (frzW w).fz b (o + k * sz + j) = some x
  | [], k, h => ⟨[], VRs.nil, fun j x hx => by simp at hx⟩
  | v :: vs, k, h => by
    obtain ⟨c, h1, h2⟩ := h 0 v rfl
    obtain ⟨us, g1, g2⟩ := vrs_flat hsz vs (k + 1) fun i u hu => by
      obtain ⟨c', q1, q2⟩ := h (i + 1) u (by simpa using hu)
      exact ⟨c', q1, fun j hj => by rw [show k + 1 + i = k + (i + 1) by omega]; exact q2 j hj⟩
    have hl := h1.length
    rw [hsz] at hl
    refine ⟨c ++ us, by simpa using h1.append g1, fun j x hx => ?_⟩
    by_cases hj : j < sz
    · rw [List.getElem?_append_left (by omega)] at hx
      have := h2 j hj
      simp only [Nat.add_zero] at this
      show w.cell? _ = _
      rw [this, hx]
    · rw [List.getElem?_append_right (by omega)] at hx
      have := g2 _ x hx
      rw [← this]
      congr 1
      rw [Nat.add_mul, hl]; omega
theorem opnD_slice {α : Type} {P : Program} {t e : TypeId} {enc : α → List DV} {R : α → Prop} {sz : Nat} (ht : P.underlying t = some (.slice e)) (hsz : P.cellsOf e = sz) (h0 : sz ≠ 0) (hb : P.bytesOf e ≠ 0) (hl : ∀ v, (enc v).length = sz) (he : OpnD P e enc R) :
    OpnD P t (fun xs : List α => [.fsl sz (xs.map enc)]) (fun xs => (∀ x ∈ xs, R x) ∧ xs.length < 2 ^ 47) := by
  intro H en w base held fuel cs x h hw
  rcases DataW.trod_slice ht h with ⟨rfl, _⟩ | ⟨a, len, cap, elems, rest, n, _, rfl, rfl, hbb, hlc, hm, hlen, hel, hsp, _⟩
  · refine ⟨[], VRs.cons ?_ VRs.nil, by simp⟩
    exact VR.fsl_of (es := []) (b := 0) (o := 0) (c := 0) (a := none) (vs := []) (by simp) (fun e => absurd rfl e) (by simp [VRs]) (fun e he => by cases he) (fun k x hx => by simp at hx)
  · simp only [DataW.weights, ht, List.all_cons, List.all_append, Bool.and_eq_true, decide_eq_true_eq, List.length_map] at hw
    obtain ⟨hw1, hw2, _⟩ := hw
    have hlen47 : elems.length < 2 ^ 47 := by
      have h1 : (elems.length + rest.length) * 1 ≤ (elems.length + rest.length) * P.bytesOf e := Nat.mul_le_mul_left _ (by omega)
      have h2 : reachBytes < 2 ^ 47 := by decide
      omega
    obtain ⟨vs, hvl, hv⟩ := list_ex (Q := fun i v => ∃ c, w.cells? base (a.add (i * sz)) sz = some c ∧ VRs (frzW w) (enc v) c ∧ R v) len (fun i hi => by
      have h1 := hel i hi
      rw [List.getElem?_eq_getElem (by omega)] at h1
      obtain ⟨c, hc, htr⟩ := Option.bind_eq_some_iff.1 h1
      obtain ⟨v, hk, hr⟩ := he H en w base held n c _ htr (weightsAll_mem hw2 (List.mem_map.2 ⟨_, List.getElem_mem (by omega), rfl⟩))
      rw [hsz] at hc
      exact ⟨v, c, hc, hk, hr⟩)
    subst hvl
    obtain ⟨hr1, hr2⟩ := hsp rfl
    -- the address has cells
    have hspot : cap ≠ 0 → a = ⟨a.block, a.off, none⟩ := by
      intro hc0
      have hcell : ∃ v, w.cell? a = some v := by
        by_cases hl0 : vs.length = 0
        · have h1 := hr2 0 (by omega)
          rw [hl0, List.getElem?_eq_getElem (by omega)] at h1
          obtain ⟨c, hc, _⟩ := Option.bind_eq_some_iff.1 h1
          obtain ⟨_, q2, q3⟩ := World.cells?_some hc
          have := q3 0 (by rw [hsz]; omega)
          simp only [Nat.add_zero, Nat.zero_mul] at this
          rw [show a.add 0 = a by simp [Addr.add], show a.add 0 = a by simp [Addr.add]] at this
          rw [List.getElem?_eq_getElem (by rw [q2, hsz]; omega)] at this
          exact ⟨_, this⟩
        · obtain ⟨v, hv0⟩ := get_lt (xs := vs) (i := 0) (by omega)
          obtain ⟨c, hc, _⟩ := hv 0 v hv0
          obtain ⟨_, q2, q3⟩ := World.cells?_some hc
          have := q3 0 (by omega)
          rw [Nat.zero_mul, show a.add 0 = a by simp [Addr.add], show a.add 0 = a by simp [Addr.add]] at this
          rw [List.getElem?_eq_getElem (by rw [q2]; omega)] at this
          exact ⟨_, this⟩
      obtain ⟨v, hcv⟩ := hcell
      unfold World.cell? at hcv
      split at hcv
      · split at hcv
        · cases hcv
        · rename_i hs
          cases a with
          | mk bl of sp => cases sp <;> simp_all
      · cases hcv
    have hcells : ∀ (i : Nat) (v : α), vs[i]? = some v → ∃ c, VRs (frzW w) (enc v) c ∧ ∀ j, j < sz → w.cell? ⟨a.block, a.off + (0 + i) * sz + j, none⟩ = c[j]? := fun i v hi => by
      obtain ⟨c, hc, hk, _⟩ := hv i v hi
      refine ⟨c, hk, fun j hj => ?_⟩
      have := (World.cells?_some hc).2.2 j hj
      rw [← this]
      have hc0 : cap ≠ 0 := by have := get_dom hi; omega
      rw [hspot hc0]
      rw [add_none, add_none, Nat.zero_add]
    obtain ⟨us, g1, g2⟩ := vrs_flat hl vs 0 hcells
    refine ⟨vs, VRs.cons ?_ VRs.nil, fun x hx => ?_, by omega⟩
    · have := VR.fsl_of (ρ := frzW w) (sz := sz) (es := vs.map enc) (b := a.block) (o := a.off) (c := cap) (a := some a) (vs := us) (by simpa using hlc) (fun hc0 => by rw [hspot hc0]) g1 (fun e he => by obtain ⟨x, _, rfl⟩ := List.mem_map.1 he; exact hl x) (fun k x hx => by simpa using g2 k x hx)
      simpa using this
    · obtain ⟨i, hi⟩ := List.mem_iff_getElem?.1 hx
      obtain ⟨_, _, _, hr⟩ := hv i x hi
      exact hr
/-- The same under another name. -/
theorem opnD_iso {α β : Type} {P : Program} {t : TypeId} {enc : α → List DV} {R : α → Prop} {enc' : β → List DV} {R' : β → Prop} (g : α → β) (hg : ∀ a, enc' (g a) = enc a) (hR : ∀ a, R a → R' (g a)) (h : OpnD P t enc R) : OpnD P t enc' R' := by
  intro H en w base held fuel cs x hx hw
  obtain ⟨v, hk, hr⟩ := h H en w base held fuel cs x hx hw
  exact ⟨g v, by rw [hg]; exact hk, hR v hr⟩
/-- The fields of a struct from some place on. -/
def OpnFD {α : Type} (P : Program) (fs : List Field) (off : Nat) (enc : α → List DV) (sz : Nat) (R : α → Prop) : Prop :=
  ∀ (H : Type) (en : TypeId × Value → H) (w : World) (base : Nat) (held : Bool) (fuel : Nat) (cs : List Value),
    (∀ f ∈ fs, ∃ y, DataW.trod en P w base (fun _ => true) held fuel f.type ((cs.drop f.offset).take (P.cellsOf f.type)) = some y ∧ (DataW.weights P f.type y.1).all (· ≤ reachBytes) = true) → cs.length = off + sz → ∃ v : α, VRs (frzW w) (enc v) (cs.drop off) ∧ R v
theorem opnFD_one {α : Type} {P : Program} {f : Field} {off sz : Nat} {enc : α → List DV} {R : α → Prop} (ho : f.offset = off) (hs : P.cellsOf f.type = sz) (h : OpnD P f.type enc R) : OpnFD P [f] off enc sz R := by
  intro H en w base held fuel cs hf hl
  obtain ⟨y, hy, hyw⟩ := hf f (by simp)
  rw [ho, hs, List.take_of_length_le (by simp; omega)] at hy
  exact h H en w base held fuel _ _ hy hyw
theorem opnFD_cons {α β : Type} {P : Program} {f : Field} {fs : List Field} {off sz sz' : Nat} {enc : α → List DV} {enc' : β → List DV} {R : α → Prop} {R' : β → Prop} (ho : f.offset = off) (hs : P.cellsOf f.type = sz) (h : OpnD P f.type enc R) (h' : OpnFD P fs (off + sz) enc' sz' R') :
    OpnFD P (f :: fs) off (fun x : α × β => enc x.1 ++ enc' x.2) (sz + sz') (fun x => R x.1 ∧ R' x.2) := by
  intro H en w base held fuel cs hf hl
  obtain ⟨y, hy, hyw⟩ := hf f (by simp)
  rw [ho, hs] at hy
  obtain ⟨v, hk, hr⟩ := h H en w base held fuel _ _ hy hyw
  obtain ⟨v', hk', hr'⟩ := h' H en w base held fuel cs (fun g hg => hf g (by simp [hg])) (by omega)
  refine ⟨(v, v'), ?_, hr, hr'⟩
  have := hk.append hk'
  rwa [← List.drop_drop, List.take_append_drop] at this
theorem weightsEach_get {H : Type} {P : Program} : ∀ {ts : List TypeId} {ds : List (DataW H)} {i : Nat} {t : TypeId} {d : DataW H}, (DataW.weightsEach P ts ds).all (· ≤ reachBytes) = true → ts[i]? = some t → ds[i]? = some d → (DataW.weights P t d).all (· ≤ reachBytes) = true
  | [], _, i, t, d, _, h, _ => by simp at h
  | _ :: _, [], i, t, d, _, _, h => by simp at h
  | t' :: ts, d' :: ds, 0, t, d, hw, h1, h2 => by
    simp only [DataW.weightsEach, List.all_append, Bool.and_eq_true] at hw
    simp at h1 h2; subst h1; subst h2; exact hw.1
  | t' :: ts, d' :: ds, i + 1, t, d, hw, h1, h2 => by
    simp only [DataW.weightsEach, List.all_append, Bool.and_eq_true] at hw
    exact weightsEach_get hw.2 (by simpa using h1) (by simpa using h2)
theorem opnD_struct {α : Type} {P : Program} {t : TypeId} {fs : Array Field} {enc : α → List DV} {sz : Nat} {R : α → Prop} (ht : P.underlying t = some (.struct fs)) (hs : P.cellsOf t = sz) (h : OpnFD P fs.toList 0 enc sz R) : OpnD P t enc R := by
  intro H en w base held fuel cs x hx hw
  obtain ⟨xs, n, _, rfl, hl, hlen, hf⟩ := DataW.trod_struct ht hx
  simp only [DataW.weights, ht] at hw
  have := h H en w base held n cs (fun f hfm => by
    obtain ⟨i, hi⟩ := List.mem_iff_getElem?.1 hfm
    have hi2 : fs[i]? = some f := by rw [← Array.getElem?_toList]; exact hi
    have h1 := hf i f hi2
    have hlt : i < xs.length := by rw [hlen]; exact (Array.getElem?_eq_some_iff.1 hi2).1
    rw [List.getElem?_eq_getElem hlt] at h1
    exact ⟨_, h1, weightsEach_get (i := i) hw (by rw [List.getElem?_map, hi]; rfl) (by rw [List.getElem?_map, List.getElem?_eq_getElem hlt]; rfl)⟩) (by omega)
  simpa using this
/-- An array of two whole numbers. -/
theorem lit_u8' {x : Int} (h : (Lit.int .u8 x).wf = true) : 0 ≤ x ∧ x < 256 := by
  simp [Lit.wf, IntKind.min, IntKind.max, IntKind.signed, IntKind.bits] at h
  omega
theorem lit_i64' {x : Int} (h : (Lit.int .i64 x).wf = true) : -9223372036854775808 ≤ x ∧ x < 9223372036854775808 := by
  simp [Lit.wf, IntKind.min, IntKind.max, IntKind.signed, IntKind.bits] at h
  omega
/-- An argument, opened. -/
theorem openD {α : Type} {H : Type} {en : TypeId × Value → H} {P : Program} {W : World} {t : TypeId} {v : Value} {d : DataW H} {ps : List MemPlace} {enc : α → List DV} {R : α → Prop} (h : OpnD P t enc R) (hd : DataW.Trod en P W 0 (fun _ => true) true t v d ps) (hw : (DataW.weights P t d).all (· ≤ reachBytes) = true) : ∃ a : α, VRs (frzW W) (enc a) v.cells.toList ∧ R a := by
  obtain ⟨fuel, hf⟩ := hd
  exact h H en W 0 true fuel _ _ hf hw
theorem vr_of_one {ρ : Ren} {d : DV} {v : Value} (h : VRs ρ [d] v.cells.toList) (hv : v.cells = #[v]) : VR ρ d v := by
  rw [hv] at h; obtain ⟨y, hy, hr⟩ := h.one_inv; simp at hy; subst hy; exact hr
/-- A call in a world where nothing is written. -/
theorem GCall.run {P : Program} {f : FuncId} {args : List DV} {W : World} {rargs : List Value} (h : GCall P f args [] fun v _ => v = .bool true) (hv : VRs (frzW W) args rargs) : Calls P f rargs.toArray W fun e W' => e = .returned (.bool true) ∧ Below W.heap.size W W' := by
  refine (h.2 W.heap.size W (frzW W) W rargs (rel_frzW W) hv).mono ?_
  rintro e w' ⟨v, rv, ρ', σ', rfl, q1, q2, q3, q4, rfl⟩
  rw [q4.bool_inv]
  exact ⟨rfl, q1.below⟩
end Go.Gh
namespace Go.Gh
open Go.RowKit Go.ChangeShapes Go.WideShapes Go.ChangeAt Go.Proofs
set_option linter.unusedVariables false
set_option linter.unusedSimpArgs false
section
variable {N : Nat} {w0 : World} {ρ : Ren} {σ : GS} {w : World}
/-- A row that nobody writes is named. -/
theorem Rel.addRo (h : Rel N w0 ρ σ w) {b o ext : Nat} {cs : List DV} {vs : List Value} (hb : b < w.heap.size) (hv : VRs ρ cs vs) (hf : ∀ (k : Nat) (x : Value), vs[k]? = some x → ρ.fz b (o + k) = some x) :
    Rel N w0 (ρ.put σ.length ⟨b, o, ext⟩) (σ ++ [.row true cs]) w ∧ ρ.le (ρ.put σ.length ⟨b, o, ext⟩) := by
  have hnone := h.none_at (Nat.le_refl σ.length)
  have hle : ρ.le (ρ.put σ.length ⟨b, o, ext⟩) := Ren.le_put hnone _
  have old : ∀ i L, i ≠ σ.length → ρ i = some L → (σ ++ [GObj.row true cs])[i]? = σ[i]? := fun i L _ hL => List.getElem?_append_left (h.dom i L hL)
  have hown : ∀ i L, (ρ.put σ.length ⟨b, o, ext⟩) i = some L → own (σ ++ [GObj.row true cs]) i → i ≠ σ.length ∧ ρ i = some L ∧ own σ i := fun i L hL ho => by
    by_cases hi : i = σ.length
    · subst hi
      unfold own at ho
      rw [List.getElem?_append_right (Nat.le_refl _)] at ho
      simp [GObj.special] at ho
    · rw [Ren.put_other _ _ hi] at hL
      unfold own at ho ⊢
      rw [old i L hi hL] at ho
      exact ⟨hi, hL, ho⟩
  refine ⟨⟨h.below, h.hN, fun i L hL => ?_, fun i L hL => ?_, fun i L ro c hL hs => ?_, fun i L o' hL hs hsp => ?_, fun i j Li Lj hij hi hj oi oj => ?_, h.fzw, fun b' o' v i L hv' hL oi => ?_⟩, hle⟩
  · by_cases hi : i = σ.length
    · subst hi; simp
    · rw [Ren.put_other _ _ hi] at hL; have := h.dom i L hL; simp; omega
  · by_cases hi : i = σ.length
    · subst hi; rw [Ren.put_same] at hL; cases hL; exact hb
    · rw [Ren.put_other _ _ hi] at hL; exact h.lt i L hL
  · by_cases hi : i = σ.length
    · subst hi
      rw [Ren.put_same] at hL; cases hL
      rw [List.getElem?_append_right (Nat.le_refl _)] at hs
      simp at hs
      obtain ⟨rfl, rfl⟩ := hs
      have key : ∀ (j : Nat) (v : DV), cs[j]? = some v → ∃ rv, ρ.fz b (o + j) = some rv ∧ VR ρ v rv := fun j v hj => by
        obtain ⟨y, hy, hr⟩ := hv.get hj
        exact ⟨y, hf j y hy, hr⟩
      exact ⟨fun j v hj => let ⟨rv, g1, g2⟩ := key j v hj; ⟨rv, h.fzw _ _ _ g1, VR.mono hle _ _ g2⟩, fun _ j v hj => let ⟨rv, g1, g2⟩ := key j v hj; ⟨rv, g1, VR.mono hle _ _ g2⟩, fun e => by cases e⟩
    · rw [Ren.put_other _ _ hi] at hL
      rw [old i L hi hL] at hs
      obtain ⟨a, b', c'⟩ := h.row i L ro c hL hs
      exact ⟨a.mono hle, fun hro j v hj => let ⟨rv, g1, g2⟩ := b' hro j v hj; ⟨rv, g1, VR.mono hle _ _ g2⟩, c'⟩
  · by_cases hi : i = σ.length
    · subst hi
      rw [List.getElem?_append_right (Nat.le_refl _)] at hs
      simp at hs; subst hs; cases hsp
    · rw [Ren.put_other _ _ hi] at hL
      rw [old i L hi hL] at hs
      obtain ⟨a, x, b', c⟩ := h.obj i L o' hL hs hsp
      exact ⟨a, x, b', c.mono hle⟩
  · obtain ⟨_, hi', oi'⟩ := hown i Li hi oi
    obtain ⟨_, hj', oj'⟩ := hown j Lj hj oj
    exact h.disj i j Li Lj hij hi' hj' oi' oj'
  · obtain ⟨_, hi', oi'⟩ := hown i L hL oi
    exact h.fzo b' o' v i L hv' hi' oi'
/-- A slice that nobody writes gets a row of its own, whose cells read as given. -/
theorem thaw {sz : Nat} {es : List (List DV)} {v : Value} (h : Rel N w0 ρ σ w) (hv : VR ρ (.fsl sz es) v) {cs : List DV} (hcs : ∀ vs, VRs ρ es.flatten vs → VRs ρ cs vs) (hne : es ≠ []) (h0 : sz ≠ 0) :
    ∃ ρ' : Ren, Rel N w0 ρ' (σ ++ [.row true cs]) w ∧ ρ.le ρ' ∧ VR ρ' (.slice σ.length 0 es.length sz none) v := by
  obtain ⟨b, o, c, a, vs, rfl, h1, h2, h3, h4, h5⟩ := hv.fsl_inv
  have hfl := flatten_len h4
  have hel : 0 < es.length := List.length_pos_iff.2 hne
  have hpos : 0 < es.length * sz := Nat.mul_pos hel (by omega)
  have hvl := h3.length
  have hb : b < w.heap.size := by
    obtain ⟨x, hx⟩ := get_lt (xs := vs) (i := 0) (by omega)
    exact h.fz_lt (h5 0 x hx)
  obtain ⟨q1, q2⟩ := h.addRo (ext := c * sz) hb (hcs vs h3) h5
  refine ⟨_, q1, q2, ?_⟩
  simp only [VR]
  exact ⟨_, a, c, Ren.put_same _ _ _, rfl, h1, fun hc => by rw [h2 hc]; simp, (fun c' hc' => by cases hc'), by simp⟩
theorem thaw_ints {xs : List Int} {v : Value} (h : Rel N w0 ρ σ w) (hv : VR ρ (fints xs) v) : ∃ (s : DV) (ρ' : Ren) (σ' : GS), Rel N w0 ρ' σ' w ∧ ρ.le ρ' ∧ Fr σ.length σ σ' ∧ SInt σ' s xs ∧ VR ρ' s v := by
  by_cases hx : xs = []
  · subst hx; exact ⟨fints [], ρ, σ, h, Ren.le_refl _, Fr.rfl', .inl ⟨.inr rfl, rfl⟩, hv⟩
  · obtain ⟨ρ', q1, q2, q3⟩ := thaw h hv (cs := ints xs) (fun vs k => by rwa [flat_eints] at k) (by simpa using hx) (by decide)
    rw [List.length_map] at q3
    exact ⟨_, ρ', _, q1, q2, Fr.rfl'.app _, Sl.of (f := .int .i64) (pre := []) (rest := []) (ro := true) (fun _ _ => rfl) (by simp) rfl, q3⟩
theorem thaw_plcs : ∀ (xs : List Plc) {ρ : Ren} {σ : GS} (vs : List Value), Rel N w0 ρ σ w → VRs ρ (xs.map eplc).flatten vs → ∃ (ss : List DV) (ρ' : Ren) (σ' : GS), ss.length = xs.length ∧ Rel N w0 ρ' σ' w ∧ ρ.le ρ' ∧ Fr σ.length σ σ' ∧ VRs ρ' ((xs.zip ss).flatMap fun p => [.bool p.1.mine, p.2]) vs ∧ ∀ (i : Nat) (x : Plc) (s : DV), xs[i]? = some x → ss[i]? = some s → SInt σ' s x.to
  | [], ρ, σ, vs, h, hv => ⟨[], ρ, σ, rfl, h, Ren.le_refl _, Fr.rfl', hv, fun i x s hx => by simp at hx⟩
  | x :: xs, ρ, σ, vs, h, hv => by
    simp only [List.map_cons, List.flatten_cons, List.cons_append, List.nil_append] at hv
    simp only [VRs] at hv
    obtain ⟨v1, l1, rfl, h1, v2, l2, rfl, h2, h3⟩ := hv
    obtain ⟨s, ρ1, σ1, r1, r2, r3, r4, r5⟩ := thaw_ints h h2
    obtain ⟨ss, ρ2, σ2, q0, q1, q2, q3, q4, q5⟩ := thaw_plcs xs l2 r1 (VRs.mono r2 _ _ h3)
    refine ⟨s :: ss, ρ2, σ2, by simp [q0], q1, Ren.le_trans r2 q2, r3.trans (q3.mono r3.len), ?_, fun i y t hy ht => ?_⟩
    · simp only [List.zip_cons_cons, List.flatMap_cons, List.cons_append, List.nil_append]
      exact VRs.cons (VR.mono (Ren.le_trans r2 q2) _ _ h1) (VRs.cons (VR.mono q2 _ _ r5) q4)
    · cases i with
      | zero => simp at hy ht; subst hy; subst ht; exact r4.fr (q3.mono (Nat.le_refl _))
      | succ i => exact q5 i y t (by simpa using hy) (by simpa using ht)
theorem zip_cells {xs : List Plc} {ss : List DV} (hl : ss.length = xs.length) {i : Nat} {x : Plc} {s : DV} (hx : xs[i]? = some x) (hs : ss[i]? = some s) : (((xs.zip ss).flatMap fun p => [DV.bool p.1.mine, p.2]).drop (i * 2)).take 2 = [.bool x.mine, s] := by
  have := elem_cells (enc := fun p : Plc × DV => [DV.bool p.1.mine, p.2]) (sz := 2) (fun _ => rfl) (xs.zip ss) [] i (x, s) (by
    rw [List.getElem?_zip_eq_some]; exact ⟨hx, hs⟩)
  simpa using this
theorem thaw_puz {z : Puz} {v1 v3 : Value} (h : Rel N w0 ρ σ w) (h1 : VR ρ (.fsl 2 (z.places.map eplc)) v1) (h3 : VR ρ (fints z.goals) v3) : ∃ (pl go : DV) (ρ' : Ren) (σ' : GS), Rel N w0 ρ' σ' w ∧ ρ.le ρ' ∧ Fr σ.length σ σ' ∧ PuzV σ' pl go z ∧ VR ρ' pl v1 ∧ VR ρ' go v3 := by
  obtain ⟨go, ρ1, σ1, r1, r2, r3, r4, r5⟩ := thaw_ints h h3
  by_cases hp : z.places = []
  · exact ⟨.fsl 2 [], go, ρ1, σ1, r1, r2, r3, ⟨.inl ⟨.inr rfl, hp⟩, r4⟩, by rw [hp] at h1; exact VR.mono r2 _ _ h1, r5⟩
  have h1' := VR.mono r2 _ _ h1
  obtain ⟨b, o, c, a, vs, e1, e2, e3, e4, e5, e6⟩ := h1'.fsl_inv
  obtain ⟨ss, ρ2, σ2, q0, q1, q2, q3, q4, q5⟩ := thaw_plcs z.places vs r1 e4
  have h12 := VR.mono q2 _ _ h1'
  -- the row of the places
  have hel : 0 < z.places.length := List.length_pos_iff.2 hp
  have hb : b < w.heap.size := by
    have hl := e4.length
    have hfl := flatten_len e5
    rw [hfl, List.length_map] at hl
    obtain ⟨x, hx⟩ := get_lt (xs := vs) (i := 0) (by omega)
    exact r1.fz_lt (e6 0 x hx)
  obtain ⟨t1, t2⟩ := q1.addRo (ext := c * 2) hb q4 (fun k x hx => q2.fz _ _ _ (e6 k x hx))
  refine ⟨.slice σ2.length 0 z.places.length 2 none, go, _, _, t1, Ren.le_trans (Ren.le_trans r2 q2) t2, (r3.trans (q3.mono r3.len)).app _, ⟨.inr ⟨σ2.length, 0, none, true, (z.places.zip ss).flatMap fun p => [.bool p.1.mine, p.2], rfl, by simp, ?_, fun i x hi => ?_⟩, (r4.fr q3).fr (Fr.rfl'.app _)⟩, ?_, VR.mono (Ren.le_trans q2 t2) _ _ r5⟩
  · rw [flatMap_len (sz := 2) (fun _ => rfl)]; simp [q0]
  · obtain ⟨s, hs⟩ := get_lt (xs := ss) (i := i) (by rw [q0]; exact get_dom hi)
    rw [Nat.zero_add, zip_cells q0 hi hs]
    exact ⟨s, rfl, (q5 i x s hi hs).fr (Fr.rfl'.app _)⟩
  · rw [List.length_map] at e1 e2
    rw [e1]
    simp only [VR]
    exact ⟨_, a, c, Ren.put_same _ _ _, rfl, e2, fun hc => by rw [e3 hc]; simp, (fun c' hc' => by cases hc'), by simp⟩
end
set_option maxRecDepth 100000
theorem own_knob : ownKnob Try.prog.godebug = none := by kernel_rfl
theorem laid_out : laidOutB Try.prog = true := by kernel_rfl
theorem opn_ints : OpnD Try.prog 23 (fun xs : List Int => [fints xs]) (fun xs => (∀ x ∈ xs, (Lit.int .i64 x).wf = true) ∧ xs.length < 2 ^ 47) :=
  opnD_slice (sz := 1) Try.underlying23 (by kernel_rfl) (by decide) (by rw [show Try.prog.bytesOf 3 = 8 by kernel_rfl]; decide) (fun _ => rfl) (opnD_int Try.underlying3)
theorem opn_plc : OpnD Try.prog 55 eplc (fun x => x.to.length < 2 ^ 47) := by
  have h := opnD_struct (P := Try.prog) (t := 55) (sz := 2) Try.underlying55 (by kernel_rfl) (opnFD_cons (sz := 1) (sz' := 1) rfl (by kernel_rfl) (opnD_bool Try.underlying4) (opnFD_one rfl (by kernel_rfl) opn_ints))
  exact opnD_iso (fun p : Bool × List Int => (⟨p.1, p.2⟩ : Plc)) (fun _ => rfl) (fun a h => h.2.2) h
theorem opn_puz : OpnD Try.prog 25 epuz (fun z => PuzSm z ∧ z.goals.length < 2 ^ 47) := by
  have h := opnD_struct (P := Try.prog) (t := 25) (sz := 4) Try.underlying25 (by kernel_rfl) (opnFD_cons (sz := 1) (sz' := 3) rfl (by kernel_rfl) (opnD_slice (sz := 2) Try.underlying22 (by kernel_rfl) (by decide) (by rw [show Try.prog.bytesOf 55 = 32 by kernel_rfl]; decide) (fun _ => rfl) opn_plc)
      (opnFD_cons (sz := 1) (sz' := 2) rfl (by kernel_rfl) (opnD_int Try.underlying3) (opnFD_cons (sz := 1) (sz' := 1) rfl (by kernel_rfl) opn_ints (opnFD_one rfl (by kernel_rfl) (opnD_int Try.underlying3)))))
  refine opnD_iso (fun p : List Plc × (Int × (List Int × Int)) => (⟨p.1, p.2.1, p.2.2.1, p.2.2.2⟩ : Puz)) (fun _ => rfl) (fun a h => ?_) h
  obtain ⟨⟨h1, h2⟩, h3, ⟨h4, h5⟩, h6⟩ := h
  exact ⟨⟨by simp only; omega, fun x hx => by have := h1 x hx; omega, by simp only; omega⟩, h5⟩
end Go.Gh
namespace Go.Proofs.Ytjlehbncpjccmaa
open Go.Gh Go.RowKit Go.ChangeShapes Go.WideShapes Go.ChangeAt Go.Proofs
set_option linter.unusedVariables false
set_option linter.unusedSimpArgs false
namespace RowPuzzleTruth
theorem called {W : World} {z : Puz} {v0 : Value} (h0 : VR (frzW W) (.agg (epuz z)) v0) (hz : PuzSm z) (hg : z.goals.length < 2 ^ 47) :
    Calls Try.prog 7 #[v0] W fun e W' => e = .returned (.bool true) ∧ Below W.heap.size W W' := by
  obtain ⟨c0, k0, rfl⟩ := h0.agg_inv
  simp only [epuz, VRs] at k0
  obtain ⟨u1, l1, rfl, q1, u2, l2, rfl, q2, u3, l3, rfl, q3, u4, l4, rfl, q4, rfl⟩ := k0
  obtain ⟨pl, go, ρ1, σ1, r1, r2, r3, r4, r5, r6⟩ := thaw_puz (rel_frzW W) q1 q3
  have hcall : GCall Try.prog 7 [.agg [pl, .int .i64 z.start, go, .int .i64 z.moves]] σ1 fun v _ => v = .bool true :=
    truth_ok r4 hz (by omega) (fun hf T hT => truth_law hf hT) (fun _ => rfl)
  refine (hcall.2 W.heap.size W ρ1 W [_] r1 (VRs.cons ?_ VRs.nil)).mono ?_
  · simp only [VR]
    exact ⟨_, VRs.cons r5 (VRs.cons (VR.mono r2 _ _ q2) (VRs.cons r6 (VRs.cons (VR.mono r2 _ _ q4) VRs.nil))), rfl⟩
  · rintro e w' ⟨v, rv, ρ', σ', rfl, s1, s2, s3, s4, rfl⟩
    rw [s4.bool_inv]
    exact ⟨rfl, s1.below⟩
set_option maxRecDepth 100000 in
theorem lifted (os : Os) (started : os.Started) (H : Type) (enc : TypeId × Value → H) :
    ReturnsInHanded {} Try.checked os 7 .any (Rows.puzzleTruthSpec.pre6 enc Try.prog Try.f7 Rows.puzzleTruthRow.domain false) (Rows.puzzleTruthSpec.post enc Try.prog Try.f7 false true false false) := by
  refine returnsInHanded_of_change_sized (C := Try.checked) own_knob started (by kernel_rfl) Try.func7
    (ChangeSpec.witness6 (enc := enc) (C := Try.checked) false ⟨#[], #[.agg #[.slice none 0 0, .int .i64 0, .slice none 0 0, .int .i64 0]], []⟩ 8 (by kernel_rfl) (by kernel_rfl) (by kernel_rfl) (by kernel_rfl)) ?_
  intro W base args ds gs before hval0 hW hcnd hsz0 _
  have hval : ∀ (j : Nat) t v, Try.f7.params[j]? = some t → args[j]? = some v → Value.okWide Try.prog W .any base t v := hval0
  have hW' := hW
  obtain ⟨p, q, hA0, hV, rfl, hfz, hnd⟩ := hW
  have hA : DataW.TrodAll enc Try.prog W 0 (fun _ => true) true Try.f7.params.toList args.toList ds p := hA0
  rw [Try.params7] at hA hval
  obtain ⟨v0, vs0, d0, ds0, p0, q0, hargs, rfl, rfl, h0, r0⟩ := trodAll_cons hA
  obtain ⟨rfl, rfl, rfl⟩ := trodAll_nil r0
  obtain rfl : args = #[v0] := by cases args; simp_all
  obtain ⟨rfl, rfl⟩ := trodVars_none hV
  have lt0 : ∀ x ∈ p0, x.block < W.heap.size := by obtain ⟨m, hm⟩ := h0; exact DataW.trod_lt m _ _ _ hm
  have hsz : (DataW.weightsEach Try.prog [25] [d0]).all (· ≤ reachBytes) = true := hsz0
  obtain ⟨z, kz, hz1, hz2⟩ := openD opn_puz h0 (weightsEach_get (i := 0) hsz rfl rfl)
  obtain ⟨cs, rfl, _⟩ := okWide_struct Try.underlying25 (hval 0 25 v0 rfl rfl)
  refine (called (z := z) (by simp only [VR]; exact ⟨cs.toList, kz, by simp⟩) hz1 hz2).mono fun e W' ⟨he, bel⟩ => ?_
  subst he
  exact ⟨_, rfl, _, _, _, [], _, [], hW', trodAll_mk1 (shut_bool Try.underlying4 _), (trodAll_cons_mk (Below.trod laid_out (by kernel_rfl) (of_decide_eq_true (by kernel_rfl)) h0 bel lt0) trodAll_mk0), rfl, bel.frame _, fun h => by cases h⟩
theorem over : Rows.puzzleTruthRow.holds Try.pinned (OpenSpec.ofChange Rows.puzzleTruthSpec) :=
  OpenClaim.holds_of_wide 7 Try.f7 rfl rfl rfl rfl rfl rfl rfl ⟨rfl, rfl, rfl, rfl, rfl⟩ rfl rfl rfl rfl rfl (by kernel_rfl) Try.func7 (by kernel_rfl)
    (of_decide_eq_true (by kernel_rfl)) (by unfold Func.isWrapper; first | (rw [if_pos (by decide +kernel)]; kernel_rfl) | (rw [if_neg (by decide +kernel)]; exact ⟨rfl, rfl⟩))
    (fun os started H enc _ => lifted os started H enc)
end RowPuzzleTruth
/-- The row, under a short name, for the claim. -/
theorem puzzleTruth_holds : Rows.PuzzleTruthSaid := RowPuzzleTruth.over
#print axioms puzzleTruth_holds
end Go.Proofs.Ytjlehbncpjccmaa
