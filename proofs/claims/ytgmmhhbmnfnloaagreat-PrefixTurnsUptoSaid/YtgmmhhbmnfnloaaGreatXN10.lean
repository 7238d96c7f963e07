/-
  Proved: Dqbf, Deps and Linear return what the chapter's own functions return, errors too; where what is read is of bulk at most 1048576.
  Part 10 of 10. Conditions: none. A verified frame that runs compiled texts over a ghost heap, the contracts of the functions that the statement reaches, and the plain law.
-/
import Derived.Test.YtgmmhhbmnfnloaaGreatXN9
import Derived.ProofKit
import Derived.ChangeSlices
import Derived.ChangeSame
import Derived.WalkKit
import Derived.OpenShut
import Derived.ChangeOld
import Derived.SizedLaws
import Derived.Carry
import Derived.Test.YtgmmhhbmnfnloaaGreatRows
import Derived.JoinedCond
namespace Go.Gh
open Go.RowKit Go.ChangeShapes Go.WideShapes Go.ChangeAt
set_option linter.unusedVariables false
set_option linter.unusedSimpArgs false
theorem add_none (b o n : Nat) : (⟨b, o, none⟩ : Addr).add n = ⟨b, o + n, none⟩ := by unfold Addr.add; split <;> simp_all
/-- Nothing is written any more. -/
def frzW (w : World) : Ren := ⟨fun _ => none, fun b o => w.cell? ⟨b, o, none⟩⟩
theorem rel_frzW (w : World) : Rel w.heap.size w (frzW w) [] w := ⟨Below.refl _ _, Nat.le_refl _, (fun id L hL => by cases hL), (fun id L hL => by cases hL), (fun id L ro cs hL => by cases hL), (fun id L o hL => by cases hL), (fun i j Li Lj _ hL => by cases hL), (fun b o v hv => hv), (fun b o v i L _ hi => by cases hi)⟩
theorem list_ex {α : Type} {Q : Nat → α → Prop} : ∀ (n : Nat), (∀ i, i < n → ∃ v, Q i v) → ∃ vs : List α, vs.length = n ∧ ∀ i v, vs[i]? = some v → Q i v
  | 0, _ => ⟨[], rfl, fun i v h => by simp at h⟩
  | n + 1, h => by
    obtain ⟨vs, hl, hv⟩ := list_ex n (fun i hi => h i (by omega))
    obtain ⟨u, hu⟩ := h n (by omega)
    refine ⟨vs ++ [u], by simp [hl], fun i v hi => ?_⟩
    by_cases hin : i < n
    · rw [List.getElem?_append_left (by omega)] at hi
      exact hv i v hi
    · have hi2 : i < (vs ++ [u]).length := (List.getElem?_eq_some_iff.1 hi).1
      have : i = n := by simp [hl] at hi2; omega
      subst this
      rw [List.getElem?_append_right (by omega), hl] at hi
      simp at hi
      exact hi ▸ hu
theorem vrs_flat {α : Type} {w : World} {enc : α → List DV} {sz : Nat} (hsz : ∀ v, (enc v).length = sz) {b o : Nat} : ∀ (vs : List α) (k : Nat), (∀ (i : Nat) (v : α), vs[i]? = some v → ∃ c, VRs (frzW w) (enc v) c ∧ ∀ j, j < sz → w.cell? ⟨b, o + (k + i) * sz + j, none⟩ = c[j]?) →
    ∃ us : List Value, VRs (frzW w) (vs.map enc).flatten us ∧ ∀ (j : Nat) (x : Value), us[j]? = some x → (frzW w).fz b (o + k * sz + j) = some x
  | [], k, h => ⟨[], VRs.nil, fun j x hx => by simp at hx⟩
  | v :: vs, k, h => by
    obtain ⟨c, h1, h2⟩ := h 0 v rfl
    obtain ⟨us, g1, g2⟩ := vrs_flat hsz vs (k + 1) fun i u hu => by
      obtain ⟨c', q1, q2⟩ := h (i + 1) u (by simpa using hu)
      exact ⟨c', q1, fun j hj => by rw [show k + 1 + i = k + (i + 1) by omega]; exact q2 j hj⟩
    have hl := h1.length
    rw [hsz] at hl
    refine ⟨c ++ us, by simpa using h1.append g1, fun j x hx => ?_⟩
    by_cases hj : j < sz
    · rw [List.getElem?_append_left (by omega)] at hx
      have := h2 j hj
      simp only [Nat.add_zero] at this
      show w.cell? _ = _
      rw [this, hx]
    · rw [List.getElem?_append_right (by omega)] at hx
      have := g2 _ x hx
      rw [← this]
      congr 1
      rw [Nat.add_mul, hl]; omega
theorem lit_i64' {x : Int} (h : (Lit.int .i64 x).wf = true) : -9223372036854775808 ≤ x ∧ x < 9223372036854775808 := by
  simp [Lit.wf, IntKind.min, IntKind.max, IntKind.signed, IntKind.bits] at h
  omega
theorem vr_of_one {ρ : Ren} {d : DV} {v : Value} (h : VRs ρ [d] v.cells.toList) (hv : v.cells = #[v]) : VR ρ d v := by
  rw [hv] at h; obtain ⟨y, hy, hr⟩ := h.one_inv; simp at hy; subst hy; exact hr
/-- A call in a world where nothing is written. -/
theorem GCall.run {P : Program} {f : FuncId} {args : List DV} {W : World} {rargs : List Value} (h : GCall P f args [] fun v _ => v = .bool true) (hv : VRs (frzW W) args rargs) : Calls P f rargs.toArray W fun e W' => e = .returned (.bool true) ∧ Below W.heap.size W W' := by
  refine (h.2 W.heap.size W (frzW W) W rargs (rel_frzW W) hv).mono ?_
  rintro e w' ⟨v, rv, ρ', σ', rfl, q1, q2, q3, q4, rfl⟩
  rw [q4.bool_inv]
  exact ⟨rfl, q1.below⟩
end Go.Gh
namespace Go.Gh
open Go.RowKit Go.ChangeShapes Go.WideShapes Go.ChangeAt
set_option linter.unusedVariables false
set_option linter.unusedSimpArgs false
/-- How much a reading holds: what is asked of a count of values. -/
structure Bulk (K : (H : Type) → DataW H → Nat) : Prop where
  one : ∀ (H : Type) (d : DataW H), 1 ≤ K H d
  slice : ∀ (H : Type) (elems spare : List (DataW H)), 1 + (elems.map (K H)).sum ≤ K H (.slice elems spare)
  agg : ∀ (H : Type) (parts : List (DataW H)), 1 + (parts.map (K H)).sum ≤ K H (.agg parts)
/-- As OpnD, with how much it holds. -/
def OpnU {α : Type} (P : Program) (K : (H : Type) → DataW H → Nat) (t : TypeId) (enc : α → List DV) (μ : α → Nat) (R : α → Prop) : Prop :=
  ∀ (H : Type) (en : TypeId × Value → H) (w : World) (base : Nat) (held : Bool) (fuel : Nat) (cs : List Value) (x : DataW H × List MemPlace),
    DataW.trod en P w base (fun _ => true) held fuel t cs = some x → ∃ v : α, VRs (frzW w) (enc v) cs ∧ R v ∧ μ v ≤ K H x.1
section
variable {P : Program} {K : (H : Type) → DataW H → Nat}
theorem opnU_int (hK : Bulk K) {t : TypeId} {k : IntKind} (ht : P.underlying t = some (.int k)) : OpnU P K t (fun x => [.int k x]) (fun _ => 1) (fun x => (Lit.int k x).wf = true) := by
  intro H enc w base held fuel cs x h
  obtain ⟨n, rfl, _, hw⟩ := DataW.trod_int ht h
  exact ⟨n, VRs.cons (by simp [VR]) VRs.nil, hw, hK.one _ _⟩
theorem opnU_bool (hK : Bulk K) {t : TypeId} (ht : P.underlying t = some .bool) : OpnU P K t (fun x => [.bool x]) (fun _ => 1) (fun _ => True) := by
  intro H enc w base held fuel cs x h
  obtain ⟨n, rfl, _⟩ := DataW.trod_bool ht h
  exact ⟨n, VRs.cons (by simp [VR]) VRs.nil, trivial, hK.one _ _⟩
theorem sum_le_sum {α β : Type} {μ : α → Nat} {κ : β → Nat} : ∀ {vs : List α} {es : List β}, vs.length = es.length → (∀ (i : Nat) (v : α), vs[i]? = some v → ∃ e : β, es[i]? = some e ∧ μ v ≤ κ e) → (vs.map μ).sum ≤ (es.map κ).sum
  | [], _, _, _ => by simp
  | v :: vs, [], h, _ => by simp at h
  | v :: vs, e :: es, h, hh => by
    obtain ⟨e', h1, h2⟩ := hh 0 v rfl
    simp at h1; subst h1
    have := sum_le_sum (μ := μ) (κ := κ) (vs := vs) (es := es) (by simpa using h) fun i v hi => by
      obtain ⟨e', h1, h2⟩ := hh (i + 1) v (by simpa using hi)
      exact ⟨e', by simpa using h1, h2⟩
    simp; omega
theorem opnU_slice (hK : Bulk K) {α : Type} {t e : TypeId} {enc : α → List DV} {μ : α → Nat} {R : α → Prop} {sz : Nat} (ht : P.underlying t = some (.slice e)) (hsz : P.cellsOf e = sz) (h0 : sz ≠ 0) (hl : ∀ v, (enc v).length = sz) (he : OpnU P K e enc μ R) :
    OpnU P K t (fun xs : List α => [.fsl sz (xs.map enc)]) (fun xs => 1 + (xs.map μ).sum) (fun xs => ∀ x ∈ xs, R x) := by
  intro H en w base held fuel cs x h
  rcases DataW.trod_slice ht h with ⟨rfl, _⟩ | ⟨a, len, cap, elems, rest, n, _, rfl, hxe, hbb, hlc, hm, hlen, hel, hsp, _⟩
  · refine ⟨[], VRs.cons ?_ VRs.nil, by simp, hK.one _ _⟩
    exact VR.fsl_of (es := []) (b := 0) (o := 0) (c := 0) (a := none) (vs := []) (by simp) (fun e => absurd rfl e) (by simp [VRs]) (fun e he => by cases he) (fun k x hx => by simp at hx)
  · obtain ⟨vs, hvl, hv⟩ := list_ex (Q := fun i v => ∃ c, w.cells? base (a.add (i * sz)) sz = some c ∧ VRs (frzW w) (enc v) c ∧ R v ∧ ∃ y, elems[i]? = some y ∧ μ v ≤ K H y.1) len (fun i hi => by
      have h1 := hel i hi
      rw [List.getElem?_eq_getElem (by omega)] at h1
      obtain ⟨c, hc, htr⟩ := Option.bind_eq_some_iff.1 h1
      obtain ⟨v, hk, hr, hm⟩ := he H en w base held n c _ htr
      rw [hsz] at hc
      exact ⟨v, c, hc, hk, hr, _, List.getElem?_eq_getElem (by omega), hm⟩)
    subst hvl
    obtain ⟨hr1, hr2⟩ := hsp rfl
    -- the address has cells
    have hspot : cap ≠ 0 → a = ⟨a.block, a.off, none⟩ := by
      intro hc0
      have hcell : ∃ v, w.cell? a = some v := by
        by_cases hl0 : vs.length = 0
        · have h1 := hr2 0 (by omega)
          rw [hl0, List.getElem?_eq_getElem (by omega)] at h1
          obtain ⟨c, hc, _⟩ := Option.bind_eq_some_iff.1 h1
          obtain ⟨_, q2, q3⟩ := World.cells?_some hc
          have := q3 0 (by rw [hsz]; omega)
          simp only [Nat.add_zero, Nat.zero_mul] at this
          rw [show a.add 0 = a by simp [Addr.add], show a.add 0 = a by simp [Addr.add]] at this
          rw [List.getElem?_eq_getElem (by rw [q2, hsz]; omega)] at this
          exact ⟨_, this⟩
        · obtain ⟨v, hv0⟩ := get_lt (xs := vs) (i := 0) (by omega)
          obtain ⟨c, hc, _⟩ := hv 0 v hv0
          obtain ⟨_, q2, q3⟩ := World.cells?_some hc
          have := q3 0 (by omega)
          rw [Nat.zero_mul, show a.add 0 = a by simp [Addr.add], show a.add 0 = a by simp [Addr.add]] at this
          rw [List.getElem?_eq_getElem (by rw [q2]; omega)] at this
          exact ⟨_, this⟩
      obtain ⟨v, hcv⟩ := hcell
      unfold World.cell? at hcv
      split at hcv
      · split at hcv
        · cases hcv
        · rename_i hs
          cases a with
          | mk bl of sp => cases sp <;> simp_all
      · cases hcv
    have hcells : ∀ (i : Nat) (v : α), vs[i]? = some v → ∃ c, VRs (frzW w) (enc v) c ∧ ∀ j, j < sz → w.cell? ⟨a.block, a.off + (0 + i) * sz + j, none⟩ = c[j]? := fun i v hi => by
      obtain ⟨c, hc, hk, _⟩ := hv i v hi
      refine ⟨c, hk, fun j hj => ?_⟩
      have := (World.cells?_some hc).2.2 j hj
      rw [← this]
      have hc0 : cap ≠ 0 := by have := get_dom hi; omega
      rw [hspot hc0]
      rw [add_none, add_none, Nat.zero_add]
    obtain ⟨us, g1, g2⟩ := vrs_flat hl vs 0 hcells
    refine ⟨vs, VRs.cons ?_ VRs.nil, fun x hx => ?_, ?_⟩
    · have := VR.fsl_of (ρ := frzW w) (sz := sz) (es := vs.map enc) (b := a.block) (o := a.off) (c := cap) (a := some a) (vs := us) (by simpa using hlc) (fun hc0 => by rw [hspot hc0]) g1 (fun e he => by obtain ⟨x, _, rfl⟩ := List.mem_map.1 he; exact hl x) (fun k x hx => by simpa using g2 k x hx)
      simpa using this
    · obtain ⟨i, hi⟩ := List.mem_iff_getElem?.1 hx
      obtain ⟨_, _, _, hr, _⟩ := hv i x hi
      exact hr
    · subst hxe
      refine Nat.le_trans ?_ (hK.slice _ _ _)
      rw [List.map_map]
      have := sum_le_sum (μ := μ) (κ := fun y : DataW H × List MemPlace => K H y.1) (vs := vs) (es := elems) (by omega) fun i v hi => by
        obtain ⟨_, _, _, _, y, h1, h2⟩ := hv i v hi
        exact ⟨y, h1, h2⟩
      simp only [Function.comp_def]
      omega
/-- The same under another name. -/
theorem opnU_iso {α β : Type} {t : TypeId} {enc : α → List DV} {μ : α → Nat} {R : α → Prop} {enc' : β → List DV} {μ' : β → Nat} {R' : β → Prop} (g : α → β) (hg : ∀ a, enc' (g a) = enc a) (hm : ∀ a, μ' (g a) ≤ μ a) (hR : ∀ a, R a → R' (g a)) (h : OpnU P K t enc μ R) : OpnU P K t enc' μ' R' := by
  intro H en w base held fuel cs x hx
  obtain ⟨v, hk, hr, hu⟩ := h H en w base held fuel cs x hx
  exact ⟨g v, by rw [hg]; exact hk, hR v hr, Nat.le_trans (hm v) hu⟩
/-- The fields of a struct from some place on. -/
def OpnFU {α : Type} (P : Program) (K : (H : Type) → DataW H → Nat) (fs : List Field) (off : Nat) (enc : α → List DV) (sz : Nat) (μ : α → Nat) (R : α → Prop) : Prop :=
  ∀ (H : Type) (en : TypeId × Value → H) (w : World) (base : Nat) (held : Bool) (fuel : Nat) (cs : List Value) (ys : List (DataW H × List MemPlace)),
    ys.length = fs.length → (∀ (i : Nat) (f : Field), fs[i]? = some f → DataW.trod en P w base (fun _ => true) held fuel f.type ((cs.drop f.offset).take (P.cellsOf f.type)) = ys[i]?) → cs.length = off + sz → ∃ v : α, VRs (frzW w) (enc v) (cs.drop off) ∧ R v ∧ μ v ≤ (ys.map fun y => K H y.1).sum
theorem opnFU_one {α : Type} {f : Field} {off sz : Nat} {enc : α → List DV} {μ : α → Nat} {R : α → Prop} (ho : f.offset = off) (hs : P.cellsOf f.type = sz) (h : OpnU P K f.type enc μ R) : OpnFU P K [f] off enc sz μ R := by
  intro H en w base held fuel cs ys hyl hf hl
  obtain ⟨y, rfl⟩ : ∃ y, ys = [y] := by
    match ys, hyl with
    | [y], _ => exact ⟨y, rfl⟩
  have hy := hf 0 f rfl
  rw [ho, hs, List.take_of_length_le (by simp; omega)] at hy
  obtain ⟨v, hk, hr, hm⟩ := h H en w base held fuel _ _ hy
  exact ⟨v, hk, hr, by simpa using hm⟩
theorem opnFU_cons {α β : Type} {f : Field} {fs : List Field} {off sz sz' : Nat} {enc : α → List DV} {enc' : β → List DV} {μ : α → Nat} {μ' : β → Nat} {R : α → Prop} {R' : β → Prop} (ho : f.offset = off) (hs : P.cellsOf f.type = sz) (h : OpnU P K f.type enc μ R) (h' : OpnFU P K fs (off + sz) enc' sz' μ' R') :
    OpnFU P K (f :: fs) off (fun x : α × β => enc x.1 ++ enc' x.2) (sz + sz') (fun x => μ x.1 + μ' x.2) (fun x => R x.1 ∧ R' x.2) := by
  intro H en w base held fuel cs ys hyl hf hl
  obtain ⟨y, ys, rfl⟩ : ∃ y zs, ys = y :: zs := by
    match ys, hyl with
    | y :: zs, _ => exact ⟨y, zs, rfl⟩
  have hy := hf 0 f rfl
  rw [ho, hs] at hy
  obtain ⟨v, hk, hr, hm⟩ := h H en w base held fuel _ _ hy
  obtain ⟨v', hk', hr', hm'⟩ := h' H en w base held fuel cs ys (by simpa using hyl) (fun i g hg => by simpa using hf (i + 1) g (by simpa using hg)) (by omega)
  refine ⟨(v, v'), ?_, ⟨hr, hr'⟩, by simp; omega⟩
  have := hk.append hk'
  rwa [← List.drop_drop, List.take_append_drop] at this
theorem opnU_struct (hK : Bulk K) {α : Type} {t : TypeId} {fs : Array Field} {enc : α → List DV} {sz : Nat} {μ : α → Nat} {R : α → Prop} (ht : P.underlying t = some (.struct fs)) (hs : P.cellsOf t = sz) (h : OpnFU P K fs.toList 0 enc sz μ R) : OpnU P K t enc (fun v => 1 + μ v) R := by
  intro H en w base held fuel cs x hx
  obtain ⟨xs, n, _, hxe, hl, hlen, hf⟩ := DataW.trod_struct ht hx
  obtain ⟨v, hk, hr, hm⟩ := h H en w base held n cs xs (by simp [hlen]) (fun i f hi => by
    have hi2 : fs[i]? = some f := by rw [← Array.getElem?_toList]; exact hi
    exact hf i f hi2) (by omega)
  refine ⟨v, by simpa using hk, hr, ?_⟩
  subst hxe
  refine Nat.le_trans ?_ (hK.agg _ _)
  rw [List.map_map]
  simp only [Function.comp_def]
  omega
end
/-- An argument, opened. -/
theorem openU {α : Type} {H : Type} {en : TypeId × Value → H} {P : Program} {K : (H : Type) → DataW H → Nat} {W : World} {t : TypeId} {v : Value} {d : DataW H} {ps : List MemPlace} {enc : α → List DV} {μ : α → Nat} {R : α → Prop} (h : OpnU P K t enc μ R) (hd : DataW.Trod en P W 0 (fun _ => true) true t v d ps) : ∃ a : α, VRs (frzW W) (enc a) v.cells.toList ∧ R a ∧ μ a ≤ K H d := by
  obtain ⟨fuel, hf⟩ := hd
  exact h H en W 0 true fuel _ _ hf
end Go.Gh
namespace Go.Gh
open Go.RowKit Go.ChangeShapes Go.WideShapes Go.ChangeAt Go.Proofs
set_option linter.unusedVariables false
set_option linter.unusedSimpArgs false
set_option maxRecDepth 100000
theorem own_knob : ownKnob Tryz.prog.godebug = none := by kernel_rfl
theorem laid_out : laidOutB Tryz.prog = true := by kernel_rfl
theorem bulk_sum {H : Type} : ∀ l : List (DataW H), (l.map Go.Proofs.YtgmmhhbmnfnloaaGreat.Rows.uptoBulk).sum = Go.Proofs.YtgmmhhbmnfnloaaGreat.Rows.uptoBulkAll l
  | [] => by simp [Go.Proofs.YtgmmhhbmnfnloaaGreat.Rows.uptoBulkAll]
  | x :: l => by have := bulk_sum l; simp [Go.Proofs.YtgmmhhbmnfnloaaGreat.Rows.uptoBulkAll, this]
theorem bulk : Bulk (fun H => @Go.Proofs.YtgmmhhbmnfnloaaGreat.Rows.uptoBulk H) := ⟨fun H d => by
  cases d with
  | lit l => cases l <;> simp [Go.Proofs.YtgmmhhbmnfnloaaGreat.Rows.uptoBulk]
  | nil => simp [Go.Proofs.YtgmmhhbmnfnloaaGreat.Rows.uptoBulk]
  | ptr d => simp [Go.Proofs.YtgmmhhbmnfnloaaGreat.Rows.uptoBulk]
  | slice elems spare => simp [Go.Proofs.YtgmmhhbmnfnloaaGreat.Rows.uptoBulk]
  | agg parts => simp [Go.Proofs.YtgmmhhbmnfnloaaGreat.Rows.uptoBulk]
  | iface t d => simp [Go.Proofs.YtgmmhhbmnfnloaaGreat.Rows.uptoBulk]
  | map entries => simp [Go.Proofs.YtgmmhhbmnfnloaaGreat.Rows.uptoBulk]
  | held h => simp [Go.Proofs.YtgmmhhbmnfnloaaGreat.Rows.uptoBulk]
  , fun H e s => by rw [bulk_sum]; simp only [Go.Proofs.YtgmmhhbmnfnloaaGreat.Rows.uptoBulk]; omega, fun H e => by rw [bulk_sum]; simp only [Go.Proofs.YtgmmhhbmnfnloaaGreat.Rows.uptoBulk]; omega⟩
theorem opu_int : OpnU Tryz.prog (fun H => @Go.Proofs.YtgmmhhbmnfnloaaGreat.Rows.uptoBulk H) 3 (fun x : Int => [.int .i64 x]) (fun _ => 1) (fun x => (Lit.int .i64 x).wf = true) := opnU_int bulk Tryz.underlying3
theorem opu_bool : OpnU Tryz.prog (fun H => @Go.Proofs.YtgmmhhbmnfnloaaGreat.Rows.uptoBulk H) 4 (fun x : Bool => [.bool x]) (fun _ => 1) (fun _ => True) := opnU_bool bulk Tryz.underlying4
theorem opu_ints : OpnU Tryz.prog (fun H => @Go.Proofs.YtgmmhhbmnfnloaaGreat.Rows.uptoBulk H) 26 (fun xs : List Int => [fints xs]) (fun xs => 1 + xs.length) WfI :=
  opnU_iso (fun xs : List Int => xs) (fun _ => rfl) (fun xs => by simp only [sum_one]; omega) (fun xs h x hx => lit_i64' (h x hx)) (opnU_slice bulk (sz := 1) Tryz.underlying26 (by kernel_rfl) (by decide) (fun _ => rfl) opu_int)
theorem opu_blk : OpnU Tryz.prog (fun H => @Go.Proofs.YtgmmhhbmnfnloaaGreat.Rows.uptoBulk H) 57 eblk (fun b => 1 + (1 + (1 + b.2.length))) (fun b => WfI b.2) := by
  have h := opnU_struct (P := Tryz.prog) (t := 57) bulk (sz := 2) Tryz.underlying57 (by kernel_rfl) (opnFU_cons (sz := 1) (sz' := 1) rfl (by kernel_rfl) opu_bool (opnFU_one rfl (by kernel_rfl) opu_ints))
  exact opnU_iso (fun b : Blk => b) (fun _ => rfl) (fun b => Nat.le_refl _) (fun b h => h.2) h
theorem opu_blks : OpnU Tryz.prog (fun H => @Go.Proofs.YtgmmhhbmnfnloaaGreat.Rows.uptoBulk H) 22 (fun xs : List Blk => [fblks xs]) lensB WfB :=
  opnU_iso (fun xs : List Blk => xs) (fun _ => rfl) (fun xs => by simp only [← Nat.add_assoc, Nat.reduceAdd]; rw [sum_plus (fun b : Blk => b.2.length) 3]; unfold lensB; omega) (fun xs h => h) (opnU_slice bulk (sz := 2) Tryz.underlying22 (by kernel_rfl) (by decide) (fun _ => rfl) opu_blk)
theorem opu_cls : OpnU Tryz.prog (fun H => @Go.Proofs.YtgmmhhbmnfnloaaGreat.Rows.uptoBulk H) 23 (fun xs : List (List Int) => [fcls xs]) lensC WfC :=
  opnU_iso (fun xs : List (List Int) => xs) (fun _ => rfl) (fun xs => by rw [sum_plus (fun b : List Int => b.length) 1]; unfold lensC; omega) (fun xs h => h) (opnU_slice bulk (sz := 1) Tryz.underlying23 (by kernel_rfl) (by decide) (fun _ => rfl) opu_ints)
theorem opu_dep : OpnU Tryz.prog (fun H => @Go.Proofs.YtgmmhhbmnfnloaaGreat.Rows.uptoBulk H) 48 edep (fun b => 1 + (1 + (1 + b.2.length))) (fun b => (-9223372036854775808 ≤ b.1 ∧ b.1 < 9223372036854775808) ∧ WfI b.2) := by
  have h := opnU_struct (P := Tryz.prog) (t := 48) bulk (sz := 2) Tryz.underlying48 (by kernel_rfl) (opnFU_cons (sz := 1) (sz' := 1) rfl (by kernel_rfl) opu_int (opnFU_one rfl (by kernel_rfl) opu_ints))
  exact opnU_iso (fun b : Dep => b) (fun _ => rfl) (fun b => Nat.le_refl _) (fun b h => ⟨lit_i64' h.1, h.2⟩) h
theorem opu_deps : OpnU Tryz.prog (fun H => @Go.Proofs.YtgmmhhbmnfnloaaGreat.Rows.uptoBulk H) 27 (fun xs : List Dep => [fdeps xs]) lensD WfD :=
  opnU_iso (fun xs : List Dep => xs) (fun _ => rfl) (fun xs => by simp only [← Nat.add_assoc, Nat.reduceAdd]; rw [sum_plus (fun b : Dep => b.2.length) 3]; unfold lensD; omega) (fun xs h => h) (opnU_slice bulk (sz := 2) Tryz.underlying27 (by kernel_rfl) (by decide) (fun _ => rfl) opu_dep)
theorem opu_qbf : OpnU Tryz.prog (fun H => @Go.Proofs.YtgmmhhbmnfnloaaGreat.Rows.uptoBulk H) 25 eqbf QbfP.sz QbfP.Wf := by
  have h := opnU_struct (P := Tryz.prog) (t := 25) bulk (sz := 2) Tryz.underlying25 (by kernel_rfl) (opnFU_cons (sz := 1) (sz' := 1) rfl (by kernel_rfl) opu_blks (opnFU_one rfl (by kernel_rfl) opu_cls))
  exact opnU_iso (fun p : List Blk × List (List Int) => (⟨p.1, p.2⟩ : QbfP)) (fun _ => rfl) (fun p => by unfold QbfP.sz; simp only; omega) (fun p h => ⟨h.1, h.2⟩) h
theorem opu_dqbf : OpnU Tryz.prog (fun H => @Go.Proofs.YtgmmhhbmnfnloaaGreat.Rows.uptoBulk H) 29 edqbf DqbfP.sz DqbfP.Wf := by
  have h := opnU_struct (P := Tryz.prog) (t := 29) bulk (sz := 3) Tryz.underlying29 (by kernel_rfl) (opnFU_cons (sz := 1) (sz' := 2) rfl (by kernel_rfl) opu_ints (opnFU_cons (sz := 1) (sz' := 1) rfl (by kernel_rfl) opu_deps (opnFU_one rfl (by kernel_rfl) opu_cls)))
  exact opnU_iso (fun p : List Int × List Dep × List (List Int) => (⟨p.1, p.2.1, p.2.2⟩ : DqbfP)) (fun _ => rfl) (fun p => by unfold DqbfP.sz; simp only; omega) (fun p h => ⟨h.1, h.2.1, h.2.2⟩) h
end Go.Gh
namespace Go.Proofs.YtgmmhhbmnfnloaaGreat
open Go.Gh Go.RowKit Go.ChangeShapes Go.WideShapes Go.ChangeAt Go.Proofs
set_option linter.unusedVariables false
set_option linter.unusedSimpArgs false
namespace RowPrefixTurns
set_option maxRecDepth 100000 in
theorem lifted (os : Os) (started : os.Started) (H : Type) (enc : TypeId × Value → H) (F : Stop.Interp) :
    ReturnsInHanded {} Tryz.checked os 6 .any ((Rows.OpenSpec.upto Rows.prefixTurnsSpec).pre6 enc Tryz.prog Tryz.f6 Rows.prefixTurnsUptoRow.domain false) (((Rows.OpenSpec.upto Rows.prefixTurnsSpec).at F).post enc Tryz.prog Tryz.f6 false true false false) := by
  refine returnsInHanded_of_cond (C := Tryz.checked) (s := Rows.OpenSpec.upto Rows.prefixTurnsSpec) (k := Rows.uptoSmall) rfl own_knob started (by kernel_rfl) Tryz.func6
    (OpenSpec.witness (enc := enc) (C := Tryz.checked) (s := Rows.OpenSpec.upto Rows.prefixTurnsSpec) (k := Rows.uptoSmall) rfl false ⟨#[], #[.agg #[.slice none 0 0, .slice none 0 0], .agg #[.slice none 0 0, .slice none 0 0, .slice none 0 0], .int .i64 0], []⟩ 8 (by kernel_rfl) (by kernel_rfl) (by kernel_rfl)
      (x := ([.agg [.nil, .nil], .agg [.nil, .nil, .nil], .lit (.int .i64 0)], [], [])) (by kernel_rfl) rfl (by kernel_rfl)) ?_
  intro W base args ds gs before hval0 hW hcnd hk _
  have hval : ∀ (j : Nat) t v, Tryz.f6.params[j]? = some t → args[j]? = some v → Value.okWide Tryz.prog W .any base t v := hval0
  have hW' := hW
  obtain ⟨p, q, hA0, hV, rfl, hfz, hnd⟩ := hW
  have hA : DataW.TrodAll enc Tryz.prog W 0 (fun _ => true) true Tryz.f6.params.toList args.toList ds p := hA0
  rw [Tryz.params6] at hA hval
  obtain ⟨v0, vs0, d0, ds0, p0, q0, hargs, rfl, rfl, h0, r0⟩ := trodAll_cons hA
  obtain ⟨v1, vs1, d1, ds1, p1, q1, rfl, rfl, rfl, h1, r1⟩ := trodAll_cons r0
  obtain ⟨v2, vs2, d2, ds2, p2, q2, rfl, rfl, rfl, h2, r2⟩ := trodAll_cons r1
  obtain ⟨rfl, rfl, rfl⟩ := trodAll_nil r2
  obtain rfl : args = #[v0, v1, v2] := by cases args; simp_all
  obtain ⟨rfl, rfl⟩ := trodVars_none hV
  have lt0 : ∀ x ∈ p0, x.block < W.heap.size := by obtain ⟨m, hm⟩ := h0; exact DataW.trod_lt m _ _ _ hm
  have lt1 : ∀ x ∈ p1, x.block < W.heap.size := by obtain ⟨m, hm⟩ := h1; exact DataW.trod_lt m _ _ _ hm
  have lt2 : ∀ x ∈ p2, x.block < W.heap.size := by obtain ⟨m, hm⟩ := h2; exact DataW.trod_lt m _ _ _ hm
  obtain ⟨z0, k0, w0, m0⟩ := openU opu_qbf h0
  obtain ⟨cs0, rfl, _⟩ := okWide_struct Tryz.underlying25 (hval 0 25 v0 rfl rfl)
  obtain ⟨z1, k1, w1, m1⟩ := openU opu_dqbf h1
  obtain ⟨cs1, rfl, _⟩ := okWide_struct Tryz.underlying29 (hval 1 29 v1 rfl rfl)
  obtain ⟨z2, k2, w2, m2⟩ := openU opu_int h2
  obtain ⟨n2, rfl⟩ := okWide_int Tryz.underlying3 (hval 2 3 v2 rfl rfl)
  have hb : Rows.uptoBulk d0 + Rows.uptoBulk d1 + Rows.uptoBulk d2 ≤ 1048576 := by
    have hk1 : Rows.uptoBulkAll ([d0, d1, d2] ++ []) ≤ 1048576 := of_decide_eq_true hk
    simp only [List.append_nil, Rows.uptoBulkAll] at hk1; omega
  have hcall : GCall Tryz.prog 6 [QbfP.enc z0, DqbfP.enc z1, .int .i64 z2] [] fun v _ => v = .bool true := turns_ok (by have := m0; omega) w0.cls (by have := m1; omega) w1.cls rfl
  refine (hcall.run (VRs.cons (by simp only [VR]; exact ⟨cs0.toList, k0, by simp⟩) (VRs.cons (by simp only [VR]; exact ⟨cs1.toList, k1, by simp⟩) (VRs.cons (vr_of_one k2 rfl) VRs.nil)))).mono fun e W' ⟨he, bel⟩ => ?_
  subst he
  exact ⟨_, rfl, _, _, _, [], _, [], hW', trodAll_mk1 (shut_bool Tryz.underlying4 _), (trodAll_cons_mk (Below.trod laid_out (by kernel_rfl) (of_decide_eq_true (by kernel_rfl)) h0 bel lt0) (trodAll_cons_mk (Below.trod laid_out (by kernel_rfl) (of_decide_eq_true (by kernel_rfl)) h1 bel lt1) (trodAll_cons_mk (Below.trod laid_out (by kernel_rfl) (of_decide_eq_true (by kernel_rfl)) h2 bel lt2) trodAll_mk0))), rfl, bel.frame _, fun h => by cases h⟩
theorem over : Rows.prefixTurnsUptoRow.holds Tryz.pinned (Rows.OpenSpec.upto Rows.prefixTurnsSpec) :=
  OpenClaim.holds_of_cond 6 Tryz.f6 rfl rfl rfl rfl rfl rfl rfl ⟨rfl, rfl, rfl, rfl, rfl⟩ rfl rfl rfl rfl rfl (by kernel_rfl) Tryz.func6 (by kernel_rfl)
    (of_decide_eq_true (by kernel_rfl)) (by unfold Func.isWrapper; first | (rw [if_pos (by decide +kernel)]; kernel_rfl) | (rw [if_neg (by decide +kernel)]; exact ⟨rfl, rfl⟩))
    (fun os started H enc _ F => lifted os started H enc F)
end RowPrefixTurns
/-- The row, under a short name, for the claim. -/
theorem prefixTurnsUpto_holds : Rows.PrefixTurnsUptoSaid := RowPrefixTurns.over
#print axioms prefixTurnsUpto_holds
end Go.Proofs.YtgmmhhbmnfnloaaGreat
