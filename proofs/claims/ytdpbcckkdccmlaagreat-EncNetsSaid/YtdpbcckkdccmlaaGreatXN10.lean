/-
  Proved: enc's formulas of nets.
  Part 10 of 10. Conditions: none. A verified frame that runs compiled texts over a ghost heap, the contracts of the functions that the statement reaches, and the plain law.
-/
import Derived.Test.YtdpbcckkdccmlaaGreatXN9
import Derived.ProofKit
import Derived.ChangeSlices
import Derived.ChangeSame
import Derived.WalkKit
import Derived.OpenShut
import Derived.ChangeOld
import Derived.SizedLaws
import Derived.Carry
import Derived.Test.YtdpbcckkdccmlaaGreatRows
namespace Go.Gh
open Go.RowKit Go.ChangeShapes Go.WideShapes Go.ChangeAt
set_option linter.unusedVariables false
set_option linter.unusedSimpArgs false
theorem add_none (b o n : Nat) : (⟨b, o, none⟩ : Addr).add n = ⟨b, o + n, none⟩ := by unfold Addr.add; split <;> simp_all
/-- Nothing is written any more. -/
def frzW (w : World) : Ren := ⟨fun _ => none, fun b o => w.cell? ⟨b, o, none⟩⟩
theorem rel_frzW (w : World) : Rel w.heap.size w (frzW w) [] w := ⟨Below.refl _ _, Nat.le_refl _, (fun id L hL => by cases hL), (fun id L hL => by cases hL), (fun id L ro cs hL => by cases hL), (fun id L o hL => by cases hL), (fun i j Li Lj _ hL => by cases hL), (fun b o v hv => hv), (fun b o v i L _ hi => by cases hi)⟩
/-- What a datum of type t is. -/
def OpnD {α : Type} (P : Program) (t : TypeId) (enc : α → List DV) (R : α → Prop) : Prop :=
  ∀ (H : Type) (en : TypeId × Value → H) (w : World) (base : Nat) (held : Bool) (fuel : Nat) (cs : List Value) (x : DataW H × List MemPlace),
    DataW.trod en P w base (fun _ => true) held fuel t cs = some x → (DataW.weights P t x.1).all (· ≤ reachBytes) = true → ∃ v : α, VRs (frzW w) (enc v) cs ∧ R v
theorem opnD_int {P : Program} {t : TypeId} {k : IntKind} (ht : P.underlying t = some (.int k)) : OpnD P t (fun x => [.int k x]) (fun x => (Lit.int k x).wf = true) := by
  intro H enc w base held fuel cs x h _
  obtain ⟨n, rfl, _, hw⟩ := DataW.trod_int ht h
  exact ⟨n, VRs.cons (by simp [VR]) VRs.nil, hw⟩
theorem opnD_bool {P : Program} {t : TypeId} (ht : P.underlying t = some .bool) : OpnD P t (fun x => [.bool x]) (fun _ => True) := by
  intro H enc w base held fuel cs x h _
  obtain ⟨n, rfl, _⟩ := DataW.trod_bool ht h
  exact ⟨n, VRs.cons (by simp [VR]) VRs.nil, trivial⟩
theorem list_ex {α : Type} {Q : Nat → α → Prop} : ∀ (n : Nat), (∀ i, i < n → ∃ v, Q i v) → ∃ vs : List α, vs.length = n ∧ ∀ i v, vs[i]? = some v → Q i v
  | 0, _ => ⟨[], rfl, fun i v h => by simp at h⟩
  | n + 1, h => by
    obtain ⟨vs, hl, hv⟩ := list_ex n (fun i hi => h i (by omega))
    obtain ⟨u, hu⟩ := h n (by omega)
    refine ⟨vs ++ [u], by simp [hl], fun i v hi => ?_⟩
    by_cases hin : i < n
    · rw [List.getElem?_append_left (by omega)] at hi
      exact hv i v hi
    · have hi2 : i < (vs ++ [u]).length := (List.getElem?_eq_some_iff.1 hi).1
      have : i = n := by simp [hl] at hi2; omega
      subst this
      rw [List.getElem?_append_right (by omega), hl] at hi
      simp at hi
      exact hi ▸ hu
theorem weightsAll_mem {H : Type} {P : Program} {e : TypeId} : ∀ {l : List (DataW H)} {d : DataW H}, (DataW.weightsAll P e l).all (· ≤ reachBytes) = true → d ∈ l → (DataW.weights P e d).all (· ≤ reachBytes) = true
  | [], d, _, h => by cases h
  | x :: l, d, hw, h => by
    simp only [DataW.weightsAll, List.all_append, Bool.and_eq_true] at hw
    rcases List.mem_cons.1 h with rfl | h
    · exact hw.1
    · exact weightsAll_mem hw.2 h
theorem vrs_flat {α : Type} {w : World} {enc : α → List DV} {sz : Nat} (hsz : ∀ v, (enc v).length = sz) {b o : Nat} : ∀ (vs : List α) (k : Nat), (∀ (i : Nat) (v : α), vs[i]? = some v → ∃ c, VRs (frzW w) (enc v) c ∧ ∀ j, j < sz → w.cell? ⟨b, o + (k + i) * sz + j, none⟩ = c[j]?) →
    ∃ us : List Value, VRs (frzW w) (vs.map enc).flatten us ∧ ∀ (j : Nat) (x : Value), us[j]? = some x → (frzW w).fz b (o + k * sz + j) = some x
  | [], k, h => ⟨[], VRs.nil, fun j x hx => by simp at hx⟩
  | v :: vs, k, h => by
    obtain ⟨c, h1, h2⟩ := h 0 v rfl
    obtain ⟨us, g1, g2⟩ := vrs_flat hsz vs (k + 1) fun i u hu => by
      obtain ⟨c', q1, q2⟩ := h (i + 1) u (by simpa using hu)
      exact ⟨c', q1, fun j hj => by rw [show k + 1 + i = k + (i + 1) by omega]; exact q2 j hj⟩
    have hl := h1.length
    rw [hsz] at hl
    refine ⟨c ++ us, by simpa using h1.append g1, fun j x hx => ?_⟩
    by_cases hj : j < sz
    · rw [List.getElem?_append_left (by omega)] at hx
      have := h2 j hj
      simp only [Nat.add_zero] at this
      show w.cell? _ = _
      rw [this, hx]
    · rw [List.getElem?_append_right (by omega)] at hx
      have := g2 _ x hx
      rw [← this]
      congr 1
      rw [Nat.add_mul, hl]; omega
theorem opnD_slice {α : Type} {P : Program} {t e : TypeId} {enc : α → List DV} {R : α → Prop} {sz : Nat} (ht : P.underlying t = some (.slice e)) (hsz : P.cellsOf e = sz) (h0 : sz ≠ 0) (hb : P.bytesOf e ≠ 0) (hl : ∀ v, (enc v).length = sz) (he : OpnD P e enc R) :
    OpnD P t (fun xs : List α => [.fsl sz (xs.map enc)]) (fun xs => (∀ x ∈ xs, R x) ∧ xs.length < 2 ^ 47) := by
  intro H en w base held fuel cs x h hw
  rcases DataW.trod_slice ht h with ⟨rfl, _⟩ | ⟨a, len, cap, elems, rest, n, _, rfl, rfl, hbb, hlc, hm, hlen, hel, hsp, _⟩
  · refine ⟨[], VRs.cons ?_ VRs.nil, by simp⟩
    exact VR.fsl_of (es := []) (b := 0) (o := 0) (c := 0) (a := none) (vs := []) (by simp) (fun e => absurd rfl e) (by simp [VRs]) (fun e he => by cases he) (fun k x hx => by simp at hx)
  · simp only [DataW.weights, ht, List.all_cons, List.all_append, Bool.and_eq_true, decide_eq_true_eq, List.length_map] at hw
    obtain ⟨hw1, hw2, _⟩ := hw
    have hlen47 : elems.length < 2 ^ 47 := by
      have h1 : (elems.length + rest.length) * 1 ≤ (elems.length + rest.length) * P.bytesOf e := Nat.mul_le_mul_left _ (by omega)
      have h2 : reachBytes < 2 ^ 47 := by decide
      omega
    obtain ⟨vs, hvl, hv⟩ := list_ex (Q := fun i v => ∃ c, w.cells? base (a.add (i * sz)) sz = some c ∧ VRs (frzW w) (enc v) c ∧ R v) len (fun i hi => by
      have h1 := hel i hi
      rw [List.getElem?_eq_getElem (by omega)] at h1
      obtain ⟨c, hc, htr⟩ := Option.bind_eq_some_iff.1 h1
      obtain ⟨v, hk, hr⟩ := he H en w base held n c _ htr (weightsAll_mem hw2 (List.mem_map.2 ⟨_, List.getElem_mem (by omega), rfl⟩))
      rw [hsz] at hc
      exact ⟨v, c, hc, hk, hr⟩)
    subst hvl
    obtain ⟨hr1, hr2⟩ := hsp rfl
    -- the address has cells
    have hspot : cap ≠ 0 → a = ⟨a.block, a.off, none⟩ := by
      intro hc0
      have hcell : ∃ v, w.cell? a = some v := by
        by_cases hl0 : vs.length = 0
        · have h1 := hr2 0 (by omega)
          rw [hl0, List.getElem?_eq_getElem (by omega)] at h1
          obtain ⟨c, hc, _⟩ := Option.bind_eq_some_iff.1 h1
          obtain ⟨_, q2, q3⟩ := World.cells?_some hc
          have := q3 0 (by rw [hsz]; omega)
          simp only [Nat.add_zero, Nat.zero_mul] at this
          rw [show a.add 0 = a by simp [Addr.add], show a.add 0 = a by simp [Addr.add]] at this
          rw [List.getElem?_eq_getElem (by rw [q2, hsz]; omega)] at this
          exact ⟨_, this⟩
        · obtain ⟨v, hv0⟩ := get_lt (xs := vs) (i := 0) (by omega)
          obtain ⟨c, hc, _⟩ := hv 0 v hv0
          obtain ⟨_, q2, q3⟩ := World.cells?_some hc
          have := q3 0 (by omega)
          rw [Nat.zero_mul, show a.add 0 = a by simp [Addr.add], show a.add 0 = a by simp [Addr.add]] at this
          rw [List.getElem?_eq_getElem (by rw [q2]; omega)] at this
          exact ⟨_, this⟩
      obtain ⟨v, hcv⟩ := hcell
      unfold World.cell? at hcv
      split at hcv
      · split at hcv
        · cases hcv
        · rename_i hs
          cases a with
          | mk bl of sp => cases sp <;> simp_all
      · cases hcv
    have hcells : ∀ (i : Nat) (v : α), vs[i]? = some v → ∃ c, VRs (frzW w) (enc v) c ∧ ∀ j, j < sz → w.cell? ⟨a.block, a.off + (0 + i) * sz + j, none⟩ = c[j]? := fun i v hi => by
      obtain ⟨c, hc, hk, _⟩ := hv i v hi
      refine ⟨c, hk, fun j hj => ?_⟩
      have := (World.cells?_some hc).2.2 j hj
      rw [← this]
      have hc0 : cap ≠ 0 := by have := get_dom hi; omega
      rw [hspot hc0]
      rw [add_none, add_none, Nat.zero_add]
    obtain ⟨us, g1, g2⟩ := vrs_flat hl vs 0 hcells
    refine ⟨vs, VRs.cons ?_ VRs.nil, fun x hx => ?_, by omega⟩
    · have := VR.fsl_of (ρ := frzW w) (sz := sz) (es := vs.map enc) (b := a.block) (o := a.off) (c := cap) (a := some a) (vs := us) (by simpa using hlc) (fun hc0 => by rw [hspot hc0]) g1 (fun e he => by obtain ⟨x, _, rfl⟩ := List.mem_map.1 he; exact hl x) (fun k x hx => by simpa using g2 k x hx)
      simpa using this
    · obtain ⟨i, hi⟩ := List.mem_iff_getElem?.1 hx
      obtain ⟨_, _, _, hr⟩ := hv i x hi
      exact hr
/-- The same under another name. -/
theorem opnD_iso {α β : Type} {P : Program} {t : TypeId} {enc : α → List DV} {R : α → Prop} {enc' : β → List DV} {R' : β → Prop} (g : α → β) (hg : ∀ a, enc' (g a) = enc a) (hR : ∀ a, R a → R' (g a)) (h : OpnD P t enc R) : OpnD P t enc' R' := by
  intro H en w base held fuel cs x hx hw
  obtain ⟨v, hk, hr⟩ := h H en w base held fuel cs x hx hw
  exact ⟨g v, by rw [hg]; exact hk, hR v hr⟩
/-- The fields of a struct from some place on. -/
def OpnFD {α : Type} (P : Program) (fs : List Field) (off : Nat) (enc : α → List DV) (sz : Nat) (R : α → Prop) : Prop :=
  ∀ (H : Type) (en : TypeId × Value → H) (w : World) (base : Nat) (held : Bool) (fuel : Nat) (cs : List Value),
    (∀ f ∈ fs, ∃ y, DataW.trod en P w base (fun _ => true) held fuel f.type ((cs.drop f.offset).take (P.cellsOf f.type)) = some y ∧ (DataW.weights P f.type y.1).all (· ≤ reachBytes) = true) → cs.length = off + sz → ∃ v : α, VRs (frzW w) (enc v) (cs.drop off) ∧ R v
theorem opnFD_one {α : Type} {P : Program} {f : Field} {off sz : Nat} {enc : α → List DV} {R : α → Prop} (ho : f.offset = off) (hs : P.cellsOf f.type = sz) (h : OpnD P f.type enc R) : OpnFD P [f] off enc sz R := by
  intro H en w base held fuel cs hf hl
  obtain ⟨y, hy, hyw⟩ := hf f (by simp)
  rw [ho, hs, List.take_of_length_le (by simp; omega)] at hy
  exact h H en w base held fuel _ _ hy hyw
theorem opnFD_cons {α β : Type} {P : Program} {f : Field} {fs : List Field} {off sz sz' : Nat} {enc : α → List DV} {enc' : β → List DV} {R : α → Prop} {R' : β → Prop} (ho : f.offset = off) (hs : P.cellsOf f.type = sz) (h : OpnD P f.type enc R) (h' : OpnFD P fs (off + sz) enc' sz' R') :
    OpnFD P (f :: fs) off (fun x : α × β => enc x.1 ++ enc' x.2) (sz + sz') (fun x => R x.1 ∧ R' x.2) := by
  intro H en w base held fuel cs hf hl
  obtain ⟨y, hy, hyw⟩ := hf f (by simp)
  rw [ho, hs] at hy
  obtain ⟨v, hk, hr⟩ := h H en w base held fuel _ _ hy hyw
  obtain ⟨v', hk', hr'⟩ := h' H en w base held fuel cs (fun g hg => hf g (by simp [hg])) (by omega)
  refine ⟨(v, v'), ?_, hr, hr'⟩
  have := hk.append hk'
  rwa [← List.drop_drop, List.take_append_drop] at this
theorem weightsEach_get {H : Type} {P : Program} : ∀ {ts : List TypeId} {ds : List (DataW H)} {i : Nat} {t : TypeId} {d : DataW H}, (DataW.weightsEach P ts ds).all (· ≤ reachBytes) = true → ts[i]? = some t → ds[i]? = some d → (DataW.weights P t d).all (· ≤ reachBytes) = true
  | [], _, i, t, d, _, h, _ => by simp at h
  | _ :: _, [], i, t, d, _, _, h => by simp at h
  | t' :: ts, d' :: ds, 0, t, d, hw, h1, h2 => by
    simp only [DataW.weightsEach, List.all_append, Bool.and_eq_true] at hw
    simp at h1 h2; subst h1; subst h2; exact hw.1
  | t' :: ts, d' :: ds, i + 1, t, d, hw, h1, h2 => by
    simp only [DataW.weightsEach, List.all_append, Bool.and_eq_true] at hw
    exact weightsEach_get hw.2 (by simpa using h1) (by simpa using h2)
theorem opnD_struct {α : Type} {P : Program} {t : TypeId} {fs : Array Field} {enc : α → List DV} {sz : Nat} {R : α → Prop} (ht : P.underlying t = some (.struct fs)) (hs : P.cellsOf t = sz) (h : OpnFD P fs.toList 0 enc sz R) : OpnD P t enc R := by
  intro H en w base held fuel cs x hx hw
  obtain ⟨xs, n, _, rfl, hl, hlen, hf⟩ := DataW.trod_struct ht hx
  simp only [DataW.weights, ht] at hw
  have := h H en w base held n cs (fun f hfm => by
    obtain ⟨i, hi⟩ := List.mem_iff_getElem?.1 hfm
    have hi2 : fs[i]? = some f := by rw [← Array.getElem?_toList]; exact hi
    have h1 := hf i f hi2
    have hlt : i < xs.length := by rw [hlen]; exact (Array.getElem?_eq_some_iff.1 hi2).1
    rw [List.getElem?_eq_getElem hlt] at h1
    exact ⟨_, h1, weightsEach_get (i := i) hw (by rw [List.getElem?_map, hi]; rfl) (by rw [List.getElem?_map, List.getElem?_eq_getElem hlt]; rfl)⟩) (by omega)
  simpa using this
/-- An array of two whole numbers. -/
theorem lit_u8' {x : Int} (h : (Lit.int .u8 x).wf = true) : 0 ≤ x ∧ x < 256 := by
  simp [Lit.wf, IntKind.min, IntKind.max, IntKind.signed, IntKind.bits] at h
  omega
theorem lit_i64' {x : Int} (h : (Lit.int .i64 x).wf = true) : -9223372036854775808 ≤ x ∧ x < 9223372036854775808 := by
  simp [Lit.wf, IntKind.min, IntKind.max, IntKind.signed, IntKind.bits] at h
  omega
/-- An argument, opened. -/
theorem openD {α : Type} {H : Type} {en : TypeId × Value → H} {P : Program} {W : World} {t : TypeId} {v : Value} {d : DataW H} {ps : List MemPlace} {enc : α → List DV} {R : α → Prop} (h : OpnD P t enc R) (hd : DataW.Trod en P W 0 (fun _ => true) true t v d ps) (hw : (DataW.weights P t d).all (· ≤ reachBytes) = true) : ∃ a : α, VRs (frzW W) (enc a) v.cells.toList ∧ R a := by
  obtain ⟨fuel, hf⟩ := hd
  exact h H en W 0 true fuel _ _ hf hw
/-- A call in a world where nothing is written. -/
theorem GCall.run {P : Program} {f : FuncId} {args : List DV} {W : World} {rargs : List Value} (h : GCall P f args [] fun v _ => v = .bool true) (hv : VRs (frzW W) args rargs) : Calls P f rargs.toArray W fun e W' => e = .returned (.bool true) ∧ Below W.heap.size W W' := by
  refine (h.2 W.heap.size W (frzW W) W rargs (rel_frzW W) hv).mono ?_
  rintro e w' ⟨v, rv, ρ', σ', rfl, q1, q2, q3, q4, rfl⟩
  rw [q4.bool_inv]
  exact ⟨rfl, q1.below⟩
end Go.Gh
namespace Go.Gh
open Go.RowKit Go.ChangeShapes Go.WideShapes Go.ChangeAt Go.Proofs
set_option linter.unusedVariables false
set_option linter.unusedSimpArgs false
set_option maxRecDepth 100000
theorem own_knob : ownKnob Tryz.prog.godebug = none := by kernel_rfl
theorem laid_out : laidOutB Tryz.prog = true := by kernel_rfl
theorem opn_int : OpnD Tryz.prog 3 (fun x : Int => [.int .i64 x]) (fun x => (Lit.int .i64 x).wf = true) := opnD_int Tryz.underlying3
theorem opn_kind : OpnD Tryz.prog 46 (fun x : Int => [.int .u8 x]) (fun x => (Lit.int .u8 x).wf = true) := opnD_int Tryz.underlying46
theorem opn_ints : OpnD Tryz.prog 23 (fun xs : List Int => [fints xs]) (fun xs => (∀ x ∈ xs, (Lit.int .i64 x).wf = true) ∧ xs.length < 2 ^ 47) :=
  opnD_slice (sz := 1) Tryz.underlying23 (by kernel_rfl) (by decide) (by rw [show Tryz.prog.bytesOf 3 = 8 by kernel_rfl]; decide) (fun _ => rfl) opn_int
/-- A gate whose numbers are those of the machine. -/
structure GateW (g : GateP) : Prop where
  v : -9223372036854775808 ≤ g.v ∧ g.v < 9223372036854775808
  k : 0 ≤ g.k ∧ g.k < 256
  ins : I64 g.ins
  len : g.ins.length < 2 ^ 47
theorem opn_gate : OpnD Tryz.prog 48 egate GateW := by
  have h := opnD_struct (P := Tryz.prog) (t := 48) (sz := 3) Tryz.underlying48 (by kernel_rfl) (opnFD_cons (sz := 1) (sz' := 2) rfl (by kernel_rfl) opn_int (opnFD_cons (sz := 1) (sz' := 1) rfl (by kernel_rfl) opn_kind (opnFD_one rfl (by kernel_rfl) opn_ints)))
  refine opnD_iso (fun p : Int × Int × List Int => (⟨p.1, p.2.1, p.2.2⟩ : GateP)) (fun _ => rfl) (fun a h => ?_) h
  obtain ⟨h1, h2, h3, h4⟩ := h
  exact ⟨lit_i64' h1, lit_u8' h2, fun x hx => lit_i64' (h3 x hx), h4⟩
end Go.Gh
namespace Go.Gh
open Go.RowKit Go.ChangeShapes Go.WideShapes Go.ChangeAt Go.Proofs
set_option linter.unusedVariables false
set_option linter.unusedSimpArgs false
set_option maxRecDepth 100000
theorem opn_boolN : OpnD Tryz.prog 4 (fun x : Bool => [.bool x]) (fun _ => True) := opnD_bool Tryz.underlying4
theorem opn_blk : OpnD Tryz.prog 78 eblk (fun b => True ∧ (∀ x ∈ b.2, (Lit.int .i64 x).wf = true) ∧ b.2.length < 2 ^ 47) := by
  have h := opnD_struct (P := Tryz.prog) (t := 78) (sz := 2) Tryz.underlying78 (by kernel_rfl) (opnFD_cons (sz := 1) (sz' := 1) rfl (by kernel_rfl) opn_boolN (opnFD_one rfl (by kernel_rfl) opn_ints))
  exact opnD_iso (fun p : Blk => p) (fun _ => rfl) (fun a h => h) h
theorem opn_blks : OpnD Tryz.prog 28 (fun xs : List Blk => [fblks xs]) (fun xs => (∀ x ∈ xs, True ∧ (∀ y ∈ x.2, (Lit.int .i64 y).wf = true) ∧ x.2.length < 2 ^ 47) ∧ xs.length < 2 ^ 47) := opnD_slice (sz := 2) Tryz.underlying28 (by kernel_rfl) (by decide) (by rw [show Tryz.prog.bytesOf 78 = 32 by kernel_rfl]; decide) (fun _ => rfl) opn_blk
theorem opn_gates : OpnD Tryz.prog 29 (fun xs : List GateP => [fgates xs]) (fun xs => (∀ x ∈ xs, GateW x) ∧ xs.length < 2 ^ 47) := opnD_slice (sz := 3) Tryz.underlying29 (by kernel_rfl) (by decide) (by rw [show Tryz.prog.bytesOf 48 = 40 by kernel_rfl]; decide) (fun _ => rfl) opn_gate
structure NetW (n : NetQ) : Prop where
  b : NetB n
  i : NetI n
theorem opn_net : OpnD Tryz.prog 31 enet NetW := by
  have h := opnD_struct (P := Tryz.prog) (t := 31) (sz := 3) Tryz.underlying31 (by kernel_rfl) (opnFD_cons (sz := 1) (sz' := 2) rfl (by kernel_rfl) opn_blks (opnFD_cons (sz := 1) (sz' := 1) rfl (by kernel_rfl) opn_gates (opnFD_one rfl (by kernel_rfl) opn_int)))
  refine opnD_iso (fun p : List Blk × List GateP × Int => (⟨p.1, p.2.1, p.2.2⟩ : NetQ)) (fun _ => rfl) (fun a h => ?_) h
  obtain ⟨⟨h1, h2⟩, ⟨h3, h4⟩, h5⟩ := h
  exact ⟨⟨by simp only; omega, fun b hb => by have := (h1 b hb).2.2; omega, by simp only; omega, fun g hg => by have := (h3 g hg).len; omega⟩, ⟨fun g hg => (h3 g hg).ins, lit_i64' h5⟩⟩
end Go.Gh
namespace Go.Proofs.YtdpbcckkdccmlaaGreat
open Go.Gh Go.RowKit Go.ChangeShapes Go.WideShapes Go.ChangeAt Go.Proofs
set_option linter.unusedVariables false
set_option linter.unusedSimpArgs false
namespace RowEncNets
set_option maxRecDepth 100000 in
theorem lifted (os : Os) (started : os.Started) (H : Type) (enc : TypeId × Value → H) :
    ReturnsInHanded {} Tryz.checked os 7 .any (Rows.encNetsSpec.pre6 enc Tryz.prog Tryz.f7 Rows.encNetsRow.domain false) (Rows.encNetsSpec.post enc Tryz.prog Tryz.f7 false true false false) := by
  refine returnsInHanded_of_change_sized (C := Tryz.checked) own_knob started (by kernel_rfl) Tryz.func7
    (ChangeSpec.witness6 (enc := enc) (C := Tryz.checked) false ⟨#[], #[.agg #[.slice none 0 0, .slice none 0 0, .int .i64 0]], []⟩ 8 (by kernel_rfl) (by kernel_rfl) (by kernel_rfl) (by kernel_rfl)) ?_
  intro W base args ds gs before hval0 hW hcnd hsz0 _
  have hval : ∀ (j : Nat) t v, Tryz.f7.params[j]? = some t → args[j]? = some v → Value.okWide Tryz.prog W .any base t v := hval0
  have hW' := hW
  obtain ⟨p, q, hA0, hV, rfl, hfz, hnd⟩ := hW
  have hA : DataW.TrodAll enc Tryz.prog W 0 (fun _ => true) true Tryz.f7.params.toList args.toList ds p := hA0
  rw [Tryz.params7] at hA hval
  obtain ⟨v0, vs0, d0, ds0, p0, q0, hargs, rfl, rfl, h0, r0⟩ := trodAll_cons hA
  obtain ⟨rfl, rfl, rfl⟩ := trodAll_nil r0
  obtain rfl : args = #[v0] := by cases args; simp_all
  obtain ⟨rfl, rfl⟩ := trodVars_none hV
  have lt0 : ∀ x ∈ p0, x.block < W.heap.size := by obtain ⟨m, hm⟩ := h0; exact DataW.trod_lt m _ _ _ hm
  have hsz : (DataW.weightsEach Tryz.prog [31] [d0]).all (· ≤ reachBytes) = true := hsz0
  obtain ⟨z0, k0, w0⟩ := openD opn_net h0 (weightsEach_get (i := 0) hsz rfl rfl)
  obtain ⟨cs0, rfl, _⟩ := okWide_struct Tryz.underlying31 (hval 0 31 v0 rfl rfl)
  have hcall : GCall Tryz.prog 7 [NetQ.enc z0] [] fun v _ => v = .bool true := nets_ok w0.b w0.i rfl
  refine (hcall.run (VRs.cons (by simp only [VR]; exact ⟨cs0.toList, k0, by simp⟩) VRs.nil)).mono fun e W' ⟨he, bel⟩ => ?_
  subst he
  exact ⟨_, rfl, _, _, _, [], _, [], hW', trodAll_mk1 (shut_bool Tryz.underlying4 _), (trodAll_cons_mk (Below.trod laid_out (by kernel_rfl) (of_decide_eq_true (by kernel_rfl)) h0 bel lt0) trodAll_mk0), rfl, bel.frame _, fun h => by cases h⟩
theorem over : Rows.encNetsRow.holds Tryz.pinned (OpenSpec.ofChange Rows.encNetsSpec) :=
  OpenClaim.holds_of_wide 7 Tryz.f7 rfl rfl rfl rfl rfl rfl rfl ⟨rfl, rfl, rfl, rfl, rfl⟩ rfl rfl rfl rfl rfl (by kernel_rfl) Tryz.func7 (by kernel_rfl)
    (of_decide_eq_true (by kernel_rfl)) (by unfold Func.isWrapper; first | (rw [if_pos (by decide +kernel)]; kernel_rfl) | (rw [if_neg (by decide +kernel)]; exact ⟨rfl, rfl⟩))
    (fun os started H enc _ => lifted os started H enc)
end RowEncNets
/-- The row, under a short name, for the claim. -/
theorem encNets_holds : Rows.EncNetsSaid := RowEncNets.over
#print axioms encNets_holds
end Go.Proofs.YtdpbcckkdccmlaaGreat
